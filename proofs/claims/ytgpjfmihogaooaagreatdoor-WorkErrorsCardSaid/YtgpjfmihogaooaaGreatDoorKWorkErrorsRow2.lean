/- Of this claim's texts what it needs, part 2. -/
import Derived.Deep.AppendSrc
import Derived.Laws.Tables
import Derived.Great.BuildSlice
import Derived.Lib.ConvBytes
import Derived.Laws.BytesString
import Derived.Laws.MakeOwn
import Derived.Test.YtgpjfmihogaooaaGreatDoorKWorkErrorsRow1
set_option linter.unusedVariables false
set_option linter.unusedSimpArgs false
namespace Go.Proofs.YtgpjfmihogaooaaGreatDoorV
open Go Go.RowKit
section
variable {P:Program} {T:TypeId→Option TI} {look:Nat→Option Ob} {nx:Nat} {ev:Operand→Option TV} {o:Oper} {v:TV} {up:List (Nat × Ob)} {nw:List Ob} {rd:List Nat}
theorem upLast_dead {ids:List Nat} {id:Nat} {x:Ob} (h:ZDa (Zeb ids) id=some x):x=.dead∧id ∈ ids:=by
 induction ids with
 | nil=>simp [Zeb,ZDa] at h
 | cons i ids ih =>
  simp only [Zeb,List.map_cons,ZDa] at h ih
  split at h
  ·rename_i y hy
   cases h
   obtain ⟨h1,h2⟩:=ih hy
   exact ⟨h1,List.mem_cons_of_mem _ h2⟩
  ·split at h
   ·rename_i e; subst e; cases h; exact ⟨rfl,List.mem_cons_self ..⟩
   ·cases h
theorem upLast_dead_mem {ids:List Nat} {id:Nat} (h:id ∈ ids):ZDa (Zeb ids) id=some .dead:=by
 induction ids with
 | nil=>cases h
 | cons i ids ih =>
  simp only [Zeb,List.map_cons,ZDa] at ih ⊢
  rcases List.mem_cons.1 h with rfl | h
  ·split
   ·rename_i y hy; rw [show y=.dead from (upLast_dead hy).1]
   ·simp
  ·rw [ih h]
theorem obs_gen {w w':World} {S S':Nat→Prop} {π π':Nat→Option Pl} {look':Nat→Option Ob} (h:ObsOk w S π look) (hk:Keep w S w' S') (he:Ext π π') (hst:∀ b,S' b→b < w'.heap.size) (hsz:w.heap.size≤w'.heap.size)
  (Old:Nat→Prop)
  (hold:∀ id,Old id→look' id=look id∧∀ x pl b,look id=some x→x.live=true→π id=some pl→pl.blk=some b→w'.heap[b]? = w.heap[b]?∧¬ S' b)
  (hnew:∀ id x,look' id=some x→¬ Old id→∃ pl,π' id=some pl∧obOk w' S' π' x pl∧∀ b,x.live=true→pl.blk=some b→b < w'.heap.size∧¬ S' b∧∀ j y pj,look' j=some y→y.live=true→π' j=some pj→pj.blk=some b→j=id) :
  ObsOk w' S' π' look':=by
 have hpi:∀ id x,Old id→look id=some x→∀ pl,π' id=some pl→π id=some pl:=by
  intro id x _ hx pl hp
  obtain ⟨pl',hp',_⟩:=h.ok id x hx
  rw [he _ _ hp'] at hp
  cases hp
  exact hp'
 refine ⟨?_,?_,?_,hst⟩
 ·intro id x hx
  rcases Classical.em (Old id) with ho | ho
  ·obtain ⟨h1,h2⟩:=hold id ho
   rw [h1] at hx
   obtain ⟨pl,hp,hob⟩:=h.ok id x hx
   refine ⟨pl,he _ _ hp,?_⟩
   exact obOk_keep hk he x pl (fun hd b hb=>(h2 x pl b hx hd hp hb).1) hob
  ·obtain ⟨pl,hp,hob,_⟩:=hnew id x hx ho
   exact ⟨pl,hp,hob⟩
 ·intro i j oi oj pi pj b h1 h2 h3 h4 h5 h6 h7 h8
  rcases Classical.em (Old i) with hi | hi
  ·rcases Classical.em (Old j) with hj | hj
   ·have e1:=(hold i hi).1
    have e2:=(hold j hj).1
    rw [e1] at h1
    rw [e2] at h2
    exact h.apart i j oi oj pi pj b h1 h2 h3 h4 (hpi i oi hi h1 pi h5) (hpi j oj hj h2 pj h6) h7 h8
   ·obtain ⟨pl,hp,_,hb⟩:=hnew j oj h2 hj
    rw [hp] at h6; cases h6
    exact (hb b h4 h8).2.2 i oi pi h1 h3 h5 h7
  ·obtain ⟨pl,hp,_,hb⟩:=hnew i oi h1 hi
   rw [hp] at h5; cases h5
   exact ((hb b h3 h7).2.2 j oj pj h2 h4 h6 h8).symm
 ·rintro b ⟨id,x,pl,h1,h2,h3,h4⟩
  rcases Classical.em (Old id) with ho | ho
  ·have e1:=(hold id ho).1
   rw [e1] at h1
   have hp:=hpi id x ho h1 pl h3
   exact ⟨((hold id ho).2 x pl b h1 h2 hp h4).2,Nat.lt_of_lt_of_le (owned_lt h h1 h2 hp h4).1 hsz⟩
  ·obtain ⟨pl',hp,_,hb⟩:=hnew id x h1 ho
   rw [hp] at h3; cases h3
   exact ⟨(hb b h2 h4).2.1,(hb b h2 h4).1⟩
theorem obs_put {w w':World} {S:Nat→Prop} {π:Nat→Option Pl} {ids:List Nat} {ob:Ob} {pl:Pl} (h:ObsOk w S π look) (hf:Free look π nx 1) (hids:∀ i ∈ ids,(look i).isSome=true)
  (hos:w'.os=w.os) (htape:w'.tape=w.tape) (hout:w'.output=w.output) (hsz:w.heap.size≤w'.heap.size) (hheap:∀ k,k < w.heap.size→pl.blk≠some k→w'.heap[k]? = w.heap[k]?)
  (hb:∀ b,pl.blk=some b→(w.heap.size≤b∧b < w'.heap.size)∨∃ i ∈ ids,∃ x pi,look i=some x∧x.live=true∧π i=some pi∧pi.blk=some b)
  (hob:∀ π',Ext π π'→π' nx=some pl→Keep w S w' S→obOk w' S π' ob pl) :
  ∃ π',ObsOk w' S π' (upd look (Zeb ids) nx [ob])∧Ext π π'∧(∀ id,π' id≠none→π id≠none∨(nx≤id∧id < nx + 1))∧π' nx=some pl ∧
   Step w S (owned look π) w' S (owned (upd look (Zeb ids) nx [ob]) π'):=by
 let π':=fun id=>if id=nx then some pl else π id
 have hfn:look nx=none∧π nx=none:=by simpa using hf 0 (by omega)
 have hext:Ext π π':=by
  intro id pl hp
  simp only [π']
  rw [if_neg]
  ·exact hp
  ·intro e; subst e; rw [hfn.2] at hp; cases hp
 have hnx:π' nx=some pl:=by simp [π']
 have hpi:∀ id,id≠nx→π' id=π id:=fun id hid=>by simp [π',hid]
 have hnm:nx ∉ ids:=fun hm=>by have:=hids nx hm; rw [hfn.1] at this; cases this
 have hlnx:upd look (Zeb ids) nx [ob] nx=some ob:=by
  simp only [upd,List.length_singleton]
  cases hu:ZDa (Zeb ids) nx with
  | some x=>exact absurd (upLast_dead hu).2 hnm
  | none=>simp
 have hlook:∀ id x,upd look (Zeb ids) nx [ob] id=some x→(id=nx∧x=ob)∨(id ∈ ids∧x=.dead)∨(id≠nx∧id ∉ ids∧look id=some x):=by
  intro id x hx
  by_cases e:id=nx
  ·subst e; rw [hlnx] at hx; cases hx; exact .inl ⟨rfl,rfl⟩
  ·by_cases e2:id ∈ ids
   ·simp only [upd,upLast_dead_mem e2] at hx; cases hx; exact .inr (.inl ⟨e2,rfl⟩)
   ·refine .inr (.inr ⟨e,e2,?_⟩)
    simp only [upd,List.length_singleton] at hx
    cases hu:ZDa (Zeb ids) id with
    | some x=>exact absurd (upLast_dead hu).2 e2
    | none=>rw [hu] at hx; simp only at hx; rw [if_neg (by omega)] at hx; exact hx
 have hfar:∀ id x pi,id ∉ ids→look id=some x→x.live=true→π id=some pi→∀ b,pi.blk=some b→pl.blk≠some b:=by
  intro id x pi hni hx hl hp b hb1 hb2
  rcases hb b hb2 with hn | ⟨i,hi,y,qi,h1,h2,h3,h4⟩
  ·have:=(owned_lt h hx hl hp hb1).1; omega
  ·exact hni (h.apart id i x y pi qi b hx h1 hl h2 hp h3 hb1 h4 ▸ hi)
 have hS:∀ b,pl.blk=some b→¬ S b:=by
  intro b hb1 hs
  rcases hb b hb1 with hn | ⟨i,hi,y,qi,h1,h2,h3,h4⟩
  ·have:=h.st b hs; omega
  ·exact (owned_lt h h1 h2 h3 h4).2 hs
 have hlt:∀ b,pl.blk=some b→b < w'.heap.size:=by
  intro b hb1
  rcases hb b hb1 with hn | ⟨i,hi,y,qi,h1,h2,h3,h4⟩
  ·exact hn.2
  ·exact Nat.lt_of_lt_of_le (owned_lt h h1 h2 h3 h4).1 hsz
 have hkeep:Keep w S w' S:=⟨fun b hb1=>hheap b (h.st b hb1) (fun e=>hS b e hb1),fun _ hb=>hb⟩
 have hown:∀ b,owned (upd look (Zeb ids) nx [ob]) π' b→owned look π b∨w.heap.size≤b:=by
  rintro b ⟨id,x,pj,h1,h2,h3,h4⟩
  rcases hlook id x h1 with ⟨rfl,rfl⟩ | ⟨_,rfl⟩ | ⟨hne,hni,hl⟩
  ·rw [hnx] at h3; cases h3
   rcases hb b h4 with hn | ⟨i,hi,y,qi,g1,g2,g3,g4⟩
   ·exact .inr hn.1
   ·exact .inl ⟨i,y,qi,g1,g2,g3,g4⟩
  ·cases h2
  ·rw [hpi id hne] at h3
   exact .inl ⟨id,x,pj,hl,h2,h3,h4⟩
 refine ⟨π',?_,hext,?_,hnx,?_⟩
 ·refine obs_gen h hkeep hext (fun b hb1=>Nat.lt_of_lt_of_le (h.st b hb1) hsz) hsz (fun id=>id≠nx∧id ∉ ids) ?_ ?_
  ·rintro id ⟨hne,hni⟩
   constructor
   ·simp only [upd,List.length_singleton]
    cases hu:ZDa (Zeb ids) id with
    | some x=>exact absurd (upLast_dead hu).2 hni
    | none=>simp only; rw [if_neg (by omega)]
   ·intro x pj b hx hl hp hb1
    have hin:=owned_lt h hx hl hp hb1
    exact ⟨hheap b hin.1 (hfar id x pj hni hx hl hp b hb1),hin.2⟩
  ·intro id x hx hno
   rcases hlook id x hx with ⟨rfl,rfl⟩ | ⟨hm,rfl⟩ | ⟨hne,hni,_⟩
   ·refine ⟨pl,hnx,hob π' hext hnx hkeep,fun b hl hb1=>⟨hlt b hb1,hS b hb1,?_⟩⟩
    intro j y pj h1 h2 h3 h4
    rcases hlook j y h1 with ⟨rfl,rfl⟩ | ⟨_,rfl⟩ | ⟨hne,hni,hlj⟩
    ·rfl
    ·cases h2
    ·rw [hpi j hne] at h3
     exact absurd hb1 (hfar j y pj hni hlj h2 h3 b h4)
   ·have:=hids id hm
    obtain ⟨y,hy⟩:=Option.isSome_iff_exists.1 this
    obtain ⟨pi,hp,_⟩:=h.ok id y hy
    exact ⟨pi,hext _ _ hp,by simp only [obOk],fun b hl=>by cases hl⟩
   ·exact absurd ⟨hne,hni⟩ hno
 ·intro id hid
  by_cases e:id=nx
  ·exact .inr (by omega)
  ·rw [hpi id e] at hid; exact .inl hid
 ·refine ⟨hos,htape,hout,hsz,?_,fun _ hb=>hb,fun b hb=>.inl hb,hown⟩
  intro b hlt2 hno
  refine hheap b hlt2 fun e=>?_
  rcases hb b e with hn | ⟨i,hi,y,qi,g1,g2,g3,g4⟩
  ·omega
  ·exact hno ⟨i,y,qi,g1,g2,g3,g4⟩
theorem run_append_fits {w:World} {t tx ty e:TypeId} {i:TypeInfo} (ht:P.underlying t=some (.slice e)) (hi:P.info? e=some i) {b off sLen sCap:Nat} {x:Value} {n:Nat} {news:List Value} (hs:Src P i.size tx x n news w)
  (hroom:sLen + n≤sCap) {C:Array Value} {ct:TypeId} {fr:Nat × Nat} (hg:w.heap[b]? = some (.cells C ct fr)) (hf:unfrozen C fr) (hle:off + sLen * i.size + news.length≤C.size) :
  ∃ w' C',(Builtin.append_ #[t,tx] ty #[.slice (some ⟨b,off,none⟩) sLen sCap,x]).run P w=.ok (.slice (some ⟨b,off,none⟩) (sLen + n) sCap) w'∧Upd w b (.cells C' ct fr) w'∧C'.size=C.size ∧
   C'.toList=C.toList.take (off + sLen * i.size) ++ news ++ C.toList.drop (off + sLen * i.size + news.length):=by
 obtain ⟨w',C',h1,h2,h3,h4⟩:=run_storeCells_blk (P:=P) (o:=off + sLen * i.size) news 0 C w hg hf (by omega) hs.one
 refine ⟨w',C',?_,h2,h3,by simpa using h4⟩
 rcases hs.kind with ⟨e',hk⟩ | hk <;> simp [Builtin.append_,run_underlying ht,run_underlying hk,sizeOf,typeInfo,hi,hs.len,hroom,hs.cells,Addr.add_lit,h1]
theorem relEs_upto {w w':World} {S:Nat→Prop} {b b' s s' sz:Nat} {es:List (List PV)} (hk:Keep w S w' S) (h:relEs w S b s sz es) (hc:∀ j,j < es.length * sz→w'.cell? ⟨b',s' + j,none⟩=w.cell? ⟨b,s + j,none⟩):relEs w' S b' s' sz es:=by
 refine relEs_of fun i e hi=>?_
 obtain ⟨h1,h2⟩:=relEs_get h hi
 refine ⟨h1,relCs_of fun j p hp=>?_⟩
 obtain ⟨u,g1,g2,g3⟩:=relCs_get h2 hp
 have hj:j < sz:=by have:=(List.getElem?_eq_some_iff.1 hp).1; omega
 have hi':i < es.length:=(List.getElem?_eq_some_iff.1 hi).1
 have hlt:i * sz + j < es.length * sz:=by
  calc i * sz + j < i * sz + sz:=by omega
   _=(i + 1) * sz:=by rw [Nat.add_mul,Nat.one_mul]
   _≤es.length * sz:=Nat.mul_le_mul_right _ hi'
 refine ⟨u,?_,g2,rel_keep hk _ _ g3⟩
 have:=hc _ hlt
 rw [Nat.add_assoc] at g1
 rw [Nat.add_assoc,this,g1]
theorem relEs_cells {w:World} {S:Nat→Prop} {b s sz:Nat} {es:List (List PV)} {us:List Value} (hl:∀ e ∈ es,e.length=sz) (h:relL w S es.flatten us) (h1:∀ u ∈ us,u.oneCell'=true)
  (hc:∀ (j:Nat)(u:Value),us[j]? = some u→w.cell? ⟨b,s + j,none⟩=some u):relEs w S b s sz es:=by
 induction es generalizing us s with
 | nil=>simp only [relEs]
 | cons e es ih =>
  simp only [relEs]
  simp only [List.flatten_cons] at h
  have he:=hl e (List.mem_cons_self ..)
  have hlen:=relL_length h
  simp only [List.length_append] at hlen
  have ht:=relL_take h e.length
  have hd:=relL_drop h e.length
  rw [List.take_left] at ht
  rw [List.drop_left] at hd
  refine ⟨he,relCs_of fun j p hp=>?_,ih (fun e' he'=>hl e' (List.mem_cons_of_mem _ he')) hd (fun u hu=>h1 u (List.mem_of_mem_drop hu)) fun j u hu=>?_⟩
  ·obtain ⟨u,g1,g2⟩:=relL_get ht hp
   rw [List.getElem?_take] at g1
   split at g1
   ·exact ⟨u,hc j u g1,h1 u (List.mem_of_getElem? g1),g2⟩
   ·cases g1
  ·rw [List.getElem?_drop] at hu
   have:=hc _ _ hu
   rwa [he,← Nat.add_assoc] at this
structure SrcOk (P:Program) (size:Nat) (tx:TypeId) (x:Value) (ms:List (List PV)) (w:World) (S:Nat→Prop):Prop where
 src:∃ news,Src P size tx x ms.length news w∧relL w S ms.flatten news
 len:∀ e ∈ ms,e.length=size
theorem grown_row {w:World} {S:Nat→Prop} {π':Nat→Option Pl} {e:TypeId} {sz:Nat} {olds news rest:List Value} {es ms:List (List PV)} {cap:Nat} {C:Array Value} (hC:C=((olds ++ news).toArray ++ rest.toArray))
  (hk:Keep w S (w.drew.alloc (.cells C e)) S) (ho:relL w S es.flatten olds) (hn:relL w S ms.flatten news) (ho1:∀ u ∈ olds,u.oneCell'=true) (hn1:∀ u ∈ news,u.oneCell'=true) (hr1:∀ u ∈ rest,u.oneCell'=true)
  (hle:∀ x ∈ es,x.length=sz) (hlm:∀ x ∈ ms,x.length=sz) (hrest:rest.length=(cap - (es.length + ms.length)) * sz) (hcap:es.length + ms.length≤cap) (hmax:cap≤maxLen) (hol:olds.length=es.length * sz) (hnl:news.length=ms.length * sz) :
  obOk (w.drew.alloc (.cells C e)) S π' (.row (es ++ ms) sz) (.at w.heap.size 0 cap sz (es.length + ms.length)):=by
 have hg:(w.drew.alloc (.cells C e)).heap[w.heap.size]? = some (.cells C e (0,0)):=by
  show (w.heap.push _)[w.heap.size]? = _
  simp
 simp only [obOk]
 refine ⟨by simp,trivial,by omega,hmax,C,e,(0,0),hg,.inl rfl,?_,?_,?_⟩
 ·intro u hu
  subst hC
  simp only [Array.toList_append,List.mem_append] at hu
  rcases hu with (h | h) | h
  ·exact ho1 u h
  ·exact hn1 u h
  ·exact hr1 u h
 ·subst hC
  simp only [Array.size_append,List.size_toArray,List.length_append,hol,hnl,hrest,Nat.zero_add]
  rw [← Nat.add_mul,← Nat.add_mul]
  exact fun _=>Nat.mul_le_mul_right _ (by omega)
 ·refine relEs_cells (us:=olds ++ news) ?_ ?_ ?_ ?_
  ·intro x hx
   rcases List.mem_append.1 hx with h | h
   ·exact hle x h
   ·exact hlm x h
  ·rw [List.flatten_append]
   exact relL_append (relL_keep hk _ _ ho) (relL_keep hk _ _ hn)
  ·intro u hu
   rcases List.mem_append.1 hu with h | h
   ·exact ho1 u h
   ·exact hn1 u h
  ·intro j u hu
   rw [cell_of_row _ _ _ _ _ _ hg,hC,Nat.zero_add]
   rw [Array.getElem?_append_left (by simpa using (List.getElem?_eq_some_iff.1 hu).1)]
   simpa using hu
end
end Go.Proofs.YtgpjfmihogaooaaGreatDoorV
namespace Go.Proofs.YtgpjfmihogaooaaGreatDoorV
open Go Go.RowKit
section
variable {P:Program} {T:TypeId→Option TI} {look:Nat→Option Ob} {nx:Nat} {ev:Operand→Option TV} {o:Oper} {v:TV} {up:List (Nat × Ob)} {nw:List Ob} {rd:List Nat}
structure View (w:World) (S:Nat→Prop) (size:Nat) (A:Option Addr) (len cap:Nat) (es:List (List PV)) (B:Nat→Nat→Prop):Prop where
 hlen:es.length=len
 lens:∀ e ∈ es,e.length=size
 le:len≤cap
 max:cap≤maxLen
 at':(A=none∧cap=0)∨∃ b s C t fr,(cap=0∨A=some ⟨b,s,none⟩)∧A.isSome=true∧B b s∧w.heap[b]? = some (.cells C t fr)∧unfrozen C fr∧oneCells C∧(cap≠0→s + cap * size≤C.size)∧relEs w S b s size es
theorem View.olds {w:World} {S:Nat→Prop} {size:Nat} {A:Option Addr} {len cap:Nat} {es:List (List PV)} {B:Nat→Nat→Prop} (h:View w S size A len cap es B) :
  ∃ olds,(∀ P,(Builtin.firstCells size len (.slice A len cap)).run P w.drew=.ok olds.toArray w.drew)∧relL w S es.flatten olds∧(∀ u ∈ olds,u.oneCell'=true)∧olds.length=es.length * size:=by
 by_cases h0:len=0
 ·have he:es=[]:=List.eq_nil_of_length_eq_zero (by rw [h.hlen,h0])
  subst he
  refine ⟨[],fun P=>?_,by simp [relL],by simp,by simp⟩
  subst h0
  cases A with
  | none=>exact run_firstCells_none w.drew size 0 0 cap
  | some a=>simpa using run_firstCells_some (P:=P) w.drew size 0 a 0 cap [] (by simp) (by simp)
 ·rcases h.at' with ⟨_,hc⟩ | ⟨b,s,C,t,fr,hc,_,_,hg,_,_,_,hr⟩
  ·have:=h.le; omega
  ·have hA:A=some ⟨b,s,none⟩:=by
    rcases hc with hc | hc
    ·have:=h.le; omega
    ·exact hc
   subst hA
   obtain ⟨us,h1,h2,h3,h4⟩:=relEs_flat hr
   refine ⟨us,fun P=>?_,h4,h3,h1⟩
   exact run_firstCells_some (P:=P) w.drew size len ⟨b,s,none⟩ len cap us (by rw [h1,h.hlen]) (fun j u hu=>by rw [Addr.add_lit]; simpa using h2 j u hu)
structure Rd (w:World) (S:Nat→Prop) (size:Nat) (A:Option Addr) (len cap:Nat) (es:List (List PV)):Prop where
 hlen:es.length=len
 lens:∀ e ∈ es,e.length=size
 le:len≤cap
 max:cap≤maxLen
 olds:∃ olds,(∀ P,(Builtin.firstCells size len (.slice A len cap)).run P w.drew=.ok olds.toArray w.drew)∧relL w S es.flatten olds∧(∀ u ∈ olds,u.oneCell'=true)∧olds.length=es.length * size
theorem View.read {w:World} {S:Nat→Prop} {size:Nat} {A:Option Addr} {len cap:Nat} {es:List (List PV)} {B:Nat→Nat→Prop} (h:View w S size A len cap es B):Rd w S size A len cap es :=
 ⟨h.hlen,h.lens,h.le,h.max,h.olds⟩
theorem run_append_none {w:World} {t tx ty e:TypeId} {i:TypeInfo} (ht:P.underlying t=some (.slice e)) (hi:P.info? e=some i) {A:Option Addr} {len cap:Nat} {x:Value} (hs:Src P i.size tx x 0 [] w) (hle:len≤cap) :
  (Builtin.append_ #[t,tx] ty #[.slice A len cap,x]).run P w=.ok (.slice A len cap) w:=by
 rcases hs.kind with ⟨e',hk⟩ | hk <;> cases A <;> simp [Builtin.append_,run_underlying ht,run_underlying hk,sizeOf,typeInfo,hi,hs.len,hle,hs.cells,storeCells]
theorem zeroCells_one {z:Array Value} {n:Nat} (h:∀ u ∈ z.toList,u.oneCell'=true) (hz:0 < z.size):∀ u ∈ (Builtin.zeroCells z n).toList,u.oneCell'=true:=by
 intro u hu
 simp only [Builtin.zeroCells,Array.toList_map,List.mem_map] at hu
 obtain ⟨i,_,rfl⟩:=hu
 have:i % z.size < z.size:=Nat.mod_lt _ hz
 rw [getElem!_pos z _ this]
 exact h _ (by simp)
theorem append_put {w:World} {S:Nat→Prop} {π:Nat→Option Pl} {ids:List Nat} {t tx ty e:TypeId} {i:TI} {A:Option Addr} {len cap:Nat} {es ms:List (List PV)} {x:Value} (hT:TOk P T) (hi:T e=some i) (ht:P.underlying t=some (.slice e))
  (hob:ObsOk w S π look) (hf:Free look π nx 1) (hids:∀ i ∈ ids,(look i).isSome=true)
  (hv:Rd w S i.size A len cap es) (hvw:(ids=[]∧(0 < ms.length→cap=len)∧(ms.length=0→A=none∧cap=0))∨View w S i.size A len cap es fun b _=>∃ i ∈ ids,∃ x pi,look i=some x∧x.live=true∧π i=some pi∧pi.blk=some b)
  (hs:SrcOk P i.size tx x ms w S) (hb:(len + ms.length) * i.bytes≤Zla) :
  ∃ u w' π',(Builtin.append_ #[t,tx] ty #[.slice A len cap,x]).run P w=.ok u w'∧After w S π look nx (.ow nx) (Zeb ids) [.row (es ++ ms) i.size] u w' S π':=by
 have hty:=hT e i hi
 obtain ⟨z,hz1,hz2,hz3,_,f,hf1,hf2,hf3,hf4⟩:=run_zeroValue hty
 obtain ⟨news,hsrc,hn⟩:=hs.src
 rw [← hf3] at hsrc
 have hnl:news.length=ms.length * i.size:=by rw [← hf3]; exact hsrc.newsLen
 have hpb:=hty.posb
 have hmaxlen:len + ms.length≤maxLen:=by
  have:(len + ms.length) * 1≤(len + ms.length) * i.bytes:=Nat.mul_le_mul_left _ hpb
  simp only [Zla] at hb
  simp only [maxLen]
  omega
 have put:∀ (w':World) (u:Value) (pl:Pl),(Builtin.append_ #[t,tx] ty #[.slice A len cap,x]).run P w=.ok u w'→w'.os=w.os→w'.tape=w.tape→w'.output=w.output→w.heap.size≤w'.heap.size →
   (∀ k,k < w.heap.size→pl.blk≠some k→w'.heap[k]? = w.heap[k]?) →
   (∀ b,pl.blk=some b→(w.heap.size≤b∧b < w'.heap.size)∨∃ i ∈ ids,∃ x pi,look i=some x∧x.live=true∧π i=some pi∧pi.blk=some b) →
   (∀ π',Ext π π'→π' nx=some pl→Keep w S w' S→obOk w' S π' (.row (es ++ ms) i.size) pl)→(∀ (π':Nat→Option Pl),π' nx=some pl→relTV w' S π' (.ow nx) u) →
   ∃ u w' π',(Builtin.append_ #[t,tx] ty #[.slice A len cap,x]).run P w=.ok u w'∧After w S π look nx (.ow nx) (Zeb ids) [.row (es ++ ms) i.size] u w' S π':=by
  intro w' u pl h1 h2 h3 h4 h5 h6 h7 h8 h9
  obtain ⟨π',g1,g2,g3,g4,g5⟩:=obs_put (nx:=nx) (ids:=ids) (ob:=.row (es ++ ms) i.size) (pl:=pl) hob hf hids h2 h3 h4 h5 h6 h7 h8
  exact ⟨u,w',π',h1,h9 π' g4,g1,g2,g3,g5⟩
 by_cases hm0:ms.length=0
 ·have hms:ms=[]:=List.eq_nil_of_length_eq_zero hm0
  subst hms
  have hnews:news=[]:=List.eq_nil_of_length_eq_zero (by simpa using hnl)
  subst hnews
  have hrun:=run_append_none (P:=P) (t:=t) (ty:=ty) (A:=A) (len:=len) (cap:=cap) ht hf1 (by simpa using hsrc) hv.le
  have hat:(A=none∧cap=0)∨∃ b s C t fr,(cap=0∨A=some ⟨b,s,none⟩)∧A.isSome=true∧(∃ i ∈ ids,∃ x pi,look i=some x∧x.live=true∧π i=some pi∧pi.blk=some b)∧w.heap[b]? = some (.cells C t fr)∧unfrozen C fr∧oneCells C∧(cap≠0→s + cap * i.size≤C.size)∧relEs w S b s i.size es:=by
   rcases hvw with ⟨_,_,h2⟩ | hvw
   ·exact .inl (h2 rfl)
   ·exact hvw.at'
  rcases hat with ⟨rfl,hc⟩ | ⟨b,s,C,ct,fr,hc,hA,hB,hg,hu,ho,hcs,hr⟩
  ·have hl0:len=0:=by have:=hv.le; omega
   have he:es=[]:=List.eq_nil_of_length_eq_zero (by rw [hv.hlen,hl0])
   subst hl0 he hc
   refine put w _ .nil hrun rfl rfl rfl (Nat.le_refl _) (fun _ _ _=>rfl) (fun b hb=>by cases hb) (fun π' _ _ _=>by simp [obOk]) fun π' hp=>?_
   simp only [relTV]
   exact .inl ⟨hp,trivial⟩
  ·refine put w _ (.at b s cap i.size len) hrun rfl rfl rfl (Nat.le_refl _) (fun _ _ _=>rfl) (fun k hk=>?_) (fun π' _ _ _=>?_) fun π' hp=>?_
   ·simp only [Pl.blk,Option.some.injEq] at hk
    subst hk
    exact .inr hB
   ·simp only [obOk,List.append_nil]
    exact ⟨hv.hlen.symm,trivial,hv.le,hv.max,C,ct,fr,hg,hu,ho,hcs,hr⟩
   ·simp only [relTV]
    obtain ⟨a,rfl⟩:=Option.isSome_iff_exists.1 hA
    exact .inr ⟨b,s,cap,_,_,a,hp,rfl,by simpa using hc⟩
 ·by_cases hroom:len + ms.length≤cap
  ·have hvw':=hvw.resolve_left fun h=>by have:=h.2.1 (by omega); omega
   rcases hvw'.at' with ⟨rfl,hc⟩ | ⟨b,s,C,ct,fr,hc,hA,hB,hg,hu,ho,hcs,hr⟩
   ·omega
   ·have hA':A=some ⟨b,s,none⟩:=by rcases hc with hc | hc; (· omega); exact hc
    subst hA'
    have hfit:s + len * f.size + news.length≤C.size:=by
     rw [hnl,hf3,Nat.add_assoc,← Nat.add_mul]
     exact Nat.le_trans (Nat.add_le_add_left (Nat.mul_le_mul_right _ hroom) _) (hcs (by omega))
    obtain ⟨w',C',h1,h2,h3,h4⟩:=run_append_fits (P:=P) (ty:=ty) ht hf1 hsrc hroom hg hu hfit
    rw [hf3] at h4 hfit
    refine put w' _ (.at b s cap i.size (len + ms.length)) h1 h2.os h2.tape h2.output (by rw [h2.size]; exact Nat.le_refl _) (fun k hk hne=>h2.other k (fun e=>hne (by rw [e]; rfl))) (fun k hk=>?_) (fun π' _ _ hkeep=>?_) fun π' hp=>?_
    ·simp only [Pl.blk,Option.some.injEq] at hk
     subst hk
     exact .inr hB
    ·simp only [obOk]
     have hone:oneCells C':=by
      intro u hu'
      rw [h4] at hu'
      simp only [List.mem_append] at hu'
      rcases hu' with (hu' | hu') | hu'
      ·exact ho u (List.mem_of_mem_take hu')
      ·exact hsrc.one u hu'
      ·exact ho u (List.mem_of_mem_drop hu')
     refine ⟨by rw [List.length_append,hv.hlen],trivial,hroom,hv.max,C',ct,fr,h2.here,hu.imp id fun h=>by rw [h3]; exact h,hone,fun h0=>by rw [h3]; exact hcs h0,?_⟩
     have hcell:∀ j:Nat,w'.cell? ⟨b,j,none⟩=C'.toList[j]?:=fun j=>by rw [cell_of_row w' b j C' ct fr h2.here]; simp
     refine relEs_append (relEs_upto hkeep hr fun j hj=>?_) (relEs_cells hs.len (relL_keep hkeep _ _ hn) hsrc.one fun j u hu'=>?_)
     ·rw [hv.hlen] at hj
      rw [hcell,h4,cell_of_row w b _ C ct fr hg,List.append_assoc]
      rw [List.getElem?_append_left (by simp; omega),List.getElem?_take,if_pos (by omega)]
      simp
     ·rw [hcell,h4,hv.hlen,List.append_assoc]
      rw [List.getElem?_append_right (by simp; omega)]
      have hlt:j < news.length:=(List.getElem?_eq_some_iff.1 hu').1
      have hCl:C.toList.length=C.size:=Array.length_toList
      rw [List.length_take,Nat.min_eq_left (by omega),show s + len * i.size + j - (s + len * i.size)=j by omega]
      rw [List.getElem?_append_left hlt]
      exact hu'
    ·simp only [relTV]
     exact .inr ⟨b,s,cap,_,_,_,hp,rfl,.inr rfl⟩
  ·obtain ⟨olds,ho1,ho2,ho3,ho4⟩:=hv.olds
   have h63:((len + ms.length:Nat):Int)≤9223372036854775807:=by simp only [maxLen] at hmaxlen; omega
   have hp:=growslice_fits (bytes:=i.bytes) (by omega:cap < len + ms.length) (by simpa only [Zla] using hb)
   have hrun:=run_append_grow_src (P:=P) w t tx ty e f z ht hf1 hf2 A len cap olds (by rw [hf3]; exact ho1 P) x ms.length news hsrc (by omega) h63 (by rw [hf4]; exact hp)
   have hge:=grownCap_ge w (len + ms.length) cap e
   have hgm:=grownCap_le_maxLen w (len + ms.length) cap e hmaxlen
   refine put _ _ (.at w.heap.size 0 (grownCap w (len + ms.length) cap e) i.size (es.length + ms.length)) hrun rfl rfl rfl (by show _≤(w.heap.push _).size; simp) (fun k hk _=>?_) (fun k hk=>?_) (fun π' _ _ hkeep=>?_) fun π' hp=>?_
   ·show (w.heap.push _)[k]? = _
    rw [Array.getElem?_push,if_neg (by omega)]
   ·simp only [Pl.blk,Option.some.injEq] at hk
    subst hk
    exact .inl ⟨Nat.le_refl _,by show _ < (w.heap.push _).size; simp⟩
   ·refine grown_row (rest:=(Builtin.zeroCells z.cells (grownCap w (len + ms.length) cap e - (len + ms.length))).toList) ?_ hkeep ho2 hn ho3 hsrc.one ?_ hv.lens hs.len ?_ (by rw [hv.hlen]; exact hge) hgm ho4 hnl
    ·simp
    ·exact zeroCells_one (zsOk_rel (w:=w) (S:=S) (π:=π) hz2).2 (by rw [hz1]; exact hty.pos)
    ·rw [Array.length_toList,size_zeroCells,hz1,hv.hlen]
   ·simp only [relTV]
    exact .inr ⟨_,0,_,_,_,_,hp,by rw [hv.hlen],.inr rfl⟩
theorem allLen_get {n:Nat} {es:List (List PV)} (h:ZJa n es=true):∀ e ∈ es,e.length=n:=by
 simp only [ZJa,List.all_eq_true,beq_iff_eq] at h; exact h
theorem view_sl {w:World} {S:Nat→Prop} {π:Nat→Option Pl} {id off len sz:Nat} {cp:Bool} {es:List (List PV)} {u:Value} (hob:ObsOk w S π look) (hl:look id=some (.row es sz)) (h:relTV w S π (.sl id off len cp) u) :
  ∃ A cap,u=.slice A len cap∧(cp=true→cap=len)∧View w S sz A len cap ((es.drop off).take len) fun b _=>∃ x pi,look id=some x∧x.live=true∧π id=some pi∧pi.blk=some b:=by
 simp only [relTV] at h
 obtain ⟨pl,hp',hk⟩:=hob.ok id _ hl
 rcases h with ⟨hp,he,rfl,rfl⟩ | ⟨b,s,c,z',l',ad,cv,hp,he,k1,had,k2,k3,k4⟩
 ·exact ⟨none,0,he,fun _=>rfl,by simp,by simp,Nat.le_refl _,by simp [maxLen],.inl ⟨rfl,rfl⟩⟩
 ·rw [hp] at hp'; cases hp'
  simp only [obOk] at hk
  obtain ⟨rfl,rfl,hlc,hcm,C,t,fr,hg,hu,ho,hcs,hr⟩:=hk
  have hlen:((es.drop off).take len).length=len:=by simp; omega
  have hr':=relEs_take (relEs_drop hr off) len
  refine ⟨some ad,cv,he,k3,hlen,fun e hm=>?_,k1,by omega,.inr ⟨b,s + off * z',C,t,fr,?_,rfl,⟨_,_,hl,rfl,hp,rfl⟩,hg,hu,ho,?_,hr'⟩⟩
  ·obtain ⟨i,hi⟩:=List.mem_iff_getElem?.1 hm
   exact (relEs_get hr' hi).1
  ·rcases had with h0 | h0
   ·exact .inl h0
   ·exact .inr (by rw [h0])
  ·rw [Nat.add_assoc,← Nat.add_mul]
   exact fun h0=>Nat.le_trans (Nat.add_le_add_left (Nat.mul_le_mul_right _ k2) _) (hcs (by omega))
theorem view_ow {w:World} {S:Nat→Prop} {π:Nat→Option Pl} {id sz:Nat} {es:List (List PV)} {u:Value} (hob:ObsOk w S π look) (hl:look id=some (.row es sz)) (h:relTV w S π (.ow id) u) :
  ∃ A len cap,u=.slice A len cap∧View w S sz A len cap es fun b _=>∃ x pi,look id=some x∧x.live=true∧π id=some pi∧pi.blk=some b:=by
 simp only [relTV] at h
 obtain ⟨pl,hp',hk⟩:=hob.ok id _ hl
 rcases h with ⟨hp,he⟩ | ⟨b,s,c,z',l',ad,hp,he,had⟩
 ·rw [hp] at hp'; cases hp'
  simp only [obOk] at hk
  subst hk
  exact ⟨none,0,0,he,by simp,by simp,Nat.le_refl _,by simp [maxLen],.inl ⟨rfl,rfl⟩⟩
 ·rw [hp] at hp'; cases hp'
  simp only [obOk] at hk
  obtain ⟨rfl,rfl,hlc,hcm,C,t,fr,hg,hu,ho,hcs,hr⟩:=hk
  refine ⟨some ad,_,c,he,rfl,fun e hm=>?_,hlc,hcm,.inr ⟨b,s,C,t,fr,?_,rfl,⟨_,_,hl,rfl,hp,rfl⟩,hg,hu,ho,hcs,hr⟩⟩
  ·obtain ⟨i,hi⟩:=List.mem_iff_getElem?.1 hm
   exact (relEs_get hr hi).1
  ·rcases had with h0 | h0
   ·exact .inl h0
   ·exact .inr (by rw [h0])
theorem elems_ok {R:Type} {n:Nat} {y:TV} {k:List (List PV)→List Nat→Option R} {r:R} (h:elemsK look n y k=some r) :
  ∃ ms rd,k ms rd=some r∧∀ (w:World)(S:Nat→Prop)(π:Nat→Option Pl)(u:Value),relTV w S π y u→ObsOk w S π look →
   (∀ e ∈ ms,e.length=n)∧(((∃ A,u=.slice A 0 0)∧ms=[])∨∃ a cap us,u=.slice (some a) ms.length cap∧us.length=ms.length * n∧(∀ (j:Nat)(u:Value),us[j]? = some u→w.cell? (a.add j)=some u)∧(∀ u ∈ us,u.oneCell'=true)∧relL w S ms.flatten us):=by
 have hdata:∀ (es:List (List PV)),ZJa n es=true→∀ (w:World)(S:Nat→Prop)(u:Value),rel w S (.fs es) u →
   (∀ e ∈ es,e.length=n)∧(((∃ A,u=.slice A 0 0)∧es=[])∨∃ a cap us,u=.slice (some a) es.length cap∧us.length=es.length * n∧(∀ (j:Nat)(u:Value),us[j]? = some u→w.cell? (a.add j)=some u)∧(∀ u ∈ us,u.oneCell'=true)∧relL w S es.flatten us):=by
  intro es ha w S u hu
  refine ⟨allLen_get ha,?_⟩
  simp only [rel] at hu
  rcases hu with hu | ⟨b,s,cap,sz,he,hle,hm,hS,hr⟩
  ·exact .inl hu
  ·obtain ⟨us,h1,h2,h3,h4⟩:=relEs_flat hr
   refine .inr ⟨_,cap,us,he,?_,fun j u hu=>by rw [Addr.add_lit]; exact h2 j u hu,h3,h4⟩
   cases es with
   | nil=>simpa using h1
   | cons e es =>
    have g1:=(relEs_get hr (i:=0) rfl).1
    have g2:=allLen_get ha e (List.mem_cons_self ..)
    rw [h1,← g2,g1]
 have hview:∀ (es:List (List PV)) (w:World) (S:Nat→Prop) A len cap B,View w S n A len cap es B →
   (∀ e ∈ es,e.length=n)∧(((∃ A',Value.slice A len cap=.slice A' 0 0)∧es=[])∨∃ a cap' us,Value.slice A len cap=.slice (some a) es.length cap'∧us.length=es.length * n∧(∀ (j:Nat)(u:Value),us[j]? = some u→w.cell? (a.add j)=some u)∧(∀ u ∈ us,u.oneCell'=true)∧relL w S es.flatten us):=by
  intro es w S A len cap B hv
  refine ⟨hv.lens,?_⟩
  rcases hv.at' with ⟨rfl,hc⟩ | ⟨b,s,C,t,fr,hc,hA,_,hg,_,_,_,hr⟩
  ·have hl0:len=0:=by have:=hv.le; omega
   have he:es=[]:=List.eq_nil_of_length_eq_zero (by rw [hv.hlen,hl0])
   subst hl0 he hc
   exact .inl ⟨⟨_,rfl⟩,rfl⟩
  ·obtain ⟨a,rfl⟩:=Option.isSome_iff_exists.1 hA
   refine .inr ⟨a,cap,?_⟩
   rw [hv.hlen]
   by_cases h0:len=0
   ·have he:es=[]:=List.eq_nil_of_length_eq_zero (by rw [hv.hlen,h0])
    subst he h0
    exact ⟨[],rfl,by simp,by simp,by simp,by simp [relL]⟩
   ·have hA:a=⟨b,s,none⟩:=by
     rcases hc with hc | hc
     ·have:=hv.le; omega
     ·simpa using hc
    subst hA
    obtain ⟨us,h1,h2,h3,h4⟩:=relEs_flat hr
    exact ⟨us,rfl,by rw [h1,hv.hlen],fun j u hu=>by rw [Addr.add_lit]; exact h2 j u hu,h3,h4⟩
 unfold elemsK at h
 split at h
 ·exact ⟨_,_,h,fun w S π u hu _=>by simp only [relTV] at hu; exact ⟨by simp,.inl ⟨⟨_,hu⟩,rfl⟩⟩⟩
 ·rename_i es
  split at h
  ·rename_i ha
   exact ⟨_,_,h,fun w S π u hu _=>by simp only [relTV] at hu; exact hdata es ha w S u hu.1⟩
  ·cases h
 ·rename_i p
  obtain ⟨es,hes,h'⟩:=Zba h
  cases asFs_inv hes
  split at h'
  ·rename_i ha
   exact ⟨_,_,h',fun w S π u hu _=>by simp only [relTV] at hu; exact hdata es ha w S u hu⟩
  ·cases h'
 ·rename_i id
  split at h
  ·rename_i es sz hl
   split at h
   ·rename_i hsz
    subst hsz
    refine ⟨_,_,h,fun w S π u hu hob=>?_⟩
    obtain ⟨A,len,cap,rfl,hv⟩:=view_ow hob hl hu
    exact hview es w S A len cap _ hv
   ·cases h
  ·cases h
 ·rename_i id off len cp
  split at h
  ·rename_i es sz hl
   split at h
   ·rename_i hsz
    subst hsz
    refine ⟨_,_,h,fun w S π u hu hob=>?_⟩
    obtain ⟨A,cap,rfl,_,hv⟩:=view_sl hob hl hu
    exact hview _ w S A len cap _ hv
   ·cases h
  ·cases h
 ·cases h
end
end Go.Proofs.YtgpjfmihogaooaaGreatDoorV
namespace Go.Proofs.YtgpjfmihogaooaaGreatDoorV
open Go Go.RowKit
section
variable {P:Program} {T:TypeId→Option TI} {look:Nat→Option Ob} {nx:Nat} {ev:Operand→Option TV} {o:Oper} {v:TV} {up:List (Nat × Ob)} {nw:List Ob} {rd:List Nat}
theorem srcOk_slice {size:Nat} {tx e':TypeId} {u:Value} {ms:List (List PV)} {w:World} {S:Nat→Prop} (hk:P.underlying tx=some (.slice e')) (hl:∀ e ∈ ms,e.length=size)
  (h:((∃ A,u=.slice A 0 0)∧ms=[])∨∃ a cap us,u=.slice (some a) ms.length cap∧us.length=ms.length * size∧(∀ (j:Nat)(u:Value),us[j]? = some u→w.cell? (a.add j)=some u)∧(∀ u ∈ us,u.oneCell'=true)∧relL w S ms.flatten us) :
  SrcOk P size tx u ms w S:=by
 refine ⟨?_,hl⟩
 rcases h with ⟨⟨A,rfl⟩,rfl⟩ | ⟨a,cap,us,rfl,h1,h2,h3,h4⟩
 ·cases A with
  | none=>exact ⟨[],Src.ofNil w hk 0,by simp [relL]⟩
  | some a=>exact ⟨[],Src.ofSlice w hk a 0 0 [] (by simp) (by simp) (by simp),by simp [relL]⟩
 ·exact ⟨us,Src.ofSlice w hk a _ cap us h1 h2 h3,h4⟩
theorem srcOk_string {tx:TypeId} {s:ByteArray} {w:World} {S:Nat→Prop} (hk:P.underlying tx=some .string):SrcOk P 1 tx (.string s) (bytesOf s) w S:=by
 have hlen:(bytesOf s).length=s.size:=by simp [bytesOf]
 refine ⟨⟨byteCells s,by rw [hlen]; exact Src.ofString w hk s,?_⟩,fun e he=>?_⟩
 ·simp only [bytesOf,byteCells]
  generalize s.data.toList=l
  induction l with
  | nil=>simp [relL]
  | cons b l ih=>simp only [List.map_cons,List.flatten_cons,List.singleton_append,relL]; exact ⟨_,_,rfl,by simp only [rel],ih⟩
 ·simp only [bytesOf,List.mem_map] at he
  obtain ⟨b,_,rfl⟩:=he
  rfl
theorem rd_data {w:World} {S:Nat→Prop} {size:Nat} {es:List (List PV)} {A:Option Addr} {u:Value} (h:rel w S (.fs es) u) (he:u=.slice A es.length es.length) (hl:∀ e ∈ es,e.length=size):Rd w S size A es.length es.length es:=by
 subst he
 simp only [rel] at h
 rcases h with ⟨⟨A',he'⟩,rfl⟩ | ⟨b,s,cap,sz,he',hle,hm,hS,hr⟩
 ·refine ⟨rfl,hl,Nat.le_refl _,by simp [maxLen],[],fun P=>?_,by simp [relL],by simp,by simp⟩
  cases A with
  | none=>exact run_firstCells_none w.drew size 0 0 0
  | some a=>simpa using run_firstCells_some (P:=P) w.drew size 0 a 0 0 [] (by simp) (by simp)
 ·simp only [Value.slice.injEq] at he'
  obtain ⟨rfl,_,rfl⟩:=he'
  obtain ⟨us,h1,h2,h3,h4⟩:=relEs_flat hr
  have hus:us.length=es.length * size:=by
   cases es with
   | nil=>simpa using h1
   | cons e es =>
    have g1:=(relEs_get hr (i:=0) rfl).1
    have g2:=hl e (List.mem_cons_self ..)
    rw [h1,← g2,g1]
  exact ⟨rfl,hl,Nat.le_refl _,hm,us,fun P=>run_firstCells_some (P:=P) w.drew size es.length ⟨b,s,none⟩ es.length es.length us hus (fun j u hu=>by rw [Addr.add_lit]; simpa using h2 j u hu),h4,h3,hus⟩
theorem grow_ok {c:Call} {X Y:Operand} {t tx e:TypeId} {i:TI} {ts:List TypeId} {x:TV} {ms:List (List PV)} {rd0:List Nat} (hT:TOk P T) (ho:o.op=.call c) (hc:c.callee=.builtin .append) (hX:c.args=#[X,Y]) (hx:ev X=some x)
  (ht:c.argTypes.toList=t :: tx :: ts) (hi:T e=some i) (hu:P.underlying t=some (.slice e))
  (hsrc:∀ (a:Act)(w:World)(S:Nat→Prop)(π:Nat→Option Pl),evOk ev a w S π→ObsOk w S π look→SrcOk P i.size tx (a.eval Y) ms w S)
  (h:growK look nx i x ms rd0 ret4=some (v,up,nw,rd)):OpOk P look nx ev o v up nw:=by
 have hexec:∀ (a:Act) (w w':World) (r:Value),(∀ ty,(Builtin.append_ #[t,tx] ty #[a.eval X,a.eval Y]).run P w=.ok r w')→(execOp a.eval o).run P w=.ok (.value r) w':=by
  intro a w w' r hr
  have h0:Builtin.append_ c.argTypes o.type #[a.eval X,a.eval Y]=Builtin.append_ #[t,tx] o.type #[a.eval X,a.eval Y]:=by
   simp only [Builtin.append_,arr_head ht,arr_snd ht,List.getElem?_toArray,List.getElem?_cons_zero,List.getElem?_cons_succ]
  simp [execOp,ho,resolve,hc,hX,invoke,builtin,h0,hr]
 have put:∀ (ids:List Nat) (es:List (List PV)),(∀ i ∈ ids,(look i).isSome=true) →
   (∀ (a:Act)(w:World)(S:Nat→Prop)(π:Nat→Option Pl),evOk ev a w S π→ObsOk w S π look→∃ A len cap,a.eval X=.slice A len cap∧(len + ms.length) * i.bytes≤Zla∧Rd w S i.size A len cap es∧((ids=[]∧(0 < ms.length→cap=len)∧(ms.length=0→A=none∧cap=0)) ∨
    View w S i.size A len cap es fun b _=>∃ i ∈ ids,∃ x pi,look i=some x∧x.live=true∧π i=some pi∧pi.blk=some b)) →
   OpOk P look nx ev o (.ow nx) (Zeb ids) [.row (es ++ ms) i.size]:=by
  intro ids es hids hv a w S π hev hob hf K Q hK
  obtain ⟨A,len,cap,he,hb,h1,h2⟩:=hv a w S π hev hob
  have hrun:∃ u w' π',(Builtin.append_ #[t,tx] o.type #[a.eval X,a.eval Y]).run P w=.ok u w'∧After w S π look nx (.ow nx) (Zeb ids) [.row (es ++ ms) i.size] u w' S π':=by
   rw [he]
   exact append_put (P:=P) (T:=T) hT hi hu hob hf hids h1 h2 (hsrc a w S π hev hob) hb
  obtain ⟨u,w',π',hr,hA⟩:=hrun
  unfold Oper.wp
  rw [hexec a w w' u fun ty=>by rw [← hr]; rfl]
  exact hK u w' S π' hA
 have empty:∀ (a:Act)(w:World)(S:Nat→Prop)(π:Nat→Option Pl),evOk ev a w S π→ObsOk w S π look→ms.isEmpty=true→∀ {A:Option Addr} {len cap:Nat},len≤cap→∀ ty,(Builtin.append_ #[t,tx] ty #[.slice A len cap,a.eval Y]).run P w=.ok (.slice A len cap) w:=by
  intro a w S π hev hob hm A len cap hle ty
  have hms:ms=[]:=List.isEmpty_iff.1 hm
  subst hms
  obtain ⟨news,hs,_⟩:=(hsrc a w S π hev hob).src
  have hn:news=[]:=List.eq_nil_of_length_eq_zero (by simpa using hs.newsLen)
  subst hn
  obtain ⟨f,z,hf,hs2,_⟩:=(hT e i hi).info
  rw [← hs2] at hs
  exact run_append_none (P:=P) hu hf (by simpa using hs) hle
 unfold growK at h
 split at h
 ·rename_i sz
  split at h
  ·rename_i hb
   obtain ⟨rfl,rfl,rfl,rfl⟩:=Zua h
   refine put [] [] (by simp) fun a w S π hev hob=>?_
   have hv:=hev X _ hx
   simp only [relTV] at hv
   exact ⟨none,0,0,hv,by simpa using hb,⟨rfl,by simp,Nat.le_refl _,by simp [maxLen],[],fun P=>run_firstCells_none w.drew i.size 0 0 0,by simp [relL],by simp,by simp⟩,.inl ⟨rfl,fun _=>rfl,fun _=>⟨rfl,rfl⟩⟩⟩
  ·cases h
 ·rename_i es
  split at h
  ·rename_i hb
   obtain ⟨hb,ha⟩:=hb
   cases hm:ms.isEmpty with
   | true =>
    rw [hm] at h
    simp only [cond_true] at h
    obtain ⟨rfl,rfl,rfl,rfl⟩:=Zua h
    refine Zta fun a w S π hev hob=>⟨a.eval X,hexec a w w _ fun ty=>?_,hev X _ hx⟩
    have hv:=hev X _ hx
    simp only [relTV] at hv
    obtain ⟨A,he⟩:=hv.2
    rw [he]
    exact empty a w S π hev hob hm (Nat.le_refl _) ty
   | false =>
    rw [hm] at h
    simp only [cond_false] at h
    obtain ⟨rfl,rfl,rfl,rfl⟩:=Zua h
    have hpos:0 < ms.length:=by cases ms with
     | nil=>cases hm
     | cons _ _=>simp
    refine put [] es (by simp) fun a w S π hev hob=>?_
    have hv:=hev X _ hx
    simp only [relTV] at hv
    obtain ⟨hr,A,he⟩:=hv
    refine ⟨A,es.length,es.length,he,hb,rd_data hr he (allLen_get ha),.inl ⟨rfl,fun _=>rfl,fun h0=>by omega⟩⟩
  ·cases h
 ·rename_i id
  split at h
  ·rename_i es sz hl
   split at h
   ·rename_i hsz
    subst hsz
    split at h
    ·rename_i hb
     obtain ⟨rfl,rfl,rfl,rfl⟩:=Zua h
     refine put [id] es (by simp [hl]) fun a w S π hev hob=>?_
     obtain ⟨A,len,cap,he,hv⟩:=view_ow hob hl (hev X _ hx)
     have:=hv.hlen
     exact ⟨A,len,cap,he,by rw [← this]; exact hb,hv.read,.inr ⟨hv.hlen,hv.lens,hv.le,hv.max,hv.at'.imp (fun h=>h) fun ⟨b,s,C,t,fr,h1,h2,h3,h4⟩=>⟨b,s,C,t,fr,h1,h2,⟨_,List.mem_singleton.2 rfl,h3⟩,h4⟩⟩⟩
    ·cases h
   ·cases h
  ·cases h
 ·rename_i id off len cp
  split at h
  ·rename_i es sz hl
   split at h
   ·rename_i hsz
    subst hsz
    split at h
    ·rename_i hb
     split at h
     ·cases hm:ms.isEmpty with
      | true =>
       rw [hm] at h
       simp only [cond_true] at h
       obtain ⟨rfl,rfl,rfl,rfl⟩:=Zua h
       refine Zta fun a w S π hev hob=>⟨a.eval X,hexec a w w _ fun ty=>?_,hev X _ hx⟩
       obtain ⟨A,cap,he,hcl,hv⟩:=view_sl hob hl (hev X _ hx)
       rw [he]
       exact empty a w S π hev hob hm hv.le ty
      | false =>
       rw [hm] at h
       simp only [cond_false] at h
       obtain ⟨rfl,rfl,rfl,rfl⟩:=Zua h
       refine put [] _ (by simp) fun a w S π hev hob=>?_
       obtain ⟨A,cap,he,hcl,hv⟩:=view_sl hob hl (hev X _ hx)
       exact ⟨A,len,cap,he,hb,hv.read,.inl ⟨rfl,fun _=>hcl rfl,fun h0=>by rw [List.eq_nil_of_length_eq_zero h0] at hm; cases hm⟩⟩
     ·obtain ⟨rfl,rfl,rfl,rfl⟩:=Zua h
      refine put [id] _ (by simp [hl]) fun a w S π hev hob=>?_
      obtain ⟨A,cap,he,_,hv⟩:=view_sl hob hl (hev X _ hx)
      exact ⟨A,len,cap,he,hb,hv.read,.inr ⟨hv.hlen,hv.lens,hv.le,hv.max,hv.at'.imp (fun h=>h) fun ⟨b,s,C,t,fr,h1,h2,h3,h4⟩=>⟨b,s,C,t,fr,h1,h2,⟨_,List.mem_singleton.2 rfl,h3⟩,h4⟩⟩⟩
    ·cases h
   ·cases h
  ·cases h
 ·cases h
theorem append_ok {c:Call} {x y:TV} {t tx:TypeId} {ts:List TypeId} (hT:TOk P T) (ho:o.op=.call c) (hc:c.callee=.builtin .append) (hx:ZRa (c.args.toList.map ev)=some [x,y]) (ht:c.argTypes.toList=t :: tx :: ts)
  (h:appendK T look nx t tx x y ret4=some (v,up,nw,rd)):OpOk P look nx ev o v up nw:=by
 obtain ⟨X,Y,hX,hevX,hevY⟩:=list_two hx
 have hX':=arr_two hX
 unfold appendK at h
 split at h
 ·rename_i sz by' e z hi
  have hu:=(hT t _ hi).desc
  simp only [ZPa] at hu
  split at h
  ·cases h
  ·rename_i i hie
   split at h
   ·rename_i sz2 by2 z2 hi2
    have hu2:=(hT tx _ hi2).desc
    simp only [ZPa] at hu2
    split at h
    ·rename_i p
     obtain ⟨s,hs,h'⟩:=Zba h
     cases asS_inv hs
     split at h'
     ·rename_i h1
      refine grow_ok hT ho hc hX' hevX ht hie hu (fun a w S π hev hob=>?_) h'
      rw [ev_str hevY hev,h1]
      exact srcOk_string hu2
     ·cases h'
    ·cases h
   ·rename_i sz2 by2 e2 z2 hi2
    have hu2:=(hT tx _ hi2).desc
    simp only [ZPa] at hu2
    obtain ⟨ms,rd0,h',hel⟩:=elems_ok h
    refine grow_ok hT ho hc hX' hevX ht hie hu (fun a w S π hev hob=>?_) h'
    obtain ⟨h1,h2⟩:=hel w S π _ (hev Y _ hevY) hob
    exact srcOk_slice hu2 h1 h2
   ·cases h
 ·cases h
end
end Go.Proofs.YtgpjfmihogaooaaGreatDoorV
namespace Go.Proofs.YtgpjfmihogaooaaGreatDoorV
open Go Go.RowKit
section
variable {P:Program} {T:TypeId→Option TI} {look:Nat→Option Ob} {nx:Nat} {ev:Operand→Option TV} {o:Oper} {v:TV} {up:List (Nat × Ob)} {nw:List Ob} {rd:List Nat}
theorem foldSet_list (off:Nat):∀ (vs:List Value)(k:Nat)(cells:Array Value),off + k + vs.length≤cells.size →
  ((vs.zipIdx k).foldl (fun (cs:Array Value)(x:Value × Nat)=>cs.setIfInBounds (off + x.2) x.1) cells).toList=cells.toList.take (off + k) ++ vs ++ cells.toList.drop (off + k + vs.length)
 | [],k,cells,_=>by simp
 | v :: vs,k,cells,h=>by
  simp only [List.length_cons] at h
  simp only [List.zipIdx_cons,List.foldl_cons]
  rw [foldSet_list off vs (k + 1) _ (by simp; omega)]
  have hn:off + k < cells.toList.length:=by rw [Array.length_toList]; omega
  have e1:(cells.toList.set (off + k) v).take (off + (k + 1))=cells.toList.take (off + k) ++ [v]:=by
   rw [← Nat.add_assoc,List.take_succ_eq_append_getElem (by simpa using hn),List.take_set_of_le (Nat.le_refl _)]
   simp
  have e2:(cells.toList.set (off + k) v).drop (off + (k + 1) + vs.length)=cells.toList.drop (off + k + (vs.length + 1)):=by
   rw [List.drop_set_of_lt (by omega)]
   congr 1; omega
  simp only [Array.toList_setIfInBounds,List.length_cons,e1,e2]
  simp
theorem fill_step {place:Nat→Option (Nat × Nat)} {cells:Array Value} {i off size:Nat} {v:Value} {rest:List (Nat × Value)} (hp:place i=some (off,size)) (hs:v.cells.size=size) (hle:off + size≤cells.size) :
  ∃ cells',Instr.fill place cells ((i,v) :: rest)=Instr.fill place cells' rest∧cells'.toList=cells.toList.take off ++ v.cells.toList ++ cells.toList.drop (off + size)∧cells'.size=cells.size:=by
 refine ⟨v.cells.zipIdx.foldl (fun cs (c,j)=>cs.setIfInBounds (off + j) c) cells,?_,?_,?_⟩
 ·simp only [Instr.fill,hp]
  rw [if_neg (by simp [hs]; omega)]
 ·rw [← Array.foldl_toList,Array.toList_zipIdx]
  have:=foldSet_list off v.cells.toList 0 cells (by simp [hs]; omega)
  rw [this]
  simp [hs]
 ·have h1:((v.cells.zipIdx.foldl (fun cs (c,j)=>cs.setIfInBounds (off + j) c) cells).toList).length=cells.size:=by
   rw [← Array.foldl_toList,Array.toList_zipIdx]
   rw [foldSet_list off v.cells.toList 0 cells (by simp [hs]; omega)]
   simp [hs]; omega
  simpa using h1
theorem fill_ok {fs:List (TypeId × Nat)} {place:Nat→Option (Nat × Nat)} {w:World} {S:Nat→Prop} {π:Nat→Option Pl} {a:Act} (hT:TOk P T) (hev:evOk ev a w S π)
  (hp:∀ (i:Nat)(ft:TypeId)(fo:Nat),fs[i]? = some (ft,fo)→∃ i',T ft=some i'∧place i=some (fo,i'.size)) :
  ∀ (parts:List (Nat × Operand)) (cs cs':List TV) (cells:Array Value),putParts T fs cs (parts.map fun x=>(x.1,ev x.2))=some cs'→relTVs w S π cs cells.toList→oneCells cells →
   ∃ cells',Instr.fill place cells (parts.map fun x=>(x.1,a.eval x.2))=some cells'∧relTVs w S π cs' cells'.toList∧oneCells cells'
 | [],cs,cs',cells,h,hr,h1=>by
  simp only [List.map_nil,putParts,Option.some.injEq] at h
  subst h
  exact ⟨cells,by simp [Instr.fill],hr,h1⟩
 | (i,x) :: parts,cs,cs',cells,h,hr,h1=>by
  simp only [List.map_cons,putParts] at h
  split at h
  ·rename_i ft fo tv hf hx
   obtain ⟨i',hi,hpl⟩:=hp i ft fo hf
   split at h
   ·rename_i ds hds
    split at h
    ·rename_i hle
     have hcl:=relTVs_length hr
     have hpart:∃ us:List Value,(a.eval x).cells.toList=us∧us.length=i'.size∧ds.length=us.length∧(∀ u ∈ us,u.oneCell'=true)∧relTVs w S π ds us:=by
      have hxr:=hev x tv hx
      rw [isAggT_eq hi] at hds
      cases hd:i'.desc.isAgg with
      | true =>
       rw [hd,if_pos rfl] at hds
       obtain ⟨us,he,hs,h1,h2⟩:=tcells_rel hds hxr
       rw [tsize_eq hi] at hs
       refine ⟨us.toList,by rw [he]; rfl,by simpa using hs,relTVs_length h2,h1,h2⟩
      | false =>
       rw [hd,if_neg (by simp)] at hds
       split at hds
       ·rename_i ho
        simp only [Option.some.injEq] at hds
        subst hds
        have h1:=relTV_one hxr ho
        refine ⟨[a.eval x],by rw [oneCell_cells h1],by rw [(hT ft i' hi).one hd]; rfl,rfl,by simpa using h1,?_⟩
        simp only [relTVs]
        exact ⟨_,_,rfl,fixNil_rel hxr,rfl⟩
       ·cases hds
     obtain ⟨us,hu1,hu2,hu3,hu4,hu5⟩:=hpart
     have hsz:(a.eval x).cells.size=i'.size:=by rw [← Array.length_toList,hu1,hu2]
     obtain ⟨cells',hf1,hf2,hf3⟩:=fill_step (rest:=parts.map fun x=>(x.1,a.eval x.2)) (cells:=cells) hpl hsz (by rw [← hu2,← hu3,← Array.length_toList,← hcl]; exact hle)
     rw [hu1] at hf2
     have hone:oneCells cells':=by
      intro u hu
      rw [hf2] at hu
      simp only [List.mem_append] at hu
      rcases hu with (hu | hu) | hu
      ·exact h1 u (List.mem_of_mem_take hu)
      ·exact hu4 u hu
      ·exact h1 u (List.mem_of_mem_drop hu)
     have hrel:relTVs w S π (cs.take fo ++ ds ++ cs.drop (fo + ds.length)) cells'.toList:=by
      rw [hf2]
      refine relTVs_append (relTVs_append (relTVs_take hr fo) hu5) ?_
      rw [hu3,hu2]
      exact relTVs_drop hr _
     obtain ⟨cells'',g1,g2,g3⟩:=fill_ok hT hev hp parts _ cs' cells' h hrel hone
     exact ⟨cells'',by simp only [List.map_cons]; rw [hf1,g1],g2,g3⟩
    ·cases h
   ·cases h
  ·cases h
theorem places_ok (hT:TOk P T):∀ (F:List Field),(F.map fun f=>(f.type,f.offset)).all (fun f=>(T f.1).isSome)=true →
  ∃ places:List (Nat × Nat),F.mapM (fun f=>(P.info? f.type).map fun i=>(f.offset,i.size))=some places∧∀ (i:Nat)(ft:TypeId)(fo:Nat),(F.map fun f=>(f.type,f.offset))[i]? = some (ft,fo)→∃ i',T ft=some i'∧places[i]? = some (fo,i'.size)
 | [],_=>⟨[],by simp,by simp⟩
 | f :: F,h=>by
  simp only [List.map_cons,List.all_cons,Bool.and_eq_true] at h
  obtain ⟨places,h1,h2⟩:=places_ok hT F h.2
  obtain ⟨i,hi⟩:=Option.isSome_iff_exists.1 h.1
  obtain ⟨g,z,hg,hs,_⟩:=(hT _ i hi).info
  refine ⟨(f.offset,i.size) :: places,by simp [List.mapM_cons,hg,hs,h1],?_⟩
  intro j ft fo hj
  cases j with
  | zero =>
   simp only [List.map_cons,List.getElem?_cons_zero,Option.some.injEq,Prod.mk.injEq] at hj
   obtain ⟨rfl,rfl⟩:=hj
   exact ⟨i,hi,rfl⟩
  | succ j =>
   simp only [List.map_cons,List.getElem?_cons_succ] at hj ⊢
   exact h2 j ft fo hj
theorem build_ok {t:TypeId} {parts:Array (Nat × Operand)} (hT:TOk P T) (ho:o.op=.build t parts) (h:buildK T t (parts.toList.map fun x=>(x.1,ev x.2)) ret4=some (v,up,nw,rd)):OpOk P look nx ev o v up nw:=by
 have hexec:∀ (a:Act)(w:World)(cells:Array Value),P.built t (parts.toList.map fun x=>(x.1,a.eval x.2))=some cells→(execOp a.eval o).run P w=.ok (.value (.agg cells)) w:=by
  intro a w cells hb
  have:=run_build (P:=P) w t (parts.map fun x=>(x.1,a.eval x.2)) cells (by simpa using hb)
  simp [execOp,ho,this]
 unfold buildK at h
 split at h
 ·rename_i sz by' fs z hi
  split at h
  ·rename_i hall
   split at h
   ·rename_i cs hcs
    obtain ⟨rfl,rfl,rfl,rfl⟩:=Zua h
    have hty:=hT t _ hi
    have hu:=hty.desc
    simp only [ZPa] at hu
    obtain ⟨F,hF,hFe,_⟩:=hu
    subst hFe
    obtain ⟨places,hp1,hp2⟩:=places_ok hT F.toList hall
    obtain ⟨zv,hz1,hz2,_,_,f,hf1,hf2,_⟩:=run_zeroValue hty
    refine Zta fun a w S π hev hob=>?_
    obtain ⟨hz3,hz4⟩:=zsOk_rel (w:=w) (S:=S) (π:=π) hz2
    obtain ⟨cells,g1,g2,g3⟩:=fill_ok (place:=(places.toArray[·]?)) hT hev (fun i ft fo hi=>by simpa using hp2 i ft fo hi) parts.toList _ cs zv.cells hcs hz3 hz4
    refine ⟨_,hexec a w cells ?_,by simpa using packTV_rel g2 g3⟩
    simp only [Program.built,hf1,hF,hf2,hp1]
    exact g1
   ·cases h
  ·cases h
 ·rename_i sz by' n e z hi
  split at h
  ·rename_i ei hie
   split at h
   ·rename_i cs hcs
    obtain ⟨rfl,rfl,rfl,rfl⟩:=Zua h
    have hty:=hT t _ hi
    have hu:=hty.desc
    simp only [ZPa] at hu
    obtain ⟨g,_,hg,hgs,_⟩:=(hT e ei hie).info
    obtain ⟨zv,hz1,hz2,_,_,f,hf1,hf2,_⟩:=run_zeroValue hty
    refine Zta fun a w S π hev hob=>?_
    obtain ⟨hz3,hz4⟩:=zsOk_rel (w:=w) (S:=S) (π:=π) hz2
    obtain ⟨cells,g1,g2,g3⟩:=fill_ok (place:=fun i=>some (i * g.size,g.size)) hT hev (fun i ft fo hi=>by
     simp only [List.getElem?_map] at hi
     cases hr:(List.range n)[i]? with
     | none=>rw [hr] at hi; cases hi
     | some j =>
      rw [hr] at hi
      simp only [Option.map_some,Option.some.injEq,Prod.mk.injEq] at hi
      obtain ⟨rfl,rfl⟩:=hi
      have:j=i:=by
       have:=List.getElem?_eq_some_iff.1 hr
       obtain ⟨h1,h2⟩:=this
       simp at h2
       exact h2.symm
      subst this
      exact ⟨ei,hie,by simp [hgs,tsize_eq hie]⟩) parts.toList _ cs zv.cells hcs hz3 hz4
    refine ⟨_,hexec a w cells ?_,by simpa using packTV_rel g2 g3⟩
    simp only [Program.built,hf1,hu,hf2,hg]
    exact g1
   ·cases h
  ·cases h
 ·cases h
end
end Go.Proofs.YtgpjfmihogaooaaGreatDoorV
namespace Go.Proofs.YtgpjfmihogaooaaGreatDoorV
open Go Go.RowKit
section
variable {P:Program} {T:TypeId→Option TI} {look:Nat→Option Ob} {nx:Nat} {ev:Operand→Option TV} {o:Oper} {v:TV} {up:List (Nat × Ob)} {nw:List Ob} {rd:List Nat}
theorem row_new {w w':World} {S:Nat→Prop} {π:Nat→Option Pl} {es:List (List PV)} {n sz cap:Nat} {C:Array Value} {e:TypeId} {fr:Nat × Nat} (hob:ObsOk w S π look) (hf:Free look π nx 1)
  (hos:w'.os=w.os) (htape:w'.tape=w.tape) (hout:w'.output=w.output) (hsz:w'.heap.size=w.heap.size + 1) (hold:∀ k,k < w.heap.size→w'.heap[k]? = w.heap[k]?)
  (hg:w'.heap[w.heap.size]? = some (.cells C e fr)) (hfr:unfrozen C fr) (ho:oneCells C) (hn:n=es.length) (hnc:n≤cap) (hc:cap * sz≤C.size) (hmax:cap≤maxLen)
  (hr:Keep w S w' S→relEs w' S w.heap.size 0 sz es) :
  ∃ π',After w S π look nx (.ow nx) [] [.row es sz] (.slice (some ⟨w.heap.size,0,none⟩) n cap) w' S π':=by
 obtain ⟨π',g1,g2,g3,g4,g5⟩:=obs_put (nx:=nx) (ids:=[]) (ob:=.row es sz) (pl:=.at w.heap.size 0 cap sz n) hob hf (by simp) hos htape hout (by omega) (fun k hk _=>hold k hk)
  (fun b hb=>by simp only [Pl.blk,Option.some.injEq] at hb; subst hb; exact .inl ⟨Nat.le_refl _,by omega⟩)
  (fun π' _ _ hkeep=>by
   simp only [obOk]
   exact ⟨hn,trivial,hnc,hmax,C,e,fr,hg,hfr,ho,fun _=>by omega,hr hkeep⟩)
 refine ⟨π',?_,g1,g2,g3,g5⟩
 simp only [relTV]
 exact .inr ⟨_,_,_,_,_,_,g4,rfl,.inr rfl⟩
theorem put_new {a:Act} {w w':World} {S:Nat→Prop} {π:Nat→Option Pl} {K:Act→World→Prop} {Q:Exit→Act→World→Prop} {u:Value} {x:TV} {ns:List Ob} (hr:(execOp a.eval o).run P w=.ok (.value u) w')
  (hK:∀ u w' S' π',After w S π look nx x up ns u w' S' π'→K (a.put o.dst u) w') (h:∃ π',After w S π look nx x up ns u w' S π'):o.wp P a w K Q:=by
 obtain ⟨π',hA⟩:=h
 unfold Oper.wp
 rw [hr]
 exact hK u w' S π' hA
theorem lit_ok {e:TypeId} {i:TI} {w:World} {S:Nat→Prop} {π:Nat→Option Pl} {a:Act} (hT:TOk P T) (hi:T e=some i) (hev:evOk ev a w S π) :
  ∀ (parts:List (Nat × Operand)) (j:Nat) (es:List (List PV)) (cells:Array Value),litRows T e j (parts.map fun x=>(x.1,ev x.2))=some es→(j + parts.length) * i.size=cells.size →
   ∃ cells' us,Instr.fill (fun k=>some (k * i.size,i.size)) cells (parts.map fun x=>(x.1,a.eval x.2))=some cells'∧cells'.toList=cells.toList.take (j * i.size) ++ us∧us.length=parts.length * i.size∧es.length=parts.length∧(∀ e ∈ es,e.length=i.size) ∧
    (∀ u ∈ us,u.oneCell'=true)∧relL w S es.flatten us
 | [],j,es,cells,h,hs=>by
  simp only [List.map_nil,litRows,Option.some.injEq] at h
  subst h
  refine ⟨cells,[],by simp [Instr.fill],?_,by simp,by simp,by simp,by simp,by simp [relL]⟩
  simp only [List.length_nil,Nat.add_zero] at hs
  rw [hs,List.append_nil,← Array.length_toList,List.take_length]
 | (k,x) :: parts,j,es,cells,h,hs=>by
  simp only [List.map_cons,litRows] at h
  split at h
  ·rename_i hk
   subst hk
   split at h
   ·rename_i tv hx
    split at h
    ·rename_i p es' hp hes
     have hpr:=toPV_rel hp (hev x tv hx)
     simp only [List.length_cons] at hs
     have hpart:∃ (e':List PV) (us:List Value),es=e' :: es'∧(a.eval x).cells.toList=us∧us.length=i.size∧e'.length=i.size∧(∀ u ∈ us,u.oneCell'=true)∧relL w S e' us:=by
      rw [isAggT_eq hi] at h
      cases hd:i.desc.isAgg with
      | true =>
       rw [hd,if_pos rfl] at h
       split at h
       ·rename_i ha
        simp only [Option.some.injEq] at h
        subst h
        obtain ⟨cs,us,rfl,he,h1,h2,h3,h4⟩:=rel_agg hpr ha
        rw [tsize_eq hi] at h3 h4
        exact ⟨cs,us.toList,rfl,by rw [he]; rfl,by simpa using h4,h3,h1,h2⟩
       ·cases h
      | false =>
       rw [hd,if_neg (by simp)] at h
       split at h
       ·rename_i ho
        simp only [Option.some.injEq] at h
        subst h
        have h1:=rel_one hpr ho
        have h0:=(hT e i hi).one hd
        refine ⟨[p],[a.eval x],rfl,by rw [oneCell_cells h1],by rw [h0]; rfl,by rw [h0]; rfl,by simpa using h1,?_⟩
        simp only [relL]
        exact ⟨_,_,rfl,hpr,rfl⟩
       ·cases h
     obtain ⟨e',us,rfl,hu1,hu2,hu3,hu4,hu5⟩:=hpart
     have hsz:(a.eval x).cells.size=i.size:=by rw [← Array.length_toList,hu1,hu2]
     have hle:k * i.size + i.size≤cells.size:=by
      rw [← hs]
      calc k * i.size + i.size=(k + 1) * i.size:=by rw [Nat.add_mul,Nat.one_mul]
       _≤_:=Nat.mul_le_mul_right _ (by omega)
     obtain ⟨cells',hf1,hf2,hf3⟩:=fill_step (place:=fun k=>some (k * i.size,i.size)) (rest:=parts.map fun x=>(x.1,a.eval x.2)) (i:=k) rfl hsz hle
     obtain ⟨cells'',us',g1,g2,g3,g4,g5,g6,g7⟩:=lit_ok hT hi hev parts (k + 1) es' cells' hes (by rw [hf3,← hs]; congr 1; omega)
     refine ⟨cells'',us ++ us',by simp only [List.map_cons]; rw [hf1,g1],?_,?_,by simp [g4],?_,?_,?_⟩
     ·rw [g2,hf2,hu1]
      have hk1:(k + 1) * i.size=k * i.size + i.size:=by rw [Nat.add_mul,Nat.one_mul]
      have hcl:cells.toList.length=cells.size:=Array.length_toList
      rw [hk1,← List.append_assoc (List.take (k * i.size) cells.toList) us us']
      congr 1
      rw [List.take_append_of_le_length (by simp; omega)]
      have:(List.take (k * i.size) cells.toList ++ us).length=k * i.size + i.size:=by simp; omega
      rw [← this,List.take_length]
     ·simp only [List.length_append,List.length_cons,hu2,g3,Nat.add_mul,Nat.one_mul]; omega
     ·intro q hq
      rcases List.mem_cons.1 hq with rfl | hq
      ·exact hu3
      ·exact g5 q hq
     ·intro q hq
      rcases List.mem_append.1 hq with hq | hq
      ·exact hu4 q hq
      ·exact g6 q hq
     ·simp only [List.flatten_cons]
      exact relL_append hu5 g7
    ·cases h
   ·cases h
  ·cases h
theorem litK_eq {R:Type} {e:TypeId}:∀ (parts:List (Nat × Option TV)) (j:Nat) (k:List (List PV)→Option R),litK T e j parts k=(litRows T e j parts).bind k
 | [],j,k=>rfl
 | (i,v) :: r,j,k=>by
  unfold litK litRows
  split
  ·cases v with
   | none=>rfl
   | some v =>
    simp only
    cases hp:toPV v with
    | none=>rfl
    | some p =>
     simp only
     rw [litK_eq r (j + 1),litK_eq r (j + 1)]
     cases hr:litRows T e (j + 1) r with
     | none=>simp only [Option.bind_none,ite_self]
     | some es =>
      simp only [Option.bind_some]
      split
      ·split <;> rfl
      ·split <;> rfl
  ·rfl
theorem buildSlice_ok {t:TypeId} {n:Nat} {parts:Array (Nat × Operand)} (hT:TOk P T) (ho:o.op=.buildSlice t n parts) (h:buildSliceK T nx t n (parts.toList.map fun x=>(x.1,ev x.2)) ret4=some (v,up,nw,rd)):OpOk P look nx ev o v up nw:=by
 unfold buildSliceK at h
 split at h
 ·rename_i sz by' e z hi
  split at h
  ·rename_i i hie
   split at h
   ·rename_i hle
    obtain ⟨hn,hsmall⟩:=hle
    rw [litK_eq] at h
    obtain ⟨es,hes,h⟩:=Zba h
    ·obtain ⟨rfl,rfl,rfl,rfl⟩:=Zua h
     have hu:=(hT t _ hi).desc
     simp only [ZPa] at hu
     have hty:=hT e i hie
     obtain ⟨zv,hz1,hz2,_,_,f,hf1,hf2,hf3,hf4⟩:=run_zeroValue hty
     have hpos:=hty.pos
     simp only [List.length_map,Array.length_toList] at hn
     intro a w S π hev hob hf K Q hK
     have hzz:∃ zs:Array Value,zs.size=n * i.size∧∀ cells,Instr.fill (fun k=>some (k * i.size,i.size)) zs (parts.toList.map fun x=>(x.1,a.eval x.2))=some cells→(execOp a.eval o).run P w=.ok (.value (.slice (some ⟨w.heap.size,0,none⟩) n n)) (w.alloc (.cells cells e)):=by
      by_cases h0:n * i.size=0
      ·refine ⟨#[],by simp [h0],fun cells hc=>?_⟩
       simp [execOp,ho,Instr.buildSlice,run_underlying hu,sizeOf,typeInfo,hf1,hf3,h0,hc,newRow,Array.range_zero']
      ·refine ⟨(Array.range (n * i.size)).map (zv.cells[· % zv.cells.size]!),by simp,fun cells hc=>?_⟩
       have:=run_buildSlice (P:=P) w t e n (parts.map fun x=>(x.1,a.eval x.2)) cells f zv hu hf1 hf2 (by rw [hf3]; omega) (by rw [hf3]; exact h0) (by rw [hf3]; simpa using hc)
       simp [execOp,ho,this]
     obtain ⟨zs,hzs,hrun⟩:=hzz
     obtain ⟨cells,us,g1,g2,g3,g4,g5,g6,g7⟩:=lit_ok hT hie hev parts.toList 0 es zs hes (by rw [hzs,Nat.zero_add,Array.length_toList,hn])
     simp only [Nat.zero_mul,List.take_zero,List.nil_append] at g2
     have hpl:parts.toList.length=n:=by rw [Array.length_toList,hn]
     rw [hpl] at g3 g4
     refine put_new (hrun cells g1) hK ?_
     have hg:(w.alloc (.cells cells e)).heap[w.heap.size]? = some (.cells cells e (0,0)):=by show (w.heap.push _)[w.heap.size]? = _; simp
     refine row_new hob hf rfl rfl rfl (by show (w.heap.push _).size=_; simp) (fun k hk=>by show (w.heap.push _)[k]? = _; rw [Array.getElem?_push,if_neg (by omega)]) hg (.inl rfl) ?_ g4.symm (Nat.le_refl _) (by rw [← Array.length_toList,g2,g3]; exact Nat.le_refl _) ?_ fun hkeep=>?_
     ·intro u hu'; rw [g2] at hu'; exact g6 u hu'
     ·have:n * 1≤n * i.size:=Nat.mul_le_mul_left _ hpos
      simp only [maxLen]; omega
     ·refine relEs_cells g5 (relL_keep hkeep _ _ g7) g6 fun j u hu'=>?_
      rw [cell_of_row _ _ _ _ _ _ hg,Nat.zero_add,← Array.getElem?_toList,g2]
      exact hu'
   ·cases h
  ·cases h
 ·cases h
theorem madeCells_get {z:Array Value} {n j:Nat} (hz:0 < z.size) (hj:j < n):∃ u,(madeCells z n)[j]? = some u∧z[j % z.size]? = some u:=by
 have:j % z.size < z.size:=Nat.mod_lt _ hz
 refine ⟨z[j % z.size],?_,by simp [this]⟩
 simp only [madeCells,Array.getElem?_map,Array.getElem?_range,hj,if_true,Option.map_some,getElem!_pos z (j % z.size) this]
theorem zeroCells_get {z:Array Value} {n j:Nat} (hz:0 < z.size) (hj:j < n * z.size):∃ u,(Builtin.zeroCells z n).toList[j]? = some u∧z[j % z.size]? = some u:=by
 have hm:j % z.size < z.size:=Nat.mod_lt _ hz
 refine ⟨z[j % z.size],?_,by simp [hm]⟩
 simp only [Builtin.zeroCells,Array.getElem?_toList,Array.getElem?_map,Array.getElem?_range,hj,if_true,Option.map_some,getElem!_pos z (j % z.size) hm]
theorem zero_cells {i:TI} {zp:PV} {us:List Value} {w:World} {S:Nat→Prop} {π:Nat→Option Pl} (hzp:toPV (packTV i.zero)=some zp) (hz3:relTVs w S π i.zero us) (hz4:∀ u ∈ us,u.oneCell'=true):relL w S zp.cells us:=by
 have hr:=packTV_rel hz3 hz4
 have hr2:=toPV_rel hzp hr
 cases zp with
 | agg cs =>
  simp only [rel] at hr2
  obtain ⟨vs,he,_,hl⟩:=hr2
  simp only [Value.agg.injEq] at he
  subst he
  simpa [PV.cells] using hl
 | _ =>
  exfalso
  unfold packTV at hzp
  split at hzp <;> simp only [toPV,Option.some.injEq,reduceCtorEq] at hzp
  split at hzp <;> simp at hzp
theorem clear_ok {c:Call} {x:TV} {t:TypeId} {ts:List TypeId} (hT:TOk P T) (ho:o.op=.call c) (hc:c.callee=.builtin .clear) (hx:ZRa (c.args.toList.map ev)=some [x]) (ht:c.argTypes.toList=t :: ts)
  (h:clearK T look t x ret4=some (v,up,nw,rd)):OpOk P look nx ev o v up nw:=by
 obtain ⟨X,hX,hevX⟩:=list_one hx
 have hX':=arr_one hX
 have ht':c.argTypes[0]? = some t:=by rw [← Array.getElem?_toList,ht]; rfl
 have hexec:∀ (a:Act) (w w':World) (r:Value),(∀ ty,(Builtin.clear_ c.argTypes ty #[a.eval X]).run P w=.ok r w')→(execOp a.eval o).run P w=.ok (.value r) w':=by
  intro a w w' r hr
  simp [execOp,ho,resolve,hc,hX',invoke,builtin,hr]
 unfold clearK at h
 split at h
 ·rename_i sz by' e z hi
  have hu:=(hT t _ hi).desc
  simp only [ZPa] at hu
  split at h
  ·rename_i i hie
   have hty:=hT e i hie
   obtain ⟨zv,hz1,hz2,hz5,hzd,f,hf1,hf2,hf3,hf4⟩:=run_zeroValue hty
   have hpos:=hty.pos
   split at h
   ·rename_i zp hzp
    split at h
    ·rename_i id off len cp
     split at h
     ·rename_i es sz hl
      split at h
      ·rename_i hsz
       obtain ⟨rfl,hzl⟩:=hsz
       obtain ⟨rfl,rfl,rfl,rfl⟩:=Zua h
       intro a w S π hev hob hf K Q hK
       have hv:=hev X _ hevX
       simp only [relTV] at hv
       obtain ⟨pl,hp,hk⟩:=hob.ok id _ hl
       obtain ⟨hz3,hz4⟩:=zsOk_rel (w:=w) (S:=S) (π:=π) hz2
       have hzrel:=zero_cells hzp hz3 hz4
       rcases hv with ⟨hp',he,rfl,rfl⟩ | ⟨b,s,c',z',l,A,cv,hp',he,k1,k2,k3,k4,k5⟩
       ·-- nil
        rw [hp'] at hp; cases hp
        simp only [obOk] at hk
        subst hk
        unfold Oper.wp
        rw [hexec a w w (.tuple #[]) (fun ty=>by rw [he]; simp [Builtin.clear_,ht',run_underlying hu])]
        refine hK _ w S π ⟨by simp only [relTV],?_,Ext.refl _,fun id h=>.inl h,?_⟩
        ·have:upd look [(id,.row [] i.size)] nx []=look:=by
          funext j
          simp only [upd,ZDa,List.length_nil,Nat.add_zero]
          by_cases e:id=j
          ·subst e; rw [if_pos rfl,hl]
          ·rw [if_neg e]; simp only; rw [if_neg (by omega)]
         simpa [this] using hob
        ·have:upd look [(id,.row [] i.size)] nx []=look:=by
          funext j
          simp only [upd,ZDa,List.length_nil,Nat.add_zero]
          by_cases e:id=j
          ·subst e; rw [if_pos rfl,hl]
          ·rw [if_neg e]; simp only; rw [if_neg (by omega)]
         simpa [this] using Step.refl w S (owned look π)
       ·rw [hp'] at hp; cases hp
        simp only [obOk] at hk
        obtain ⟨rfl,rfl,h2,h3,C,t',fr,hg,hfz,h1,hsz',hr⟩:=hk
        have hw:∃ w' C',(∀ ty,(Builtin.clear_ c.argTypes ty #[a.eval X]).run P w=.ok (.tuple #[]) w')∧Upd w b (.cells C' t' fr) w'∧C'.size=C.size ∧
          C'.toList=C.toList.take (s + off * i.size) ++ (Builtin.zeroCells zv.cells len).toList ++ C.toList.drop (s + off * i.size + len * i.size):=by
         have hzs:(Builtin.zeroCells zv.cells len).size=len * i.size:=by simp [Builtin.zeroCells,hz1]
         by_cases hl0:len=0
         ·subst hl0
          refine ⟨w,C,fun ty=>by rw [he]; simp [Builtin.clear_,ht',run_underlying hu],⟨rfl,rfl,rfl,rfl,fun _ _=>rfl,hg⟩,rfl,?_⟩
          have:(Builtin.zeroCells zv.cells 0).toList=[]:=List.eq_nil_of_length_eq_zero (by rw [Array.length_toList,hzs,Nat.zero_mul])
          rw [this]
          simp
         ·have hA:A=⟨b,s + off * i.size,none⟩:=by
           rcases k2 with k2 | k2
           ·omega
           ·exact k2
          subst hA
          have hin:s + off * i.size + len * i.size≤C.size:=by
           have h5:=hsz' (by omega)
           have:(off + len) * i.size≤c' * i.size:=Nat.mul_le_mul_right _ (by omega)
           rw [Nat.add_mul] at this
           omega
          obtain ⟨w',C',g1,g2,g3,g4⟩:=run_storeCells_blk (P:=P) (o:=s + off * i.size) (Builtin.zeroCells zv.cells len).toList 0 C w hg hfz (by rw [Array.length_toList,hzs]; omega) (zeroCells_one hz4 (by rw [hz1]; exact hpos))
          refine ⟨w',C',fun ty=>?_,g2,g3,?_⟩
          ·rw [he]
           cases len with
           | zero=>exact absurd rfl hl0
           | succ len=>simp [Builtin.clear_,ht',run_underlying hu,hz5,g1]
          ·rw [g4,Array.length_toList,hzs]; rfl
        obtain ⟨w',C',g1,g2,g3,g4⟩:=hw
        have hzs:(Builtin.zeroCells zv.cells len).toList.length=len * i.size:=by simp [Builtin.zeroCells,hz1]
        have hin:s + off * i.size + len * i.size≤C.size∨(off=0∧len=0∧es.length=0):=by
         by_cases h0:c'=0
         ·exact .inr (by omega)
         ·have h5:=hsz' h0
          have:(off + len) * i.size≤c' * i.size:=Nat.mul_le_mul_right _ (by omega)
          rw [Nat.add_mul] at this
          exact .inl (by omega)
        obtain ⟨q1,q2⟩:=obs_turn (nx:=nx) (ob':=.row (es.take off ++ List.replicate len zp.cells ++ es.drop (off + len)) i.size) hob hl rfl rfl hp' g2 (fun hkeep=>by
         simp only [obOk]
         refine ⟨?_,trivial,h2,h3,C',t',fr,g2.here,unfrozen_size hfz g3,?_,fun h0=>by rw [g3]; exact hsz' h0,?_⟩
         ·simp only [List.length_append,List.length_take,List.length_replicate,List.length_drop]; omega
         ·intro u hu'
          rw [g4] at hu'
          simp only [List.mem_append] at hu'
          rcases hu' with (hu' | hu') | hu'
          ·exact h1 u (List.mem_of_mem_take hu')
          ·exact zeroCells_one hz4 (by rw [hz1]; exact hpos) u hu'
          ·exact h1 u (List.mem_of_mem_drop hu')
         ·rcases hin with hin | ⟨rfl,rfl,h0⟩
          ·have hget:∀ q,C'[q]? = if q < s + off * i.size then C[q]? else if q < s + off * i.size + len * i.size then (Builtin.zeroCells zv.cells len).toList[q - (s + off * i.size)]? else C[q]?:=by
            intro q
            rw [← Array.getElem?_toList,g4,List.append_assoc,List.getElem?_append,List.getElem?_append]
            simp only [List.length_take,Array.length_toList,Nat.min_eq_left (show s + off * i.size≤C.size by omega)]
            split
            ·rename_i hq1
             rw [List.getElem?_take,if_pos hq1]; simp
            ·rename_i hq1
             have hzs':(Builtin.zeroCells zv.cells len).size=len * i.size:=by rw [← Array.length_toList]; exact hzs
             rw [hzs']
             by_cases hq2:q < s + off * i.size + len * i.size
             ·rw [if_pos (by omega),if_pos hq2]
             ·rw [if_neg (by omega),if_neg hq2,List.getElem?_drop]
              rw [show s + off * i.size + len * i.size + (q - (s + off * i.size) - len * i.size)=q by omega]
              simp
           have hcell:∀ q,w'.cell? ⟨b,q,none⟩=C'[q]?:=fun q=>cell_of_row w' b q C' t' fr g2.here
           have hcell0:∀ q,w.cell? ⟨b,q,none⟩=C[q]?:=fun q=>cell_of_row w b q C t' fr hg
           refine relEs_of fun k e' he'=>?_
           rw [List.append_assoc,List.getElem?_append,List.getElem?_append] at he'
           simp only [List.length_take,List.length_replicate] at he'
           have hmin:min off es.length=off:=by omega
           rw [hmin] at he'
           have old:∀ k',es[k']? = some e'→(k' < off∨off + len≤k')→e'.length=i.size∧relCs w' S b (s + k' * i.size) e':=by
            intro k' hk' hout
            obtain ⟨m1,m2⟩:=relEs_get hr hk'
            refine ⟨m1,relCs_of fun j p hp=>?_⟩
            obtain ⟨u,n1,n2,n3⟩:=relCs_get m2 hp
            have hj:j < i.size:=by have:=(List.getElem?_eq_some_iff.1 hp).1; omega
            refine ⟨u,?_,n2,rel_keep hkeep _ _ n3⟩
            rw [hcell,hget]
            rw [hcell0] at n1
            rcases hout with hout | hout
            ·have:(k' + 1) * i.size≤off * i.size:=Nat.mul_le_mul_right _ (by omega)
             rw [Nat.add_mul] at this
             rw [if_pos (by omega)]
             exact n1
            ·have:(off + len) * i.size≤k' * i.size:=Nat.mul_le_mul_right _ hout
             rw [Nat.add_mul] at this
             rw [if_neg (by omega),if_neg (by omega)]
             exact n1
           split at he'
           ·rename_i hk
            rw [List.getElem?_take,if_pos hk] at he'
            exact old k he' (.inl hk)
           ·rename_i hk
            split at he'
            ·rename_i hk2
             rw [List.getElem?_replicate,if_pos hk2] at he'
             cases he'
             refine ⟨hzl.symm,relCs_of fun j p hp=>?_⟩
             obtain ⟨u,m1,m2⟩:=relL_get (relL_keep hkeep _ _ hzrel) hp
             have hj:j < i.size:=by rw [hzl]; exact (List.getElem?_eq_some_iff.1 hp).1
             have e1:(k - off) * i.size + j < len * i.size:=by
              have:(k - off + 1) * i.size≤len * i.size:=Nat.mul_le_mul_right _ (by omega)
              rw [Nat.add_mul] at this
              omega
             have e2:s + k * i.size + j - (s + off * i.size)=(k - off) * i.size + j:=by
              have:k * i.size=(k - off) * i.size + off * i.size:=by rw [← Nat.add_mul]; congr 1; omega
              omega
             have e3:off * i.size≤k * i.size:=Nat.mul_le_mul_right _ (by omega)
             have e4:k * i.size=(k - off) * i.size + off * i.size:=by rw [← Nat.add_mul]; congr 1; omega
             obtain ⟨u',o1,o2⟩:=zeroCells_get (z:=zv.cells) (n:=len) (by rw [hz1]; exact hpos) (by rw [hz1]; exact e1)
             have e5:((k - off) * i.size + j) % i.size=j:=by rw [Nat.mul_comm,Nat.mul_add_mod]; exact Nat.mod_eq_of_lt hj
             rw [hz1,e5,← Array.getElem?_toList,m1] at o2
             cases o2
             refine ⟨u,?_,hz4 u (List.mem_of_getElem? m1),m2⟩
             rw [hcell,hget,if_neg (by omega),if_pos (by omega),e2]
             exact o1
            ·rename_i hk2
             rw [List.getElem?_drop] at he'
             have e1:off + len + (k - off - len)=k:=by omega
             rw [e1] at he'
             exact old k he' (.inr (by omega))
          ·have:es=[]:=List.eq_nil_of_length_eq_zero h0
           subst this
           simp only [List.take_nil,List.replicate_zero,List.drop_nil,List.append_nil,relEs])
        unfold Oper.wp
        rw [hexec a w w' (.tuple #[]) g1]
        exact hK _ w' S π ⟨by simp only [relTV],q1,Ext.refl _,fun id h=>.inl h,q2⟩
      ·cases h
     ·cases h
    ·obtain ⟨rfl,rfl,rfl,rfl⟩:=Zua h
     refine Zta fun a w S π hev hob=>⟨_,hexec a w w (.tuple #[]) fun ty=>?_,by simp only [relTV]⟩
     have hv:=hev X _ hevX
     simp only [relTV] at hv
     rw [hv]
     simp [Builtin.clear_,ht',run_underlying hu]
    ·cases h
   ·cases h
  ·cases h
 ·cases h
theorem makeSlice_ok {t:TypeId} {l c:Operand} {x y:TV} (hT:TOk P T) (ho:o.op=.makeSlice t l c) (hx:ev l=some x) (hy:ev c=some y) (h:makeSliceK T nx t x y ret4=some (v,up,nw,rd)):OpOk P look nx ev o v up nw:=by
 unfold makeSliceK at h
 split at h
 ·rename_i sz by' e z hi
  split at h
  ·rename_i p q i hie
   split at h
   ·rename_i zp hzp
    obtain ⟨m,hm,h'⟩:=Zba h
    obtain ⟨m',hm',h''⟩:=Zba h'
    cases Z1a hm
    cases Z1a hm'
    split at h''
    ·rename_i hle
     obtain ⟨rfl,h0,hb,hsz⟩:=hle
     obtain ⟨rfl,rfl,rfl,rfl⟩:=Zua h''
     have hu:=(hT t _ hi).desc
     simp only [ZPa] at hu
     have hty:=hT e i hie
     obtain ⟨zv,hz1,hz2,_,hzd,f,hf1,hf2,hf3,hf4⟩:=run_zeroValue hty
     have hpos:=hty.pos
     have hposb:=hty.posb
     have hmul:m * 1≤m * i.bytes:=Int.mul_le_mul_of_nonneg_left (by omega) h0
     simp only [Zla] at hb
     have hml:m≤140737488355328:=by omega
     intro a w S π hev hob hf K Q hK
     have hrun:=run_make (P:=P) w t e f zv hu hf1 hf2 .i64 .i64 m m h0 (Int.le_refl _) (by rw [hf4,Int.mul_comm]; omega) (by omega)
     have hg:(w.alloc (.cells (madeCells zv.cells (m.toNat * f.size)) e)).heap[w.heap.size]? = some (.cells (madeCells zv.cells (m.toNat * f.size)) e (0,0)):=by show (w.heap.push _)[w.heap.size]? = _; simp
     obtain ⟨hz3,hz4⟩:=zsOk_rel (w:=w) (S:=S) (π:=π) hz2
     have hzrel:relL w S zp.cells zv.cells.toList:=by
      have hr:=packTV_rel hz3 hz4
      have hr2:=toPV_rel hzp hr
      cases zp with
      | agg cs =>
       simp only [rel] at hr2
       obtain ⟨us,he,_,hl⟩:=hr2
       simp only [Value.agg.injEq] at he
       subst he
       exact hl
      | _ =>
       exfalso
       unfold packTV at hzp
       split at hzp <;> simp only [toPV,Option.some.injEq,reduceCtorEq] at hzp
       split at hzp <;> simp at hzp
     refine put_new (u:=.slice (some ⟨w.heap.size,0,none⟩) m.toNat m.toNat) (w':=w.alloc (.cells (madeCells zv.cells (m.toNat * f.size)) e)) (by simp [execOp,ho,ev_int hx hev,ev_int hy hev,hrun]) hK ?_
     refine row_new hob hf rfl rfl rfl (by show (w.heap.push _).size=_; simp) (fun k hk=>by show (w.heap.push _)[k]? = _; rw [Array.getElem?_push,if_neg (by omega)]) hg (.inl rfl) ?_ (by simp) (Nat.le_refl _) (by rw [size_madeCells,hf3]; exact Nat.le_refl _) (by simp only [maxLen]; omega) fun hkeep=>?_
     ·intro u hu'
      obtain ⟨j,hj⟩:=List.mem_iff_getElem?.1 hu'
      rw [Array.getElem?_toList] at hj
      have hjl:j < m.toNat * f.size:=by
       have:=(Array.getElem?_eq_some_iff.1 hj).1
       rwa [size_madeCells] at this
      obtain ⟨u',k1,k2⟩:=madeCells_get (by rw [hz1]; exact hpos) hjl
      rw [k1] at hj; cases hj
      rw [← Array.getElem?_toList] at k2
      exact hz4 u (List.mem_of_getElem? k2)
     ·refine relEs_of fun k e' he'=>?_
      rw [List.getElem?_replicate] at he'
      split at he'
      ·rename_i hk
       cases he'
       refine ⟨hsz.symm,relCs_of fun j p hp=>?_⟩
       obtain ⟨u,k1,k2⟩:=relL_get (relL_keep hkeep _ _ hzrel) hp
       have hj:j < i.size:=by rw [hsz]; exact (List.getElem?_eq_some_iff.1 hp).1
       have hlt:k * i.size + j < m.toNat * f.size:=by
        rw [hf3]
        calc k * i.size + j < k * i.size + i.size:=by omega
         _=(k + 1) * i.size:=by rw [Nat.add_mul,Nat.one_mul]
         _≤m.toNat * i.size:=Nat.mul_le_mul_right _ hk
       obtain ⟨u',q1,q2⟩:=madeCells_get (z:=zv.cells) (by rw [hz1]; exact hpos) hlt
       have hmod:(k * i.size + j) % zv.cells.size=j:=by rw [hz1,Nat.mul_comm,Nat.mul_add_mod,Nat.mod_eq_of_lt hj]
       rw [hmod,← Array.getElem?_toList,k1] at q2
       cases q2
       refine ⟨u,?_,hz4 u (List.mem_of_getElem? k1),k2⟩
       rw [cell_of_row _ _ _ _ _ _ hg,Nat.zero_add]
       exact q1
      ·cases he'
    ·cases h''
   ·cases h
  ·cases h
 ·cases h
theorem strOf_rel {w:World} {S:Nat→Prop}:∀ {es:List (List PV)} {l:List UInt8} {us:List Value},strOf es=some l→relL w S es.flatten us→∃ ns:List Int,us=ns.map (Value.int .u8)∧l=ns.map fun n=>UInt8.ofNat n.toNat
 | [],l,us,h,hr=>by
  simp only [strOf,Option.some.injEq] at h
  simp only [List.flatten_nil,relL] at hr
  subst h hr
  exact ⟨[],rfl,rfl⟩
 | e :: es,l,us,h,hr=>by
  match e,h with
  | [.int .u8 n],h =>
   simp only [strOf] at h
   obtain ⟨l',hl',h'⟩:=Zba h
   simp only [Option.some.injEq] at h'
   subst h'
   simp only [List.flatten_cons,List.singleton_append,relL,rel] at hr
   obtain ⟨u,us',rfl,rfl,h2⟩:=hr
   obtain ⟨ns,rfl,rfl⟩:=strOf_rel hl' h2
   exact ⟨n :: ns,rfl,rfl⟩
theorem foldl_push_list:∀ (ns:List Int)(r:ByteArray),ns.foldl (fun r n=>r.push (UInt8.ofNat n.toNat)) r=⟨r.data ++ (ns.map fun n=>UInt8.ofNat n.toNat).toArray⟩
 | [],r=>by simp
 | n :: ns,r=>by
  simp only [List.foldl_cons]
  rw [foldl_push_list ns]
  simp [ByteArray.push]
theorem convert_ok {src dst:TypeId} {X:Operand} {x:TV} (hT:TOk P T) (ho:o.op=.convert src dst X) (hx:ev X=some x) (h:convertK T look nx src dst x ret4=some (v,up,nw,rd)):OpOk P look nx ev o v up nw:=by
 have hexec:∀ (a:Act) (w w':World) (r:Value),(convert src dst (a.eval X)).run P w=.ok r w'→(execOp a.eval o).run P w=.ok (.value r) w':=by
  intro a w w' r hr
  simp [execOp,ho,hr]
 unfold convertK at h
 split at h
 ·rename_i i1 i2 i3 i4 i5 i6 i7 i8 hs hd
  have us:=(hT src _ hs).desc
  have ud:=(hT dst _ hd).desc
  simp only [ZPa] at us ud
  split at h
  ·rename_i p
   obtain ⟨n,hn,h'⟩:=Zba h
   cases Z1a hn
   obtain ⟨rfl,rfl,rfl,rfl⟩:=Zua h'
   refine Zta fun a w S π hev hob=>⟨_,hexec a w w _ ?_,by simp only [relTV,rel]; rfl⟩
   rw [ev_int hx hev]
   simp [convert,run_underlying us,run_underlying ud,Conv.intToInt]
  ·cases h
 ·rename_i i1 i2 i3 i4 i5 i6 hs hd
  have us:=(hT src _ hs).desc
  have ud:=(hT dst _ hd).desc
  simp only [ZPa] at us ud
  split at h
  ·rename_i p
   obtain ⟨n,hn,h'⟩:=Zba h
   cases asS_inv hn
   obtain ⟨rfl,rfl,rfl,rfl⟩:=Zua h'
   refine Zta fun a w S π hev hob=>⟨_,hexec a w w _ ?_,by simp only [relTV,rel]; rfl⟩
   rw [ev_str hx hev]
   simp [convert,run_underlying us,run_underlying ud]
  ·cases h
 ·rename_i i1 i2 e i3 i4 i5 i6 hs hd
  have us:=(hT src _ hs).desc
  have ud:=(hT dst _ hd).desc
  simp only [ZPa] at us ud
  split at h
  ·rename_i z he
   have ue:=(hT e _ he).desc
   simp only [ZPa] at ue
   obtain ⟨ms,rd0,h',hel⟩:=elems_ok h
   obtain ⟨l,hl,h''⟩:=Zba h'
   obtain ⟨rfl,rfl,rfl,rfl⟩:=Zua h''
   refine Zta fun a w S π hev hob=>⟨_,hexec a w w _ ?_,by simp only [relTV,rel]; rfl⟩
   obtain ⟨h1,h2⟩:=hel w S π _ (hev X _ hx) hob
   rcases h2 with ⟨⟨A,he⟩,rfl⟩ | ⟨ad,cap,vs,he,h3,h4,h5,h6⟩
   ·simp only [strOf,Option.some.injEq] at hl
    subst hl
    rw [he]
    cases A with
    | none =>
     simp [convert,run_underlying us,run_underlying ud,run_underlying ue,Conv.bytesToString]
     rfl
    | some ad =>
     have hlc:=run_loadCells_list (P:=P) w ad ([].map (Value.int .u8)) (by simp)
     have hrun:=run_bytesToString (P:=P) w ad 0 0 [] (by simpa using hlc)
     simp [convert,run_underlying us,run_underlying ud,run_underlying ue,hrun]
     rfl
   ·obtain ⟨ns,rfl,rfl⟩:=strOf_rel hl h6
    have hlc:=run_loadCells_list (P:=P) w ad (ns.map (Value.int .u8)) h4
    have hrun:=run_bytesToString (P:=P) w ad ms.length cap ns (by rw [← hlc]; congr 2; rw [h3,Nat.mul_one])
    rw [he]
    simp [convert,run_underlying us,run_underlying ud,run_underlying ue,hrun,foldl_push_list]
  ·cases h
 ·cases h
end
end Go.Proofs.YtgpjfmihogaooaaGreatDoorV
namespace Go.Proofs.YtgpjfmihogaooaaGreatDoorV
open Go Go.RowKit
section
variable {P:Program} {T:TypeId→Option TI} {look:Nat→Option Ob} {nx:Nat} {ev:Operand→Option TV} {o:Oper} {v:TV} {up:List (Nat × Ob)} {nw:List Ob} {rd:List Nat}
theorem toList_beq (a b:ByteArray):(a.toList == b.toList)=(a == b):=(beq_toListBytes a b).symm
theorem eqvT_now {t:TypeId} {p q:PV} {b:Bool} (hT:TOk P T) (h:eqvT T t p q=some b) {w:World} {S:Nat→Prop} {u u':Value} (hp:rel w S p u) (hq:rel w S q u') :
  ∃ d,P.underlying t=some d∧Instr.sameNow d u u'=some b∧(b=true→Instr.sameBits 10000 u' u=true):=by
 unfold eqvT at h
 split at h
 ·rename_i hi
  obtain ⟨a,ha,h'⟩:=Zba h
  obtain ⟨a',ha',h''⟩:=Zba h'
  cases Z1a ha
  cases Z1a ha'
  simp only [Option.some.injEq] at h''
  subst h''
  simp only [rel] at hp hq
  subst hp hq
  have:=(hT t _ hi).desc
  simp only [ZPa] at this
  refine ⟨_,this,by simp [Instr.sameNow],fun hb=>?_⟩
  simp only [beq_iff_eq] at hb
  subst hb
  simp [Instr.sameBits]
 ·rename_i hi
  obtain ⟨a,ha,h'⟩:=Zba h
  obtain ⟨a',ha',h''⟩:=Zba h'
  cases asB_inv ha
  cases asB_inv ha'
  simp only [Option.some.injEq] at h''
  subst h''
  simp only [rel] at hp hq
  subst hp hq
  have:=(hT t _ hi).desc
  simp only [ZPa] at this
  refine ⟨_,this,by simp [Instr.sameNow],fun hb=>?_⟩
  simp only [beq_iff_eq] at hb
  subst hb
  simp [Instr.sameBits]
 ·rename_i hi
  obtain ⟨a,ha,h'⟩:=Zba h
  obtain ⟨a',ha',h''⟩:=Zba h'
  cases asS_inv ha
  cases asS_inv ha'
  simp only [Option.some.injEq] at h''
  subst h''
  simp only [rel] at hp hq
  subst hp hq
  have:=(hT t _ hi).desc
  simp only [ZPa] at this
  refine ⟨_,this,by rw [toList_beq]; simp [Instr.sameNow],fun hb=>?_⟩
  have hb:=eq_of_beq hb
  simp only [Instr.sameBits,beq_toListBytes,hb,beq_self_eq_true]
 ·cases h
theorem run_checkKey {t:TypeId} (h:plainD P t) (e:Bool) (n:Nat) (u:Value) (w:World):(Instr.checkKey e (n + 1) t u).run P w=.ok () w:=by
 rcases h with h | ⟨k,h⟩ | h <;> simp [Instr.checkKey,run_underlying h]
theorem find_ok {w:World} {S:Nat→Prop} {kt:TypeId} {d:TypeDesc} {key:PV} {u:Value} (hT:TOk P T) (hd:P.underlying kt=some d) (hu:rel w S key u):∀ (kvs:List (PV × PV)) (es:List MapEntry) (r:Option PV) (i:Nat),
  mget T kt key kvs=some r→relKV w S kvs es→(r=none∧Instr.findNow d u es i=some none)∨∃ x j z,r=some x∧Instr.findNow d u es i=some (some (j,z))∧rel w S x z
 | [],es,r,i,h,hr=>by
  simp only [mget,Option.some.injEq] at h
  simp only [relKV_nil] at hr
  subst h hr
  exact .inl ⟨rfl,rfl⟩
 | kv :: kvs,es,r,i,h,hr=>by
  simp only [mget] at h
  obtain ⟨b,hb,h'⟩:=Zba h
  simp only [relKV_cons] at hr
  obtain ⟨e,es',rfl,hk,hv,hr'⟩:=hr
  obtain ⟨d',hd',hs,_⟩:=eqvT_now hT hb hu hk
  rw [hd] at hd'; cases hd'
  cases b with
  | true =>
   simp only [if_true,Option.some.injEq] at h'
   subst h'
   exact .inr ⟨_,i,e.val,rfl,by simp [Instr.findNow,hs],hv⟩
  | false =>
   simp only [Bool.false_eq_true,if_false] at h'
   rcases find_ok hT hd hu kvs es' r (i + 1) h' hr' with ⟨h1,h2⟩ | ⟨x,j,z,h1,h2,h3⟩
   ·exact .inl ⟨h1,by simp [Instr.findNow,hs,h2]⟩
   ·exact .inr ⟨x,j,z,h1,by simp [Instr.findNow,hs,h2],h3⟩
theorem lookup_ok {t : TypeId} {X I : Operand} {x i : TV} {ok : Bool} (hT : TOk P T) (ho : o.op = .lookup t X I ok) (hx : ev X = some x) (hy : ev I = some i) (h : lookupK T look t x i ok ret4 = some (v, up, nw, rd)) : OpOk P look nx ev o v up nw := by
  unfold lookupK at h
  split at h
  · rename_i sz by' kt et z hi
    have hu := (hT t _ hi).desc
    simp only [ZPa] at hu
    split at h
    · rename_i hpl
      simp only [Bool.and_eq_true] at hpl
      obtain ⟨hk1, ik, hik, hikd⟩ := plainT_ok hT hpl.1
      obtain ⟨he1, ie, hie, hied⟩ := plainT_ok hT hpl.2
      obtain ⟨dk, hdk⟩ : ∃ d, P.underlying kt = some d := by
        rcases hk1 with h | ⟨k, h⟩ | h <;> exact ⟨_, h⟩
      have hzero : ∀ (z0 : PV), (match T et with | some ⟨_, _, _, [.val z]⟩ => some z | _ => none) = some z0 → ∀ (w : World) (S : Nat → Prop), ∃ zv, (∀ w', (zeroValue et).run P w' = .ok zv w') ∧ rel w S z0 zv := by
            intro z0 hz0 w S
            have hty := hT et ie hie
            obtain ⟨zv, hz1, hz2, hz3, hz4, _⟩ := run_zeroValue hty
            refine ⟨zv, hz3, ?_⟩
            rw [hie] at hz0
            split at hz0
            · rename_i heq
              simp only [Option.some.injEq] at heq hz0
              subst hz0 heq
              rw [hz4 hied] at hz2
              simp only [zsOk] at hz2
              obtain ⟨u, us', hu', hzo, _⟩ := hz2
              simp only [List.cons.injEq] at hu'
              have := (zOk_rel (w := w) (S := S) (π := fun _ => none) hzo).1
              rw [← hu'.1] at this
              simpa only [relTV] using this
            · cases hz0
      have main : ∀ (z0 : PV) (kvs : List (PV × PV)) (r : Option PV) (a : Act) (w : World) (S : Nat → Prop) (key : PV), (match T et with | some ⟨_, _, _, [.val z]⟩ => some z | _ => none) = some z0 → mget T kt key kvs = some r → rel w S key (a.eval I) →
          ((a.eval X = .map none ∧ kvs = []) ∨ ∃ b es clock, a.eval X = .map (some b) ∧ w.heap[b]? = some (.map es clock) ∧ relKV w S kvs es.toList) →
          ∃ uv, (execOp a.eval o).run P w = .ok (.value (if ok then .tuple #[uv, .bool r.isSome] else uv)) w ∧ rel w S (r.getD z0) uv := by
        intro z0 kvs r a w S key hz0 hr hkr hmap
        obtain ⟨zv, hz1, hz2⟩ := hzero z0 hz0 w S
        rcases hmap with ⟨he, rfl⟩ | ⟨b, es, clock, he, hg, hkv⟩
        · simp only [mget, Option.some.injEq] at hr
          subst hr
          have hck : (Instr.checkKey true 10000 kt (a.eval I)).run P w = .ok () w := run_checkKey hk1 _ 9999 _ w
          refine ⟨zv, ?_, hz2⟩
          cases ok <;> simp [execOp, ho, Instr.lookup, run_underlying hu, he, hck, Instr.findKey, run_underlying hdk, Instr.findNow, hz1]
        · have hck : (Instr.checkKey es.isEmpty 10000 kt (a.eval I)).run P w = .ok () w := run_checkKey hk1 _ 9999 _ w
          rcases find_ok hT hdk hkr kvs es.toList r 0 hr hkv with ⟨rfl, hf⟩ | ⟨y, j, zz, rfl, hf, hzr⟩
          · refine ⟨zv, ?_, hz2⟩
            cases ok <;> simp [execOp, ho, Instr.lookup, run_underlying hu, he, run_getObj_at hg rfl, hck, Instr.findKey, run_underlying hdk, hf, hz1]
          · refine ⟨zz, ?_, hzr⟩
            cases ok <;> simp [execOp, ho, Instr.lookup, run_underlying hu, he, run_getObj_at hg rfl, hck, Instr.findKey, run_underlying hdk, hf]
      split at h
      · rename_i id key z0 hz0
        split at h
        · rename_i kvs hl
          obtain ⟨r, hr, h'⟩ := Zba h
          have main : ∀ (a : Act) (w : World) (S : Nat → Prop) (π : Nat → Option Pl), evOk ev a w S π → ObsOk w S π look →
              ∃ uv, (execOp a.eval o).run P w = .ok (.value (if ok then .tuple #[uv, .bool r.isSome] else uv)) w ∧ rel w S (r.getD z0) uv := by
            intro a w S π hev hob
            have hv := hev X _ hx
            simp only [relTV] at hv
            obtain ⟨b, s, c', z', l', hp, he⟩ := hv
            have hkr := hev I _ hy
            simp only [relTV] at hkr
            obtain ⟨pl, hp', hk⟩ := hob.ok id _ hl
            rw [hp] at hp'; cases hp'
            simp only [obOk] at hk
            obtain ⟨es, clock, hg, _, hkv⟩ := hk
            exact main z0 kvs r a w S key hz0 hr hkr (.inr ⟨b, es, clock, he, hg, hkv⟩)
          split at h'
          · obtain ⟨rfl, rfl, rfl, rfl⟩ := Zua h'
            refine Zta fun a w S π hev hob => ?_
            obtain ⟨uv, h1, h2⟩ := main a w S π hev hob
            refine ⟨_, h1, ?_⟩
            simp only [if_true, relTV, relTVs]
            exact ⟨_, rfl, _, _, rfl, h2, _, _, rfl, by simp only [rel], rfl⟩
          · obtain ⟨rfl, rfl, rfl, rfl⟩ := Zua h'
            refine Zta fun a w S π hev hob => ?_
            obtain ⟨uv, h1, h2⟩ := main a w S π hev hob
            exact ⟨_, h1, by simpa only [Bool.false_eq_true, if_false, relTV] using h2⟩
        · cases h
      · rename_i p key z0 hz0
        obtain ⟨kvs, hm, h⟩ := Zba h
        · obtain ⟨r, hr, h'⟩ := Zba h
          have main : ∀ (a : Act) (w : World) (S : Nat → Prop) (π : Nat → Option Pl), evOk ev a w S π → ObsOk w S π look →
              ∃ uv, (execOp a.eval o).run P w = .ok (.value (if ok then .tuple #[uv, .bool r.isSome] else uv)) w ∧ rel w S (r.getD z0) uv := by
            intro a w S π hev hob
            have hv := hev X _ hx
            simp only [relTV] at hv
            have hkr := hev I _ hy
            simp only [relTV] at hkr
            refine main z0 kvs r a w S key hz0 hr hkr ?_
            rcases asMp_inv hm hv with h1 | ⟨b, e, _, ms, clock, hg, _, hkv⟩
            · exact .inl h1
            · exact .inr ⟨b, ms, clock, e, hg, hkv⟩
          split at h'
          · obtain ⟨rfl, rfl, rfl, rfl⟩ := Zua h'
            refine Zta fun a w S π hev hob => ?_
            obtain ⟨uv, h1, h2⟩ := main a w S π hev hob
            refine ⟨_, h1, ?_⟩
            simp only [if_true, relTV, relTVs]
            exact ⟨_, rfl, _, _, rfl, h2, _, _, rfl, by simp only [rel], rfl⟩
          · obtain ⟨rfl, rfl, rfl, rfl⟩ := Zua h'
            refine Zta fun a w S π hev hob => ?_
            obtain ⟨uv, h1, h2⟩ := main a w S π hev hob
            exact ⟨_, h1, by simpa only [Bool.false_eq_true, if_false, relTV] using h2⟩
      · cases h
    · cases h
  · cases h
theorem mset_ok {w:World} {S:Nat→Prop} {kt:TypeId} {d:TypeDesc} {key x:PV} {u z:Value} {clock:Nat} (hT:TOk P T) (hd:P.underlying kt=some d) (hu:rel w S key u) (hz:rel w S x z):∀ (kvs kvs':List (PV × PV)) (es:List MapEntry) (i:Nat),
  mset T kt key x kvs=some kvs'→relKV w S kvs es→(Instr.findNow d u es i=some none∧relKV w S kvs' (es ++ [{ key:=u,val:=z,born:=clock }])) ∨
   ∃ j e,Instr.findNow d u es i=some (some (i + j,e.val))∧es[j]? = some e∧Instr.sameBits 10000 e.key u=true∧∀ e',e'.key=u→e'.val=z→relKV w S kvs' (es.set j e')
 | [],kvs',es,i,h,hr=>by
  simp only [mset,Option.some.injEq] at h
  simp only [relKV_nil] at hr
  subst h hr
  exact .inl ⟨rfl,by simp only [List.nil_append,relKV_cons,relKV_nil]; exact ⟨_,_,rfl,hu,hz,rfl⟩⟩
 | kv :: kvs,kvs',es,i,h,hr=>by
  simp only [mset] at h
  obtain ⟨b,hb,h'⟩:=Zba h
  simp only [relKV_cons] at hr
  obtain ⟨e,es',rfl,hk,hv,hr'⟩:=hr
  obtain ⟨d',hd',hs,hsb⟩:=eqvT_now hT hb hu hk
  rw [hd] at hd'; cases hd'
  cases b with
  | true =>
   simp only [if_true,Option.some.injEq] at h'
   subst h'
   refine .inr ⟨0,e,by simp [Instr.findNow,hs],rfl,hsb rfl,fun e' h1 h2=>?_⟩
   simp only [List.set_cons_zero,relKV_cons]
   exact ⟨_,_,rfl,by rw [h1]; exact hu,by rw [h2]; exact hz,hr'⟩
  | false =>
   simp only [Bool.false_eq_true,if_false] at h'
   obtain ⟨r,hr1,hr2⟩:=Zba h'
   simp only [Option.some.injEq] at hr2
   subst hr2
   rcases mset_ok (clock:=clock) hT hd hu hz kvs r es' (i + 1) hr1 hr' with ⟨h1,h2⟩ | ⟨j,e0,h1,h2,h3,h4⟩
   ·exact .inl ⟨by simp [Instr.findNow,hs,h1],by simp only [List.cons_append,relKV_cons]; exact ⟨_,_,rfl,hk,hv,h2⟩⟩
   ·refine .inr ⟨j + 1,e0,by simp only [Instr.findNow,hs,h1]; congr 3; omega,by simpa using h2,h3,fun e' q1 q2=>?_⟩
    simp only [List.set_cons_succ,relKV_cons]
    exact ⟨_,_,rfl,hk,hv,h4 e' q1 q2⟩
theorem stamps_push {es:Array MapEntry} {clock:Nat} (h:stamps es clock) {u z:Value}:stamps (es.push { key:=u,val:=z,born:=clock }) (clock + 1):=by
 obtain ⟨h1,h2⟩:=h
 refine ⟨fun e he=>?_,?_⟩
 ·simp only [Array.toList_push,List.mem_append,List.mem_singleton] at he
  rcases he with he | rfl
  ·have:=h1 e he; omega
  ·simp
 ·simp only [Array.toList_push,List.pairwise_append,List.pairwise_cons,List.not_mem_nil,false_implies,implies_true,List.Pairwise.nil,and_self,true_and,List.mem_singleton]
  refine ⟨h2,fun e he e' he'=>?_⟩
  subst he'
  have:=h1 e he
  simp only
  omega
theorem stamps_modify {es:Array MapEntry} {clock:Nat} (h:stamps es clock) {j:Nat} {f:MapEntry→MapEntry} (hf:∀ e,(f e).born=e.born):stamps (es.modify j f) clock:=by
 obtain ⟨h1,h2⟩:=h
 have hget:∀ (k:Nat)(e:MapEntry),(es.modify j f).toList[k]? = some e→∃ e',es.toList[k]? = some e'∧e'.born=e.born:=by
  intro k e he
  rw [Array.getElem?_toList,Array.getElem?_modify] at he
  split at he
  ·cases hk:es[k]? with
   | none=>rw [hk] at he; cases he
   | some x =>
    rw [hk] at he
    simp only [Option.map_some,Option.some.injEq] at he
    exact ⟨x,by rw [Array.getElem?_toList,hk],by rw [← he,hf]⟩
  ·exact ⟨e,by rw [Array.getElem?_toList,he],rfl⟩
 refine ⟨fun e he=>?_,?_⟩
 ·obtain ⟨k,hk⟩:=List.mem_iff_getElem?.1 he
  obtain ⟨e',h3,h4⟩:=hget k e hk
  rw [← h4]
  exact h1 e' (List.mem_of_getElem? h3)
 ·rw [List.pairwise_iff_getElem]
  intro a b ha hb hab
  obtain ⟨x,hx1,hx2⟩:=hget a _ (List.getElem?_eq_getElem ha)
  obtain ⟨y,hy1,hy2⟩:=hget b _ (List.getElem?_eq_getElem hb)
  rw [← hx2,← hy2]
  obtain ⟨ha',e1⟩:=List.getElem?_eq_some_iff.1 hx1
  obtain ⟨hb',e2⟩:=List.getElem?_eq_some_iff.1 hy1
  rw [← e1,← e2]
  exact (List.pairwise_iff_getElem.1 h2) a b ha' hb' hab
theorem mapUpdate_ok {t:TypeId} {M I X:Operand} {m i x:TV} (hT:TOk P T) (ho:o.op=.mapUpdate t M I X) (hm:ev M=some m) (hi:ev I=some i) (hx:ev X=some x) (h:mapUpdateK T look t m i x ret4=some (v,up,nw,rd)):OpOk P look nx ev o v up nw:=by
 unfold mapUpdateK at h
 split at h
 ·rename_i sz by' kt et z hti
  have hu:=(hT t _ hti).desc
  simp only [ZPa] at hu
  split at h
  ·rename_i hpl
   simp only [Bool.and_eq_true] at hpl
   obtain ⟨hk1,ik,hik,hikd⟩:=plainT_ok hT hpl.1
   split at h
   ·rename_i id key val
    split at h
    ·rename_i kvs hl
     obtain ⟨r,hr,h'⟩:=Zba h
     obtain ⟨rfl,rfl,rfl,rfl⟩:=Zua h'
     obtain ⟨dk,hdk⟩:∃ d,P.underlying kt=some d:=by
      rcases hk1 with h | ⟨k,h⟩ | h <;> exact ⟨_,h⟩
     intro a w S π hev hob hf K Q hK
     have hv:=hev M _ hm
     simp only [relTV] at hv
     obtain ⟨b,s,c',z',l',hp,he⟩:=hv
     have hkr:=hev I _ hi
     simp only [relTV] at hkr
     have hxr:=hev X _ hx
     simp only [relTV] at hxr
     obtain ⟨pl,hp',hk⟩:=hob.ok id _ hl
     rw [hp] at hp'; cases hp'
     simp only [obOk] at hk
     obtain ⟨es,clock,hg,hst,hkv⟩:=hk
     have hck:(Instr.checkKey false 10000 kt (a.eval I)).run P w=.ok () w:=run_checkKey hk1 _ 9999 _ w
     have fin:∀ (es':Array MapEntry) (clock':Nat) (w':World),Upd w b (.map es' clock') w'→stamps es' clock'→relKV w S r es'.toList→(execOp a.eval o).run P w=.ok .skip w'→o.wp P a w K Q:=by
      intro es' clock' w' hupd hst' hrel hrun
      obtain ⟨h1,h2⟩:=obs_turn (nx:=nx) (ob':=.map r) hob hl rfl rfl hp hupd (fun hkeep=>by simp only [obOk]; exact ⟨es',clock',hupd.here,hst',relKV_keep hkeep _ _ hrel⟩)
      unfold Oper.wp
      rw [hrun]
      refine hK (.tuple #[]) w' S π ⟨by simp only [relTV],h1,Ext.refl _,fun id h=>.inl h,h2⟩
     rcases mset_ok (clock:=clock) hT hdk hkr hxr kvs r es.toList 0 hr hkv with ⟨h1,h2⟩ | ⟨j,e,h1,h2,h3,h4⟩
     ·obtain ⟨w',hw1,hw2⟩:=run_setObj_at (P:=P) (y:=.map (es.push { key:=a.eval I,val:=a.eval X,born:=clock }) (clock + 1)) hg rfl
      refine fin _ _ w' hw2 (stamps_push hst) (by simpa using h2) ?_
      simp [execOp,ho,Instr.mapUpdate,run_underlying hu,he,run_getObj_at hg rfl,hck,Instr.findKey,run_underlying hdk,h1,hw1]
     ·rw [Array.getElem?_toList] at h2
      obtain ⟨w',hw1,hw2⟩:=run_setObj_at (P:=P) (y:=.map (es.modify j fun e=>{ e with key:=a.eval I,val:=a.eval X }) clock) hg rfl
      refine fin _ _ w' hw2 (stamps_modify hst (fun _=>rfl)) ?_ ?_
      ·have hj:j < es.size:=(Array.getElem?_eq_some_iff.1 h2).1
       have:(es.modify j fun e=>{ e with key:=a.eval I,val:=a.eval X }).toList=es.toList.set j { e with key:=a.eval I,val:=a.eval X }:=by
        apply List.ext_getElem?
        intro k
        rw [Array.getElem?_toList,Array.getElem?_modify,List.getElem?_set,Array.getElem?_toList]
        by_cases hk:j=k
        ·subst hk
         have he:es[j]=e:=(Array.getElem?_eq_some_iff.1 h2).2
         simp [hj,he]
        ·simp [hk]
       rw [this]
       exact h4 _ rfl rfl
      ·simp [execOp,ho,Instr.mapUpdate,run_underlying hu,he,run_getObj_at hg rfl,hck,Instr.findKey,run_underlying hdk,h1,h2,Instr.keyThatStays,h3,hw1]
    ·cases h
   ·cases h
  ·cases h
 ·cases h
end
end Go.Proofs.YtgpjfmihogaooaaGreatDoorV
set_option linter.unusedVariables false
set_option linter.unusedSimpArgs false
namespace Go.Proofs.YtgpjfmihogaooaaGreatDoorV
open Go Go.RowKit
def ownRow (w:World) (S:Nat→Prop) (es:List (List PV)) (sz:Nat) (v:Value) (fp:List Nat):Prop :=
 (v=.slice none 0 0∧es=[]∧fp=[])∨∃ b s c a C t fr,v=.slice (some a) es.length c∧(c=0∨a=⟨b,s,none⟩)∧fp=[b]∧es.length≤c∧c≤maxLen ∧
  w.heap[b]? = some (.cells C t fr)∧unfrozen C fr∧oneCells C∧(c≠0→s + c * sz≤C.size)∧relEs w S b s sz es
mutual
def ownS (w:World) (S:Nat→Prop):Shp→PV→Value→List Nat→Prop
 | .d,p,v,fp=>fp=[]∧rel w S p v
 | .s,p,v,fp=>∃ es sz,p=.os es sz∧ownRow w S es sz v fp
 | .o shs,p,v,fp=>∃ cs b C t fr fp',p=.obj cs∧v=.pointer (some ⟨b,0,none⟩)∧fp=b :: fp'∧w.heap[b]? = some (.cells C t fr)∧unfrozen C fr∧oneCells C∧ownL w S shs cs C.toList fp'
 | .a shs,p,v,fp=>∃ cs us,p=.agg cs∧v=.agg us∧oneCells us∧ownL w S shs cs us.toList fp
 | .t shs,p,v,fp=>∃ cs us,p=.tuple cs∧v=.tuple us∧ownL w S shs cs us.toList fp
def ownL (w:World) (S:Nat→Prop):List Shp→List PV→List Value→List Nat→Prop
 | [],ps,us,fp=>ps=[]∧us=[]∧fp=[]
 | sh :: shs,ps,us,fp=>∃ p ps' u us' f1 f2,ps=p :: ps'∧us=u :: us'∧fp=f1 ++ f2∧ownS w S sh p u f1∧ownL w S shs ps' us' f2
end
def blks (π:Nat→Option Pl) (ids:List Nat):List Nat:=ids.filterMap fun i=>(π i).bind Pl.blk
theorem blks_append (π:Nat→Option Pl) (a b:List Nat):blks π (a ++ b)=blks π a ++ blks π b:=by simp [blks]
theorem mem_blks {π:Nat→Option Pl} {ids:List Nat} {b:Nat}:b ∈ blks π ids↔∃ i ∈ ids,∃ pl,π i=some pl∧pl.blk=some b:=by
 simp only [blks,List.mem_filterMap]
 constructor
 ·rintro ⟨i,hi,h⟩
  cases hp:π i with
  | none=>rw [hp] at h; cases h
  | some pl=>rw [hp] at h; exact ⟨i,hi,pl,hp,h⟩
 ·rintro ⟨i,hi,pl,hp,h⟩
  exact ⟨i,hi,by rw [hp]; exact h⟩
section
variable {look:Nat→Option Ob} {w:World} {S S':Nat→Prop} {π:Nat→Option Pl}
theorem keep_sub (hs:∀ b,S b→S' b):Keep w S w S':=⟨fun _ _=>rfl,hs⟩
theorem relCs_list {b:Nat} {C:Array Value} {t:TypeId} {fr:Nat × Nat} (hg:w.heap[b]? = some (.cells C t fr)) (ho:oneCells C) {ps:List PV} (h:relL w S ps C.toList):relCs w S b 0 ps :=
 relCs_of fun i p hp=>by
  obtain ⟨u,h1,h2⟩:=relL_get h hp
  refine ⟨u,?_,ho u (List.mem_of_getElem? h1),h2⟩
  rw [cell_of_row w b _ C t fr hg,Nat.zero_add,← Array.getElem?_toList,h1]
mutual
theorem reify_ok (hob:ObsOk w S π look) (hs:∀ b,S b→S' b):∀ (n:Nat)(v:TV)(u:Value)(p:PV)(ids:List Nat),reify look n v=some (p,ids)→relTV w S π v u→(∀ b ∈ blks π ids,S' b) →
  rel w S' p u∧(∀ i ∈ ids,∃ x,look i=some x∧x.live=true)∧(v.one=true→p.one=true)
 | 0,v,u,p,ids,h,_,_=>by simp [reify] at h
 | n + 1,v,u,p,ids,h,hr,hb=>by
  have hk:Keep w S w S':=keep_sub hs
  unfold reify at h
  split at h
  ·cases h
   simp only [relTV] at hr
   exact ⟨rel_keep hk _ _ hr,by simp,fun h=>by simpa [TV.one] using h⟩
  ·cases h
   simp only [relTV] at hr
   exact ⟨by simp only [rel]; exact .inl ⟨⟨_,hr⟩,trivial⟩,by simp,fun _=>rfl⟩
  ·cases h
   simp only [relTV] at hr
   exact ⟨rel_keep hk _ _ hr.1,by simp,fun _=>rfl⟩
  ·rename_i id
   split at h
   ·rename_i es sz hl
    cases h
    simp only [relTV] at hr
    refine ⟨?_,by simp [hl,Ob.live],fun _=>rfl⟩
    obtain ⟨pl,hp,hk2⟩:=hob.ok id _ hl
    simp only [rel]
    rcases hr with ⟨hp',hv⟩ | ⟨b,s,c,z,l,a,hp',hv,ha⟩
    ·rw [hp'] at hp; cases hp
     simp only [obOk] at hk2
     exact .inl ⟨⟨_,hv⟩,hk2⟩
    ·rw [hp'] at hp; cases hp
     simp only [obOk] at hk2
     obtain ⟨rfl,rfl,hlc,hcm,C,t,fr,hg,_,_,_,hre⟩:=hk2
     rcases ha with h0 | ha
     ·subst h0
      have:es=[]:=List.eq_nil_of_length_eq_zero (by omega)
      subst this
      exact .inl ⟨⟨_,hv⟩,rfl⟩
     ·subst ha
      refine .inr ⟨b,s,c,_,hv,hlc,hcm,hb b ?_,relEs_keep hk _ _ _ _ rfl hre⟩
      exact mem_blks.2 ⟨id,by simp,_,hp',rfl⟩
   ·rename_i es hl
    cases h
    simp only [relTV] at hr
    refine ⟨?_,by simp,fun _=>rfl⟩
    obtain ⟨pl,hp,hk2⟩:=hob.ok id _ hl
    simp only [rel]
    rcases hr with ⟨hp',hv⟩ | ⟨b,s,c,z,l,a,hp',hv,ha⟩
    ·rw [hp'] at hp; cases hp
     simp only [obOk] at hk2
     exact .inl ⟨⟨_,hv⟩,hk2⟩
    ·rw [hp'] at hp; cases hp
     simp only [obOk] at hk2
     obtain ⟨rfl,hlc,hcm,hS,hre⟩:=hk2
     rcases ha with h0 | ha
     ·subst h0
      have:es=[]:=List.eq_nil_of_length_eq_zero (by omega)
      subst this
      exact .inl ⟨⟨_,hv⟩,rfl⟩
     ·subst ha
      exact .inr ⟨b,s,c,_,hv,hlc,hcm,hs b hS,relEs_keep hk _ _ _ _ rfl hre⟩
   ·cases h
  ·rename_i id off len cp
   split at h
   ·rename_i es sz hl
    cases h
    simp only [relTV] at hr
    refine ⟨?_,by simp [hl,Ob.live],fun _=>rfl⟩
    obtain ⟨pl,hp,hk2⟩:=hob.ok id _ hl
    simp only [rel]
    rcases hr with ⟨hp',hv,rfl,rfl⟩ | ⟨b,s,c,z,l,a,cv,hp',hv,k1,ha,k2,k3,k4⟩
    ·exact .inl ⟨⟨_,hv⟩,by simp⟩
    ·rw [hp'] at hp; cases hp
     simp only [obOk] at hk2
     obtain ⟨rfl,rfl,hlc,hcm,C,t,fr,hg,_,_,_,hre⟩:=hk2
     have hlen:((es.drop off).take len).length=len:=by simp; omega
     rcases ha with h0 | ha
     ·have:len=0:=by omega
      subst this
      subst h0
      exact .inl ⟨⟨_,hv⟩,by simp⟩
     ·subst ha
      refine .inr ⟨b,_,cv,_,by rw [hlen]; exact hv,by omega,by omega,hb b ?_,relEs_keep hk _ _ _ _ rfl (relEs_take (relEs_drop hre off) len)⟩
      exact mem_blks.2 ⟨id,by simp,_,hp',rfl⟩
   ·rename_i es hl
    cases h
    simp only [relTV] at hr
    refine ⟨?_,by simp,fun _=>rfl⟩
    obtain ⟨pl,hp,hk2⟩:=hob.ok id _ hl
    simp only [rel]
    rcases hr with ⟨hp',hv,rfl,rfl⟩ | ⟨b,s,c,z,l,a,cv,hp',hv,k1,ha,k2,k3,k4⟩
    ·exact .inl ⟨⟨_,hv⟩,by simp⟩
    ·rw [hp'] at hp; cases hp
     simp only [obOk] at hk2
     obtain ⟨rfl,hlc,hcm,hS,hre⟩:=hk2
     have hlen:((es.drop off).take len).length=len:=by simp; omega
     rcases ha with h0 | ha
     ·have:len=0:=by omega
      subst this
      subst h0
      exact .inl ⟨⟨_,hv⟩,by simp⟩
     ·subst ha
      exact .inr ⟨b,_,cv,_,by rw [hlen]; exact hv,by omega,by omega,hs b hS,relEs_keep hk _ _ _ _ rfl (relEs_take (relEs_drop hre off) len)⟩
   ·cases h
  ·rename_i id off
   split at h
   ·rename_i q m hl
    cases h
    simp only [relTV] at hr
    refine ⟨?_,by simp [hl,Ob.live],fun _=>rfl⟩
    obtain ⟨b,s,c,z,l,hp',hv⟩:=hr
    obtain ⟨pl,hp,hk2⟩:=hob.ok id _ hl
    rw [hp'] at hp; cases hp
    simp only [obOk] at hk2
    obtain ⟨rfl,C,t,fr,hg,_,ho,hsz,hq,hre⟩:=hk2
    obtain ⟨cs,us,rfl,hu,h1,h2,_⟩:=rel_agg hre hq
    cases hu
    simp only [rel,PV.cells]
    exact ⟨b,0,hv,hb b (mem_blks.2 ⟨id,by simp,_,hp',rfl⟩),relCs_keep hk _ _ _ rfl (relCs_list hg ho h2)⟩
   ·rename_i cs hl
    cases h
    simp only [relTV] at hr
    refine ⟨?_,by simp,fun _=>rfl⟩
    obtain ⟨b,s,c,z,l,hp',hv⟩:=hr
    obtain ⟨pl,hp,hk2⟩:=hob.ok id _ hl
    rw [hp'] at hp; cases hp
    simp only [obOk] at hk2
    obtain ⟨rfl,hS,hre⟩:=hk2
    simp only [rel]
    exact ⟨b,0,hv,hs b hS,relCs_keep hk _ _ _ rfl hre⟩
   ·rename_i cs hl
    split at h
    ·rename_i ps is hps
     cases h
     simp only [relTV] at hr
     obtain ⟨b,s,c,z,l,hp',hv⟩:=hr
     obtain ⟨pl,hp,hk2⟩:=hob.ok id _ hl
     rw [hp'] at hp; cases hp
     simp only [obOk] at hk2
     obtain ⟨rfl,C,t,fr,hg,_,ho,hre⟩:=hk2
     obtain ⟨g1,g2⟩:=reifyL_ok hob hs n cs C.toList ps is hps hre fun b hb2=>hb b (by
      obtain ⟨i,hi,q⟩:=mem_blks.1 hb2
      exact mem_blks.2 ⟨i,List.mem_cons_of_mem _ hi,q⟩)
     refine ⟨?_,?_,fun _=>rfl⟩
     ·simp only [rel]
      exact ⟨b,0,hv,hb b (mem_blks.2 ⟨id,by simp,_,hp',rfl⟩),relCs_list hg ho g1⟩
     ·intro i hi
      rcases List.mem_cons.1 hi with rfl | hi
      ·exact ⟨_,hl,rfl⟩
      ·exact g2 i hi
    ·cases h
   ·cases h
  ·rename_i id
   split at h
   ·rename_i kvs hl
    cases h
    simp only [relTV] at hr
    refine ⟨?_,by simp [hl,Ob.live],fun _=>rfl⟩
    obtain ⟨b,s,c,z,l,hp',hv⟩:=hr
    obtain ⟨pl,hp,hk2⟩:=hob.ok id _ hl
    rw [hp'] at hp; cases hp
    simp only [obOk] at hk2
    obtain ⟨ms,clock,hg,hst,hre⟩:=hk2
    simp only [rel]
    exact ⟨b,hv,hb b (mem_blks.2 ⟨id,by simp,_,hp',rfl⟩),ms,clock,hg,hst,relKV_keep hk _ _ hre⟩
   ·rename_i kvs hl
    cases h
    simp only [relTV] at hr
    refine ⟨?_,by simp,fun _=>rfl⟩
    obtain ⟨b,s,c,z,l,hp',hv⟩:=hr
    obtain ⟨pl,hp,hk2⟩:=hob.ok id _ hl
    rw [hp'] at hp; cases hp
    simp only [obOk] at hk2
    obtain ⟨hS,ms,clock,hg,hst,hre⟩:=hk2
    simp only [rel]
    exact ⟨b,hv,hs b hS,ms,clock,hg,hst,relKV_keep hk _ _ hre⟩
   ·cases h
  ·rename_i cs
   split at h
   ·rename_i ps is hps
    cases h
    simp only [relTV] at hr
    obtain ⟨us,hv,h1,hre⟩:=hr
    obtain ⟨g1,g2⟩:=reifyL_ok hob hs n cs us.toList ps ids hps hre hb
    exact ⟨by simp only [rel]; exact ⟨us,hv,h1,g1⟩,g2,fun h=>by cases h⟩
   ·cases h
  ·rename_i cs
   split at h
   ·rename_i ps is hps
    cases h
    simp only [relTV] at hr
    obtain ⟨us,hv,hre⟩:=hr
    obtain ⟨g1,g2⟩:=reifyL_ok hob hs n cs us.toList ps ids hps hre hb
    exact ⟨by simp only [rel]; exact ⟨us,hv,g1⟩,g2,fun h=>by cases h⟩
   ·cases h
  ·rename_i f caps
   split at h
   ·rename_i ps is hps
    cases h
    simp only [relTV] at hr
    obtain ⟨us,hv,hre⟩:=hr
    obtain ⟨g1,g2⟩:=reifyL_ok hob hs n caps us.toList ps ids hps hre hb
    exact ⟨by simp only [rel]; exact ⟨us,hv,g1⟩,g2,fun _=>rfl⟩
   ·cases h
  ·cases h
theorem reifyL_ok (hob:ObsOk w S π look) (hs:∀ b,S b→S' b):∀ (n:Nat)(vs:List TV)(us:List Value)(ps:List PV)(ids:List Nat),reifyL look n vs=some (ps,ids)→relTVs w S π vs us→(∀ b ∈ blks π ids,S' b) →
  relL w S' ps us∧(∀ i ∈ ids,∃ x,look i=some x∧x.live=true)
 | n,[],us,ps,ids,h,hr,_=>by
  have h':([],[])=(ps,ids):=by cases n <;> simpa [reifyL] using h
  cases h'
  simp only [relTVs] at hr
  subst hr
  exact ⟨by simp only [relL],by simp⟩
 | 0,v :: vs,us,ps,ids,h,_,_=>by simp [reifyL] at h
 | n + 1,v :: vs,us,ps,ids,h,hr,hb=>by
  simp only [reifyL] at h
  split at h
  ·rename_i p i ps' is h1 h2
   cases h
   simp only [relTVs] at hr
   obtain ⟨u,us',rfl,hr1,hr2⟩:=hr
   rw [blks_append] at hb
   obtain ⟨g1,g2,_⟩:=reify_ok hob hs n v u p i h1 hr1 fun b hb2=>hb b (List.mem_append_left _ hb2)
   obtain ⟨g3,g4⟩:=reifyL_ok hob hs n vs us' ps' is h2 hr2 fun b hb2=>hb b (List.mem_append_right _ hb2)
   refine ⟨by simp only [relL]; exact ⟨u,us',rfl,g1,g3⟩,?_⟩
   intro j hj
   rcases List.mem_append.1 hj with hj | hj
   ·exact g2 j hj
   ·exact g4 j hj
  ·cases h
end
end
end Go.Proofs.YtgpjfmihogaooaaGreatDoorV
namespace Go.Proofs.YtgpjfmihogaooaaGreatDoorV
open Go Go.RowKit
section
variable {look:Nat→Option Ob} {w:World} {S S':Nat→Prop} {π:Nat→Option Pl}
theorem ownL_allD:∀ {shs:List Shp} {ps:List PV} {us:List Value},shs.all Shp.isD=true→relL w S ps us→shs.length=ps.length→ownL w S shs ps us []
 | [],ps,us,_,h,hl=>by
  have:ps=[]:=List.eq_nil_of_length_eq_zero hl.symm
  subst this
  simp only [relL] at h
  simp only [ownL]
  exact ⟨trivial,h,trivial⟩
 | sh :: shs,[],us,_,h,hl=>by simp at hl
 | sh :: shs,p :: ps,us,ha,h,hl=>by
  simp only [List.all_cons,Bool.and_eq_true] at ha
  simp only [relL] at h
  obtain ⟨u,us',rfl,h1,h2⟩:=h
  simp only [ownL]
  refine ⟨p,ps,u,us',[],[],rfl,rfl,rfl,?_,ownL_allD ha.2 h2 (by simpa using hl)⟩
  cases sh <;> first | (simp only [Shp.isD,Bool.false_eq_true,false_and] at ha; done) | skip
  simp only [ownS]
  exact ⟨trivial,h1⟩
mutual
theorem exp_ok (hob:ObsOk w S π look) (hs:∀ b,S b→S' b):∀ (sh:Shp)(v:TV)(u:Value)(p:PV) (l o:List Nat),expS look sh v=some (p,l,o)→relTV w S π v u→(∀ b ∈ blks π l,S' b) →
  ownS w S' sh p u (blks π o)∧∀ i ∈ l ++ o,∃ x,look i=some x∧x.live=true
 | .d,v,u,p,l,o,h,hr,hb=>by
  simp only [expS] at h
  split at h
  ·rename_i q ids hq
   cases h
   obtain ⟨g1,g2,_⟩:=reify_ok hob hs 100 v u p l hq hr hb
   exact ⟨by simp only [ownS,blks,List.filterMap_nil]; exact ⟨trivial,g1⟩,by simpa using g2⟩
  ·cases h
 | .s,v,u,p,l,o,h,hr,hb=>by
  have hk:Keep w S w S':=keep_sub hs
  simp only [expS] at h
  split at h
  ·cases h
   simp only [relTV] at hr
   refine ⟨?_,by simp⟩
   simp only [ownS]
   exact ⟨_,_,rfl,.inl ⟨hr,rfl,by simp [blks]⟩⟩
  ·rename_i id
   split at h
   ·rename_i es sz hl
    cases h
    simp only [relTV] at hr
    refine ⟨?_,by simp [hl,Ob.live]⟩
    obtain ⟨pl,hp,hk2⟩:=hob.ok id _ hl
    simp only [ownS]
    refine ⟨_,_,rfl,?_⟩
    rcases hr with ⟨hp',hv⟩ | ⟨b,s,c,z,l,a,hp',hv,ha⟩
    ·rw [hp'] at hp; cases hp
     simp only [obOk] at hk2
     exact .inl ⟨hv,hk2,by simp [blks,hp',Pl.blk]⟩
    ·rw [hp'] at hp; cases hp
     simp only [obOk] at hk2
     obtain ⟨rfl,rfl,hlc,hcm,C,t,fr,hg,hu,ho,hsz,hre⟩:=hk2
     exact .inr ⟨b,s,c,a,C,t,fr,hv,ha,by simp [blks,hp',Pl.blk],hlc,hcm,hg,hu,ho,hsz,relEs_keep hk _ _ _ _ rfl hre⟩
   ·cases h
  ·rename_i id off len
   split at h
   ·rename_i es sz hl
    cases h
    refine ⟨?_,by simp [hl,Ob.live]⟩
    simp only [ownS]
    refine ⟨_,_,rfl,?_⟩
    obtain ⟨A,cap,rfl,_,hv⟩:=view_sl hob hl hr
    simp only [relTV] at hr
    rcases hv.at' with ⟨rfl,hc⟩ | ⟨b,s,C,t,fr,hc,hA,⟨x,pi,hx1,hx2,hx3,hx4⟩,hg,hu,ho,hcs,hre⟩
    ·have hl0:len=0:=by have:=hv.le; omega
     subst hl0 hc
     have hbn:blks π [id]=[]∨∃ b s c z l a cv,π id=some (.at b s c z l)∧Value.slice none 0 0=.slice (some a) 0 cv:=by
      rcases hr with ⟨hp',_⟩ | ⟨b,s,c,z,l,a,cv,hp',hv',_⟩
      ·exact .inl (by simp [blks,hp',Pl.blk])
      ·exact .inr ⟨b,s,c,z,l,a,cv,hp',hv'⟩
     rcases hbn with hbn | ⟨b,s,c,z,l,a,cv,hp',hv'⟩
     ·exact .inl ⟨rfl,by simp,hbn⟩
     ·cases hv'
    ·obtain ⟨a,rfl⟩:=Option.isSome_iff_exists.1 hA
     refine .inr ⟨b,s,cap,a,C,t,fr,by rw [hv.hlen],hc.imp (fun h=>h) fun h=>by simpa using h,by simp [blks,hx3,hx4],by rw [hv.hlen]; exact hv.le,hv.max,hg,hu,ho,hcs,relEs_keep hk _ _ _ _ rfl hre⟩
   ·cases h
  ·cases h
 | .o shs,v,u,p,l,o,h,hr,hb=>by
  have hk:Keep w S w S':=keep_sub hs
  simp only [expS] at h
  split at h
  ·rename_i id
   split at h
   ·rename_i q n hl
    split at h
    ·rename_i hd
     cases h
     simp only [Bool.and_eq_true,beq_iff_eq] at hd
     simp only [relTV] at hr
     refine ⟨?_,by simp [hl,Ob.live]⟩
     obtain ⟨b,s,c,z,l,hp',hv⟩:=hr
     obtain ⟨pl,hp,hk2⟩:=hob.ok id _ hl
     rw [hp'] at hp; cases hp
     simp only [obOk] at hk2
     obtain ⟨rfl,C,t,fr,hg,hu,ho,hsz,hq,hre⟩:=hk2
     obtain ⟨cs,us,rfl,hcu,h1,h2,h3,_⟩:=rel_agg hre hq
     cases hcu
     simp only [ownS,PV.cells]
     exact ⟨cs,b,C,t,fr,[],rfl,hv,by simp [blks,hp',Pl.blk],hg,hu,ho,ownL_allD hd.1 (relL_keep hk _ _ h2) (by omega)⟩
    ·cases h
   ·rename_i cs hl
    split at h
    ·rename_i ps l' o' hps
     cases h
     simp only [relTV] at hr
     obtain ⟨b,s,c,z,l,hp',hv⟩:=hr
     obtain ⟨pl,hp,hk2⟩:=hob.ok id _ hl
     rw [hp'] at hp; cases hp
     simp only [obOk] at hk2
     obtain ⟨rfl,C,t,fr,hg,hu,ho,hre⟩:=hk2
     obtain ⟨g1,g2⟩:=expL_ok hob hs shs cs C.toList ps _ o' hps hre hb
     refine ⟨?_,?_⟩
     ·simp only [ownS]
      exact ⟨ps,b,C,t,fr,blks π o',rfl,hv,by simp [blks,hp',Pl.blk],hg,hu,ho,g1⟩
     ·intro i hi
      simp only [List.mem_append,List.mem_cons] at hi
      rcases hi with hi | rfl | hi
      ·exact g2 i (List.mem_append_left _ hi)
      ·exact ⟨_,hl,rfl⟩
      ·exact g2 i (List.mem_append_right _ hi)
    ·cases h
   ·cases h
  ·cases h
 | .a shs,v,u,p,l,o,h,hr,hb=>by
  have hk:Keep w S w S':=keep_sub hs
  simp only [expS] at h
  split at h
  ·rename_i cs
   split at h
   ·rename_i ps l' o' hps
    cases h
    simp only [relTV] at hr
    obtain ⟨us,hv,h1,hre⟩:=hr
    obtain ⟨g1,g2⟩:=expL_ok hob hs shs cs us.toList ps _ _ hps hre hb
    exact ⟨by simp only [ownS]; exact ⟨ps,us,rfl,hv,h1,g1⟩,g2⟩
   ·cases h
  ·rename_i q
   split at h
   ·rename_i hd
    cases h
    simp only [Bool.and_eq_true] at hd
    simp only [relTV] at hr
    obtain ⟨cs,us,rfl,rfl,h1,h2,h3,_⟩:=rel_agg hr hd.2
    refine ⟨?_,by simp⟩
    simp only [ownS]
    exact ⟨cs,us,rfl,rfl,h1,by simpa [blks] using ownL_allD hd.1 (relL_keep hk _ _ h2) h3.symm⟩
   ·cases h
  ·cases h
 | .t shs,v,u,p,l,o,h,hr,hb=>by
  simp only [expS] at h
  split at h
  ·rename_i cs
   split at h
   ·rename_i ps l' o' hps
    cases h
    simp only [relTV] at hr
    obtain ⟨us,hv,hre⟩:=hr
    obtain ⟨g1,g2⟩:=expL_ok hob hs shs cs us.toList ps _ _ hps hre hb
    exact ⟨by simp only [ownS]; exact ⟨ps,us,rfl,hv,g1⟩,g2⟩
   ·cases h
  ·cases h
theorem expL_ok (hob:ObsOk w S π look) (hs:∀ b,S b→S' b):∀ (shs:List Shp)(vs:List TV)(us:List Value)(ps:List PV) (l o:List Nat),expL look shs vs=some (ps,l,o)→relTVs w S π vs us→(∀ b ∈ blks π l,S' b) →
  ownL w S' shs ps us (blks π o)∧∀ i ∈ l ++ o,∃ x,look i=some x∧x.live=true
 | [],[],us,ps,l,o,h,hr,hb=>by
  simp only [expL,Option.some.injEq,Prod.mk.injEq] at h
  obtain ⟨rfl,rfl,rfl⟩:=h
  simp only [relTVs] at hr
  exact ⟨by simp only [ownL]; exact ⟨trivial,hr,by simp [blks]⟩,by simp⟩
 | [],_ :: _,us,ps,l,o,h,hr,hb=>by simp [expL] at h
 | _ :: _,[],us,ps,l,o,h,hr,hb=>by simp [expL] at h
 | sh :: shs,v :: vs,us,ps,l,o,h,hr,hb=>by
  simp only [expL] at h
  split at h
  ·rename_i p l1 o1 ps' l2 o2 h1 h2
   cases h
   simp only [relTVs] at hr
   obtain ⟨u,us',rfl,hr1,hr2⟩:=hr
   rw [blks_append] at hb
   obtain ⟨g1,g2⟩:=exp_ok hob hs sh v u p l1 o1 h1 hr1 fun b hb2=>hb b (List.mem_append_left _ hb2)
   obtain ⟨g3,g4⟩:=expL_ok hob hs shs vs us' ps' l2 o2 h2 hr2 fun b hb2=>hb b (List.mem_append_right _ hb2)
   refine ⟨by simp only [ownL]; exact ⟨p,ps',u,us',_,_,rfl,rfl,blks_append ..,g1,g3⟩,?_⟩
   intro i hi
   simp only [List.mem_append] at hi g2 g4
   rcases hi with (hi | hi) | hi | hi
   ·exact g2 i (.inl hi)
   ·exact g4 i (.inl hi)
   ·exact g2 i (.inr hi)
   ·exact g4 i (.inr hi)
  ·cases h
end
end
end Go.Proofs.YtgpjfmihogaooaaGreatDoorV
namespace Go.Proofs.YtgpjfmihogaooaaGreatDoorV
open Go Go.RowKit
theorem upd_append (look:Nat→Option Ob) (nx:Nat) (a b:List Ob):upd (upd look [] nx a) [] (nx + a.length) b=upd look [] nx (a ++ b):=by
 funext id
 simp only [upd,ZDa,List.length_append]
 by_cases h:nx + a.length≤id∧id < nx + a.length + b.length
 ·rw [if_pos h,if_pos (by omega),List.getElem?_append_right (by omega)]
  congr 1; omega
 ·rw [if_neg h]
  by_cases h2:nx≤id∧id < nx + a.length
  ·rw [if_pos h2,if_pos (by omega),List.getElem?_append_left (by omega)]
  ·rw [if_neg h2,if_neg (by omega)]
section
variable {w:World} {S:Nat→Prop}
theorem obs_adopt {look:Nat→Option Ob} {π:Nat→Option Pl} {nx:Nat} {ob:Ob} {pl:Pl} (h:ObsOk w S π look) (hf:Free look π nx 1) (hb:∀ b,pl.blk=some b→¬ S b∧b < w.heap.size∧¬ owned look π b)
  (hob:∀ π',Ext π π'→obOk w S π' ob pl) :
  ∃ π',ObsOk w S π' (upd look [] nx [ob])∧Ext π π'∧(∀ id,π' id≠none→π id≠none∨(nx≤id∧id < nx + 1))∧π' nx=some pl∧∀ b,owned (upd look [] nx [ob]) π' b→owned look π b∨pl.blk=some b:=by
 let π':=fun id=>if id=nx then some pl else π id
 have hfn:look nx=none∧π nx=none:=by simpa using hf 0 (by omega)
 have hext:Ext π π':=by
  intro id q hp
  simp only [π']
  rw [if_neg]
  ·exact hp
  ·intro e; subst e; rw [hfn.2] at hp; cases hp
 have hnx:π' nx=some pl:=by simp [π']
 have hpi:∀ id,id≠nx→π' id=π id:=fun id hid=>by simp [π',hid]
 have hlook:∀ id x,upd look [] nx [ob] id=some x→(id=nx∧x=ob)∨(id≠nx∧look id=some x):=by
  intro id x hx
  simp only [upd,ZDa,List.length_singleton] at hx
  split at hx
  ·have:id=nx:=by omega
   subst this
   simp only [Nat.sub_self,List.getElem?_cons_zero,Option.some.injEq] at hx
   exact .inl ⟨rfl,hx.symm⟩
  ·exact .inr ⟨by omega,hx⟩
 have hown:∀ b,owned (upd look [] nx [ob]) π' b→owned look π b∨pl.blk=some b:=by
  rintro b ⟨id,x,pj,h1,h2,h3,h4⟩
  rcases hlook id x h1 with ⟨rfl,rfl⟩ | ⟨hne,hl⟩
  ·rw [hnx] at h3; cases h3; exact .inr h4
  ·rw [hpi id hne] at h3; exact .inl ⟨id,x,pj,hl,h2,h3,h4⟩
 refine ⟨π',?_,hext,?_,hnx,hown⟩
 ·refine obs_gen h (keep_sub fun _ h=>h) hext h.st (Nat.le_refl _) (fun id=>id≠nx) ?_ ?_
  ·intro id hne
   constructor
   ·simp only [upd,ZDa,List.length_singleton]; rw [if_neg (by omega)]
   ·intro x pj b hx hl hp hb1
    exact ⟨rfl,(owned_lt h hx hl hp hb1).2⟩
  ·intro id x hx hno
   rcases hlook id x hx with ⟨rfl,rfl⟩ | ⟨hne,_⟩
   ·refine ⟨pl,hnx,hob π' hext,fun b hl hb1=>⟨(hb b hb1).2.1,(hb b hb1).1,?_⟩⟩
    intro j y pj h1 h2 h3 h4
    rcases hlook j y h1 with ⟨rfl,rfl⟩ | ⟨hne,hlj⟩
    ·rfl
    ·rw [hpi j hne] at h3
     exact absurd ⟨j,y,pj,hlj,h2,h3,h4⟩ (hb b hb1).2.2
   ·exact absurd hne hno
 ·intro id hid
  by_cases e:id=nx
  ·exact .inr (by omega)
  ·rw [hpi id e] at hid; exact .inl hid
def Imp (sh:Shp) (p:PV) (nx:Nat) (tv:TV) (obs:List Ob):Prop :=
 ∀ (w:World)(S:Nat→Prop)(look:Nat→Option Ob)(π:Nat→Option Pl)(u:Value)(fp:List Nat),ownS w S sh p u fp→fp.Nodup→ObsOk w S π look→(∀ b ∈ fp,¬ S b∧b < w.heap.size∧¬ owned look π b)→Free look π nx obs.length →
  ∃ π',ObsOk w S π' (upd look [] nx obs)∧Ext π π'∧(∀ id,π' id≠none→π id≠none∨(nx≤id∧id < nx + obs.length))∧relTV w S π' tv u∧(∀ b,owned (upd look [] nx obs) π' b→owned look π b∨b ∈ fp)∧∀ id,tv=.ow id→blks π' [id]=fp
def ImpL (shs:List Shp) (ps:List PV) (nx:Nat) (tvs:List TV) (obs:List Ob):Prop :=
 ∀ (w:World)(S:Nat→Prop)(look:Nat→Option Ob)(π:Nat→Option Pl)(us:List Value)(fp:List Nat),ownL w S shs ps us fp→fp.Nodup→ObsOk w S π look→(∀ b ∈ fp,¬ S b∧b < w.heap.size∧¬ owned look π b)→Free look π nx obs.length →
  ∃ π',ObsOk w S π' (upd look [] nx obs)∧Ext π π'∧(∀ id,π' id≠none→π id≠none∨(nx≤id∧id < nx + obs.length))∧relTVs w S π' tvs us∧∀ b,owned (upd look [] nx obs) π' b→owned look π b∨b ∈ fp
theorem free_step {look:Nat→Option Ob} {π π':Nat→Option Pl} {nx n:Nat} {obs:List Ob} (hf:Free look π nx (obs.length + n)) (honly:∀ id,π' id≠none→π id≠none∨(nx≤id∧id < nx + obs.length)):Free (upd look [] nx obs) π' (nx + obs.length) n:=by
 intro j hj
 have:=hf (obs.length + j) (by omega)
 rw [← Nat.add_assoc] at this
 refine ⟨?_,?_⟩
 ·simp only [upd,ZDa]
  rw [if_neg (by omega)]
  exact this.1
 ·cases h:π' (nx + obs.length + j) with
  | none=>rfl
  | some q =>
   rcases honly (nx + obs.length + j) (by rw [h]; simp) with h1 | h1
   ·exact absurd this.2 h1
   ·omega
mutual
theorem imp_ok {R:Type}:∀ (sh:Shp)(p:PV)(nx:Nat)(k:TV→List Ob→Option R)(r:R),impK sh p nx k=some r→∃ tv obs,k tv obs=some r∧Imp sh p nx tv obs
 | .d,p,nx,k,r,h=>by
  simp only [impK] at h
  refine ⟨_,_,h,?_⟩
  intro w S look π u fp ho hn hob hfp hf
  simp only [ownS] at ho
  obtain ⟨rfl,hr⟩:=ho
  exact ⟨π,by rw [upd_nil]; exact hob,Ext.refl _,fun id h=>.inl h,by simp only [relTV]; exact hr,fun b hb=>by rw [upd_nil] at hb; exact .inl hb,fun id h=>by cases h⟩
 | .s,p,nx,k,r,h=>by
  simp only [impK] at h
  obtain ⟨x,hx,h'⟩:=Zba h
  refine ⟨_,_,h',?_⟩
  intro w S look π u fp ho hn hob hfp hf
  simp only [ownS] at ho
  obtain ⟨es,sz,rfl,ho⟩:=ho
  simp only [PV.asOs,Option.some.injEq] at hx
  subst hx
  rcases ho with ⟨rfl,rfl,rfl⟩ | ⟨b,s,c,a,C,t,fr,hv,ha,rfl,hlc,hcm,hg,hu,h1,hsz,hre⟩
  ·obtain ⟨π',g1,g2,g3,g4,g5⟩:=obs_adopt (ob:=.row [] sz) (pl:=.nil) hob hf (fun b hb=>by cases hb) (fun _ _=>by simp [obOk])
   refine ⟨π',g1,g2,g3,?_,fun b hb=>(g5 b hb).imp (fun h=>h) fun h=>(by cases h),fun id h=>by cases h; simp [blks,g4,Pl.blk]⟩
   simp only [relTV]
   exact .inl ⟨g4,trivial⟩
  ·obtain ⟨π',g1,g2,g3,g4,g5⟩:=obs_adopt (ob:=.row es sz) (pl:=.at b s c sz es.length) hob hf (fun b' hb=>by
     simp only [Pl.blk,Option.some.injEq] at hb; subst hb; exact hfp b (by simp)) (fun _ _=>by
     simp only [obOk]
     exact ⟨trivial,trivial,hlc,hcm,C,t,fr,hg,hu,h1,hsz,hre⟩)
   refine ⟨π',g1,g2,g3,?_,fun b' hb=>(g5 b' hb).imp (fun h=>h) fun h=>(by simp only [Pl.blk,Option.some.injEq] at h; simp [h]),fun id h=>by cases h; simp [blks,g4,Pl.blk]⟩
   simp only [relTV]
   exact .inr ⟨b,s,c,_,_,a,g4,hv,ha⟩
 | .o shs,p,nx,k,r,h=>by
  simp only [impK] at h
  obtain ⟨cs,hx,h'⟩:=Zba h
  obtain ⟨tvs,obs,hk,him⟩:=impL_ok shs cs nx _ r h'
  refine ⟨_,_,hk,?_⟩
  intro w S look π u fp ho hn hob hfp hf
  simp only [ownS] at ho
  obtain ⟨cs',b,C,t,fr,fp',rfl,rfl,rfl,hg,hu,h1,hre⟩:=ho
  simp only [PV.asObj,Option.some.injEq] at hx
  subst hx
  simp only [List.nodup_cons] at hn
  simp only [List.length_append,List.length_singleton] at hf
  obtain ⟨π',g1,g2,g3,g4,g5⟩:=him w S look π C.toList fp' hre hn.2 hob (fun b hb=>hfp b (List.mem_cons_of_mem _ hb)) (fun j hj=>hf j (by omega))
  obtain ⟨π'',k1,k2,k3,k4,k5⟩:=obs_adopt (nx:=nx + obs.length) (ob:=.box tvs) (pl:=.at b 0 0 0 0) g1 (free_step hf g3) (fun b' hb=>by
    simp only [Pl.blk,Option.some.injEq] at hb
    subst hb
    obtain ⟨q1,q2,q3⟩:=hfp b (List.mem_cons_self ..)
    exact ⟨q1,q2,fun ho=>(g5 b ho).elim q3 hn.1⟩) (fun π'' he=>by
    simp only [obOk]
    exact ⟨trivial,C,t,fr,hg,hu,h1,relTVs_keep (keep_sub fun _ h=>h) he _ _ g4⟩)
  refine ⟨π'',by rw [← upd_append]; exact k1,g2.trans k2,?_,?_,?_,fun id h=>by cases h⟩
  ·intro id hid
   simp only [List.length_append,List.length_singleton]
   rcases k3 id hid with h1 | h1
   ·rcases g3 id h1 with h2 | h2
    ·exact .inl h2
    ·exact .inr (by omega)
   ·exact .inr (by omega)
  ·simp only [relTV]
   exact ⟨b,0,_,_,_,k4,rfl⟩
  ·intro b' hb'
   rw [← upd_append] at hb'
   rcases k5 b' hb' with h1 | h1
   ·rcases g5 b' h1 with h2 | h2
    ·exact .inl h2
    ·exact .inr (List.mem_cons_of_mem _ h2)
   ·simp only [Pl.blk,Option.some.injEq] at h1
    subst h1
    exact .inr (List.mem_cons_self ..)
 | .a shs,p,nx,k,r,h=>by
  simp only [impK] at h
  obtain ⟨cs,hx,h'⟩:=Zba h
  obtain ⟨tvs,obs,hk,him⟩:=impL_ok shs cs nx _ r h'
  refine ⟨_,_,hk,?_⟩
  intro w S look π u fp ho hn hob hfp hf
  simp only [ownS] at ho
  obtain ⟨cs',us,rfl,rfl,h1,hre⟩:=ho
  simp only [PV.asAgg,Option.some.injEq] at hx
  subst hx
  obtain ⟨π',g1,g2,g3,g4,g5⟩:=him w S look π us.toList fp hre hn hob hfp hf
  exact ⟨π',g1,g2,g3,by simp only [relTV]; exact ⟨us,rfl,h1,g4⟩,g5,fun id h=>by cases h⟩
 | .t shs,p,nx,k,r,h=>by
  simp only [impK] at h
  obtain ⟨cs,hx,h'⟩:=Zba h
  obtain ⟨tvs,obs,hk,him⟩:=impL_ok shs cs nx _ r h'
  refine ⟨_,_,hk,?_⟩
  intro w S look π u fp ho hn hob hfp hf
  simp only [ownS] at ho
  obtain ⟨cs',us,rfl,rfl,hre⟩:=ho
  simp only [PV.asTup,Option.some.injEq] at hx
  subst hx
  obtain ⟨π',g1,g2,g3,g4,g5⟩:=him w S look π us.toList fp hre hn hob hfp hf
  exact ⟨π',g1,g2,g3,by simp only [relTV]; exact ⟨us,rfl,g4⟩,g5,fun id h=>by cases h⟩
theorem impL_ok {R:Type}:∀ (shs:List Shp)(ps:List PV)(nx:Nat)(k:List TV→List Ob→Option R)(r:R),impLK shs ps nx k=some r→∃ tvs obs,k tvs obs=some r∧ImpL shs ps nx tvs obs
 | [],ps,nx,k,r,h=>by
  simp only [impLK] at h
  split at h
  ·refine ⟨_,_,h,?_⟩
   intro w S look π us fp ho hn hob hfp hf
   simp only [ownL] at ho
   obtain ⟨rfl,rfl,rfl⟩:=ho
   exact ⟨π,by rw [upd_nil]; exact hob,Ext.refl _,fun id h=>.inl h,by simp only [relTVs],fun b hb=>by rw [upd_nil] at hb; exact .inl hb⟩
  ·cases h
 | sh :: shs,ps,nx,k,r,h=>by
  simp only [impLK] at h
  obtain ⟨p,hp,h'⟩:=Zba h
  obtain ⟨tv,obs,hk,him⟩:=imp_ok sh p nx _ r h'
  obtain ⟨tvs,obs',hk',him'⟩:=impL_ok shs ps.tail _ _ r hk
  refine ⟨_,_,hk',?_⟩
  intro w S look π us fp ho hn hob hfp hf
  simp only [ownL] at ho
  obtain ⟨p',ps',u,us',f1,f2,rfl,rfl,rfl,h1,h2⟩:=ho
  simp only [List.head?_cons,Option.some.injEq] at hp
  subst hp
  simp only [List.nodup_append] at hn
  simp only [List.length_append] at hf
  obtain ⟨π',g1,g2,g3,g4,g5,_⟩:=him w S look π u f1 h1 hn.1 hob (fun b hb=>hfp b (List.mem_append_left _ hb)) (fun j hj=>hf j (by omega))
  obtain ⟨π'',k1,k2,k3,k4,k5⟩:=him' w S _ π' us' f2 h2 hn.2.1 g1 (fun b hb=>by
   obtain ⟨q1,q2,q3⟩:=hfp b (List.mem_append_right _ hb)
   exact ⟨q1,q2,fun ho=>(g5 b ho).elim q3 fun h=>hn.2.2 b h b hb rfl⟩) (free_step hf g3)
  refine ⟨π'',by rw [← upd_append]; exact k1,g2.trans k2,?_,?_,?_⟩
  ·intro id hid
   simp only [List.length_append]
   rcases k3 id hid with h1 | h1
   ·rcases g3 id h1 with h2 | h2
    ·exact .inl h2
    ·exact .inr (by omega)
   ·exact .inr (by omega)
  ·simp only [relTVs]
   exact ⟨u,us',rfl,relTV_keep (keep_sub fun _ h=>h) k2 _ _ g4,k4⟩
  ·intro b hb
   rw [← upd_append] at hb
   rcases k5 b hb with h1 | h1
   ·rcases g5 b h1 with h2 | h2
    ·exact .inl h2
    ·exact .inr (List.mem_append_left _ h2)
   ·exact .inr (List.mem_append_right _ h1)
end
end
end Go.Proofs.YtgpjfmihogaooaaGreatDoorV
namespace Go.Proofs.YtgpjfmihogaooaaGreatDoorV
open Go Go.RowKit
def ZRb (w:World) (S:Nat→Prop):List (Option (Shp × Bool))→List PV→List Value→List (List Nat)→Prop
 | [],ps,us,fps=>ps=[]∧us=[]∧fps=[]
 | none :: ms,ps,us,fps=>∃ p ps' u us',ps=p :: ps'∧us=u :: us'∧rel w S p u∧ZRb w S ms ps' us' fps
 | some m :: ms,ps,us,fps=>∃ p ps' u us' f fps',ps=p :: ps'∧us=u :: us'∧fps=f :: fps'∧ownS w S m.1 p u f∧ZRb w S ms ps' us' fps'
def Z7b (w:World) (S:Nat→Prop):List (Option (Shp × Bool))→List Value→List (List Nat)→List PV→List (List Nat)→Prop
 | [],us,fps,outs,gps=>us=[]∧fps=[]∧outs=[]∧gps=[]
 | none :: ms,us,fps,outs,gps=>∃ u us',us=u :: us'∧Z7b w S ms us' fps outs gps
 | some (_,false) :: ms,us,fps,outs,gps=>∃ u us' f fps',us=u :: us'∧fps=f :: fps'∧Z7b w S ms us' fps' outs gps
 | some (sh,true) :: ms,us,fps,outs,gps=>∃ u us' f fps' p outs' g gps',us=u :: us'∧fps=f :: fps'∧outs=p :: outs'∧gps=g :: gps'∧ownS w S sh p u g∧(sh=.s→g=f)∧Z7b w S ms us' fps' outs' gps'
def Applies (P:Program) (f:FuncId) (us:Array Value) (w:World) (R:Value→World→Prop):Prop :=
 match (callFunc f us).run P w with
 | .ok (.enter g as) w'=>Calls P g as w' fun e w''=>∃ v,e=.returned v∧R v w''
 | .ok (.value v) w'=>R v w'
 | _=>False
structure Behind (w:World) (S:Nat→Prop) (fps:List (List Nat)) (c:Ctr) (us:List Value) (r:PV) (outs:List PV) (v:Value) (w':World) (S':Nat→Prop) (g:List Nat) (gps:List (List Nat)):Prop where
 os:w'.os=w.os
 tape:w'.tape=w.tape
 output:w'.output=w.output
 size:w.heap.size≤w'.heap.size
 same:∀ b,b < w.heap.size→b ∉ fps.flatten→w'.heap[b]? = w.heap[b]?
 sub:∀ b,S b→S' b
 stab:∀ b,S' b→S b∨b ∈ fps.flatten∨w.heap.size≤b
 st:∀ b,S' b→b < w'.heap.size
 nodup:(g ++ gps.flatten).Nodup
 own:∀ b ∈ g ++ gps.flatten,¬ S' b∧b < w'.heap.size∧(b ∈ fps.flatten∨w.heap.size≤b)
 res:∀ S'',(S''=S'∨c.scal=true)→ownS w' S'' c.res r v g∧Z7b w' S'' c.modes us fps outs gps
def GOk (G:Nat→Option (List PV)) (w:World) (S:Nat→Prop):Prop:=∀ g cs,G g=some cs→S g∧relCs w S g 0 cs∧∃ C t fr,w.heap[g]? = some (.cells C t fr)∧C.size=cs.length
theorem GOk.keep {G:Nat→Option (List PV)} {w w':World} {S S':Nat→Prop} (h:GOk G w S) (hk:Keep w S w' S'):GOk G w' S':=fun g cs hg=>by
 obtain ⟨h1,h2,C,t,fr,h3,h4⟩:=h g cs hg
 exact ⟨hk.sub _ h1,relCs_keep hk _ _ _ (hk.same _ h1) h2,C,t,fr,(hk.same _ h1).trans h3,h4⟩
def Zka (P:Program) (G:Nat→Option (List PV)) (f:FuncId) (c:Ctr):Prop :=
 ∀ (w:World)(S:Nat→Prop)(ps:List PV)(us:List Value) (fps:List (List Nat)) (r:PV) (outs:List PV),
  ZRb w S c.modes ps us fps→fps.flatten.Nodup→(∀ b ∈ fps.flatten,¬ S b∧b < w.heap.size)→(∀ b,S b→b < w.heap.size)→GOk G w S→c.F ps=some (r,outs) →
  Applies P f us.toArray w fun v w'=>∃ S' g gps,Behind w S fps c us r outs v w' S' g gps
theorem Applies.mono {P:Program} {f:FuncId} {us:Array Value} {w:World} {R R':Value→World→Prop} (h:Applies P f us w R) (hr:∀ v w',R v w'→R' v w'):Applies P f us w R':=by
 unfold Applies at *
 split at h
 ·exact h.mono fun e w' ⟨v,h1,h2⟩=>⟨v,h1,hr v w' h2⟩
 ·exact hr _ _ h
 ·exact h.elim
section
variable {P:Program} {T:TypeId→Option TI} {look:Nat→Option Ob} {nx:Nat} {ev:Operand→Option TV} {o:Oper} {v:TV} {up:List (Nat × Ob)} {nw:List Ob} {rd:List Nat}
theorem gather_ok {w:World} {S S':Nat→Prop} {π:Nat→Option Pl} (hob:ObsOk w S π look) (hs:∀ b,S b→S' b):∀ (ms:List (Option (Shp × Bool))) (vs:List TV) (us:List Value) (a:Args),Z7a look ms vs=some a→relTVs w S π vs us→(∀ b ∈ blks π a.lent,S' b) →
  ZRb w S' ms a.ps us (a.lins.map fun x=>blks π x.2.2.2)∧(∀ i ∈ a.lent ++ a.lins.flatMap (·.2.2.2),∃ x,look i=some x∧x.live=true)
 | [],[],us,a,h,hr,hb=>by
  simp only [Z7a,Option.some.injEq] at h
  subst h
  simp only [relTVs] at hr
  exact ⟨by simp only [ZRb]; exact ⟨trivial,hr,rfl⟩,by simp⟩
 | [],_ :: _,us,a,h,hr,hb=>by simp [Z7a] at h
 | none :: ms,[],us,a,h,hr,hb=>by simp [Z7a] at h
 | some _ :: ms,[],us,a,h,hr,hb=>by simp [Z7a] at h
 | none :: ms,v :: vs,us,a,h,hr,hb=>by
  simp only [Z7a] at h
  split at h
  ·rename_i p ids a' h1 h2
   cases h
   simp only [relTVs] at hr
   obtain ⟨u,us',rfl,hr1,hr2⟩:=hr
   simp only [blks_append] at hb
   obtain ⟨g1,g2,_⟩:=reify_ok hob hs 100 v u p ids h1 hr1 fun b hb2=>hb b (List.mem_append_left _ hb2)
   obtain ⟨g3,g4⟩:=gather_ok hob hs ms vs us' a' h2 hr2 fun b hb2=>hb b (List.mem_append_right _ hb2)
   refine ⟨by simp only [ZRb]; exact ⟨p,_,u,us',rfl,rfl,g1,g3⟩,?_⟩
   intro i hi
   simp only [List.mem_append] at hi g4
   rcases hi with (hi | hi) | hi
   ·exact g2 i hi
   ·exact g4 i (.inl hi)
   ·exact g4 i (.inr hi)
  ·cases h
 | some (sh,back) :: ms,v :: vs,us,a,h,hr,hb=>by
  simp only [Z7a] at h
  split at h
  ·rename_i p l ids a' h1 h2
   cases h
   simp only [relTVs] at hr
   obtain ⟨u,us',rfl,hr1,hr2⟩:=hr
   simp only [blks_append] at hb
   obtain ⟨g1,g2⟩:=exp_ok hob hs sh v u p l ids h1 hr1 fun b hb2=>hb b (List.mem_append_left _ hb2)
   obtain ⟨g3,g4⟩:=gather_ok hob hs ms vs us' a' h2 hr2 fun b hb2=>hb b (List.mem_append_right _ hb2)
   refine ⟨by simp only [ZRb,List.map_cons]; exact ⟨p,_,u,us',_,_,rfl,rfl,rfl,g1,g3⟩,?_⟩
   intro i hi
   simp only [List.mem_append,List.flatMap_cons] at hi g2 g4
   rcases hi with (hi | hi) | hi | hi
   ·exact g2 i (.inl hi)
   ·exact g4 i (.inl hi)
   ·exact g2 i (.inr hi)
   ·exact g4 i (.inr hi)
  ·cases h
def outsOk (look:Nat→Option Ob) (w:World) (S:Nat→Prop) (π:Nat→Option Pl):List (TV × Shp × Bool × List Nat)→List PV→List (List Nat)→Prop
 | [],outs,gps=>outs=[]∧gps=[]
 | (_,_,false,_) :: ls,outs,gps=>outsOk look w S π ls outs gps
 | (v,sh,true,ids) :: ls,outs,gps=>∃ p outs' g gps',outs=p :: outs'∧gps=g :: gps' ∧
   (∃ w0 S0 u p0 l0,relTV w0 S0 π v u∧expS look sh v=some (p0,l0,ids)∧ownS w S sh p u g∧(sh=.s→g=blks π ids))∧outsOk look w S π ls outs' gps'
theorem outs_of {w w':World} {S S':Nat→Prop} {π:Nat→Option Pl}:∀ (ms:List (Option (Shp × Bool))) (vs:List TV) (us:List Value) (a:Args) (outs:List PV) (gps:List (List Nat)),Z7a look ms vs=some a→relTVs w S π vs us →
  Z7b w' S' ms us (a.lins.map fun x=>blks π x.2.2.2) outs gps→outsOk look w' S' π a.lins outs gps
 | [],[],us,a,outs,gps,h,hr,ho=>by
  simp only [Z7a,Option.some.injEq] at h
  subst h
  simp only [Z7b] at ho
  simp only [outsOk]
  exact ho.2.2
 | [],_ :: _,us,a,outs,gps,h,hr,ho=>by simp [Z7a] at h
 | none :: ms,[],us,a,outs,gps,h,hr,ho=>by simp [Z7a] at h
 | some _ :: ms,[],us,a,outs,gps,h,hr,ho=>by simp [Z7a] at h
 | none :: ms,v :: vs,us,a,outs,gps,h,hr,ho=>by
  simp only [Z7a] at h
  split at h
  ·rename_i p ids a' h1 h2
   cases h
   simp only [relTVs] at hr
   obtain ⟨u,us',rfl,hr1,hr2⟩:=hr
   simp only [Z7b] at ho
   obtain ⟨u',us'',he,ho⟩:=ho
   cases he
   exact outs_of ms vs us' a' outs gps h2 hr2 ho
  ·cases h
 | some (sh,false) :: ms,v :: vs,us,a,outs,gps,h,hr,ho=>by
  simp only [Z7a] at h
  split at h
  ·rename_i p l ids a' h1 h2
   cases h
   simp only [relTVs] at hr
   obtain ⟨u,us',rfl,hr1,hr2⟩:=hr
   simp only [Z7b,List.map_cons] at ho
   obtain ⟨u',us'',f,fps',he,he2,ho⟩:=ho
   cases he
   cases he2
   simp only [outsOk]
   exact outs_of ms vs us' a' outs gps h2 hr2 ho
  ·cases h
 | some (sh,true) :: ms,v :: vs,us,a,outs,gps,h,hr,ho=>by
  simp only [Z7a] at h
  split at h
  ·rename_i p l ids a' h1 h2
   cases h
   simp only [relTVs] at hr
   obtain ⟨u,us',rfl,hr1,hr2⟩:=hr
   simp only [Z7b,List.map_cons] at ho
   obtain ⟨u',us'',f,fps',p',outs',g,gps',he,he2,he3,he4,ho1,ho2,ho⟩:=ho
   cases he
   cases he2
   simp only [outsOk]
   exact ⟨p',outs',g,gps',he3,he4,⟨w,S,u,p,l,hr1,h1,ho1,ho2⟩,outs_of ms vs us' a' outs' gps' h2 hr2 ho⟩
  ·cases h
theorem obs_back {w:World} {S:Nat→Prop} {π:Nat→Option Pl} {id:Nat} {ob:Ob} {pl:Pl} (h:ObsOk w S π look) (hl:look id=some .dead) (hp:π id=some pl) (hb:∀ b,pl.blk=some b→¬ S b∧b < w.heap.size∧¬ owned look π b) (hob:obOk w S π ob pl) :
  ObsOk w S π (upd look [(id,ob)] nx [])∧∀ b,owned (upd look [(id,ob)] nx []) π b→owned look π b∨pl.blk=some b:=by
 have hlook:∀ i x,upd look [(id,ob)] nx [] i=some x→(i=id∧x=ob)∨(i≠id∧look i=some x):=by
  intro i x ho
  simp only [upd,ZDa,List.length_nil,Nat.add_zero] at ho
  by_cases e:id=i
  ·rw [if_pos e] at ho; exact .inl ⟨e.symm,by simpa using ho.symm⟩
  ·rw [if_neg e] at ho
   simp only at ho
   rw [if_neg (by omega)] at ho
   exact .inr ⟨fun h=>e h.symm,ho⟩
 have hown:∀ b,owned (upd look [(id,ob)] nx []) π b→owned look π b∨pl.blk=some b:=by
  rintro b ⟨i,x,pj,h1,h2,h3,h4⟩
  rcases hlook i x h1 with ⟨rfl,rfl⟩ | ⟨hne,hli⟩
  ·rw [hp] at h3; cases h3; exact .inr h4
  ·exact .inl ⟨i,x,pj,hli,h2,h3,h4⟩
 refine ⟨?_,hown⟩
 refine obs_gen h (keep_sub fun _ h=>h) (Ext.refl _) h.st (Nat.le_refl _) (fun i=>i≠id) ?_ ?_
 ·intro i hne
  constructor
  ·simp only [upd,ZDa,List.length_nil,Nat.add_zero]
   rw [if_neg (fun e=>hne e.symm)]
   simp only
   rw [if_neg (by omega)]
  ·intro x pj b hx hlv hpj hb1
   exact ⟨rfl,(owned_lt h hx hlv hpj hb1).2⟩
 ·intro i x hx hno
  rcases hlook i x hx with ⟨rfl,rfl⟩ | ⟨hne,_⟩
  ·refine ⟨pl,hp,hob,fun b hlv hb1=>⟨(hb b hb1).2.1,(hb b hb1).1,?_⟩⟩
   intro j y pj h1 h2 h3 h4
   rcases hlook j y h1 with ⟨rfl,rfl⟩ | ⟨hne,hlj⟩
   ·rfl
   ·exact absurd ⟨j,y,pj,hlj,h2,h3,h4⟩ (hb b hb1).2.2
  ·exact absurd hne hno
end
end Go.Proofs.YtgpjfmihogaooaaGreatDoorV
namespace Go.Proofs.YtgpjfmihogaooaaGreatDoorV
open Go Go.RowKit
theorem upLast_append (a b:List (Nat × Ob)) (id:Nat):ZDa (a ++ b) id=match ZDa b id with | some x=>some x | none=>ZDa a id:=by
 induction a with
 | nil=>simp only [List.nil_append,ZDa]; cases ZDa b id <;> rfl
 | cons x a ih =>
  obtain ⟨i,y⟩:=x
  simp only [List.cons_append,ZDa,ih]
  cases ZDa b id <;> rfl
theorem upd_seq (look:Nat→Option Ob) (a b:List (Nat × Ob)) (nx:Nat) (x y:List Ob) (h:∀ j,j < y.length→ZDa a (nx + x.length + j)=none):upd (upd look a nx x) b (nx + x.length) y=upd look (a ++ b) nx (x ++ y):=by
 funext id
 simp only [upd,upLast_append,List.length_append]
 cases hb:ZDa b id with
 | some z=>rfl
 | none =>
  simp only
  by_cases h1:nx + x.length≤id∧id < nx + x.length + y.length
  ·have:=h (id - (nx + x.length)) (by omega)
   rw [show nx + x.length + (id - (nx + x.length))=id by omega] at this
   rw [if_pos h1,this]
   simp only
   rw [if_pos (by omega),List.getElem?_append_right (by omega)]
   congr 1; omega
  ·rw [if_neg h1]
   cases ha:ZDa a id with
   | some z=>rfl
   | none =>
    simp only
    by_cases h2:nx≤id∧id < nx + x.length
    ·rw [if_pos h2,if_pos (by omega),List.getElem?_append_left (by omega)]
    ·rw [if_neg h2,if_neg (by omega)]
theorem upd_skip {look:Nat→Option Ob} {π:Nat→Option Pl} {ids:List Nat} {a b:List (Nat × Ob)} {nx:Nat} {nw:List Ob} (hd:∀ i ∈ ids,look i=some .dead) (ha:∀ i ∈ ids,ZDa a i=none) (hf:Free look π nx nw.length) :
  upd look (a ++ (Zeb ids ++ b)) nx nw=upd look (a ++ b) nx nw:=by
 funext id
 simp only [upd,upLast_append]
 cases hb:ZDa b id with
 | some z=>rfl
 | none =>
  simp only
  cases hdd:ZDa (Zeb ids) id with
  | none=>rfl
  | some z =>
   obtain ⟨rfl,hm⟩:=upLast_dead hdd
   simp only [ha id hm]
   rw [if_neg,hd id hm]
   intro h
   have:=(hf (id - nx) (by omega)).1
   rw [show nx + (id - nx)=id by omega,hd id hm] at this
   cases this
def Outs (look:Nat→Option Ob) (lins:List (TV × Shp × Bool × List Nat)) (outs:List PV) (nx:Nat) (up:List (Nat × Ob)) (nw:List Ob):Prop :=
 (∀ id,(ZDa up id).isSome=true↔id ∈ lins.flatMap (·.2.2.2)) ∧
 ∀ (w:World)(S:Nat→Prop)(π:Nat→Option Pl)(lookB:Nat→Option Ob) (gps:List (List Nat)),(∀ i ∈ lins.flatMap (·.2.2.2),lookB i=some .dead)→(lins.flatMap (·.2.2.2)).Nodup→outsOk look w S π lins outs gps→gps.flatten.Nodup→ObsOk w S π lookB →
  (∀ i ∈ lins.flatMap (·.2.2.2),∀ es sz,look i=some (.row es sz)→∀ b s c z l,π i=some (.at b s c z l)→z=sz)→(∀ i ∈ lins.flatMap (·.2.2.2),(∃ x,look i=some x∧x.live=true)∧π i≠none) →
  (∀ b ∈ gps.flatten,¬ S b∧b < w.heap.size∧¬ owned lookB π b)→Free lookB π nx nw.length →
  ∃ π',ObsOk w S π' (upd lookB up nx nw)∧Ext π π'∧(∀ id,π' id≠none→π id≠none∨(nx≤id∧id < nx + nw.length))∧∀ b,owned (upd lookB up nx nw) π' b→owned lookB π b∨b ∈ gps.flatten
theorem blks_congr {π π1:Nat→Option Pl}:∀ {ids:List Nat},(∀ i ∈ ids,π1 i=π i)→blks π1 ids=blks π ids
 | [],_=>rfl
 | i :: ids,h=>by
  have:=blks_congr (ids:=ids) fun j hj=>h j (List.mem_cons_of_mem _ hj)
  simp only [blks,List.filterMap_cons,h i (List.mem_cons_self ..)] at this ⊢
  rw [this]
section
variable {look:Nat→Option Ob}
theorem exp_ref {shs:List Shp} {id:Nat} {p:PV} {l ids:List Nat} (h:expS look (.o shs) (.ref id 0)=some (p,l,ids)):∃ o,ids=id :: o:=by
 simp only [expS] at h
 split at h
 ·split at h
  ·cases h; exact ⟨_,rfl⟩
  ·cases h
 ·split at h
  ·cases h; exact ⟨_,rfl⟩
  ·cases h
 ·cases h
theorem exp_ow {id:Nat} {p:PV} {l ids:List Nat} (h:expS look .s (.ow id)=some (p,l,ids)):ids=[id]:=by
 simp only [expS] at h
 split at h
 ·cases h; rfl
 ·cases h
theorem outs_ok {R:Type}:∀ (lins:List (TV × Shp × Bool × List Nat)) (outs:List PV) (nx:Nat) (k:List (Nat × Ob)→List Ob→Option R) (r:R),outsK look lins outs nx k=some r →
  (∀ x ∈ lins,∃ p l,expS look x.2.1 x.1=some (p,l,x.2.2.2))→∃ up nw,k up nw=some r∧Outs look lins outs nx up nw
 | [],outs,nx,k,r,h,_=>by
  simp only [outsK] at h
  refine ⟨_,_,h,by simp [ZDa],?_⟩
  intro w S π lookB gps hd hn ho hgn hob hz hlv hfp hf
  simp only [outsOk] at ho
  exact ⟨π,by rw [upd_nil]; exact hob,Ext.refl _,fun id h=>.inl h,fun b hb=>by rw [upd_nil] at hb; exact .inl hb⟩
 | (v,sh,false,ids) :: ls,outs,nx,k,r,h,he=>by
  simp only [outsK] at h
  obtain ⟨up,nw,hk,hkey,hout⟩:=outs_ok ls outs nx _ r h fun x hx=>he x (List.mem_cons_of_mem _ hx)
  refine ⟨_,_,hk,?_,?_⟩
  ·intro id
   rw [upLast_append]
   simp only [List.flatMap_cons,List.mem_append]
   cases hu:ZDa up id with
   | some z =>
    have:=(hkey id).1 (by rw [hu]; rfl)
    simp [this]
   | none =>
    have hno:id ∉ ls.flatMap (·.2.2.2):=fun hm=>by have:=(hkey id).2 hm; rw [hu] at this; cases this
    simp only
    constructor
    ·intro h
     obtain ⟨z,hz⟩:=Option.isSome_iff_exists.1 h
     exact .inl (upLast_dead hz).2
    ·rintro (h | h)
     ·rw [upLast_dead_mem h]; rfl
     ·exact absurd h hno
  ·intro w S π lookB gps hd hn ho hgn hob hz hlv hfp hf
   simp only [List.flatMap_cons] at hd hn hlv
   rw [List.nodup_append] at hn
   simp only [outsOk] at ho
   obtain ⟨π',g1,g2,g3,g4⟩:=hout w S π lookB gps (fun i hi=>hd i (List.mem_append_right _ hi)) hn.2.1 ho hgn hob (fun i hi=>hz i (by simp only [List.flatMap_cons]; exact List.mem_append_right _ hi)) (fun i hi=>hlv i (List.mem_append_right _ hi)) hfp hf
   have heq:upd lookB (Zeb ids ++ up) nx nw=upd lookB up nx nw:=by
    have:=upd_skip (a:=[]) (b:=up) (nw:=nw) (fun i hi=>hd i (List.mem_append_left _ hi)) (fun i hi=>rfl) hf
    simpa using this
   rw [heq]
   exact ⟨π',g1,g2,g3,g4⟩
 | (v,sh,true,ids) :: ls,outs,nx,k,r,h,he=>by
  simp only [outsK] at h
  obtain ⟨p,hp,h1⟩:=Zba h
  clear h
  split at h1
  ·rename_i id shs
   obtain ⟨cs,hcs,h2⟩:=Zba h1
   obtain ⟨tvs,obs,h3,him⟩:=impL_ok shs cs nx _ r h2
   obtain ⟨up,nw,hk,hkey,hout⟩:=outs_ok ls outs.tail _ _ r h3 fun x hx=>he x (List.mem_cons_of_mem _ hx)
   obtain ⟨p0,l0,hexp⟩:=he _ (List.mem_cons_self ..)
   obtain ⟨tl,rfl⟩:=exp_ref hexp
   refine ⟨_,_,hk,?_,?_⟩
   ·intro i
    simp only [List.tail_cons,ZDa,upLast_append,List.flatMap_cons,List.mem_append,List.mem_cons]
    cases hu:ZDa up i with
    | some z =>
     have:=(hkey i).1 (by rw [hu]; rfl)
     simp [this]
    | none =>
     have hno:i ∉ ls.flatMap (·.2.2.2):=fun hm=>by have:=(hkey i).2 hm; rw [hu] at this; cases this
     simp only
     cases hdd:ZDa (Zeb tl) i with
     | some z=>simp [(upLast_dead hdd).2]
     | none =>
      have hnt:i ∉ tl:=fun hm=>by rw [upLast_dead_mem hm] at hdd; cases hdd
      simp only [hno,hnt,or_false]
      by_cases e:id=i
      ·subst e; simp
      ·rw [if_neg e]
       simp only [Option.isSome_none,Bool.false_eq_true,false_iff]
       exact fun h=>e h.symm
   ·intro w S π lookB gps hd hn ho hgn hob hz hlv hfp hf
    simp only [List.flatMap_cons] at hd hn hlv
    rw [List.nodup_append] at hn
    simp only [List.nodup_cons] at hn
    simp only [outsOk] at ho
    obtain ⟨p',outs',g,gps',rfl,rfl,⟨w0,S0,u,p1,l1,hr,_,hown,_⟩,ho⟩:=ho
    simp only [List.head?_cons,Option.some.injEq] at hp
    subst hp
    simp only [List.tail_cons] at ho hout
    simp only [List.flatten_cons,List.nodup_append] at hgn
    simp only [List.flatten_cons] at hfp
    simp only [List.length_append] at hf
    simp only [relTV] at hr
    obtain ⟨b0,s,c,z,l,hpi,hu⟩:=hr
    simp only [ownS] at hown
    obtain ⟨cs',b,C,t,fr,fp',rfl,rfl,rfl,hg,huf,h1,hre⟩:=hown
    simp only [PV.asObj,Option.some.injEq] at hcs
    subst hcs
    simp only [Value.pointer.injEq,Option.some.injEq,Addr.mk.injEq,and_true] at hu
    obtain ⟨rfl,hs0⟩:=hu
    have hs:s=0:=by omega
    subst hs
    simp only [List.nodup_cons] at hgn
    obtain ⟨π1,g1,g2,g3,g4,g5⟩:=him w S lookB π C.toList fp' hre hgn.1.2 hob (fun b hb=>hfp b (List.mem_append_left _ (List.mem_cons_of_mem _ hb))) (fun j hj=>hf j (by omega))
    have hnew:∀ i,lookB i=some .dead→¬ (nx≤i∧i < nx + (obs.length + nw.length)):=by
     intro i hi h
     have:=(hf (i - nx) (by omega)).1
     rw [show nx + (i - nx)=i by omega,hi] at this
     cases this
    have hid:lookB id=some .dead:=hd id (by simp)
    have hid':∀ i,lookB i=some .dead→upd lookB [] nx obs i=some .dead:=by
     intro i hi
     have:=hnew i hi
     simp only [upd,ZDa]
     rw [if_neg (by omega)]
     exact hi
    obtain ⟨k1,k2⟩:=obs_back (nx:=nx + obs.length) (ob:=.box tvs) (pl:=.at b 0 c z l) g1 (hid' id hid) (g2 _ _ hpi) (fun b' hb=>by
      simp only [Pl.blk,Option.some.injEq] at hb
      subst hb
      obtain ⟨q1,q2,q3⟩:=hfp b (by simp)
      exact ⟨q1,q2,fun ho=>(g5 b ho).elim q3 hgn.1.1⟩) (by
      simp only [obOk]
      exact ⟨trivial,C,t,fr,hg,huf,h1,g4⟩)
    have e1:upd (upd lookB [] nx obs) [(id,.box tvs)] (nx + obs.length) []=upd lookB [(id,.box tvs)] nx obs:=by
     have:=upd_seq lookB [] [(id,.box tvs)] nx obs [] (by simp)
     simpa using this
    rw [e1] at k1 k2
    have hdead:∀ i ∈ ls.flatMap (·.2.2.2),upd lookB [(id,.box tvs)] nx obs i=some .dead:=by
     intro i hi
     have hne:id≠i:=fun e=>hn.2.2 id (List.mem_cons_self ..) i hi e
     have hi':=hd i (List.mem_append_right _ hi)
     have:=hnew i hi'
     simp only [upd,ZDa]
     rw [if_neg hne]
     simp only
     rw [if_neg (by omega)]
     exact hi'
    have hfree:Free (upd lookB [(id,.box tvs)] nx obs) π1 (nx + obs.length) nw.length:=by
     intro j hj
     have hfr:=free_step (n:=nw.length) hf g3 j hj
     refine ⟨?_,hfr.2⟩
     have h1:=hfr.1
     simp only [upd,ZDa] at h1 ⊢
     have hne:id≠nx + obs.length + j:=fun e=>hnew id hid (by omega)
     rw [if_neg hne]
     exact h1
    have hπ1:∀ i,π i≠none→π1 i=π i:=by
     intro i hi
     cases hq:π i with
     | none=>exact absurd hq hi
     | some q=>exact g2 _ _ hq
    have aux:∀ (ls:List (TV × Shp × Bool × List Nat)) (outs:List PV) (gps:List (List Nat)),(∀ i ∈ ls.flatMap (·.2.2.2),π i≠none)→outsOk look w S π ls outs gps→outsOk look w S π1 ls outs gps:=by
     intro ls
     induction ls with
     | nil=>intro outs gps _ h; simpa only [outsOk] using h
     | cons x ls ih =>
      obtain ⟨v,sh,back,ids⟩:=x
      intro outs gps hpi h
      simp only [List.flatMap_cons,List.mem_append] at hpi
      cases back with
      | false=>simp only [outsOk] at h ⊢; exact ih outs gps (fun i hi=>hpi i (.inr hi)) h
      | true =>
       simp only [outsOk] at h ⊢
       obtain ⟨p,outs',g,gps',h1,h2,⟨w0,S0,u,p0,l0,h3,h4,h5,h6⟩,h7⟩:=h
       refine ⟨p,outs',g,gps',h1,h2,⟨w0,S0,u,p0,l0,relTV_keep (keep_sub fun _ h=>h) g2 _ _ h3,h4,h5,fun e=>?_⟩,ih outs' gps' (fun i hi=>hpi i (.inr hi)) h7⟩
       rw [h6 e]
       exact (blks_congr fun i hi=>hπ1 i (hpi i (.inl hi))).symm
    have hC:=aux ls outs' gps' (fun i hi=>(hlv i (List.mem_append_right _ hi)).2) ho
    have hZ:∀ i ∈ ls.flatMap (·.2.2.2),∀ es sz,look i=some (.row es sz)→∀ b s c z l,π1 i=some (.at b s c z l)→z=sz:=by
     intro i hi es sz hl b s c z l hp
     obtain ⟨_,h2⟩:=hlv i (List.mem_append_right _ hi)
     rw [hπ1 i h2] at hp
     exact hz i (by simp only [List.flatMap_cons]; exact List.mem_append_right _ hi) es sz hl b s c z l hp
    have hL:∀ i ∈ ls.flatMap (·.2.2.2),(∃ x,look i=some x∧x.live=true)∧π1 i≠none:=by
     intro i hi
     obtain ⟨h1,h2⟩:=hlv i (List.mem_append_right _ hi)
     exact ⟨h1,by rw [hπ1 i h2]; exact h2⟩
    have hB:∀ b' ∈ gps'.flatten,¬ S b'∧b' < w.heap.size∧¬ owned (upd lookB [(id,.box tvs)] nx obs) π1 b':=by
     intro b' hb
     obtain ⟨w1,w2,w3⟩:=hfp b' (List.mem_append_right _ hb)
     refine ⟨w1,w2,fun ho=>?_⟩
     rcases k2 b' ho with h2 | h2
     ·rcases g5 b' h2 with h3 | h3
      ·exact w3 h3
      ·exact hgn.2.2 b' (List.mem_cons_of_mem _ h3) b' hb rfl
     ·simp only [Pl.blk,Option.some.injEq] at h2
      subst h2
      exact hgn.2.2 b (List.mem_cons_self ..) b hb rfl
    obtain ⟨π2,q1,q2,q3,q4⟩:=hout w S π1 (upd lookB [(id,.box tvs)] nx obs) gps' hdead hn.2.1 hC hgn.2.1 k1 hZ hL hB hfree
    ·have e2:upd (upd lookB [(id,.box tvs)] nx obs) up (nx + obs.length) nw=upd lookB ((id,.box tvs) :: (Zeb tl ++ up)) nx (obs ++ nw):=by
      rw [upd_seq lookB [(id,.box tvs)] up nx obs nw (fun j hj=>by
       simp only [ZDa]
       exact if_neg fun e=>hnew id hid (by omega))]
      have:=upd_skip (look:=lookB) (π:=π) (ids:=tl) (a:=[(id,.box tvs)]) (b:=up) (nx:=nx) (nw:=obs ++ nw) (fun i hi=>hd i (List.mem_append_left _ (List.mem_cons_of_mem _ hi))) (fun i hi=>by
       simp only [ZDa]
       exact if_neg fun e:id=i=>hn.1.1 (by rw [e]; exact hi)) (by simpa using hf)
      rw [List.singleton_append] at this
      rw [this]
     rw [List.tail_cons,← e2]
     refine ⟨π2,q1,g2.trans q2,?_,?_⟩
     ·intro i hi
      simp only [List.length_append]
      rcases q3 i hi with h1 | h1
      ·rcases g3 i h1 with h2 | h2
       ·exact .inl h2
       ·exact .inr (by omega)
      ·exact .inr (by omega)
     ·intro b' hb'
      simp only [List.flatten_cons]
      rcases q4 b' hb' with h1 | h1
      ·rcases k2 b' h1 with h2 | h2
       ·rcases g5 b' h2 with h3 | h3
        ·exact .inl h3
        ·exact .inr (List.mem_append_left _ (List.mem_cons_of_mem _ h3))
       ·simp only [Pl.blk,Option.some.injEq] at h2
        subst h2
        exact .inr (by simp)
      ·exact .inr (List.mem_append_right _ h1)
  ·rename_i id
   split at h1
   ·rename_i es sz hl
    obtain ⟨x,hx,h2⟩:=Zba h1
    split at h2
    ·rename_i hxs
     obtain ⟨up,nw,hk,hkey,hout⟩:=outs_ok ls outs.tail _ _ r h2 fun x hx=>he x (List.mem_cons_of_mem _ hx)
     obtain ⟨p0,l0,hexp⟩:=he _ (List.mem_cons_self ..)
     have hids:=exp_ow hexp
     simp only at hids
     subst hids
     refine ⟨_,_,hk,?_,?_⟩
     ·intro i
      simp only [ZDa,List.flatMap_cons,List.mem_append,List.mem_singleton]
      cases hu:ZDa up i with
      | some z =>
       have:=(hkey i).1 (by rw [hu]; rfl)
       simp [this]
      | none =>
       have hno:i ∉ ls.flatMap (·.2.2.2):=fun hm=>by have:=(hkey i).2 hm; rw [hu] at this; cases this
       simp only [hno,or_false]
       by_cases e:id=i
       ·subst e; simp
       ·rw [if_neg e]
        simp only [Option.isSome_none,Bool.false_eq_true,false_iff]
        exact fun h=>e h.symm
     ·intro w S π lookB gps hd hn ho hgn hob hz hlv hfp hf
      simp only [List.flatMap_cons] at hd hn hlv
      rw [List.nodup_append] at hn
      simp only [outsOk] at ho
      obtain ⟨p',outs',g,gps',rfl,rfl,⟨w0,S0,u,p1,l1,hr,_,hown,hgs⟩,ho⟩:=ho
      simp only [List.head?_cons,Option.some.injEq] at hp
      subst hp
      simp only [List.tail_cons] at ho hout
      simp only [List.flatten_cons,List.nodup_append] at hgn
      simp only [List.flatten_cons] at hfp
      have hgs:=hgs trivial
      simp only [ownS] at hown
      obtain ⟨es',sz',rfl,hrow⟩:=hown
      simp only [PV.asOs,Option.some.injEq] at hx
      subst hx
      simp only at hxs
      subst hxs
      have hid:lookB id=some .dead:=hd id (by simp)
      have hnew:∀ i,lookB i=some .dead→¬ (nx≤i∧i < nx + nw.length):=by
       intro i hi h
       have:=(hf (i - nx) (by omega)).1
       rw [show nx + (i - nx)=i by omega,hi] at this
       cases this
      have hplace:∃ pl,π id=some pl∧obOk w S π (.row es' sz') pl∧∀ b,pl.blk=some b→b ∈ g:=by
       simp only [relTV] at hr
       rcases hr with ⟨hpi,hu⟩ | ⟨b,s,c,z,l,a,hpi,hu,ha⟩
       ·refine ⟨_,hpi,?_,fun b hb=>by cases hb⟩
        simp only [obOk]
        rcases hrow with ⟨_,h1,_⟩ | ⟨b',s',c',a',C,t,fr,h1,_⟩
        ·exact h1
        ·rw [hu] at h1; cases h1
       ·have hzz:=hz id (by simp) es sz' hl b s c z l hpi
        subst hzz
        simp only [blks,List.filterMap_cons,hpi,Option.bind_some,Pl.blk,List.filterMap_nil] at hgs
        refine ⟨_,hpi,?_,fun b' hb=>by simp only [Pl.blk,Option.some.injEq] at hb; subst hb; simp [hgs]⟩
        rcases hrow with ⟨h1,_⟩ | ⟨b',s',c',a',C,t,fr,h1,ha',hg,hlc,hcm,hh,huf,h2,hsz,hre⟩
        ·rw [hu] at h1; cases h1
        ·rw [hu] at h1
         simp only [Value.slice.injEq,Option.some.injEq] at h1
         obtain ⟨rfl,rfl,rfl⟩:=h1
         rw [hg] at hgs
         simp only [List.cons.injEq,and_true] at hgs
         subst hgs
         have hss:c≠0→s'=s:=by
          intro h0
          have e1:=ha.resolve_left h0
          have e2:=ha'.resolve_left h0
          rw [e1] at e2
          simp only [Addr.mk.injEq,and_true,true_and] at e2
          exact e2.symm
         simp only [obOk]
         refine ⟨trivial,trivial,hlc,hcm,C,t,fr,hh,huf,h2,fun h0=>by rw [← hss h0]; exact hsz h0,?_⟩
         by_cases h0:c=0
         ·have:es'=[]:=List.eq_nil_of_length_eq_zero (by omega)
          subst this
          simp only [relEs]
         ·rw [← hss h0]; exact hre
      obtain ⟨pl,hpi,hobk,hblk⟩:=hplace
      obtain ⟨k1,k2⟩:=obs_back (nx:=nx) (ob:=.row es' sz') (pl:=pl) hob hid hpi (fun b' hb=>hfp b' (List.mem_append_left _ (hblk b' hb))) hobk
      have hdead:∀ i ∈ ls.flatMap (·.2.2.2),upd lookB [(id,.row es' sz')] nx [] i=some .dead:=by
       intro i hi
       have hne:id≠i:=fun e=>hn.2.2 id (by simp) i hi e
       have hi':=hd i (List.mem_append_right _ hi)
       simp only [upd,ZDa]
       rw [if_neg hne]
       simp only [List.length_nil]
       rw [if_neg (by omega)]
       exact hi'
      have hfree:Free (upd lookB [(id,.row es' sz')] nx []) π nx nw.length:=by
       intro j hj
       refine ⟨?_,(hf j hj).2⟩
       simp only [upd,ZDa]
       have hne:id≠nx + j:=fun e=>hnew id hid (by omega)
       rw [if_neg hne]
       simp only [List.length_nil]
       rw [if_neg (by omega)]
       exact (hf j hj).1
      obtain ⟨π2,q1,q2,q3,q4⟩:=hout w S π (upd lookB [(id,.row es' sz')] nx []) gps' hdead hn.2.1 ho hgn.2.1 k1 (fun i hi=>hz i (by simp only [List.flatMap_cons]; exact List.mem_append_right _ hi)) (fun i hi=>hlv i (List.mem_append_right _ hi)) (fun b' hb=>by
       obtain ⟨w1,w2,w3⟩:=hfp b' (List.mem_append_right _ hb)
       refine ⟨w1,w2,fun ho=>?_⟩
       rcases k2 b' ho with h2 | h2
       ·exact w3 h2
       ·exact hgn.2.2 b' (hblk b' h2) b' hb rfl) hfree
      have e2:upd (upd lookB [(id,.row es' sz')] nx []) up nx nw=upd lookB ((id,.row es' sz') :: up) nx nw:=by
       have:=upd_seq lookB [(id,.row es' sz')] up nx [] nw (fun j hj=>by
        simp only [ZDa]
        exact if_neg fun e=>hnew id hid (by simp only [List.length_nil] at e; omega))
       simpa using this
      rw [← e2]
      refine ⟨π2,q1,q2,q3,fun b' hb'=>?_⟩
      simp only [List.flatten_cons]
      rcases q4 b' hb' with h1 | h1
      ·rcases k2 b' h1 with h2 | h2
       ·exact .inl h2
       ·exact .inr (List.mem_append_left _ (hblk b' h2))
      ·exact .inr (List.mem_append_right _ h1)
    ·cases h2
   ·cases h1
  ·cases h1
end
end Go.Proofs.YtgpjfmihogaooaaGreatDoorV
namespace Go.Proofs.YtgpjfmihogaooaaGreatDoorV
open Go Go.RowKit
theorem noDup_ok:∀ {l:List Nat},noDup l=true→l.Nodup
 | [],_=>by simp
 | i :: l,h=>by
  simp only [noDup,Bool.and_eq_true,Bool.not_eq_true'] at h
  rw [List.nodup_cons]
  refine ⟨fun hm=>?_,noDup_ok h.2⟩
  have:=h.1
  simp only [List.contains_eq_mem,hm,decide_true,Bool.true_eq_false] at this
theorem upLast_fro {look:Nat→Option Ob} {ids l:List Nat} {id:Nat}:ZDa (l.map fun i=>(i,froOb look ids i)) id=if id ∈ l then some (froOb look ids id) else none:=by
 induction l with
 | nil=>simp [ZDa]
 | cons i l ih =>
  simp only [List.map_cons,ZDa,ih,List.mem_cons]
  by_cases h:id ∈ l
  ·simp [h]
  ·simp only [h,if_false,or_false]
   by_cases e:i=id
   ·subst e; simp
   ·rw [if_neg e,if_neg (fun h=>e h.symm)]
theorem mem_blks_flat {π:Nat→Option Pl} {lins:List (TV × Shp × Bool × List Nat)}:(lins.map fun x=>blks π x.2.2.2).flatten=blks π (lins.flatMap (·.2.2.2)):=by
 induction lins with
 | nil=>rfl
 | cons x l ih=>simp only [List.map_cons,List.flatten_cons,List.flatMap_cons,blks_append,ih]
section
variable {P:Program} {T:TypeId→Option TI} {look:Nat→Option Ob} {nx:Nat} {ev:Operand→Option TV} {o:Oper} {v:TV} {up:List (Nat × Ob)} {nw:List Ob} {rd:List Nat}
theorem blks_nodup {w:World} {S:Nat→Prop} {π:Nat→Option Pl} (h:ObsOk w S π look):∀ {ids:List Nat},ids.Nodup→(∀ i ∈ ids,∃ x,look i=some x∧x.live=true)→(blks π ids).Nodup
 | [],_,_=>by simp [blks]
 | i :: ids,hn,hl=>by
  simp only [List.nodup_cons] at hn
  have ih:=blks_nodup h hn.2 fun j hj=>hl j (List.mem_cons_of_mem _ hj)
  simp only [blks,List.filterMap_cons] at ih ⊢
  split
  ·exact ih
  ·rename_i b hb
   rw [List.nodup_cons]
   refine ⟨fun hm=>?_,ih⟩
   obtain ⟨j,hj,pj,hpj,hbj⟩:=mem_blks.1 hm
   obtain ⟨x,hx,hxl⟩:=hl i (List.mem_cons_self ..)
   obtain ⟨y,hy,hyl⟩:=hl j (List.mem_cons_of_mem _ hj)
   cases hpi:π i with
   | none=>rw [hpi] at hb; cases hb
   | some pi =>
    rw [hpi] at hb
    have:=h.apart i j x y pi pj b hx hy hxl hyl hpi hpj hb hbj
    subst this
    exact hn.1 hj
theorem blks_lt {w:World} {S:Nat→Prop} {π:Nat→Option Pl} (h:ObsOk w S π look) {ids:List Nat} (hl:∀ i ∈ ids,∃ x,look i=some x∧x.live=true):∀ b ∈ blks π ids,owned look π b:=by
 intro b hb
 obtain ⟨i,hi,pl,hp,hpb⟩:=mem_blks.1 hb
 obtain ⟨x,hx,hxl⟩:=hl i hi
 exact ⟨i,x,pl,hx,hxl,hp,hpb⟩
theorem froOb_ok {w w':World} {S S':Nat→Prop} {π:Nat→Option Pl} {ids:List Nat} {id:Nat} {pl:Pl} (h:ObsOk w S π look) (hid:id ∈ ids) (hp:π id=some pl) (hS:∀ b,S b→S' b) (hSi:∀ b ∈ blks π ids,S' b) (hsame:∀ b,S b∨b ∈ blks π ids→w'.heap[b]? = w.heap[b]?) :
  obOk w' S' π (froOb look ids id) pl:=by
 have hk:Keep w S w' S':=⟨fun b hb=>hsame b (.inl hb),hS⟩
 have hk2:Keep w (fun b=>S b∨b ∈ blks π ids) w' S':=⟨fun b hb=>hsame b hb,fun b hb=>hb.elim (hS b) (hSi b)⟩
 unfold froOb
 split
 ·rename_i es sz hl
  obtain ⟨pl',hp',ho⟩:=h.ok id _ hl
  rw [hp] at hp'; cases hp'
  cases pl with
  | nil=>simpa only [obOk] using ho
  | «at» b s c z l =>
   simp only [obOk] at ho ⊢
   obtain ⟨rfl,rfl,h1,h2,C,t,fr,hg,_,_,_,hr⟩:=ho
   have hb:b ∈ blks π ids:=mem_blks.2 ⟨id,hid,_,hp,rfl⟩
   exact ⟨rfl,h1,h2,hSi b hb,relEs_keep hk _ _ _ _ (hsame b (.inr hb)) hr⟩
 ·rename_i kvs hl
  obtain ⟨pl',hp',ho⟩:=h.ok id _ hl
  rw [hp] at hp'; cases hp'
  cases pl with
  | nil=>simp only [obOk] at ho
  | «at» b s c z l =>
   simp only [obOk] at ho ⊢
   obtain ⟨ms,clock,hg,hst,hr⟩:=ho
   have hb:b ∈ blks π ids:=mem_blks.2 ⟨id,hid,_,hp,rfl⟩
   exact ⟨hSi b hb,ms,clock,(hsame b (.inr hb)).trans hg,hst,relKV_keep hk _ _ hr⟩
 ·rename_i p n hl
  obtain ⟨pl',hp',ho⟩:=h.ok id _ hl
  rw [hp] at hp'; cases hp'
  cases pl with
  | nil=>simp only [obOk] at ho
  | «at» b s c z l =>
   simp only [obOk] at ho ⊢
   obtain ⟨rfl,C,t,fr,hg,_,h1,hsz,hq,hr⟩:=ho
   have hb:b ∈ blks π ids:=mem_blks.2 ⟨id,hid,_,hp,rfl⟩
   obtain ⟨cs,us,rfl,hu,h2,h3,_⟩:=rel_agg hr hq
   cases hu
   exact ⟨rfl,hSi b hb,relCs_keep hk _ _ _ (hsame b (.inr hb)) (relCs_list hg h1 h3)⟩
 ·rename_i cs hl
  split
  ·rename_i ps is hps
   split
   ·rename_i hall
    obtain ⟨pl',hp',ho⟩:=h.ok id _ hl
    rw [hp] at hp'; cases hp'
    cases pl with
    | nil=>simp only [obOk] at ho
    | «at» b s c z l =>
     simp only [obOk] at ho ⊢
     obtain ⟨rfl,C,t,fr,hg,_,h1,hr⟩:=ho
     have hb:b ∈ blks π ids:=mem_blks.2 ⟨id,hid,_,hp,rfl⟩
     obtain ⟨g1,_⟩:=reifyL_ok (S':=fun b=>S b∨b ∈ blks π ids) h (fun b hb=>.inl hb) 99 cs C.toList ps is hps hr (fun b' hb'=>by
      obtain ⟨j,hj,pj,hpj,hbj⟩:=mem_blks.1 hb'
      simp only [List.all_eq_true] at hall
      have:=hall j hj
      simp only [List.contains_eq_mem,decide_eq_true_eq] at this
      exact .inr (mem_blks.2 ⟨j,this,pj,hpj,hbj⟩))
     exact ⟨rfl,hSi b hb,relCs_keep hk2 _ _ _ (hsame b (.inr hb)) (relCs_list hg h1 g1)⟩
   ·simp only [obOk]
  ·simp only [obOk]
 ·simp only [obOk]
theorem froOb_dead {ids:List Nat} {id:Nat}:(froOb look ids id).live=false:=by
 unfold froOb
 split <;> try rfl
 split <;> try rfl
 split <;> rfl
theorem gather_exp:∀ {ms:List (Option (Shp × Bool))} {vs:List TV} {a:Args},Z7a look ms vs=some a→∀ x ∈ a.lins,∃ p l,expS look x.2.1 x.1=some (p,l,x.2.2.2)
 | [],[],a,h,x,hx=>by simp only [Z7a,Option.some.injEq] at h; subst h; cases hx
 | [],_ :: _,a,h,x,hx=>by simp [Z7a] at h
 | none :: ms,[],a,h,x,hx=>by simp [Z7a] at h
 | some _ :: ms,[],a,h,x,hx=>by simp [Z7a] at h
 | none :: ms,v :: vs,a,h,x,hx=>by
  simp only [Z7a] at h
  split at h
  ·rename_i p ids a' h1 h2
   cases h
   exact gather_exp h2 x hx
  ·cases h
 | some (sh,back) :: ms,v :: vs,a,h,x,hx=>by
  simp only [Z7a] at h
  split at h
  ·rename_i p l ids a' h1 h2
   cases h
   rcases List.mem_cons.1 hx with rfl | hx
   ·exact ⟨p,l,h1⟩
   ·exact gather_exp h2 x hx
  ·cases h
theorem apply_ok {Γ:FuncId→Option Cal} {G:Nat→Option (List PV)} {g:FuncId} {c:Ctr} {args:List TV} {ty:TypeId} (hΓ:Γ g=some (.ctr c)) (hG:Zka P G g c) (h:callK Γ look nx g args (resK T ty ret4)=some (v,up,nw,rd))
  {w:World} {S:Nat→Prop} {π:Nat→Option Pl} {us:List Value} (hgo:GOk G w S) (hr:relTVs w S π args us) (hob:ObsOk w S π look) (hf:Free look π nx nw.length) :
  Applies P g us.toArray w fun u w'=>∃ S' π',After w S π look nx v up nw u w' S' π':=by
 unfold callK at h
 rw [hΓ] at h
 simp only at h
 split at h
 ·cases h
 rename_i a ha
 split at h
 case isFalse=>cases h
 rename_i hnd
 simp only [Bool.and_eq_true] at hnd
 obtain ⟨y,hy,h'⟩:=Zba h
 clear h
 have hx:c.F a.ps=some (c.E y):=by simp only [Ctr.F,hy,Option.bind_some]
 generalize c.E y=x at hx h'
 obtain ⟨r,outs⟩:=x
 obtain ⟨upO,nwO,h2,hkey,hout⟩:=outs_ok a.lins outs nx _ _ h' (gather_exp ha)
 obtain ⟨tv,obs,h3,him⟩:=imp_ok c.res r _ _ _ h2
 have hres:tv=v∧upO ++ (if c.scal then [] else froAll look a.lent)=up∧nwO ++ obs=nw:=by
  unfold resK at h3
  split at h3
  ·obtain ⟨h4,_⟩:=coeK_spec h3
   obtain ⟨e1,e2,e3,_⟩:=Zua h4
   exact ⟨e1,e2,e3⟩
  ·obtain ⟨e1,e2,e3,_⟩:=Zua h3
   exact ⟨e1,e2,e3⟩
 obtain ⟨rfl,rfl,rfl⟩:=hres
 clear h2 h3 h'
 have hL:=noDup_ok hnd.1
 have hdisj:∀ i ∈ a.lent,i ∉ a.lins.flatMap (·.2.2.2):=by
  intro i hi hm
  have:=hnd.2
  simp only [List.all_eq_true] at this
  have:=this i hi
  simp only [List.contains_eq_mem,hm,decide_true,Bool.not_true,Bool.false_eq_true] at this
 have hlive:=(gather_ok (S':=fun b=>S b∨b ∈ blks π a.lent) hob (fun b hb=>.inl hb) c.modes args us a ha hr fun b hb=>.inr hb).2
 have hargs:=(gather_ok (S':=fun b=>S b∨b ∈ blks π a.lent) hob (fun b hb=>.inl hb) c.modes args us a ha hr fun b hb=>.inr hb).1
 have hliveL:∀ i ∈ a.lins.flatMap (·.2.2.2),∃ x,look i=some x∧x.live=true:=fun i hi=>hlive i (List.mem_append_right _ hi)
 have hliveT:∀ i ∈ a.lent,∃ x,look i=some x∧x.live=true:=fun i hi=>hlive i (List.mem_append_left _ hi)
 have hbL:=blks_lt hob hliveL
 have hbT:=blks_lt hob hliveT
 have hbd:∀ b,b ∈ blks π a.lent→b ∉ blks π (a.lins.flatMap (·.2.2.2)):=by
  intro b h1 h2
  obtain ⟨i,hi,pi,hpi,hbi⟩:=mem_blks.1 h1
  obtain ⟨j,hj,pj,hpj,hbj⟩:=mem_blks.1 h2
  obtain ⟨x,hx,hxl⟩:=hliveT i hi
  obtain ⟨y,hy,hyl⟩:=hliveL j hj
  have:=hob.apart i j x y pi pj b hx hy hxl hyl hpi hpj hbi hbj
  subst this
  exact hdisj i hi hj
 have hcall:=hG w (fun b=>S b∨b ∈ blks π a.lent) a.ps us _ r outs hargs (by rw [mem_blks_flat]; exact blks_nodup hob hL hliveL)
  (by
   rw [mem_blks_flat]
   intro b hb
   have ho:=hob.out b (hbL b hb)
   exact ⟨fun h=>h.elim ho.1 fun h=>hbd b h hb,ho.2⟩)
  (fun b hb=>hb.elim (hob.st b) fun h=>(hob.out b (hbT b h)).2)
  (hgo.keep (keep_sub fun b hb=>.inl hb)) hx
 refine hcall.mono fun u w' hB=>?_
 obtain ⟨S',gg,gps,hB⟩:=hB
 have hsame:=hB.same
 have hstab:=hB.stab
 have hownB:=hB.own
 rw [mem_blks_flat] at hsame hstab hownB
 let S2:Nat→Prop:=if c.scal then S else S'
 have hS2:S2=S'∨c.scal=true:=by
  simp only [S2]
  cases c.scal
  ·exact .inl rfl
  ·exact .inr rfl
 have hsub2:∀ b,S b→S2 b:=by
  intro b hb
  simp only [S2]
  cases c.scal
  ·exact hB.sub b (.inl hb)
  ·exact hb
 have h2sub:∀ b,S2 b→S' b:=by
  intro b hb
  simp only [S2] at hb
  cases hc:c.scal
  ·rw [hc] at hb; exact hb
  ·rw [hc] at hb; exact hB.sub b (.inl hb)
 obtain ⟨hres,houts⟩:=hB.res S2 hS2
 let fro:=if c.scal then [] else froAll look a.lent
 have hfro:∀ id,ZDa fro id=if c.scal=false∧id ∈ a.lent then some (froOb look a.lent id) else none:=by
  intro id
  simp only [fro]
  cases c.scal
  ·simp only [Bool.false_eq_true,if_false,froAll,upLast_fro,true_and]
  ·simp [ZDa]
 have hin:∀ i,(∃ x,look i=some x∧x.live=true)→¬ (nx≤i∧i < nx + (nwO ++ obs).length):=by
  rintro i ⟨x,hx,_⟩ h
  have:=(hf (i - nx) (by omega)).1
  rw [show nx + (i - nx)=i by omega,hx] at this
  cases this
 let lookB:=upd look (Zeb (a.lins.flatMap (·.2.2.2)) ++ fro) nx []
 have hlookB:∀ id,lookB id=if id ∈ a.lins.flatMap (·.2.2.2) then some .dead else if c.scal=false∧id ∈ a.lent then some (froOb look a.lent id) else look id:=by
  intro id
  simp only [lookB,upd,upLast_append,hfro,List.length_nil,Nat.add_zero]
  by_cases h1:id ∈ a.lins.flatMap (·.2.2.2)
  ·have:¬ (c.scal=false∧id ∈ a.lent):=fun h=>hdisj id h.2 h1
   rw [if_neg this,if_pos h1,upLast_dead_mem h1]
  ·rw [if_neg h1]
   by_cases h2:c.scal=false∧id ∈ a.lent
   ·rw [if_pos h2,if_pos h2]
   ·rw [if_neg h2]
    cases hd:ZDa (Zeb (a.lins.flatMap (·.2.2.2))) id with
    | some z=>exact absurd (upLast_dead hd).2 h1
    | none=>simp only; rw [if_neg (by omega),if_neg h2]
 have hobB:ObsOk w' S2 π lookB:=by
  refine obs_gen hob ⟨fun b hb=>hsame b (hob.st b hb) fun hm=>(hob.out b (hbL b hm)).1 hb,hsub2⟩ (Ext.refl _) (fun b hb=>hB.st b (h2sub b hb)) hB.size
   (fun id=>id ∉ a.lins.flatMap (·.2.2.2)∧¬ (c.scal=false∧id ∈ a.lent)) ?_ ?_
  ·rintro id ⟨h1,h2⟩
   refine ⟨by rw [hlookB,if_neg h1,if_neg h2],fun x pl b hx hl hp hb=>?_⟩
   have ho:owned look π b:=⟨id,x,pl,hx,hl,hp,hb⟩
   have hnL:b ∉ blks π (a.lins.flatMap (·.2.2.2)):=by
    intro hm
    obtain ⟨j,hj,pj,hpj,hbj⟩:=mem_blks.1 hm
    obtain ⟨y,hy,hyl⟩:=hliveL j hj
    have:=hob.apart id j x y pl pj b hx hy hl hyl hp hpj hb hbj
    subst this
    exact h1 hj
   refine ⟨hsame b (hob.out b ho).2 hnL,fun hs=>?_⟩
   simp only [S2] at hs
   cases hc:c.scal
   ·rw [hc] at hs
    rcases hstab b hs with h3 | h3 | h3
    ·rcases h3 with h3 | h3
     ·exact (hob.out b ho).1 h3
     ·obtain ⟨j,hj,pj,hpj,hbj⟩:=mem_blks.1 h3
      obtain ⟨y,hy,hyl⟩:=hliveT j hj
      have:=hob.apart id j x y pl pj b hx hy hl hyl hp hpj hb hbj
      subst this
      exact h2 ⟨hc,hj⟩
    ·exact hnL h3
    ·have:=(hob.out b ho).2; omega
   ·rw [hc] at hs
    exact (hob.out b ho).1 hs
  ·intro id x hx hno
   rw [hlookB] at hx
   by_cases h1:id ∈ a.lins.flatMap (·.2.2.2)
   ·rw [if_pos h1] at hx
    cases hx
    obtain ⟨y,hy,_⟩:=hliveL id h1
    obtain ⟨pl,hp,_⟩:=hob.ok id y hy
    exact ⟨pl,hp,by simp only [obOk],fun b hl=>by cases hl⟩
   ·rw [if_neg h1] at hx
    by_cases h2:c.scal=false∧id ∈ a.lent
    ·rw [if_pos h2] at hx
     cases hx
     obtain ⟨y,hy,_⟩:=hliveT id h2.2
     obtain ⟨pl,hp,_⟩:=hob.ok id y hy
     have hS2':S2=S':=by simp only [S2,h2.1]; rfl
     refine ⟨pl,hp,?_,fun b hl=>by rw [froOb_dead] at hl; cases hl⟩
     refine froOb_ok hob h2.2 hp hsub2 (fun b hb=>by rw [hS2']; exact hB.sub b (.inr hb)) (fun b hb=>?_)
     rcases hb with hb | hb
     ·exact hsame b (hob.st b hb) fun hm=>(hob.out b (hbL b hm)).1 hb
     ·exact hsame b (hob.out b (hbT b hb)).2 (hbd b hb)
    ·exact absurd ⟨h1,h2⟩ hno
 have hownLB:∀ b,owned lookB π b→owned look π b∧b ∉ blks π (a.lins.flatMap (·.2.2.2)):=by
  rintro b ⟨id,x,pl,h1,h2,h3,h4⟩
  rw [hlookB] at h1
  by_cases h5:id ∈ a.lins.flatMap (·.2.2.2)
  ·rw [if_pos h5] at h1; cases h1; cases h2
  ·rw [if_neg h5] at h1
   by_cases h6:c.scal=false∧id ∈ a.lent
   ·rw [if_pos h6] at h1; cases h1; rw [froOb_dead] at h2; cases h2
   ·rw [if_neg h6] at h1
    refine ⟨⟨id,x,pl,h1,h2,h3,h4⟩,fun hm=>?_⟩
    obtain ⟨j,hj,pj,hpj,hbj⟩:=mem_blks.1 hm
    obtain ⟨y,hy,hyl⟩:=hliveL j hj
    have:=hob.apart id j x y pl pj b h1 hy h2 hyl h3 hpj h4 hbj
    subst this
    exact h5 hj
 have hfresh:∀ b ∈ gg ++ gps.flatten,¬ S2 b∧b < w'.heap.size∧¬ owned lookB π b:=by
  intro b hb
  obtain ⟨h1,h2,h3⟩:=hownB b hb
  refine ⟨fun h=>h1 (h2sub b h),h2,fun ho=>?_⟩
  obtain ⟨h4,h5⟩:=hownLB b ho
  rcases h3 with h3 | h3
  ·exact h5 h3
  ·have:=(hob.out b h4).2; omega
 have hnd2:=hB.nodup
 rw [List.nodup_append] at hnd2
 have hfreeB:Free lookB π nx (nwO ++ obs).length:=by
  intro j hj
  refine ⟨?_,(hf j hj).2⟩
  have hne:¬ ∃ x,look (nx + j)=some x∧x.live=true:=fun h=>hin _ h (by omega)
  rw [hlookB,if_neg (fun h=>hne (hliveL _ h)),if_neg (fun h=>hne (hliveT _ h.2))]
  exact (hf j hj).1
 simp only [List.length_append] at hfreeB
 obtain ⟨π1,q1,q2,q3,q4⟩:=hout w' S2 π lookB gps (fun i hi=>by rw [hlookB,if_pos hi]) hL (outs_of c.modes args us a outs gps ha hr houts) hnd2.2.1 hobB
  (fun i hi es sz hl b s c z l hp=>by
   obtain ⟨pl,hp',hk⟩:=hob.ok i _ hl
   rw [hp] at hp'; cases hp'
   simp only [obOk] at hk
   exact hk.2.1)
  (fun i hi=>⟨hliveL i hi,by
   obtain ⟨y,hy,_⟩:=hliveL i hi
   obtain ⟨pl,hp,_⟩:=hob.ok i y hy
   rw [hp]; simp⟩)
  (fun b hb=>hfresh b (List.mem_append_right _ hb)) (fun j hj=>hfreeB j (by omega))
 have hfree1:Free (upd lookB upO nx nwO) π1 (nx + nwO.length) obs.length:=by
  intro j hj
  have h0:=hfreeB (nwO.length + j) (by omega)
  rw [← Nat.add_assoc] at h0
  refine ⟨?_,?_⟩
  ·simp only [upd]
   cases hu:ZDa upO (nx + nwO.length + j) with
   | some z =>
    have:=(hkey _).1 (by rw [hu]; rfl)
    exact absurd (hliveL _ this) fun h=>hin _ h (by simp only [List.length_append]; omega)
   | none=>simp only; rw [if_neg (by omega)]; exact h0.1
  ·cases hq:π1 (nx + nwO.length + j) with
   | none=>rfl
   | some q =>
    rcases q3 (nx + nwO.length + j) (by rw [hq]; simp) with h1 | h1
    ·exact absurd h0.2 h1
    ·omega
 obtain ⟨π2,k1,k2,k3,k4,k5,_⟩:=him w' S2 (upd lookB upO nx nwO) π1 u gg hres hnd2.1 q1 (fun b hb=>by
  obtain ⟨h1,h2,h3⟩:=hfresh b (List.mem_append_left _ hb)
  exact ⟨h1,h2,fun ho=>(q4 b ho).elim h3 fun h=>hnd2.2.2 b hb b h rfl⟩) hfree1
 have heq:upd (upd lookB upO nx nwO) [] (nx + nwO.length) obs=upd look (upO ++ fro) nx (nwO ++ obs):=by
  rw [upd_seq lookB upO [] nx nwO obs (fun j hj=>by
   cases hu:ZDa upO (nx + nwO.length + j) with
   | none=>rfl
   | some z =>
    have:=(hkey _).1 (by rw [hu]; rfl)
    exact absurd (hliveL _ this) fun h=>hin _ h (by simp only [List.length_append]; omega))]
  rw [List.append_nil]
  funext id
  simp only [upd,upLast_append,hfro]
  cases hu:ZDa upO id with
  | some z =>
   have hm:=(hkey _).1 (by rw [hu]; rfl)
   have h3:¬ (c.scal=false∧id ∈ a.lent):=fun h=>hdisj id h.2 hm
   rw [if_neg h3]
  | none =>
   have hm:id ∉ a.lins.flatMap (·.2.2.2):=fun hm=>by have:=(hkey id).2 hm; rw [hu] at this; cases this
   simp only
   by_cases h2:c.scal=false∧id ∈ a.lent
   ·rw [if_pos h2]
    have:¬ (nx≤id∧id < nx + (nwO ++ obs).length):=hin id (hliveT id h2.2)
    rw [if_neg this,hlookB,if_neg hm,if_pos h2]
   ·rw [if_neg h2]
    split
    ·rfl
    ·rw [hlookB,if_neg hm,if_neg h2]
 rw [heq] at k1 k5
 refine ⟨S2,π2,k4,k1,q2.trans k2,?_,?_⟩
 ·intro id hid
  simp only [List.length_append]
  rcases k3 id hid with h1 | h1
  ·rcases q3 id h1 with h2 | h2
   ·exact .inl h2
   ·exact .inr (by omega)
  ·exact .inr (by omega)
 ·have hback:∀ b ∈ gg ++ gps.flatten,owned look π b∨w.heap.size≤b:=by
   intro b hb
   rcases (hownB b hb).2.2 with h | h
   ·exact .inl (hbL b h)
   ·exact .inr h
  refine ⟨hB.os,hB.tape,hB.output,hB.size,fun b hlt hno=>hsame b hlt fun hm=>hno (hbL b hm),hsub2,fun b hb=>?_,fun b hb=>?_⟩
  ·rcases hstab b (h2sub b hb) with h | h | h
   ·rcases h with h | h
    ·exact .inl h
    ·exact .inr (.inl (hbT b h))
   ·exact .inr (.inl (hbL b h))
   ·exact .inr (.inr h)
  ·rcases k5 b hb with h | h
   ·rcases q4 b h with h | h
    ·exact .inl (hownLB b h).1
    ·exact hback b (List.mem_append_right _ h)
   ·exact hback b (List.mem_append_left _ h)
end
end Go.Proofs.YtgpjfmihogaooaaGreatDoorV
namespace Go.Proofs.YtgpjfmihogaooaaGreatDoorV
open Go Go.RowKit
def unc {R:Type} (k:K R) (r:Res):Option R:=k r.1 r.2.1 r.2.2.1 r.2.2.2
theorem ret4_bind {R:Type} (k:K R) (v:TV) (up:List (Nat × Ob)) (nw:List Ob) (rd:List Nat):(ret4 v up nw rd).bind (unc k)=k v up nw rd:=rfl
section
variable {R:Type} {T:TypeId→Option TI} {look:Nat→Option Ob} {nx:Nat}
theorem coeK_nat (t:TypeId) (c:PV) (f:PV→Option Res) (k:K R):(coeK T t c f).bind (unc k)=coeK T t c fun p=>(f p).bind (unc k):=by
 unfold coeK
 (repeat' split) <;> first | rfl | (simp only [Option.bind_assoc]; done) | (simp only [Option.bind_none]; done)
theorem intK_nat (op:BinOp) (ik:IntKind) (a b:Int) (f:PV→Option Res) (k:K R):(intK op ik a b f).bind (unc k)=intK op ik a b fun p=>(f p).bind (unc k):=by
 cases op <;> simp only [intK] <;> first | rfl | (split <;> rfl)
theorem shiftK_nat (op:BinOp) (ik:IntKind) (a b:Int) (f:PV→Option Res) (k:K R):(shiftK op ik a b f).bind (unc k)=shiftK op ik a b fun p=>(f p).bind (unc k):=by
 unfold shiftK; split
 ·rfl
 ·cases op <;> rfl
theorem strK_nat (op:BinOp) (a b:ByteArray) (f:PV→Option Res) (k:K R):(strK op a b f).bind (unc k)=strK op a b fun p=>(f p).bind (unc k):=by
 cases op <;> simp only [strK] <;> first | rfl | (split <;> rfl)
theorem binK_nat (op:BinOp) (xt yt:TypeId) (yc:Bool) (x y:TV) (f:PV→Option Res) (k:K R):(binK T op xt yt yc x y f).bind (unc k)=binK T op xt yt yc x y fun p=>(f p).bind (unc k):=by
 unfold binK
 (repeat' split) <;> first | rfl | (simp only [Option.bind_assoc,intK_nat,shiftK_nat,strK_nat]; done) | (simp only [Option.bind_none]; done)
theorem unK_nat (op:UnOp) (xt:TypeId) (x:TV) (f:PV→Option Res) (k:K R):(unK T op xt x f).bind (unc k)=unK T op xt x fun p=>(f p).bind (unc k):=by
 unfold unK
 (repeat' split) <;> first | rfl | (simp only [Option.bind_assoc]; done) | (simp only [Option.bind_none]; done)
theorem Zxa {α β:Type} {c:Prop} [Decidable c] (a b:Option α) (f:α→Option β):(if c then a else b).bind f=if c then a.bind f else b.bind f:=by split <;> rfl
theorem Zya {α β:Type} {c:Bool} (a b:Option α) (f:α→Option β):(cond c a b).bind f=cond c (a.bind f) (b.bind f):=by cases c <;> rfl
theorem loadK_nat (t:TypeId) (x:TV) (k:K R):loadK T look t x k=(loadK T look t x ret4).bind (unc k):=by
 unfold loadK
 (repeat' split) <;> first | rfl | (simp only [Option.bind_assoc,coeK_nat,ret4_bind]; done) | (simp only [Option.bind_none]; done)
theorem storeK_nat (t:TypeId) (x y:TV) (k:K R):storeK T look t x y k=(storeK T look t x y ret4).bind (unc k):=by
 unfold storeK
 (repeat' split) <;> first | rfl | (simp only [Option.bind_assoc,coeK_nat,ret4_bind]; done) | (simp only [Option.bind_none]; done)
theorem indexAddrK_nat (t:TypeId) (x i:TV) (k:K R):indexAddrK T look t x i k=(indexAddrK T look t x i ret4).bind (unc k):=by
 unfold indexAddrK
 (repeat' split) <;> first | rfl | (simp only [Option.bind_assoc,Zxa,coeK_nat,ret4_bind,Option.bind_none]; done)
theorem indexK_nat (t:TypeId) (x i:TV) (k:K R):indexK T t x i k=(indexK T t x i ret4).bind (unc k):=by
 unfold indexK
 (repeat' split) <;> first | rfl | (simp only [Option.bind_assoc,Zxa,coeK_nat,ret4_bind,Option.bind_none]; done)
theorem boundK_nat (o:Option TV) (d:Int) (f:Int→Option Res) (k:K R):(boundK o d f).bind (unc k)=boundK o d fun n=>(f n).bind (unc k):=by
 unfold boundK
 (repeat' split) <;> first | rfl | (simp only [Option.bind_assoc]; done) | (simp only [Option.bind_none]; done)
theorem sliceK_nat (t:TypeId) (x:TV) (lo hi mx:Option TV) (k:K R):sliceK T look t x lo hi mx k=(sliceK T look t x lo hi mx ret4).bind (unc k):=by
 unfold sliceK
 (repeat' split) <;> first | rfl | (simp only [Option.bind_assoc,Zxa,boundK_nat,ret4_bind,Option.bind_none]; done)
theorem elemsK_nat (n:Nat) (x:TV) (f:List (List PV)→List Nat→Option Res) (k:K R):(elemsK look n x f).bind (unc k)=elemsK look n x fun es rd=>(f es rd).bind (unc k):=by
 unfold elemsK
 (repeat' split) <;> first | rfl | (simp only [Option.bind_assoc,Zxa,Option.bind_none]; done)
theorem growK_nat (i:TI) (x:TV) (ms:List (List PV)) (rd:List Nat) (k:K R):growK look nx i x ms rd k=(growK look nx i x ms rd ret4).bind (unc k):=by
 unfold growK
 (repeat' split) <;> first | rfl | (simp only [Zya,ret4_bind]; done)
theorem appendK_nat (t u:TypeId) (x y:TV) (k:K R):appendK T look nx t u x y k=(appendK T look nx t u x y ret4).bind (unc k):=by
 unfold appendK
 (repeat' split) <;> first | rfl | (simp only [Option.bind_assoc,Zxa,elemsK_nat,← growK_nat,Option.bind_none]; done)
theorem lenK_nat (t:TypeId) (x:TV) (k:K R):lenK T look t x k=(lenK T look t x ret4).bind (unc k):=by
 unfold lenK
 (repeat' split) <;> first | rfl | (simp only [Option.bind_assoc,ret4_bind]; done)
theorem clearK_nat (t:TypeId) (x:TV) (k:K R):clearK T look t x k=(clearK T look t x ret4).bind (unc k):=by
 unfold clearK
 (repeat' split) <;> first | rfl | (simp only [Zxa,ret4_bind,Option.bind_none]; done)
theorem lookupK_nat (t:TypeId) (m i:TV) (ok:Bool) (k:K R):lookupK T look t m i ok k=(lookupK T look t m i ok ret4).bind (unc k):=by
 cases ok <;> unfold lookupK <;> (repeat' split) <;> first | rfl | (simp only [Option.bind_assoc,ret4_bind]; done)
theorem mapUpdateK_nat (t:TypeId) (m i x:TV) (k:K R):mapUpdateK T look t m i x k=(mapUpdateK T look t m i x ret4).bind (unc k):=by
 unfold mapUpdateK
 (repeat' split) <;> first | rfl | (simp only [Option.bind_assoc,ret4_bind]; done)
theorem convertK_nat (src dst:TypeId) (x:TV) (k:K R):convertK T look nx src dst x k=(convertK T look nx src dst x ret4).bind (unc k):=by
 unfold convertK
 (repeat' split) <;> first | rfl | (simp only [Option.bind_assoc,Zxa,Zya,elemsK_nat,ret4_bind,Option.bind_none]; done)
theorem fieldAddrK_nat (t:TypeId) (x:TV) (f:Nat) (k:K R):fieldAddrK T t x f k=(fieldAddrK T t x f ret4).bind (unc k):=by
 unfold fieldAddrK
 (repeat' split) <;> rfl
theorem fieldK_nat (t:TypeId) (x:TV) (f:Nat) (k:K R):fieldK T t x f k=(fieldK T t x f ret4).bind (unc k):=by
 unfold fieldK
 (repeat' split) <;> first | rfl | (simp only [Option.bind_assoc,coeK_nat,ret4_bind,Option.bind_none]; done) | skip
theorem buildK_nat (t:TypeId) (parts:List (Nat × Option TV)) (k:K R):buildK T t parts k=(buildK T t parts ret4).bind (unc k):=by
 unfold buildK
 (repeat' split) <;> rfl
theorem buildSliceK_nat (t:TypeId) (n:Nat) (parts:List (Nat × Option TV)) (k:K R):buildSliceK T nx t n parts k=(buildSliceK T nx t n parts ret4).bind (unc k):=by
 unfold buildSliceK
 (repeat' split) <;> first | rfl | (simp only [litK_eq,Option.bind_assoc,ret4_bind]; done)
theorem makeSliceK_nat (t:TypeId) (l c:TV) (k:K R):makeSliceK T nx t l c k=(makeSliceK T nx t l c ret4).bind (unc k):=by
 unfold makeSliceK
 (repeat' split) <;> first | rfl | (simp only [Option.bind_assoc,Zxa,ret4_bind,Option.bind_none]; done)
theorem nextK_nat (x:TV) (k:K R):nextK look x k=(nextK look x ret4).bind (unc k):=by
 unfold nextK
 (repeat' split) <;> rfl
mutual
theorem impK_nat:∀ (sh:Shp)(p:PV)(nx:Nat)(f:TV→List Ob→Option Res)(k:K R),(impK sh p nx f).bind (unc k)=impK sh p nx fun tv obs=>(f tv obs).bind (unc k)
 | .d,p,nx,f,k=>rfl
 | .s,p,nx,f,k=>by simp only [impK,Option.bind_assoc]
 | .o shs,p,nx,f,k=>by simp only [impK,Option.bind_assoc,impLK_nat]
 | .a shs,p,nx,f,k=>by simp only [impK,Option.bind_assoc,impLK_nat]
 | .t shs,p,nx,f,k=>by simp only [impK,Option.bind_assoc,impLK_nat]
theorem impLK_nat:∀ (shs:List Shp)(ps:List PV)(nx:Nat)(f:List TV→List Ob→Option Res)(k:K R),(impLK shs ps nx f).bind (unc k)=impLK shs ps nx fun tvs obs=>(f tvs obs).bind (unc k)
 | [],ps,nx,f,k=>by simp only [impLK,Zxa,Option.bind_none]
 | sh :: shs,ps,nx,f,k=>by simp only [impLK,Option.bind_assoc,impK_nat,impLK_nat]
end
theorem outsK_nat:∀ (lins:List (TV × Shp × Bool × List Nat)) (outs:List PV) (nx:Nat) (f:List (Nat × Ob)→List Ob→Option Res) (k:K R),(outsK look lins outs nx f).bind (unc k)=outsK look lins outs nx fun up nw=>(f up nw).bind (unc k)
 | [],outs,nx,f,k=>rfl
 | (v,sh,false,ids) :: ls,outs,nx,f,k=>by simp only [outsK,outsK_nat]
 | (v,sh,true,ids) :: ls,outs,nx,f,k=>by
  simp only [outsK,Option.bind_assoc]
  congr 1
  funext p
  split
  ·simp only [Option.bind_assoc,impLK_nat,outsK_nat]
  ·split
   ·simp only [Option.bind_assoc,Zxa,outsK_nat,Option.bind_none]
   ·rfl
  ·rfl
theorem resK_nat (ty:TypeId) (k:K R):(fun tv up nw rd=>(resK T ty ret4 tv up nw rd).bind (unc k))=resK T ty k:=by
 funext tv up nw rd
 unfold resK
 split
 ·simp only [coeK_nat,ret4_bind]
 ·rfl
theorem callK_nat {Γ:FuncId→Option Cal} (g:FuncId) (args:List TV) (f:K Res) (k:K R):(callK Γ look nx g args f).bind (unc k)=callK Γ look nx g args fun tv up nw rd=>(f tv up nw rd).bind (unc k):=by
 unfold callK
 (repeat' split) <;> first | rfl | (simp only [Option.bind_assoc,outsK_nat,impK_nat]; done)
theorem opK_nat {Γ:FuncId→Option Cal} {ev:Operand→Option TV} (o:Op) (ty:TypeId) (k:K R):opK T Γ look nx ev o ty k=(opK T Γ look nx ev o ty ret4).bind (unc k):=by
 unfold opK
 (repeat' split)
 all_goals try rfl
 all_goals try (simp only [Option.bind_assoc,Zya,Zxa,binK_nat,unK_nat,coeK_nat,ret4_bind,callK_nat,resK_nat,Option.bind_none]; done)
 all_goals try exact loadK_nat ..
 all_goals try exact storeK_nat ..
 all_goals try exact indexAddrK_nat ..
 all_goals try exact indexK_nat ..
 all_goals try exact sliceK_nat ..
 all_goals try exact appendK_nat ..
 all_goals try exact lenK_nat ..
 all_goals try exact clearK_nat ..
 all_goals try exact lookupK_nat ..
 all_goals try exact mapUpdateK_nat ..
 all_goals try exact convertK_nat ..
 all_goals try exact fieldAddrK_nat ..
 all_goals try exact fieldK_nat ..
 all_goals try exact buildK_nat ..
 all_goals try exact buildSliceK_nat ..
 all_goals try exact makeSliceK_nat ..
 all_goals try exact nextK_nat ..
end
end Go.Proofs.YtgpjfmihogaooaaGreatDoorV
namespace Go.Proofs.YtgpjfmihogaooaaGreatDoorV
open Go Go.RowKit
section
variable {P:Program} {T:TypeId→Option TI} {G:Nat→Option (List PV)} {Γ:FuncId→Option Cal} {look:Nat→Option Ob} {nx:Nat} {ev:Operand→Option TV} {o:Oper} {v:TV} {up:List (Nat × Ob)} {nw:List Ob} {rd:List Nat}
theorem call_ok {c:Call} {F:Operand} {args caps:List TV} {g:FuncId} (hΓ:∀ g c,Γ g=some (.ctr c)→Zka P G g c) {a:Act} {w:World} {S:Nat→Prop} {π:Nat→Option Pl} (hgo:GOk G w S) (ho:o.op=.call c) (hc:c.callee=.value F) (hargs:ZRa (c.args.toList.map ev)=some args)
  (hF:evOk ev a w S π→∃ us,a.eval F=.func (.func g) #[] us∧relTVs w S π caps us.toList)
  (h:callK Γ look nx g (args ++ caps) (resK T o.type ret4)=some (v,up,nw,rd)):OpOkAt P look nx ev o v up nw a w S π:=by
 intro hev hob hf K Q hK
 obtain ⟨us,he,hcaps⟩:=hF hev
 have hrel:=relTVs_append (evOk_all hev hargs) hcaps
 cases hg:Γ g with
 | none=>unfold callK at h; rw [hg] at h; cases h
 | some cl =>
  cases cl with
  | inl F=>unfold callK at h; rw [hg] at h; cases h
  | ctr ct =>
   have happ:=apply_ok hg (hΓ g ct hg) h hgo hrel hob hf
   have hexec:(execOp a.eval o).run P w=(callFunc g (c.args.map a.eval ++ us)).run P w:=by
    simp [execOp,ho,resolve,hc,he,Deferred.ofValue,invoke]
   have harr:(List.map a.eval c.args.toList ++ us.toList).toArray=c.args.map a.eval ++ us:=by
    apply Array.ext'
    simp
   rw [harr] at happ
   unfold Oper.wp
   rw [hexec]
   unfold Applies at happ
   split at happ
   ·rename_i g' as w' hr
    rw [hr]
    refine happ.mono fun e w'' ⟨u,h1,S',π',h2⟩=>?_
    subst h1
    exact hK u w'' S' π' h2
   ·rename_i u w' hr
    rw [hr]
    obtain ⟨S',π',h2⟩:=happ
    exact hK u w' S' π' h2
   ·exact happ.elim
theorem op_ok (hT:TOk P T) (hΓ:∀ g c,Γ g=some (.ctr c)→Zka P G g c) (h:opK T Γ look nx ev o.op o.type ret4=some (v,up,nw,rd)) (a:Act) (w:World) (S:Nat→Prop) (π:Nat→Option Pl) (hgo:GOk G w S):OpOkAt P look nx ev o v up nw a w S π:=by
 unfold opK at h
 split at h
 ·rename_i x hop
  split at h
  ·rename_i tv hx; exact (move_ok (.inl hop) hx h) a w S π
  ·cases h
 ·rename_i x hop
  split at h
  ·rename_i tv hx; exact (move_ok (.inr hop) hx h) a w S π
  ·cases h
 ·rename_i c x y hop
  split at h
  ·rename_i p u v' hc ha hb; exact (pick_ok hop hc ha hb h) a w S π
  ·cases h
 ·rename_i t hop
  split at h
  ·rename_i i hi; exact (alloc_ok hT hop hi h) a w S π
  ·cases h
 ·rename_i t x hop
  split at h
  ·rename_i tv i hx hi
   split at h
   ·rename_i ob hb; exact (box_ok hT hop hx hb (by rw [hi]; rfl) h) a w S π
   ·cases h
  ·cases h
 ·rename_i t x hop
  split at h
  ·rename_i tv i hx hi; exact (load_ok hT hop hx (by rw [hi]; rfl) h) a w S π
  ·cases h
 ·rename_i t x y hop
  split at h
  ·rename_i tv u i hx hy hi
   exact (store_ok hT hop hx (fun a w S π hev=>fixNil_rel (hev y _ hy)) (by rw [hi]; rfl) h) a w S π
  ·cases h
 ·rename_i x hop
  split at h
  ·rename_i i j hx; exact (nilCheck_ok hop hx (.inl ⟨_,_,rfl⟩) h) a w S π
  ·rename_i i j m hx; exact (nilCheck_ok hop hx (.inr (.inl ⟨_,_,_,rfl⟩)) h) a w S π
  ·rename_i cs off hx; exact (nilCheck_ok hop hx (.inr (.inr (.inl ⟨_,_,rfl⟩))) h) a w S π
  ·rename_i f cs hx; exact (nilCheck_ok hop hx (.inr (.inr (.inr (.inl ⟨_,_,rfl⟩)))) h) a w S π
  ·rename_i f cs hx; exact (nilCheck_ok hop hx (.inr (.inr (.inr (.inr ⟨_,_,rfl⟩)))) h) a w S π
  ·cases h
 ·rename_i op xt x y yt hop
  split at h
  ·rename_i u u' hx hy; exact (bin_ok hT hop hx hy h) a w S π
  ·cases h
 ·rename_i op xt x hop
  split at h
  ·rename_i u hx; exact (un_ok hop hx h) a w S π
  ·cases h
 ·rename_i src dst x hop
  split at h
  ·rename_i u hx; exact (convert_ok hT hop hx h) a w S π
  ·cases h
 ·rename_i fn first caps hop
  split at h
  ·rename_i vs hf hc; exact (makeFunc_ok hop hf hc h) a w S π
  ·cases h
 ·rename_i t hop; exact (makeMap_ok hop h) a w S π
 ·rename_i t l c hop
  split at h
  ·rename_i u u' hx hy; exact (makeSlice_ok hT hop hx hy h) a w S π
  ·cases h
 ·rename_i t x lo hi mx hop
  split at h
  ·rename_i u l m n hx hl hm hn; exact (slice_ok hT hop hx hl hm hn h) a w S π
  ·cases h
 ·rename_i t x f hop
  split at h
  ·rename_i u hx; exact (fieldAddr_ok hT hop hx h) a w S π
  ·cases h
 ·rename_i t x f hop
  split at h
  ·rename_i u hx; exact (field_ok hT hop hx h) a w S π
  ·cases h
 ·rename_i t x i hop
  split at h
  ·rename_i u u' hx hy; exact (indexAddr_ok hT hop hx hy h) a w S π
  ·cases h
 ·rename_i t x i hop
  split at h
  ·rename_i u u' hx hy; exact (index_ok hT hop hx hy h) a w S π
  ·cases h
 ·rename_i t x i ok hop
  split at h
  ·rename_i u u' hx hy; exact (lookup_ok hT hop hx hy h) a w S π
  ·cases h
 ·rename_i t m i x hop
  split at h
  ·rename_i u u' u'' hx hy hz; exact (mapUpdate_ok hT hop hx hy hz h) a w S π
  ·cases h
 ·rename_i t parts hop; exact (build_ok hT hop h) a w S π
 ·rename_i t n parts hop; exact (buildSlice_ok hT hop h) a w S π
 ·rename_i t x hop
  split at h
  ·rename_i i1 i2 i3 p hi hx
   obtain ⟨s,hs,h'⟩:=Zba h
   cases asS_inv hs
   exact (range_ok hT hop hi hx h') a w S π
  ·rename_i i1 i2 i3 i4 i5 p hi hx
   obtain ⟨kvs,hs,h'⟩:=Zba h
   exact (rangeM_ok hT hop hi hx hs h') a w S π
  ·cases h
 ·rename_i x hop
  split at h
  ·rename_i id hx
   split at h
   ·rename_i left p q hl; exact (entry_ok hop hx hl h) a w S π
   ·cases h
  ·cases h
 ·rename_i x hop
  split at h
  ·rename_i u hx; exact (next_ok hop hx h) a w S π
  ·cases h
 ·rename_i x i hop
  cases hx:ev x with
  | none=>rw [hx] at h; simp only [reduceCtorEq] at h
  | some u =>
   rw [hx] at h
   refine (extract_ok (T:=T) (rd:=rd) hop hx ?_) a w S π
   cases u <;> exact h
 ·rename_i c hop
  split at h
  ·rename_i x t ts hc hx ht; exact (len_ok hT hop hc hx ht h) a w S π
  ·rename_i x y t u ts hc hx ht; exact (append_ok hT hop hc hx ht h) a w S π
  ·rename_i x t ts hc hx ht; exact (clear_ok hT hop hc hx ht h) a w S π
  ·rename_i p q t ts hc hx ht
   split at h
   ·exact (min_ok hop hc hx h) a w S π
   ·cases h
  ·rename_i p q t ts hc hx ht
   split at h
   ·exact (max_ok hop hc hx h) a w S π
   ·cases h
  ·rename_i F args hc hx
   split at h
   ·rename_i g caps hF
    refine call_ok hΓ hgo hop hc hx (fun hev=>?_) h
    have:=hev F _ hF
    simp only [relTV,rel] at this
    obtain ⟨us,he,hr⟩:=this
    exact ⟨us,he,relTVs_vals hr⟩
   ·rename_i g caps hF
    refine call_ok hΓ hgo hop hc hx (fun hev=>?_) h
    have:=hev F _ hF
    simp only [relTV] at this
    exact this
   ·cases h
  ·cases h
 ·cases h
end
end Go.Proofs.YtgpjfmihogaooaaGreatDoorV
