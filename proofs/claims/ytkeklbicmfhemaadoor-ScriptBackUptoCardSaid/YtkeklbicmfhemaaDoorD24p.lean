/- What the functions of the program come to, as the reading machine has it: printed by dec.py. -/
import Derived.Test.YtkeklbicmfhemaaDoorVTab
import Derived.Test.YtkeklbicmfhemaaDoorS24p
import Derived.Test.YtkeklbicmfhemaaDoorD24
import Derived.Test.YtkeklbicmfhemaaDoorDI
import Derived.Test.YtkeklbicmfhemaaDoorDP
namespace Go.Proofs.YtkeklbicmfhemaaDoorV
open Go
set_option maxRecDepth 100000
set_option linter.unusedVariables false
set_option linter.unusedSimpArgs false
noncomputable section
/-! ## drayman/draymanplay.Line -/
def pLine_q51 {R : Type} (n305 : Int) (s306 : ByteArray) (car307 : Int) (i308 : Int) (b309 : Bool) (k0 : ByteArray → Option R) (k1 : ByteArray → Option R) : Option R :=
  cond b309 (
    k0 (ByteArray.mk #[114, 101, 100, 111])) (
    cond (i308 == (25 : Int)) (
      Option.bind (sRDigits car307) fun y310 =>
      if ((ByteArray.mk #[115, 104, 111, 119, 32])).size + (y310).size ≤ 140737488355328 then
        k0 ((ByteArray.mk #[115, 104, 111, 119, 32]) ++ y310)
      else none) (
      cond (i308 == (26 : Int)) (
        k0 (ByteArray.mk #[112, 111, 111, 108])) (
        cond (i308 == (27 : Int)) (
          k0 (ByteArray.mk #[99, 111, 115, 116])) (
          cond (i308 == (28 : Int)) (
            Option.bind (within_d n305 17) fun y311 =>
            if 0 ≤ y311 ∧ y311 < (17 : Int) then
              Option.bind (([[(PV.str (ByteArray.mk #[]))], [(PV.str (ByteArray.mk #[32]))], [(PV.str (ByteArray.mk #[97, 100, 100]))], [(PV.str (ByteArray.mk #[100, 101, 108]))], [(PV.str (ByteArray.mk #[100, 101, 108, 32, 120]))], [(PV.str (ByteArray.mk #[100, 101, 108, 32, 45, 49]))], [(PV.str (ByteArray.mk #[100, 101, 108, 32, 48, 49]))], [(PV.str (ByteArray.mk #[100, 101, 108, 32, 49, 48, 48, 48]))], [(PV.str (ByteArray.mk #[108, 111, 99, 107, 32, 49, 32, 50]))], [(PV.str (ByteArray.mk #[111, 112, 116, 32, 48, 32, 49, 32, 48]))], [(PV.str (ByteArray.mk #[111, 112, 116, 32, 50, 49, 32, 49, 32, 48]))], [(PV.str (ByteArray.mk #[117, 110, 100, 111, 32, 49]))], [(PV.str (ByteArray.mk #[80, 111, 111, 108]))], [(PV.str (ByteArray.mk #[32, 32, 99, 111, 115, 116, 32]))], [(PV.str (ByteArray.mk #[115, 104, 111, 119, 32, 32, 48]))], [(PV.str (ByteArray.mk #[109, 111, 118, 32, 49, 32, 48, 32, 48, 32, 48, 32, 48]))], [(PV.str (ByteArray.mk #[119, 104, 97, 116]))]] : List (List PV))[(Int.toNat y311)]?) fun e312 =>
              Option.bind (e312[0]?) fun c313 =>
              Option.bind (PV.asS c313) fun s314 =>
              k0 s314
            else none) (
            k1 s306)))))
def pLine_q48 {R : Type} (n296 : Int) (s297 : ByteArray) (car298 : Int) (i299 : Int) (b300 : Bool) (k0 : ByteArray → Option R) (k1 : ByteArray → Option R) : Option R :=
  cond b300 (
    k0 (ByteArray.mk #[117, 110, 100, 111])) (
    cond (i299 == (23 : Int)) (
      pLine_q51 n296 s297 car298 i299 true k0 k1) (
      pLine_q51 n296 s297 car298 i299 (i299 == (24 : Int)) k0 k1))
def pLine_q41 {R : Type} (n272 : Int) (m273 : Int) (s274 : ByteArray) (car275 : Int) (i276 : Int) (b277 : Bool) (es278 : List (List PV)) (es279 : List (List PV)) (es280 : List (List PV)) (es281 : List (List PV)) (k0 : ByteArray → Option R) (k1 : ByteArray → Option R) : Option R :=
  cond b277 (
    Option.bind (within_d n272 12) fun y282 =>
    Option.bind (sRDigits (IntKind.i64.wrap ((1 : Int) + y282))) fun y283 =>
    if ((ByteArray.mk #[111, 112, 116, 32])).size + (y283).size ≤ 140737488355328 then
      if (((ByteArray.mk #[111, 112, 116, 32]) ++ y283)).size + ((ByteArray.mk #[32])).size ≤ 140737488355328 then
        Option.bind (within_d m273 1000) fun y284 =>
        Option.bind (sRDigits y284) fun y285 =>
        if ((((ByteArray.mk #[111, 112, 116, 32]) ++ y283) ++ (ByteArray.mk #[32]))).size + (y285).size ≤ 140737488355328 then
          if (((((ByteArray.mk #[111, 112, 116, 32]) ++ y283) ++ (ByteArray.mk #[32])) ++ y285)).size + ((ByteArray.mk #[32])).size ≤ 140737488355328 then
            Option.bind (sRDigits car275) fun y286 =>
            if ((((((ByteArray.mk #[111, 112, 116, 32]) ++ y283) ++ (ByteArray.mk #[32])) ++ y285) ++ (ByteArray.mk #[32]))).size + (y286).size ≤ 140737488355328 then
              Option.bind (within_d n272 3) fun y287 =>
              cond (decide (y287 > (0 : Int))) (
                Option.bind (within_d (IntKind.i64.wrap (Int.tdiv m273 (7 : Int))) (IntKind.i64.wrap ((es278.length : Int) + (1 : Int)))) fun y288 =>
                Option.bind (sRDigits y288) fun y289 =>
                if ((ByteArray.mk #[32])).size + (y289).size ≤ 140737488355328 then
                  if (((((((ByteArray.mk #[111, 112, 116, 32]) ++ y283) ++ (ByteArray.mk #[32])) ++ y285) ++ (ByteArray.mk #[32])) ++ y286)).size + (((ByteArray.mk #[32]) ++ y289)).size ≤ 140737488355328 then
                    k0 (((((((ByteArray.mk #[111, 112, 116, 32]) ++ y283) ++ (ByteArray.mk #[32])) ++ y285) ++ (ByteArray.mk #[32])) ++ y286) ++ ((ByteArray.mk #[32]) ++ y289))
                  else none
                else none) (
                k0 ((((((ByteArray.mk #[111, 112, 116, 32]) ++ y283) ++ (ByteArray.mk #[32])) ++ y285) ++ (ByteArray.mk #[32])) ++ y286))
            else none
          else none
        else none
      else none
    else none) (
    cond (i276 == (20 : Int)) (
      pLine_q48 n272 s274 car275 i276 true k0 k1) (
      cond (i276 == (21 : Int)) (
        pLine_q48 n272 s274 car275 i276 true k0 k1) (
        pLine_q48 n272 s274 car275 i276 (i276 == (22 : Int)) k0 k1)))
def pLine_q29 {R : Type} (n250 : Int) (m251 : Int) (s252 : ByteArray) (stop253 : Int) (car254 : Int) (place255 : ByteArray) (i256 : Int) (b257 : Bool) (es258 : List (List PV)) (es259 : List (List PV)) (es260 : List (List PV)) (es261 : List (List PV)) (k0 : ByteArray → Option R) (k1 : ByteArray → Option R) : Option R :=
  cond b257 (
    if ((ByteArray.mk #[109, 111, 118])).size + (place255).size ≤ 140737488355328 then
      k0 ((ByteArray.mk #[109, 111, 118]) ++ place255)
    else none) (
    cond (i256 == (13 : Int)) (
      Option.bind (sRDigits stop253) fun y262 =>
      if ((ByteArray.mk #[108, 111, 99, 107, 32])).size + (y262).size ≤ 140737488355328 then
        k0 ((ByteArray.mk #[108, 111, 99, 107, 32]) ++ y262)
      else none) (
      cond (i256 == (14 : Int)) (
        Option.bind (sRDigits stop253) fun y263 =>
        if ((ByteArray.mk #[102, 114, 101, 101, 32])).size + (y263).size ≤ 140737488355328 then
          k0 ((ByteArray.mk #[102, 114, 101, 101, 32]) ++ y263)
        else none) (
        cond (i256 == (15 : Int)) (
          Option.bind (sRDigits car254) fun y264 =>
          if ((ByteArray.mk #[105, 99, 101, 32])).size + (y264).size ≤ 140737488355328 then
            k0 ((ByteArray.mk #[105, 99, 101, 32]) ++ y264)
          else none) (
          cond (i256 == (16 : Int)) (
            Option.bind (sRDigits car254) fun y265 =>
            if ((ByteArray.mk #[116, 104, 97, 119, 32])).size + (y265).size ≤ 140737488355328 then
              k0 ((ByteArray.mk #[116, 104, 97, 119, 32]) ++ y265)
            else none) (
            cond (i256 == (17 : Int)) (
              pLine_q41 n250 m251 s252 car254 i256 true es258 es259 es260 es261 k0 k1) (
              cond (i256 == (18 : Int)) (
                pLine_q41 n250 m251 s252 car254 i256 true es258 es259 es260 es261 k0 k1) (
                pLine_q41 n250 m251 s252 car254 i256 (i256 == (19 : Int)) es258 es259 es260 es261 k0 k1)))))))
def pLine_q25 {R : Type} (n231 : Int) (m232 : Int) (s233 : ByteArray) (stop234 : Int) (car235 : Int) (place236 : ByteArray) (i237 : Int) (b238 : Bool) (es239 : List (List PV)) (es240 : List (List PV)) (es241 : List (List PV)) (es242 : List (List PV)) (k0 : ByteArray → Option R) (k1 : ByteArray → Option R) : Option R :=
  cond b238 (
    Option.bind (sRDigits stop234) fun y243 =>
    if ((ByteArray.mk #[100, 101, 108, 32])).size + (y243).size ≤ 140737488355328 then
      k0 ((ByteArray.mk #[100, 101, 108, 32]) ++ y243)
    else none) (
    cond (i237 == (10 : Int)) (
      pLine_q29 n231 m232 s233 stop234 car235 place236 i237 true es239 es240 es241 es242 k0 k1) (
      cond (i237 == (11 : Int)) (
        pLine_q29 n231 m232 s233 stop234 car235 place236 i237 true es239 es240 es241 es242 k0 k1) (
        pLine_q29 n231 m232 s233 stop234 car235 place236 i237 (i237 == (12 : Int)) es239 es240 es241 es242 k0 k1)))
def pLine_q22 {R : Type} (n215 : Int) (m216 : Int) (s217 : ByteArray) (stop218 : Int) (car219 : Int) (place220 : ByteArray) (i221 : Int) (b222 : Bool) (es223 : List (List PV)) (es224 : List (List PV)) (es225 : List (List PV)) (es226 : List (List PV)) (k0 : ByteArray → Option R) (k1 : ByteArray → Option R) : Option R :=
  cond b222 (
    if ((ByteArray.mk #[97, 100, 100])).size + (place220).size ≤ 140737488355328 then
      k0 ((ByteArray.mk #[97, 100, 100]) ++ place220)
    else none) (
    cond (i221 == (8 : Int)) (
      pLine_q25 n215 m216 s217 stop218 car219 place220 i221 true es223 es224 es225 es226 k0 k1) (
      pLine_q25 n215 m216 s217 stop218 car219 place220 i221 (i221 == (9 : Int)) es223 es224 es225 es226 k0 k1))
def pLine_q12 {R : Type} (k200 : Int) (n201 : Int) (m202 : Int) (s203 : ByteArray) (stop204 : Int) (car205 : Int) (size206 : Int) (place207 : ByteArray) (es208 : List (List PV)) (es209 : List (List PV)) (es210 : List (List PV)) (es211 : List (List PV)) (k0 : Int → Int → Int → ByteArray → Int → Int → ByteArray → List (List PV) → List (List PV) → List (List PV) → List (List PV) → Option R) : Option R :=
  Option.bind (within_d (IntKind.i64.wrap (Int.tdiv n201 (11 : Int))) (IntKind.i64.wrap (size206 + (1 : Int)))) fun y212 =>
  Option.bind (within_d (IntKind.i64.wrap (Int.tdiv m202 (5 : Int))) (IntKind.i64.wrap (size206 + (1 : Int)))) fun y213 =>
  Option.bind (sRDigits (IntKind.i64.wrap ((IntKind.i64.wrap (y212 + (1 : Int))) + (IntKind.i64.wrap (Int.tdiv y213 (2 : Int)))))) fun y214 =>
  if ((ByteArray.mk #[32])).size + (y214).size ≤ 140737488355328 then
    if (place207).size + (((ByteArray.mk #[32]) ++ y214)).size ≤ 140737488355328 then
      k0 k200 n201 m202 s203 stop204 car205 (place207 ++ ((ByteArray.mk #[32]) ++ y214)) es208 es209 es210 es211
    else none
  else none
def pLine_q10 {R : Type} (k159 : Int) (n160 : Int) (m161 : Int) (s162 : ByteArray) (stop163 : Int) (car164 : Int) (size165 : Int) (place166 : ByteArray) (b167 : Bool) (es168 : List (List PV)) (es169 : List (List PV)) (es170 : List (List PV)) (es171 : List (List PV)) (k0 : Int → Int → Int → ByteArray → Int → Int → ByteArray → List (List PV) → List (List PV) → List (List PV) → List (List PV) → Option R) : Option R :=
  cond b167 (
    Option.bind (sFirst es168 es169 es170 es171 stop163) fun y172 =>
    cond (!y172) (
      Option.bind (sMate es168 es169 es170 es171 stop163) fun y173 =>
      Option.bind (sRDigits y173) fun y174 =>
      if ((ByteArray.mk #[32])).size + (y174).size ≤ 140737488355328 then
        if (((ByteArray.mk #[32]) ++ y174)).size + ((ByteArray.mk #[32])).size ≤ 140737488355328 then
          Option.bind (sRDigits car164) fun y175 =>
          if ((((ByteArray.mk #[32]) ++ y174) ++ (ByteArray.mk #[32]))).size + (y175).size ≤ 140737488355328 then
            if (((((ByteArray.mk #[32]) ++ y174) ++ (ByteArray.mk #[32])) ++ y175)).size + ((ByteArray.mk #[32])).size ≤ 140737488355328 then
              Option.bind (within_d (IntKind.i64.wrap (Int.tdiv n160 (11 : Int))) (IntKind.i64.wrap (size165 + (1 : Int)))) fun y176 =>
              Option.bind (sRDigits y176) fun y177 =>
              if ((((((ByteArray.mk #[32]) ++ y174) ++ (ByteArray.mk #[32])) ++ y175) ++ (ByteArray.mk #[32]))).size + (y177).size ≤ 140737488355328 then
                pLine_q12 k159 n160 m161 s162 stop163 car164 size165 ((((((ByteArray.mk #[32]) ++ y174) ++ (ByteArray.mk #[32])) ++ y175) ++ (ByteArray.mk #[32])) ++ y177) es168 es169 es170 es171 k0
              else none
            else none
          else none
        else none
      else none) (
      pLine_q12 k159 n160 m161 s162 stop163 car164 size165 place166 es168 es169 es170 es171 k0)) (
    k0 k159 n160 m161 s162 stop163 car164 place166 es168 es169 es170 es171)
def pLine_q13 {R : Type} (k131 : Int) (n132 : Int) (m133 : Int) (s134 : ByteArray) (stop135 : Int) (car136 : Int) (place137 : ByteArray) (es138 : List (List PV)) (es139 : List (List PV)) (es140 : List (List PV)) (es141 : List (List PV)) (k0 : ByteArray → Option R) : Option R :=
  Option.bind (within_d k131 30) fun y142 =>
  cond (y142 == (0 : Int)) (
    pLine_q22 n132 m133 s134 stop135 car136 place137 y142 true es138 es139 es140 es141 k0 k0) (
    cond (y142 == (1 : Int)) (
      pLine_q22 n132 m133 s134 stop135 car136 place137 y142 true es138 es139 es140 es141 k0 k0) (
      cond (y142 == (2 : Int)) (
        pLine_q22 n132 m133 s134 stop135 car136 place137 y142 true es138 es139 es140 es141 k0 k0) (
        cond (y142 == (3 : Int)) (
          pLine_q22 n132 m133 s134 stop135 car136 place137 y142 true es138 es139 es140 es141 k0 k0) (
          cond (y142 == (4 : Int)) (
            pLine_q22 n132 m133 s134 stop135 car136 place137 y142 true es138 es139 es140 es141 k0 k0) (
            cond (y142 == (5 : Int)) (
              pLine_q22 n132 m133 s134 stop135 car136 place137 y142 true es138 es139 es140 es141 k0 k0) (
              cond (y142 == (6 : Int)) (
                pLine_q22 n132 m133 s134 stop135 car136 place137 y142 true es138 es139 es140 es141 k0 k0) (
                pLine_q22 n132 m133 s134 stop135 car136 place137 y142 (y142 == (7 : Int)) es138 es139 es140 es141 k0 k0)))))))
def pLine_q7 {R : Type} (k109 : Int) (n110 : Int) (m111 : Int) (s112 : ByteArray) (stop113 : Int) (car114 : Int) (size115 : Int) (b116 : Bool) (es117 : List (List PV)) (es118 : List (List PV)) (es119 : List (List PV)) (es120 : List (List PV)) (es121 : List (List PV)) (es122 : List (List PV)) (es123 : List (List PV)) (es124 : List (List PV)) (es125 : List (List PV)) (es126 : List (List PV)) (i127 : Int) (k0 : Int → Int → Int → ByteArray → Int → Int → Int → List (List PV) → List (List PV) → List (List PV) → List (List PV) → Option R) : Option R :=
  cond b116 (
    Option.bind (idx es121 car114) fun e128 =>
    if e128.length = 1 then
      Option.bind (e128[0]?) fun c129 =>
      Option.bind (PV.asFs c129) fun es130 =>
      k0 k109 n110 m111 s112 stop113 car114 (es130.length : Int) es117 es118 es119 es120
    else none) (
    k0 k109 n110 m111 s112 stop113 car114 size115 es117 es118 es119 es120)
def pLine_q8 {R : Type} (k67 : Int) (n68 : Int) (m69 : Int) (s70 : ByteArray) (stop71 : Int) (car72 : Int) (size73 : Int) (es74 : List (List PV)) (es75 : List (List PV)) (es76 : List (List PV)) (es77 : List (List PV)) (k0 : ByteArray → Option R) : Option R :=
  Option.bind (sRDigits stop71) fun y78 =>
  if ((ByteArray.mk #[32])).size + (y78).size ≤ 140737488355328 then
    if (((ByteArray.mk #[32]) ++ y78)).size + ((ByteArray.mk #[32])).size ≤ 140737488355328 then
      Option.bind (sRDigits car72) fun y79 =>
      if ((((ByteArray.mk #[32]) ++ y78) ++ (ByteArray.mk #[32]))).size + (y79).size ≤ 140737488355328 then
        if (((((ByteArray.mk #[32]) ++ y78) ++ (ByteArray.mk #[32])) ++ y79)).size + ((ByteArray.mk #[32])).size ≤ 140737488355328 then
          Option.bind (within_d (IntKind.i64.wrap (Int.tdiv n68 (11 : Int))) (IntKind.i64.wrap (size73 + (1 : Int)))) fun y80 =>
          Option.bind (within_d (IntKind.i64.wrap (Int.tdiv n68 (67 : Int))) 20) fun y81 =>
          Option.bind (sRDigits (IntKind.i64.wrap (y80 + (IntKind.i64.wrap (Int.tdiv y81 (19 : Int)))))) fun y82 =>
          if ((((((ByteArray.mk #[32]) ++ y78) ++ (ByteArray.mk #[32])) ++ y79) ++ (ByteArray.mk #[32]))).size + (y82).size ≤ 140737488355328 then
            Option.bind (sMate es74 es75 es76 es77 stop71) fun y83 =>
            cond (decide (y83 > (0 : Int))) (
              Option.bind (within_d (IntKind.i64.wrap (Int.tdiv n68 (5 : Int))) 9) fun y84 =>
              pLine_q10 k67 n68 m69 s70 stop71 car72 size73 ((((((ByteArray.mk #[32]) ++ y78) ++ (ByteArray.mk #[32])) ++ y79) ++ (ByteArray.mk #[32])) ++ y82) (decide (y84 < (8 : Int))) es74 es75 es76 es77
                (fun (k85 : Int) (n86 : Int) (m87 : Int) (s88 : ByteArray) (stop89 : Int) (car90 : Int) (place91 : ByteArray) (es92 : List (List PV)) (es93 : List (List PV)) (es94 : List (List PV)) (es95 : List (List PV)) =>
                  pLine_q13 k85 n86 m87 s88 stop89 car90 place91 es92 es93 es94 es95 k0)) (
              pLine_q10 k67 n68 m69 s70 stop71 car72 size73 ((((((ByteArray.mk #[32]) ++ y78) ++ (ByteArray.mk #[32])) ++ y79) ++ (ByteArray.mk #[32])) ++ y82) false es74 es75 es76 es77
                (fun (k97 : Int) (n98 : Int) (m99 : Int) (s100 : ByteArray) (stop101 : Int) (car102 : Int) (place103 : ByteArray) (es104 : List (List PV)) (es105 : List (List PV)) (es106 : List (List PV)) (es107 : List (List PV)) =>
                  pLine_q13 k97 n98 m99 s100 stop101 car102 place103 es104 es105 es106 es107 k0))
          else none
        else none
      else none
    else none
  else none
def pLine_q5 {R : Type} (k26 : Int) (n27 : Int) (m28 : Int) (s29 : ByteArray) (stop30 : Int) (car31 : Int) (es32 : List (List PV)) (es33 : List (List PV)) (es34 : List (List PV)) (es35 : List (List PV)) (es36 : List (List PV)) (es37 : List (List PV)) (es38 : List (List PV)) (es39 : List (List PV)) (es40 : List (List PV)) (es41 : List (List PV)) (i42 : Int) (k0 : ByteArray → Option R) : Option R :=
  cond (decide (car31 ≥ (0 : Int))) (
    pLine_q7 k26 n27 m28 s29 stop30 car31 0 (decide (car31 < (es36.length : Int))) es32 es33 es34 es35 es36 es37 es38 es39 es40 es41 i42
      (fun (k43 : Int) (n44 : Int) (m45 : Int) (s46 : ByteArray) (stop47 : Int) (car48 : Int) (size49 : Int) (es50 : List (List PV)) (es51 : List (List PV)) (es52 : List (List PV)) (es53 : List (List PV)) =>
        pLine_q8 k43 n44 m45 s46 stop47 car48 size49 es50 es51 es52 es53 k0)) (
    pLine_q7 k26 n27 m28 s29 stop30 car31 0 false es32 es33 es34 es35 es36 es37 es38 es39 es40 es41 i42
      (fun (k55 : Int) (n56 : Int) (m57 : Int) (s58 : ByteArray) (stop59 : Int) (car60 : Int) (size61 : Int) (es62 : List (List PV)) (es63 : List (List PV)) (es64 : List (List PV)) (es65 : List (List PV)) =>
        pLine_q8 k55 n56 m57 s58 stop59 car60 size61 es62 es63 es64 es65 k0))
def pLine_b {R : Type} (i1 : List (List PV)) (i2 : List (List PV)) (i3 : List (List PV)) (i4 : List (List PV)) (p5 : List (List PV)) (p6 : List (List PV)) (p7 : List (List PV)) (p8 : List (List PV)) (p9 : List (List PV)) (p10 : List (List PV)) (p11 : Int) (k12 : Int) (n13 : Int) (m14 : Int) (s15 : ByteArray) (k : ByteArray → Option R) : Option R :=
  meet (
    Option.bind (within_d n13 (IntKind.i64.wrap ((i2.length : Int) + (1 : Int)))) fun y16 =>
    Option.bind (within_d (IntKind.i64.wrap (Int.tdiv n13 (50 : Int))) 20) fun y17 =>
    Option.bind (within_d (IntKind.i64.wrap (Int.tdiv n13 (31 : Int))) 8) fun y18 =>
    Option.bind (within_d m14 (IntKind.i64.wrap ((i1.length : Int) + (IntKind.i64.wrap (Int.tdiv y18 (7 : Int)))))) fun y19 =>
    pLine_q5 k12 n13 m14 s15 (IntKind.i64.wrap (y16 + (IntKind.i64.wrap (Int.tdiv y17 (18 : Int))))) y19 i1 i2 i3 i4 p5 p6 p7 p8 p9 p10 p11 k) (
    Option.bind (within_d n13 (IntKind.i64.wrap ((i2.length : Int) + (1 : Int)))) fun y21 =>
    Option.bind (within_d (IntKind.i64.wrap (Int.tdiv n13 (50 : Int))) 20) fun y22 =>
    Option.bind (within_d (IntKind.i64.wrap (Int.tdiv n13 (31 : Int))) 8) fun y23 =>
    Option.bind (within_d m14 (IntKind.i64.wrap ((i1.length : Int) + (IntKind.i64.wrap (Int.tdiv y23 (7 : Int)))))) fun y24 =>
    pLine_q5 k12 n13 m14 s15 (IntKind.i64.wrap (y21 + (IntKind.i64.wrap (Int.tdiv y22 (18 : Int))))) y24 i1 i2 i3 i4 p5 p6 p7 p8 p9 p10 p11 k)
def pLine_E (y : ByteArray) : PV × List PV := ((PV.str y), [])
open Classical in
noncomputable def sPLine (i1 : List (List PV)) (i2 : List (List PV)) (i3 : List (List PV)) (i4 : List (List PV)) (p5 : List (List PV)) (p6 : List (List PV)) (p7 : List (List PV)) (p8 : List (List PV)) (p9 : List (List PV)) (p10 : List (List PV)) (p11 : Int) (k12 : Int) (n13 : Int) (m14 : Int) (s15 : ByteArray) : Option (ByteArray) := if h : ∃ y : ByteArray, lineP i1 i2 i3 i4 p5 p6 p7 p8 p9 p10 p11 k12 n13 m14 s15 y ∧ ∀ (R : Type) (k : ByteArray → Option R), pLine_b  i1 i2 i3 i4 p5 p6 p7 p8 p9 p10 p11 k12 n13 m14 s15 k = k y then some (Classical.choose h) else none
theorem pLine_pick (i1 : List (List PV)) (i2 : List (List PV)) (i3 : List (List PV)) (i4 : List (List PV)) (p5 : List (List PV)) (p6 : List (List PV)) (p7 : List (List PV)) (p8 : List (List PV)) (p9 : List (List PV)) (p10 : List (List PV)) (p11 : Int) (k12 : Int) (n13 : Int) (m14 : Int) (s15 : ByteArray) (y : ByteArray) (h : sPLine i1 i2 i3 i4 p5 p6 p7 p8 p9 p10 p11 k12 n13 m14 s15 = some y) : lineP i1 i2 i3 i4 p5 p6 p7 p8 p9 p10 p11 k12 n13 m14 s15 y ∧ ∀ (R : Type) (k : ByteArray → Option R), pLine_b  i1 i2 i3 i4 p5 p6 p7 p8 p9 p10 p11 k12 n13 m14 s15 k = k y := by
  unfold sPLine at h
  split at h
  · rename_i hh
    cases h
    exact Classical.choose_spec hh
  · cases h
theorem pLine_ok : ∀ (i1 : List (List PV)) (i2 : List (List PV)) (i3 : List (List PV)) (i4 : List (List PV)) (p5 : List (List PV)) (p6 : List (List PV)) (p7 : List (List PV)) (p8 : List (List PV)) (p9 : List (List PV)) (p10 : List (List PV)) (p11 : Int) (k12 : Int) (n13 : Int) (m14 : Int) (s15 : ByteArray) (y : ByteArray), sPLine i1 i2 i3 i4 p5 p6 p7 p8 p9 p10 p11 k12 n13 m14 s15 = some y → ∀ (R : Type) (k : ByteArray → Option R), pLine_b  i1 i2 i3 i4 p5 p6 p7 p8 p9 p10 p11 k12 n13 m14 s15 k = k y := fun i1 i2 i3 i4 p5 p6 p7 p8 p9 p10 p11 k12 n13 m14 s15 y h => (pLine_pick i1 i2 i3 i4 p5 p6 p7 p8 p9 p10 p11 k12 n13 m14 s15 y h).2
theorem pLine_got (i1 : List (List PV)) (i2 : List (List PV)) (i3 : List (List PV)) (i4 : List (List PV)) (p5 : List (List PV)) (p6 : List (List PV)) (p7 : List (List PV)) (p8 : List (List PV)) (p9 : List (List PV)) (p10 : List (List PV)) (p11 : Int) (k12 : Int) (n13 : Int) (m14 : Int) (s15 : ByteArray) (h : ∃ y : ByteArray, lineP i1 i2 i3 i4 p5 p6 p7 p8 p9 p10 p11 k12 n13 m14 s15 y ∧ ∀ (R : Type) (k : ByteArray → Option R), pLine_b  i1 i2 i3 i4 p5 p6 p7 p8 p9 p10 p11 k12 n13 m14 s15 k = k y) : ∃ y, sPLine i1 i2 i3 i4 p5 p6 p7 p8 p9 p10 p11 k12 n13 m14 s15 = some y ∧ lineP i1 i2 i3 i4 p5 p6 p7 p8 p9 p10 p11 k12 n13 m14 s15 y := by
  unfold sPLine
  rw [dif_pos h]
  exact ⟨_, rfl, (Classical.choose_spec h).1⟩
def pLine_D : List PV → Option (ByteArray)
  | [(PV.agg [(PV.fs i1), (PV.fs i2), (PV.fs i3), (PV.fs i4)]), (PV.agg [(PV.fs p5), (PV.fs p6), (PV.fs p7), (PV.fs p8), (PV.fs p9), (PV.fs p10), (PV.int .i64 p11)]), (PV.int .i64 k12), (PV.int .i64 n13), (PV.int .i64 m14), (PV.str s15)] => sPLine i1 i2 i3 i4 p5 p6 p7 p8 p9 p10 p11 k12 n13 m14 s15
  | _ => none
def pLine_Γ : List (Nat × Cal) := [(16, .ctr within_C), (28, .ctr rDigits_C), (69, .ctr rMate_C), (70, .ctr rFirst_C)]
def pLine_C : Ctr := ⟨[none, none, none, none, none, none], ByteArray, pLine_D, pLine_E, true, .d⟩
def pLine_cfg : List (Nat × LC) := [(4000022, ⟨[3, 4, 5, 6, 13, 14, 15, 16, 18, 143, 144], [], [], []⟩),
  (4000012, ⟨[2, 3, 4, 5, 6, 13, 14, 15, 16, 17, 18], [], [], []⟩),
  (4000010, ⟨[2, 3, 4, 5, 6, 13, 14, 15, 16, 17, 18, 95], [], [], []⟩),
  (4000008, ⟨[2, 3, 4, 5, 6, 13, 14, 15, 16, 17], [], [], []⟩),
  (4000007, ⟨[2, 3, 4, 5, 6, 7, 13, 14, 15, 16, 17, 53], [], [], []⟩),
  (4000005, ⟨[2, 3, 4, 5, 6, 7, 13, 14, 15, 16], [], [], []⟩),
  (5000007, ⟨[2, 3, 4, 5, 6, 13, 14, 15, 16, 17], [], [], []⟩),
  (5000010, ⟨[2, 3, 4, 5, 6, 13, 14, 15, 16, 18], [], [], []⟩),
  (5000012, ⟨[2, 3, 4, 5, 6, 13, 14, 15, 16, 18], [], [], []⟩),
  (4000013, ⟨[2, 3, 4, 5, 6, 13, 14, 15, 16, 18], [], [], []⟩),
  (6000022, ⟨[12], [], [], []⟩),
  (4000025, ⟨[3, 4, 5, 6, 13, 14, 15, 16, 18, 143, 155], [], [], []⟩),
  (6000025, ⟨[12], [], [], []⟩),
  (4000029, ⟨[3, 4, 5, 6, 13, 14, 15, 16, 18, 143, 162], [], [], []⟩),
  (6000029, ⟨[12], [], [], []⟩),
  (4000041, ⟨[3, 4, 5, 6, 13, 14, 16, 143, 192], [], [], []⟩),
  (6000041, ⟨[12], [], [], []⟩),
  (4000048, ⟨[3, 5, 13, 14, 16, 143, 233], [], [], []⟩),
  (6000048, ⟨[12], [], [], []⟩),
  (4000051, ⟨[3, 5, 13, 14, 16, 143, 237], [], [], []⟩),
  (6000051, ⟨[12], [], [], []⟩),
  (5000051, ⟨[5], [], [], []⟩),
  (6000013, ⟨[12], [], [], []⟩),
  (5000048, ⟨[5], [], [], []⟩),
  (6000008, ⟨[12], [], [], []⟩),
  (5000041, ⟨[5], [], [], []⟩),
  (6000005, ⟨[12], [], [], []⟩),
  (5000029, ⟨[5], [], [], []⟩),
  (5000025, ⟨[5], [], [], []⟩),
  (5000022, ⟨[5], [], [], []⟩)]
def pLine_pat : Nat → Option SP
  | _ => none
def pLine_patj : Nat → Option SP
  | 51 => some ⟨sparse .undef [(3, (.val (.int .i64))), (5, (.val .str)), (13, (.val (.fn 16 []))), (14, (.val (.fn 28 []))), (16, (.val (.int .i64))), (143, (.val (.int .i64))), (237, (.val .bool))] 0 259, [], []⟩
  | 48 => some ⟨sparse .undef [(3, (.val (.int .i64))), (5, (.val .str)), (13, (.val (.fn 16 []))), (14, (.val (.fn 28 []))), (16, (.val (.int .i64))), (143, (.val (.int .i64))), (233, (.val .bool))] 0 259, [], []⟩
  | 41 => some ⟨sparse .undef [(3, (.val (.int .i64))), (4, (.val (.int .i64))), (5, (.val .str)), (6, (.ref 0 0)), (13, (.val (.fn 16 []))), (14, (.val (.fn 28 []))), (16, (.val (.int .i64))), (143, (.val (.int .i64))), (192, (.val .bool))] 0 259, [(.pbox (.agg [.fs, .fs, .fs, .fs]) 4)], []⟩
  | 29 => some ⟨sparse .undef [(3, (.val (.int .i64))), (4, (.val (.int .i64))), (5, (.val .str)), (6, (.ref 0 0)), (13, (.val (.fn 16 []))), (14, (.val (.fn 28 []))), (15, (.val (.int .i64))), (16, (.val (.int .i64))), (18, (.val .str)), (143, (.val (.int .i64))), (162, (.val .bool))] 0 259, [(.pbox (.agg [.fs, .fs, .fs, .fs]) 4)], []⟩
  | 25 => some ⟨sparse .undef [(3, (.val (.int .i64))), (4, (.val (.int .i64))), (5, (.val .str)), (6, (.ref 0 0)), (13, (.val (.fn 16 []))), (14, (.val (.fn 28 []))), (15, (.val (.int .i64))), (16, (.val (.int .i64))), (18, (.val .str)), (143, (.val (.int .i64))), (155, (.val .bool))] 0 259, [(.pbox (.agg [.fs, .fs, .fs, .fs]) 4)], []⟩
  | 22 => some ⟨sparse .undef [(3, (.val (.int .i64))), (4, (.val (.int .i64))), (5, (.val .str)), (6, (.ref 0 0)), (13, (.val (.fn 16 []))), (14, (.val (.fn 28 []))), (15, (.val (.int .i64))), (16, (.val (.int .i64))), (18, (.val .str)), (143, (.val (.int .i64))), (144, (.val .bool))] 0 259, [(.pbox (.agg [.fs, .fs, .fs, .fs]) 4)], []⟩
  | 12 => some ⟨sparse .undef [(2, (.val (.int .i64))), (3, (.val (.int .i64))), (4, (.val (.int .i64))), (5, (.val .str)), (6, (.ref 0 0)), (13, (.val (.fn 16 []))), (14, (.val (.fn 28 []))), (15, (.val (.int .i64))), (16, (.val (.int .i64))), (17, (.val (.int .i64))), (18, (.val .str))] 0 259, [(.pbox (.agg [.fs, .fs, .fs, .fs]) 4)], []⟩
  | 10 => some ⟨sparse .undef [(2, (.val (.int .i64))), (3, (.val (.int .i64))), (4, (.val (.int .i64))), (5, (.val .str)), (6, (.ref 0 0)), (13, (.val (.fn 16 []))), (14, (.val (.fn 28 []))), (15, (.val (.int .i64))), (16, (.val (.int .i64))), (17, (.val (.int .i64))), (18, (.val .str)), (95, (.val .bool))] 0 259, [(.pbox (.agg [.fs, .fs, .fs, .fs]) 4)], []⟩
  | 13 => some ⟨sparse .undef [(2, (.val (.int .i64))), (3, (.val (.int .i64))), (4, (.val (.int .i64))), (5, (.val .str)), (6, (.ref 0 0)), (13, (.val (.fn 16 []))), (14, (.val (.fn 28 []))), (15, (.val (.int .i64))), (16, (.val (.int .i64))), (18, (.val .str))] 0 259, [(.pbox (.agg [.fs, .fs, .fs, .fs]) 4)], []⟩
  | 7 => some ⟨sparse .undef [(2, (.val (.int .i64))), (3, (.val (.int .i64))), (4, (.val (.int .i64))), (5, (.val .str)), (6, (.ref 0 0)), (7, (.ref 1 0)), (13, (.val (.fn 16 []))), (14, (.val (.fn 28 []))), (15, (.val (.int .i64))), (16, (.val (.int .i64))), (17, (.val (.int .i64))), (53, (.val .bool))] 0 259, [(.pbox (.agg [.fs, .fs, .fs, .fs]) 4), (.pbox (.agg [.fs, .fs, .fs, .fs, .fs, .fs, (.int .i64)]) 7)], []⟩
  | 8 => some ⟨sparse .undef [(2, (.val (.int .i64))), (3, (.val (.int .i64))), (4, (.val (.int .i64))), (5, (.val .str)), (6, (.ref 0 0)), (13, (.val (.fn 16 []))), (14, (.val (.fn 28 []))), (15, (.val (.int .i64))), (16, (.val (.int .i64))), (17, (.val (.int .i64)))] 0 259, [(.pbox (.agg [.fs, .fs, .fs, .fs]) 4)], []⟩
  | 5 => some ⟨sparse .undef [(2, (.val (.int .i64))), (3, (.val (.int .i64))), (4, (.val (.int .i64))), (5, (.val .str)), (6, (.ref 0 0)), (7, (.ref 1 0)), (13, (.val (.fn 16 []))), (14, (.val (.fn 28 []))), (15, (.val (.int .i64))), (16, (.val (.int .i64)))] 0 259, [(.pbox (.agg [.fs, .fs, .fs, .fs]) 4), (.pbox (.agg [.fs, .fs, .fs, .fs, .fs, .fs, (.int .i64)]) 7)], []⟩
  | _ => none
def pLine_J51 (n : Nat) (ls : List Leaf) (R : Type) (k : Ex → St → Option R) : Option R :=
  match ls with
  | [.int n305, .str s306, .int car307, .int i308, .bool b309] => pLine_q51 n305 s306 car307 i308 b309 (fun y1315 => k .ret ⟨sparse .undef [(12, (TV.val (PV.str y1315)))] 0 259, [], []⟩)
      (fun y1316 => k .normal ⟨sparse .undef [(5, (TV.val (PV.str y1316)))] 0 259, [], []⟩)
  | _ => none
def pLine_J48 (n : Nat) (ls : List Leaf) (R : Type) (k : Ex → St → Option R) : Option R :=
  match ls with
  | [.int n296, .str s297, .int car298, .int i299, .bool b300] => pLine_q48 n296 s297 car298 i299 b300 (fun y2317 => k .ret ⟨sparse .undef [(12, (TV.val (PV.str y2317)))] 0 259, [], []⟩)
      (fun y2318 => k .normal ⟨sparse .undef [(5, (TV.val (PV.str y2318)))] 0 259, [], []⟩)
  | _ => none
def pLine_J41 (n : Nat) (ls : List Leaf) (R : Type) (k : Ex → St → Option R) : Option R :=
  match ls with
  | [.int n272, .int m273, .str s274, .int car275, .int i276, .bool b277, .rows es278, .rows es279, .rows es280, .rows es281] => pLine_q41 n272 m273 s274 car275 i276 b277 es278 es279 es280 es281 (fun y3319 => k .ret ⟨sparse .undef [(12, (TV.val (PV.str y3319)))] 0 259, [], []⟩)
      (fun y3320 => k .normal ⟨sparse .undef [(5, (TV.val (PV.str y3320)))] 0 259, [], []⟩)
  | _ => none
def pLine_J29 (n : Nat) (ls : List Leaf) (R : Type) (k : Ex → St → Option R) : Option R :=
  match ls with
  | [.int n250, .int m251, .str s252, .int stop253, .int car254, .str place255, .int i256, .bool b257, .rows es258, .rows es259, .rows es260, .rows es261] => pLine_q29 n250 m251 s252 stop253 car254 place255 i256 b257 es258 es259 es260 es261 (fun y4321 => k .ret ⟨sparse .undef [(12, (TV.val (PV.str y4321)))] 0 259, [], []⟩)
      (fun y4322 => k .normal ⟨sparse .undef [(5, (TV.val (PV.str y4322)))] 0 259, [], []⟩)
  | _ => none
def pLine_J25 (n : Nat) (ls : List Leaf) (R : Type) (k : Ex → St → Option R) : Option R :=
  match ls with
  | [.int n231, .int m232, .str s233, .int stop234, .int car235, .str place236, .int i237, .bool b238, .rows es239, .rows es240, .rows es241, .rows es242] => pLine_q25 n231 m232 s233 stop234 car235 place236 i237 b238 es239 es240 es241 es242 (fun y5323 => k .ret ⟨sparse .undef [(12, (TV.val (PV.str y5323)))] 0 259, [], []⟩)
      (fun y5324 => k .normal ⟨sparse .undef [(5, (TV.val (PV.str y5324)))] 0 259, [], []⟩)
  | _ => none
def pLine_J22 (n : Nat) (ls : List Leaf) (R : Type) (k : Ex → St → Option R) : Option R :=
  match ls with
  | [.int n215, .int m216, .str s217, .int stop218, .int car219, .str place220, .int i221, .bool b222, .rows es223, .rows es224, .rows es225, .rows es226] => pLine_q22 n215 m216 s217 stop218 car219 place220 i221 b222 es223 es224 es225 es226 (fun y6325 => k .ret ⟨sparse .undef [(12, (TV.val (PV.str y6325)))] 0 259, [], []⟩)
      (fun y6326 => k .normal ⟨sparse .undef [(5, (TV.val (PV.str y6326)))] 0 259, [], []⟩)
  | _ => none
def pLine_J12 (n : Nat) (ls : List Leaf) (R : Type) (k : Ex → St → Option R) : Option R :=
  match ls with
  | [.int k200, .int n201, .int m202, .str s203, .int stop204, .int car205, .int size206, .str place207, .rows es208, .rows es209, .rows es210, .rows es211] => pLine_q12 k200 n201 m202 s203 stop204 car205 size206 place207 es208 es209 es210 es211 (fun y7327 y7328 y7329 y7330 y7331 y7332 y7333 y7334 y7335 y7336 y7337 => k .normal ⟨sparse .undef [(2, (TV.val (PV.int .i64 y7327))), (3, (TV.val (PV.int .i64 y7328))), (4, (TV.val (PV.int .i64 y7329))), (5, (TV.val (PV.str y7330))), (6, (TV.ref 0 0)), (13, (TV.val (PV.fn (Fn.func 16) []))), (14, (TV.val (PV.fn (Fn.func 28) []))), (15, (TV.val (PV.int .i64 y7331))), (16, (TV.val (PV.int .i64 y7332))), (18, (TV.val (PV.str y7333)))] 0 259, [(Ob.pbox (PV.agg [(PV.fs y7334), (PV.fs y7335), (PV.fs y7336), (PV.fs y7337)]) 4)], []⟩)
  | _ => none
def pLine_J10 (n : Nat) (ls : List Leaf) (R : Type) (k : Ex → St → Option R) : Option R :=
  match ls with
  | [.int k159, .int n160, .int m161, .str s162, .int stop163, .int car164, .int size165, .str place166, .bool b167, .rows es168, .rows es169, .rows es170, .rows es171] => pLine_q10 k159 n160 m161 s162 stop163 car164 size165 place166 b167 es168 es169 es170 es171 (fun y8338 y8339 y8340 y8341 y8342 y8343 y8344 y8345 y8346 y8347 y8348 => k .normal ⟨sparse .undef [(2, (TV.val (PV.int .i64 y8338))), (3, (TV.val (PV.int .i64 y8339))), (4, (TV.val (PV.int .i64 y8340))), (5, (TV.val (PV.str y8341))), (6, (TV.ref 0 0)), (13, (TV.val (PV.fn (Fn.func 16) []))), (14, (TV.val (PV.fn (Fn.func 28) []))), (15, (TV.val (PV.int .i64 y8342))), (16, (TV.val (PV.int .i64 y8343))), (18, (TV.val (PV.str y8344)))] 0 259, [(Ob.pbox (PV.agg [(PV.fs y8345), (PV.fs y8346), (PV.fs y8347), (PV.fs y8348)]) 4)], []⟩)
  | _ => none
def pLine_J13 (n : Nat) (ls : List Leaf) (R : Type) (k : Ex → St → Option R) : Option R :=
  match ls with
  | [.int k131, .int n132, .int m133, .str s134, .int stop135, .int car136, .str place137, .rows es138, .rows es139, .rows es140, .rows es141] => pLine_q13 k131 n132 m133 s134 stop135 car136 place137 es138 es139 es140 es141 (fun y9349 => k .ret ⟨sparse .undef [(12, (TV.val (PV.str y9349)))] 0 259, [], []⟩)
  | _ => none
def pLine_J7 (n : Nat) (ls : List Leaf) (R : Type) (k : Ex → St → Option R) : Option R :=
  match ls with
  | [.int k109, .int n110, .int m111, .str s112, .int stop113, .int car114, .int size115, .bool b116, .rows es117, .rows es118, .rows es119, .rows es120, .rows es121, .rows es122, .rows es123, .rows es124, .rows es125, .rows es126, .int i127] => pLine_q7 k109 n110 m111 s112 stop113 car114 size115 b116 es117 es118 es119 es120 es121 es122 es123 es124 es125 es126 i127 (fun y10350 y10351 y10352 y10353 y10354 y10355 y10356 y10357 y10358 y10359 y10360 => k .normal ⟨sparse .undef [(2, (TV.val (PV.int .i64 y10350))), (3, (TV.val (PV.int .i64 y10351))), (4, (TV.val (PV.int .i64 y10352))), (5, (TV.val (PV.str y10353))), (6, (TV.ref 0 0)), (13, (TV.val (PV.fn (Fn.func 16) []))), (14, (TV.val (PV.fn (Fn.func 28) []))), (15, (TV.val (PV.int .i64 y10354))), (16, (TV.val (PV.int .i64 y10355))), (17, (TV.val (PV.int .i64 y10356)))] 0 259, [(Ob.pbox (PV.agg [(PV.fs y10357), (PV.fs y10358), (PV.fs y10359), (PV.fs y10360)]) 4)], []⟩)
  | _ => none
def pLine_J8 (n : Nat) (ls : List Leaf) (R : Type) (k : Ex → St → Option R) : Option R :=
  match ls with
  | [.int k67, .int n68, .int m69, .str s70, .int stop71, .int car72, .int size73, .rows es74, .rows es75, .rows es76, .rows es77] => pLine_q8 k67 n68 m69 s70 stop71 car72 size73 es74 es75 es76 es77 (fun y11361 => k .ret ⟨sparse .undef [(12, (TV.val (PV.str y11361)))] 0 259, [], []⟩)
  | _ => none
def pLine_J5 (n : Nat) (ls : List Leaf) (R : Type) (k : Ex → St → Option R) : Option R :=
  match ls with
  | [.int k26, .int n27, .int m28, .str s29, .int stop30, .int car31, .rows es32, .rows es33, .rows es34, .rows es35, .rows es36, .rows es37, .rows es38, .rows es39, .rows es40, .rows es41, .int i42] => pLine_q5 k26 n27 m28 s29 stop30 car31 es32 es33 es34 es35 es36 es37 es38 es39 es40 es41 i42 (fun y12362 => k .ret ⟨sparse .undef [(12, (TV.val (PV.str y12362)))] 0 259, [], []⟩)
  | _ => none
def pLine_L (n key : Nat) (ls : List Leaf) (R : Type) (k : Ex → St → Option R) : Option R :=
  match key with
  | _ => none
def pLine_J (n key : Nat) (ls : List Leaf) (R : Type) (k : Ex → St → Option R) : Option R :=
  match key with
  | 51 => pLine_J51 n ls R k
  | 48 => pLine_J48 n ls R k
  | 41 => pLine_J41 n ls R k
  | 29 => pLine_J29 n ls R k
  | 25 => pLine_J25 n ls R k
  | 22 => pLine_J22 n ls R k
  | 12 => pLine_J12 n ls R k
  | 10 => pLine_J10 n ls R k
  | 13 => pLine_J13 n ls R k
  | 7 => pLine_J7 n ls R k
  | 8 => pLine_J8 n ls R k
  | 5 => pLine_J5 n ls R k
  | _ => none
def pLine_on : Code → Bool := onKeys [5, 8, 7, 13, 10, 12, 22, 25, 29, 41, 48, 51]
def pLine_Λ : Nat → Loops := patL (normBy pLine_cfg) pLine_pat pLine_L (normJ pLine_cfg) pLine_on pLine_patj pLine_J
theorem pLine_stepq5 (n : Nat) (k26 : Int) (n27 : Int) (m28 : Int) (s29 : ByteArray) (stop30 : Int) (car31 : Int) (es32 : List (List PV)) (es33 : List (List PV)) (es34 : List (List PV)) (es35 : List (List PV)) (es36 : List (List PV)) (es37 : List (List PV)) (es38 : List (List PV)) (es39 : List (List PV)) (es40 : List (List PV)) (es41 : List (List PV)) (i42 : Int)  (R : Type) (k : Ex → St → Option R) :
    joinK T G0 (ctrOf pLine_Γ) (normJ pLine_cfg) (pLine_Λ n) (codeAt [1, 1, 1, 1] (bodyOf Tryd.f45)) (buildSt ⟨sparse .undef [(2, (.val (.int .i64))), (3, (.val (.int .i64))), (4, (.val (.int .i64))), (5, (.val .str)), (6, (.ref 0 0)), (7, (.ref 1 0)), (13, (.val (.fn 16 []))), (14, (.val (.fn 28 []))), (15, (.val (.int .i64))), (16, (.val (.int .i64)))] 0 259, [(.pbox (.agg [.fs, .fs, .fs, .fs]) 4), (.pbox (.agg [.fs, .fs, .fs, .fs, .fs, .fs, (.int .i64)]) 7)], []⟩ [.int k26, .int n27, .int m28, .str s29, .int stop30, .int car31, .rows es32, .rows es33, .rows es34, .rows es35, .rows es36, .rows es37, .rows es38, .rows es39, .rows es40, .rows es41, .int i42]) R k = pLine_J5 n [.int k26, .int n27, .int m28, .str s29, .int stop30, .int car31, .rows es32, .rows es33, .rows es34, .rows es35, .rows es36, .rows es37, .rows es38, .rows es39, .rows es40, .rows es41, .int i42] R k := by kernel_rfl
theorem pLine_stepq8 (n : Nat) (k67 : Int) (n68 : Int) (m69 : Int) (s70 : ByteArray) (stop71 : Int) (car72 : Int) (size73 : Int) (es74 : List (List PV)) (es75 : List (List PV)) (es76 : List (List PV)) (es77 : List (List PV))  (R : Type) (k : Ex → St → Option R) :
    joinK T G0 (ctrOf pLine_Γ) (normJ pLine_cfg) (pLine_Λ n) (codeAt [1, 1, 1, 1, 1, 1] (bodyOf Tryd.f45)) (buildSt ⟨sparse .undef [(2, (.val (.int .i64))), (3, (.val (.int .i64))), (4, (.val (.int .i64))), (5, (.val .str)), (6, (.ref 0 0)), (13, (.val (.fn 16 []))), (14, (.val (.fn 28 []))), (15, (.val (.int .i64))), (16, (.val (.int .i64))), (17, (.val (.int .i64)))] 0 259, [(.pbox (.agg [.fs, .fs, .fs, .fs]) 4)], []⟩ [.int k67, .int n68, .int m69, .str s70, .int stop71, .int car72, .int size73, .rows es74, .rows es75, .rows es76, .rows es77]) R k = pLine_J8 n [.int k67, .int n68, .int m69, .str s70, .int stop71, .int car72, .int size73, .rows es74, .rows es75, .rows es76, .rows es77] R k := by kernel_rfl
theorem pLine_stepq7 (n : Nat) (k109 : Int) (n110 : Int) (m111 : Int) (s112 : ByteArray) (stop113 : Int) (car114 : Int) (size115 : Int) (b116 : Bool) (es117 : List (List PV)) (es118 : List (List PV)) (es119 : List (List PV)) (es120 : List (List PV)) (es121 : List (List PV)) (es122 : List (List PV)) (es123 : List (List PV)) (es124 : List (List PV)) (es125 : List (List PV)) (es126 : List (List PV)) (i127 : Int)  (R : Type) (k : Ex → St → Option R) :
    joinK T G0 (ctrOf pLine_Γ) (normJ pLine_cfg) (pLine_Λ n) (codeAt [1, 1, 1, 1, 1, 0, 1] (bodyOf Tryd.f45)) (buildSt ⟨sparse .undef [(2, (.val (.int .i64))), (3, (.val (.int .i64))), (4, (.val (.int .i64))), (5, (.val .str)), (6, (.ref 0 0)), (7, (.ref 1 0)), (13, (.val (.fn 16 []))), (14, (.val (.fn 28 []))), (15, (.val (.int .i64))), (16, (.val (.int .i64))), (17, (.val (.int .i64))), (53, (.val .bool))] 0 259, [(.pbox (.agg [.fs, .fs, .fs, .fs]) 4), (.pbox (.agg [.fs, .fs, .fs, .fs, .fs, .fs, (.int .i64)]) 7)], []⟩ [.int k109, .int n110, .int m111, .str s112, .int stop113, .int car114, .int size115, .bool b116, .rows es117, .rows es118, .rows es119, .rows es120, .rows es121, .rows es122, .rows es123, .rows es124, .rows es125, .rows es126, .int i127]) R k = pLine_J7 n [.int k109, .int n110, .int m111, .str s112, .int stop113, .int car114, .int size115, .bool b116, .rows es117, .rows es118, .rows es119, .rows es120, .rows es121, .rows es122, .rows es123, .rows es124, .rows es125, .rows es126, .int i127] R k := by kernel_rfl
theorem pLine_stepq13 (n : Nat) (k131 : Int) (n132 : Int) (m133 : Int) (s134 : ByteArray) (stop135 : Int) (car136 : Int) (place137 : ByteArray) (es138 : List (List PV)) (es139 : List (List PV)) (es140 : List (List PV)) (es141 : List (List PV))  (R : Type) (k : Ex → St → Option R) :
    joinK T G0 (ctrOf pLine_Γ) (normJ pLine_cfg) (pLine_Λ n) (codeAt [1, 1, 1, 1, 1, 1, 1, 1] (bodyOf Tryd.f45)) (buildSt ⟨sparse .undef [(2, (.val (.int .i64))), (3, (.val (.int .i64))), (4, (.val (.int .i64))), (5, (.val .str)), (6, (.ref 0 0)), (13, (.val (.fn 16 []))), (14, (.val (.fn 28 []))), (15, (.val (.int .i64))), (16, (.val (.int .i64))), (18, (.val .str))] 0 259, [(.pbox (.agg [.fs, .fs, .fs, .fs]) 4)], []⟩ [.int k131, .int n132, .int m133, .str s134, .int stop135, .int car136, .str place137, .rows es138, .rows es139, .rows es140, .rows es141]) R k = pLine_J13 n [.int k131, .int n132, .int m133, .str s134, .int stop135, .int car136, .str place137, .rows es138, .rows es139, .rows es140, .rows es141] R k := by kernel_rfl
theorem pLine_stepq10 (n : Nat) (k159 : Int) (n160 : Int) (m161 : Int) (s162 : ByteArray) (stop163 : Int) (car164 : Int) (size165 : Int) (place166 : ByteArray) (b167 : Bool) (es168 : List (List PV)) (es169 : List (List PV)) (es170 : List (List PV)) (es171 : List (List PV))  (R : Type) (k : Ex → St → Option R) :
    joinK T G0 (ctrOf pLine_Γ) (normJ pLine_cfg) (pLine_Λ n) (codeAt [1, 1, 1, 1, 1, 1, 1, 0, 1] (bodyOf Tryd.f45)) (buildSt ⟨sparse .undef [(2, (.val (.int .i64))), (3, (.val (.int .i64))), (4, (.val (.int .i64))), (5, (.val .str)), (6, (.ref 0 0)), (13, (.val (.fn 16 []))), (14, (.val (.fn 28 []))), (15, (.val (.int .i64))), (16, (.val (.int .i64))), (17, (.val (.int .i64))), (18, (.val .str)), (95, (.val .bool))] 0 259, [(.pbox (.agg [.fs, .fs, .fs, .fs]) 4)], []⟩ [.int k159, .int n160, .int m161, .str s162, .int stop163, .int car164, .int size165, .str place166, .bool b167, .rows es168, .rows es169, .rows es170, .rows es171]) R k = pLine_J10 n [.int k159, .int n160, .int m161, .str s162, .int stop163, .int car164, .int size165, .str place166, .bool b167, .rows es168, .rows es169, .rows es170, .rows es171] R k := by kernel_rfl
theorem pLine_stepq12 (n : Nat) (k200 : Int) (n201 : Int) (m202 : Int) (s203 : ByteArray) (stop204 : Int) (car205 : Int) (size206 : Int) (place207 : ByteArray) (es208 : List (List PV)) (es209 : List (List PV)) (es210 : List (List PV)) (es211 : List (List PV))  (R : Type) (k : Ex → St → Option R) :
    joinK T G0 (ctrOf pLine_Γ) (normJ pLine_cfg) (pLine_Λ n) (codeAt [1, 1, 1, 1, 1, 1, 1, 0, 1, 0, 1] (bodyOf Tryd.f45)) (buildSt ⟨sparse .undef [(2, (.val (.int .i64))), (3, (.val (.int .i64))), (4, (.val (.int .i64))), (5, (.val .str)), (6, (.ref 0 0)), (13, (.val (.fn 16 []))), (14, (.val (.fn 28 []))), (15, (.val (.int .i64))), (16, (.val (.int .i64))), (17, (.val (.int .i64))), (18, (.val .str))] 0 259, [(.pbox (.agg [.fs, .fs, .fs, .fs]) 4)], []⟩ [.int k200, .int n201, .int m202, .str s203, .int stop204, .int car205, .int size206, .str place207, .rows es208, .rows es209, .rows es210, .rows es211]) R k = pLine_J12 n [.int k200, .int n201, .int m202, .str s203, .int stop204, .int car205, .int size206, .str place207, .rows es208, .rows es209, .rows es210, .rows es211] R k := by kernel_rfl
theorem pLine_stepq22 (n : Nat) (n215 : Int) (m216 : Int) (s217 : ByteArray) (stop218 : Int) (car219 : Int) (place220 : ByteArray) (i221 : Int) (b222 : Bool) (es223 : List (List PV)) (es224 : List (List PV)) (es225 : List (List PV)) (es226 : List (List PV))  (R : Type) (k : Ex → St → Option R) :
    joinK T G0 (ctrOf pLine_Γ) (normJ pLine_cfg) (pLine_Λ n) (codeAt [1, 1, 1, 1, 1, 1, 1, 1, 0, 1, 0, 1] (bodyOf Tryd.f45)) (buildSt ⟨sparse .undef [(3, (.val (.int .i64))), (4, (.val (.int .i64))), (5, (.val .str)), (6, (.ref 0 0)), (13, (.val (.fn 16 []))), (14, (.val (.fn 28 []))), (15, (.val (.int .i64))), (16, (.val (.int .i64))), (18, (.val .str)), (143, (.val (.int .i64))), (144, (.val .bool))] 0 259, [(.pbox (.agg [.fs, .fs, .fs, .fs]) 4)], []⟩ [.int n215, .int m216, .str s217, .int stop218, .int car219, .str place220, .int i221, .bool b222, .rows es223, .rows es224, .rows es225, .rows es226]) R k = pLine_J22 n [.int n215, .int m216, .str s217, .int stop218, .int car219, .str place220, .int i221, .bool b222, .rows es223, .rows es224, .rows es225, .rows es226] R k := by kernel_rfl
theorem pLine_stepq25 (n : Nat) (n231 : Int) (m232 : Int) (s233 : ByteArray) (stop234 : Int) (car235 : Int) (place236 : ByteArray) (i237 : Int) (b238 : Bool) (es239 : List (List PV)) (es240 : List (List PV)) (es241 : List (List PV)) (es242 : List (List PV))  (R : Type) (k : Ex → St → Option R) :
    joinK T G0 (ctrOf pLine_Γ) (normJ pLine_cfg) (pLine_Λ n) (codeAt [1, 1, 1, 1, 1, 1, 1, 1, 0, 1, 0, 1, 1, 1] (bodyOf Tryd.f45)) (buildSt ⟨sparse .undef [(3, (.val (.int .i64))), (4, (.val (.int .i64))), (5, (.val .str)), (6, (.ref 0 0)), (13, (.val (.fn 16 []))), (14, (.val (.fn 28 []))), (15, (.val (.int .i64))), (16, (.val (.int .i64))), (18, (.val .str)), (143, (.val (.int .i64))), (155, (.val .bool))] 0 259, [(.pbox (.agg [.fs, .fs, .fs, .fs]) 4)], []⟩ [.int n231, .int m232, .str s233, .int stop234, .int car235, .str place236, .int i237, .bool b238, .rows es239, .rows es240, .rows es241, .rows es242]) R k = pLine_J25 n [.int n231, .int m232, .str s233, .int stop234, .int car235, .str place236, .int i237, .bool b238, .rows es239, .rows es240, .rows es241, .rows es242] R k := by kernel_rfl
theorem pLine_stepq29 (n : Nat) (n250 : Int) (m251 : Int) (s252 : ByteArray) (stop253 : Int) (car254 : Int) (place255 : ByteArray) (i256 : Int) (b257 : Bool) (es258 : List (List PV)) (es259 : List (List PV)) (es260 : List (List PV)) (es261 : List (List PV))  (R : Type) (k : Ex → St → Option R) :
    joinK T G0 (ctrOf pLine_Γ) (normJ pLine_cfg) (pLine_Λ n) (codeAt [1, 1, 1, 1, 1, 1, 1, 1, 0, 1, 0, 1, 1, 1, 1, 1] (bodyOf Tryd.f45)) (buildSt ⟨sparse .undef [(3, (.val (.int .i64))), (4, (.val (.int .i64))), (5, (.val .str)), (6, (.ref 0 0)), (13, (.val (.fn 16 []))), (14, (.val (.fn 28 []))), (15, (.val (.int .i64))), (16, (.val (.int .i64))), (18, (.val .str)), (143, (.val (.int .i64))), (162, (.val .bool))] 0 259, [(.pbox (.agg [.fs, .fs, .fs, .fs]) 4)], []⟩ [.int n250, .int m251, .str s252, .int stop253, .int car254, .str place255, .int i256, .bool b257, .rows es258, .rows es259, .rows es260, .rows es261]) R k = pLine_J29 n [.int n250, .int m251, .str s252, .int stop253, .int car254, .str place255, .int i256, .bool b257, .rows es258, .rows es259, .rows es260, .rows es261] R k := by kernel_rfl
theorem pLine_stepq41 (n : Nat) (n272 : Int) (m273 : Int) (s274 : ByteArray) (car275 : Int) (i276 : Int) (b277 : Bool) (es278 : List (List PV)) (es279 : List (List PV)) (es280 : List (List PV)) (es281 : List (List PV))  (R : Type) (k : Ex → St → Option R) :
    joinK T G0 (ctrOf pLine_Γ) (normJ pLine_cfg) (pLine_Λ n) (codeAt [1, 1, 1, 1, 1, 1, 1, 1, 0, 1, 0, 1, 1, 1, 1, 1, 1, 1, 1, 1, 1, 1, 1, 1, 1, 1] (bodyOf Tryd.f45)) (buildSt ⟨sparse .undef [(3, (.val (.int .i64))), (4, (.val (.int .i64))), (5, (.val .str)), (6, (.ref 0 0)), (13, (.val (.fn 16 []))), (14, (.val (.fn 28 []))), (16, (.val (.int .i64))), (143, (.val (.int .i64))), (192, (.val .bool))] 0 259, [(.pbox (.agg [.fs, .fs, .fs, .fs]) 4)], []⟩ [.int n272, .int m273, .str s274, .int car275, .int i276, .bool b277, .rows es278, .rows es279, .rows es280, .rows es281]) R k = pLine_J41 n [.int n272, .int m273, .str s274, .int car275, .int i276, .bool b277, .rows es278, .rows es279, .rows es280, .rows es281] R k := by kernel_rfl
theorem pLine_stepq48 (n : Nat) (n296 : Int) (s297 : ByteArray) (car298 : Int) (i299 : Int) (b300 : Bool)  (R : Type) (k : Ex → St → Option R) :
    joinK T G0 (ctrOf pLine_Γ) (normJ pLine_cfg) (pLine_Λ n) (codeAt [1, 1, 1, 1, 1, 1, 1, 1, 0, 1, 0, 1, 1, 1, 1, 1, 1, 1, 1, 1, 1, 1, 1, 1, 1, 1, 1, 1] (bodyOf Tryd.f45)) (buildSt ⟨sparse .undef [(3, (.val (.int .i64))), (5, (.val .str)), (13, (.val (.fn 16 []))), (14, (.val (.fn 28 []))), (16, (.val (.int .i64))), (143, (.val (.int .i64))), (233, (.val .bool))] 0 259, [], []⟩ [.int n296, .str s297, .int car298, .int i299, .bool b300]) R k = pLine_J48 n [.int n296, .str s297, .int car298, .int i299, .bool b300] R k := by kernel_rfl
theorem pLine_stepq51 (n : Nat) (n305 : Int) (s306 : ByteArray) (car307 : Int) (i308 : Int) (b309 : Bool)  (R : Type) (k : Ex → St → Option R) :
    joinK T G0 (ctrOf pLine_Γ) (normJ pLine_cfg) (pLine_Λ n) (codeAt [1, 1, 1, 1, 1, 1, 1, 1, 0, 1, 0, 1, 1, 1, 1, 1, 1, 1, 1, 1, 1, 1, 1, 1, 1, 1, 1, 1, 1, 1] (bodyOf Tryd.f45)) (buildSt ⟨sparse .undef [(3, (.val (.int .i64))), (5, (.val .str)), (13, (.val (.fn 16 []))), (14, (.val (.fn 28 []))), (16, (.val (.int .i64))), (143, (.val (.int .i64))), (237, (.val .bool))] 0 259, [], []⟩ [.int n305, .str s306, .int car307, .int i308, .bool b309]) R k = pLine_J51 n [.int n305, .str s306, .int car307, .int i308, .bool b309] R k := by kernel_rfl
theorem pLine_eq (i1 : List (List PV)) (i2 : List (List PV)) (i3 : List (List PV)) (i4 : List (List PV)) (p5 : List (List PV)) (p6 : List (List PV)) (p7 : List (List PV)) (p8 : List (List PV)) (p9 : List (List PV)) (p10 : List (List PV)) (p11 : Int) (k12 : Int) (n13 : Int) (m14 : Int) (s15 : ByteArray) :
    funK T G0 (ctrOf pLine_Γ) (pLine_Λ 0) .d true [none, none, none, none, none, none] (funOf Tryd.f45) [(PV.agg [(PV.fs i1), (PV.fs i2), (PV.fs i3), (PV.fs i4)]), (PV.agg [(PV.fs p5), (PV.fs p6), (PV.fs p7), (PV.fs p8), (PV.fs p9), (PV.fs p10), (PV.int .i64 p11)]), (PV.int .i64 k12), (PV.int .i64 n13), (PV.int .i64 m14), (PV.str s15)] = pLine_b  i1 i2 i3 i4 p5 p6 p7 p8 p9 p10 p11 k12 n13 m14 s15 (fun a0 => some (pLine_E a0)) := by kernel_rfl
theorem pLine_inv {ps : List PV} {y : ByteArray} (h : pLine_D ps = some y) : ∃ (i1 : List (List PV)) (i2 : List (List PV)) (i3 : List (List PV)) (i4 : List (List PV)) (p5 : List (List PV)) (p6 : List (List PV)) (p7 : List (List PV)) (p8 : List (List PV)) (p9 : List (List PV)) (p10 : List (List PV)) (p11 : Int) (k12 : Int) (n13 : Int) (m14 : Int) (s15 : ByteArray), ps = [(PV.agg [(PV.fs i1), (PV.fs i2), (PV.fs i3), (PV.fs i4)]), (PV.agg [(PV.fs p5), (PV.fs p6), (PV.fs p7), (PV.fs p8), (PV.fs p9), (PV.fs p10), (PV.int .i64 p11)]), (PV.int .i64 k12), (PV.int .i64 n13), (PV.int .i64 m14), (PV.str s15)] := by
  unfold pLine_D at h
  split at h
  · exact ⟨_, _, _, _, _, _, _, _, _, _, _, _, _, _, _, rfl⟩
  · cases h
theorem pLine_loops : loopsOf (bodyOf Tryd.f45) = [] := by kernel_rfl
theorem pLine_joins : (joinsOf (bodyOf Tryd.f45)).filter pLine_on = [codeAt [1, 1, 1, 1] (bodyOf Tryd.f45), codeAt [1, 1, 1, 1, 1, 1] (bodyOf Tryd.f45), codeAt [1, 1, 1, 1, 1, 0, 1] (bodyOf Tryd.f45), codeAt [1, 1, 1, 1, 1, 1, 1, 1] (bodyOf Tryd.f45), codeAt [1, 1, 1, 1, 1, 1, 1, 0, 1] (bodyOf Tryd.f45), codeAt [1, 1, 1, 1, 1, 1, 1, 0, 1, 0, 1] (bodyOf Tryd.f45), codeAt [1, 1, 1, 1, 1, 1, 1, 1, 0, 1, 0, 1] (bodyOf Tryd.f45), codeAt [1, 1, 1, 1, 1, 1, 1, 1, 0, 1, 0, 1, 1, 1] (bodyOf Tryd.f45), codeAt [1, 1, 1, 1, 1, 1, 1, 1, 0, 1, 0, 1, 1, 1, 1, 1] (bodyOf Tryd.f45), codeAt [1, 1, 1, 1, 1, 1, 1, 1, 0, 1, 0, 1, 1, 1, 1, 1, 1, 1, 1, 1, 1, 1, 1, 1, 1, 1] (bodyOf Tryd.f45), codeAt [1, 1, 1, 1, 1, 1, 1, 1, 0, 1, 0, 1, 1, 1, 1, 1, 1, 1, 1, 1, 1, 1, 1, 1, 1, 1, 1, 1] (bodyOf Tryd.f45), codeAt [1, 1, 1, 1, 1, 1, 1, 1, 0, 1, 0, 1, 1, 1, 1, 1, 1, 1, 1, 1, 1, 1, 1, 1, 1, 1, 1, 1, 1, 1] (bodyOf Tryd.f45)] := by kernel_rfl
theorem pLine_holds (hΓ : HoldsAll Tryd.prog G0 pLine_Γ) (hok : ∀ (i1 : List (List PV)) (i2 : List (List PV)) (i3 : List (List PV)) (i4 : List (List PV)) (p5 : List (List PV)) (p6 : List (List PV)) (p7 : List (List PV)) (p8 : List (List PV)) (p9 : List (List PV)) (p10 : List (List PV)) (p11 : Int) (k12 : Int) (n13 : Int) (m14 : Int) (s15 : ByteArray) (y : ByteArray), sPLine i1 i2 i3 i4 p5 p6 p7 p8 p9 p10 p11 k12 n13 m14 s15 = some y → ∀ (R : Type) (k : ByteArray → Option R), pLine_b  i1 i2 i3 i4 p5 p6 p7 p8 p9 p10 p11 k12 n13 m14 s15 k = k y) : Holds Tryd.prog G0 45 pLine_C := by
  refine fun_pat mixed tOk (ctrOf_ok hΓ) Tryd.func45 rfl rfl rfl rfl (F := funOf Tryd.f45) (normBy_ok pLine_cfg) (pat := pLine_pat) (L := pLine_L) (normJ_ok pLine_cfg) (on := pLine_on) (patj := pLine_patj) (J := pLine_J) (fun c hc ls R k => ?_) (fun c hc p hp m ls R k r h => ?_) (fun c hc p hp m ls R k r h => ?_) (fun ps x h => ?_)
  · rw [show (funOf Tryd.f45).code = bodyOf Tryd.f45 from rfl, pLine_loops] at hc
    cases hc
  · rw [show (funOf Tryd.f45).code = bodyOf Tryd.f45 from rfl, pLine_loops] at hc
    cases hc
  · rw [show (funOf Tryd.f45).code = bodyOf Tryd.f45 from rfl, pLine_joins] at hc
    simp only [List.mem_cons, List.not_mem_nil, or_false] at hc
    rcases hc with rfl | rfl | rfl | rfl | rfl | rfl | rfl | rfl | rfl | rfl | rfl | rfl
    · have hp' : p = ⟨sparse .undef [(2, (.val (.int .i64))), (3, (.val (.int .i64))), (4, (.val (.int .i64))), (5, (.val .str)), (6, (.ref 0 0)), (7, (.ref 1 0)), (13, (.val (.fn 16 []))), (14, (.val (.fn 28 []))), (15, (.val (.int .i64))), (16, (.val (.int .i64)))] 0 259, [(.pbox (.agg [.fs, .fs, .fs, .fs]) 4), (.pbox (.agg [.fs, .fs, .fs, .fs, .fs, .fs, (.int .i64)]) 7)], []⟩ := (Option.some.inj (hp : some _ = some p)).symm
      subst hp'
      change pLine_J5 m ls R k = some r at h
      have h' := h
      unfold pLine_J5 at h'
      split at h'
      · exact (pLine_stepq5 m _ _ _ _ _ _ _ _ _ _ _ _ _ _ _ _ _ R k).trans h
      · cases h'
    · have hp' : p = ⟨sparse .undef [(2, (.val (.int .i64))), (3, (.val (.int .i64))), (4, (.val (.int .i64))), (5, (.val .str)), (6, (.ref 0 0)), (13, (.val (.fn 16 []))), (14, (.val (.fn 28 []))), (15, (.val (.int .i64))), (16, (.val (.int .i64))), (17, (.val (.int .i64)))] 0 259, [(.pbox (.agg [.fs, .fs, .fs, .fs]) 4)], []⟩ := (Option.some.inj (hp : some _ = some p)).symm
      subst hp'
      change pLine_J8 m ls R k = some r at h
      have h' := h
      unfold pLine_J8 at h'
      split at h'
      · exact (pLine_stepq8 m _ _ _ _ _ _ _ _ _ _ _ R k).trans h
      · cases h'
    · have hp' : p = ⟨sparse .undef [(2, (.val (.int .i64))), (3, (.val (.int .i64))), (4, (.val (.int .i64))), (5, (.val .str)), (6, (.ref 0 0)), (7, (.ref 1 0)), (13, (.val (.fn 16 []))), (14, (.val (.fn 28 []))), (15, (.val (.int .i64))), (16, (.val (.int .i64))), (17, (.val (.int .i64))), (53, (.val .bool))] 0 259, [(.pbox (.agg [.fs, .fs, .fs, .fs]) 4), (.pbox (.agg [.fs, .fs, .fs, .fs, .fs, .fs, (.int .i64)]) 7)], []⟩ := (Option.some.inj (hp : some _ = some p)).symm
      subst hp'
      change pLine_J7 m ls R k = some r at h
      have h' := h
      unfold pLine_J7 at h'
      split at h'
      · exact (pLine_stepq7 m _ _ _ _ _ _ _ _ _ _ _ _ _ _ _ _ _ _ _ R k).trans h
      · cases h'
    · have hp' : p = ⟨sparse .undef [(2, (.val (.int .i64))), (3, (.val (.int .i64))), (4, (.val (.int .i64))), (5, (.val .str)), (6, (.ref 0 0)), (13, (.val (.fn 16 []))), (14, (.val (.fn 28 []))), (15, (.val (.int .i64))), (16, (.val (.int .i64))), (18, (.val .str))] 0 259, [(.pbox (.agg [.fs, .fs, .fs, .fs]) 4)], []⟩ := (Option.some.inj (hp : some _ = some p)).symm
      subst hp'
      change pLine_J13 m ls R k = some r at h
      have h' := h
      unfold pLine_J13 at h'
      split at h'
      · exact (pLine_stepq13 m _ _ _ _ _ _ _ _ _ _ _ R k).trans h
      · cases h'
    · have hp' : p = ⟨sparse .undef [(2, (.val (.int .i64))), (3, (.val (.int .i64))), (4, (.val (.int .i64))), (5, (.val .str)), (6, (.ref 0 0)), (13, (.val (.fn 16 []))), (14, (.val (.fn 28 []))), (15, (.val (.int .i64))), (16, (.val (.int .i64))), (17, (.val (.int .i64))), (18, (.val .str)), (95, (.val .bool))] 0 259, [(.pbox (.agg [.fs, .fs, .fs, .fs]) 4)], []⟩ := (Option.some.inj (hp : some _ = some p)).symm
      subst hp'
      change pLine_J10 m ls R k = some r at h
      have h' := h
      unfold pLine_J10 at h'
      split at h'
      · exact (pLine_stepq10 m _ _ _ _ _ _ _ _ _ _ _ _ _ R k).trans h
      · cases h'
    · have hp' : p = ⟨sparse .undef [(2, (.val (.int .i64))), (3, (.val (.int .i64))), (4, (.val (.int .i64))), (5, (.val .str)), (6, (.ref 0 0)), (13, (.val (.fn 16 []))), (14, (.val (.fn 28 []))), (15, (.val (.int .i64))), (16, (.val (.int .i64))), (17, (.val (.int .i64))), (18, (.val .str))] 0 259, [(.pbox (.agg [.fs, .fs, .fs, .fs]) 4)], []⟩ := (Option.some.inj (hp : some _ = some p)).symm
      subst hp'
      change pLine_J12 m ls R k = some r at h
      have h' := h
      unfold pLine_J12 at h'
      split at h'
      · exact (pLine_stepq12 m _ _ _ _ _ _ _ _ _ _ _ _ R k).trans h
      · cases h'
    · have hp' : p = ⟨sparse .undef [(3, (.val (.int .i64))), (4, (.val (.int .i64))), (5, (.val .str)), (6, (.ref 0 0)), (13, (.val (.fn 16 []))), (14, (.val (.fn 28 []))), (15, (.val (.int .i64))), (16, (.val (.int .i64))), (18, (.val .str)), (143, (.val (.int .i64))), (144, (.val .bool))] 0 259, [(.pbox (.agg [.fs, .fs, .fs, .fs]) 4)], []⟩ := (Option.some.inj (hp : some _ = some p)).symm
      subst hp'
      change pLine_J22 m ls R k = some r at h
      have h' := h
      unfold pLine_J22 at h'
      split at h'
      · exact (pLine_stepq22 m _ _ _ _ _ _ _ _ _ _ _ _ R k).trans h
      · cases h'
    · have hp' : p = ⟨sparse .undef [(3, (.val (.int .i64))), (4, (.val (.int .i64))), (5, (.val .str)), (6, (.ref 0 0)), (13, (.val (.fn 16 []))), (14, (.val (.fn 28 []))), (15, (.val (.int .i64))), (16, (.val (.int .i64))), (18, (.val .str)), (143, (.val (.int .i64))), (155, (.val .bool))] 0 259, [(.pbox (.agg [.fs, .fs, .fs, .fs]) 4)], []⟩ := (Option.some.inj (hp : some _ = some p)).symm
      subst hp'
      change pLine_J25 m ls R k = some r at h
      have h' := h
      unfold pLine_J25 at h'
      split at h'
      · exact (pLine_stepq25 m _ _ _ _ _ _ _ _ _ _ _ _ R k).trans h
      · cases h'
    · have hp' : p = ⟨sparse .undef [(3, (.val (.int .i64))), (4, (.val (.int .i64))), (5, (.val .str)), (6, (.ref 0 0)), (13, (.val (.fn 16 []))), (14, (.val (.fn 28 []))), (15, (.val (.int .i64))), (16, (.val (.int .i64))), (18, (.val .str)), (143, (.val (.int .i64))), (162, (.val .bool))] 0 259, [(.pbox (.agg [.fs, .fs, .fs, .fs]) 4)], []⟩ := (Option.some.inj (hp : some _ = some p)).symm
      subst hp'
      change pLine_J29 m ls R k = some r at h
      have h' := h
      unfold pLine_J29 at h'
      split at h'
      · exact (pLine_stepq29 m _ _ _ _ _ _ _ _ _ _ _ _ R k).trans h
      · cases h'
    · have hp' : p = ⟨sparse .undef [(3, (.val (.int .i64))), (4, (.val (.int .i64))), (5, (.val .str)), (6, (.ref 0 0)), (13, (.val (.fn 16 []))), (14, (.val (.fn 28 []))), (16, (.val (.int .i64))), (143, (.val (.int .i64))), (192, (.val .bool))] 0 259, [(.pbox (.agg [.fs, .fs, .fs, .fs]) 4)], []⟩ := (Option.some.inj (hp : some _ = some p)).symm
      subst hp'
      change pLine_J41 m ls R k = some r at h
      have h' := h
      unfold pLine_J41 at h'
      split at h'
      · exact (pLine_stepq41 m _ _ _ _ _ _ _ _ _ _ R k).trans h
      · cases h'
    · have hp' : p = ⟨sparse .undef [(3, (.val (.int .i64))), (5, (.val .str)), (13, (.val (.fn 16 []))), (14, (.val (.fn 28 []))), (16, (.val (.int .i64))), (143, (.val (.int .i64))), (233, (.val .bool))] 0 259, [], []⟩ := (Option.some.inj (hp : some _ = some p)).symm
      subst hp'
      change pLine_J48 m ls R k = some r at h
      have h' := h
      unfold pLine_J48 at h'
      split at h'
      · exact (pLine_stepq48 m _ _ _ _ _ R k).trans h
      · cases h'
    · have hp' : p = ⟨sparse .undef [(3, (.val (.int .i64))), (5, (.val .str)), (13, (.val (.fn 16 []))), (14, (.val (.fn 28 []))), (16, (.val (.int .i64))), (143, (.val (.int .i64))), (237, (.val .bool))] 0 259, [], []⟩ := (Option.some.inj (hp : some _ = some p)).symm
      subst hp'
      change pLine_J51 m ls R k = some r at h
      have h' := h
      unfold pLine_J51 at h'
      split at h'
      · exact (pLine_stepq51 m _ _ _ _ _ R k).trans h
      · cases h'
  · obtain ⟨y, hy, hx⟩ := bind_inv h
    cases hx
    obtain ⟨i1, i2, i3, i4, p5, p6, p7, p8, p9, p10, p11, k12, n13, m14, s15, rfl⟩ := pLine_inv hy
    exact ⟨0, (pLine_eq i1 i2 i3 i4 p5 p6 p7 p8 p9 p10 p11 k12 n13 m14 s15).trans (hok i1 i2 i3 i4 p5 p6 p7 p8 p9 p10 p11 k12 n13 m14 s15 y hy _ _)⟩

/-! ## drayman/draymanlaw24.Acts -/
def acts24_q9 {R : Type} (n : Nat) (l101 : List (List PV)) (s102 : ByteArray) (k103 : Int) (es104 : List (List PV)) (es105 : List (List PV)) (es106 : List (List PV)) (es107 : List (List PV)) (es108 : List (List PV)) (es109 : List (List PV)) (es110 : List (List PV)) (es111 : List (List PV)) (es112 : List (List PV)) (es113 : List (List PV)) (i114 : Int) (es115 : List (List PV)) (i116 : Int) (i117 : Int) (s118 : ByteArray) (k0 : List (List PV) → ByteArray → Int → List (List PV) → List (List PV) → List (List PV) → List (List PV) → List (List PV) → List (List PV) → List (List PV) → List (List PV) → List (List PV) → List (List PV) → Int → List (List PV) → Option R) : Option R :=
  cond (i116 == (3 : Int)) (
    Option.bind (idx l101 k103) fun e119 =>
    if e119.length = 1 then
      Option.bind (e119[0]?) fun c120 =>
      Option.bind (PV.asI .i64 c120) fun n121 =>
      Option.bind (idx l101 (IntKind.i64.wrap (k103 + (1 : Int)))) fun e122 =>
      if e122.length = 1 then
        Option.bind (e122[0]?) fun c123 =>
        Option.bind (PV.asI .i64 c123) fun n124 =>
        Option.bind (idx l101 (IntKind.i64.wrap (k103 + (2 : Int)))) fun e125 =>
        if e125.length = 1 then
          Option.bind (e125[0]?) fun c126 =>
          Option.bind (PV.asI .i64 c126) fun n127 =>
          meet (
            Option.bind (sPLine es104 es105 es106 es107 es108 es109 es110 es111 es112 es113 i114 (IntKind.i64.wrap (Int.tdiv n121 (11 : Int))) (IntKind.i64.wrap (Int.tdiv n124 (4 : Int))) n127 s102) fun y128 =>
            if (es115.length + ([[(PV.int .i64 i116), (PV.int .i64 i117), (PV.str y128)]] : List (List PV)).length) * 32 ≤ maxBytes then
              k0 l101 s102 k103 es104 es105 es106 es107 es108 es109 es110 es111 es112 es113 i114 (es115 ++ [[(PV.int .i64 i116), (PV.int .i64 i117), (PV.str y128)]])
            else none) (
            Option.bind (sPLine es104 es105 es106 es107 es108 es109 es110 es111 es112 es113 i114 (IntKind.i64.wrap (Int.tdiv n121 (11 : Int))) (IntKind.i64.wrap (Int.tdiv n124 (4 : Int))) n127 s102) fun y129 =>
            if (es115.length + ([[(PV.int .i64 i116), (PV.int .i64 i117), (PV.str y129)]] : List (List PV)).length) * 32 ≤ maxBytes then
              k0 l101 s102 k103 es104 es105 es106 es107 es108 es109 es110 es111 es112 es113 i114 (es115 ++ [[(PV.int .i64 i116), (PV.int .i64 i117), (PV.str y129)]])
            else none)
        else none
      else none
    else none) (
    cond (i116 == (4 : Int)) (
      if (es115.length + ([[(PV.int .i64 i116), (PV.int .i64 i117), (PV.str s102)]] : List (List PV)).length) * 32 ≤ maxBytes then
        k0 l101 s102 k103 es104 es105 es106 es107 es108 es109 es110 es111 es112 es113 i114 (es115 ++ [[(PV.int .i64 i116), (PV.int .i64 i117), (PV.str s102)]])
      else none) (
      cond (i116 == (6 : Int)) (
        Option.bind (idx l101 (IntKind.i64.wrap (k103 + (2 : Int)))) fun e130 =>
        if e130.length = 1 then
          Option.bind (e130[0]?) fun c131 =>
          Option.bind (PV.asI .i64 c131) fun n132 =>
          Option.bind (within_d n132 40) fun y133 =>
          if (es115.length + ([[(PV.int .i64 i116), (PV.int .i64 y133), (PV.str s118)]] : List (List PV)).length) * 32 ≤ maxBytes then
            k0 l101 s102 k103 es104 es105 es106 es107 es108 es109 es110 es111 es112 es113 i114 (es115 ++ [[(PV.int .i64 i116), (PV.int .i64 y133), (PV.str s118)]])
          else none
        else none) (
        if (es115.length + ([[(PV.int .i64 i116), (PV.int .i64 i117), (PV.str s118)]] : List (List PV)).length) * 32 ≤ maxBytes then
          k0 l101 s102 k103 es104 es105 es106 es107 es108 es109 es110 es111 es112 es113 i114 (es115 ++ [[(PV.int .i64 i116), (PV.int .i64 i117), (PV.str s118)]])
        else none)))
def acts24_l5 {R : Type} : Nat → List (List PV) → ByteArray → Int → List (List PV) → List (List PV) → List (List PV) → List (List PV) → List (List PV) → List (List PV) → List (List PV) → List (List PV) → List (List PV) → List (List PV) → Int → List (List PV) → (List (List PV) → Option R) → Option R
  | 0, _, _, _, _, _, _, _, _, _, _, _, _, _, _, _, _ => none
  | n + 1, l9, s10, k11, es12, es13, es14, es15, es16, es17, es18, es19, es20, es21, i22, es23, k0 =>
    cond (decide ((IntKind.i64.wrap (k11 + (2 : Int))) < (l9.length : Int))) (
      cond (decide (k11 < (60 : Int))) (
        Option.bind (idx l9 k11) fun e24 =>
        if e24.length = 1 then
          Option.bind (e24[0]?) fun c25 =>
          Option.bind (PV.asI .i64 c25) fun n26 =>
          Option.bind (within_d n26 11) fun y27 =>
          Option.bind (idx l9 (IntKind.i64.wrap (k11 + (1 : Int)))) fun e28 =>
          if e28.length = 1 then
            Option.bind (e28[0]?) fun c29 =>
            Option.bind (PV.asI .i64 c29) fun n30 =>
            Option.bind (within_d n30 4) fun y31 =>
            meet (
              if 0 ≤ y27 ∧ y27 < (11 : Int) then
                meet (
                  Option.bind (([[(PV.int .i64 1)], [(PV.int .i64 3)], [(PV.int .i64 3)], [(PV.int .i64 3)], [(PV.int .i64 3)], [(PV.int .i64 5)], [(PV.int .i64 5)], [(PV.int .i64 5)], [(PV.int .i64 4)], [(PV.int .i64 2)], [(PV.int .i64 6)]] : List (List PV))[(Int.toNat y27)]?) fun e32 =>
                  Option.bind (e32[0]?) fun c33 =>
                  Option.bind (PV.asI .i64 c33) fun n34 =>
                  meet (
                    acts24_q9 n l9 s10 k11 es12 es13 es14 es15 es16 es17 es18 es19 es20 es21 i22 es23 n34 y31 (ByteArray.mk #[])
                      (fun (l35 : List (List PV)) (s36 : ByteArray) (k37 : Int) (es38 : List (List PV)) (es39 : List (List PV)) (es40 : List (List PV)) (es41 : List (List PV)) (es42 : List (List PV)) (es43 : List (List PV)) (es44 : List (List PV)) (es45 : List (List PV)) (es46 : List (List PV)) (es47 : List (List PV)) (i48 : Int) (es49 : List (List PV)) =>
                        acts24_l5 n l35 s36 (IntKind.i64.wrap (k37 + (3 : Int))) es38 es39 es40 es41 es42 es43 es44 es45 es46 es47 i48 es49 k0)) (
                    acts24_q9 n l9 s10 k11 es12 es13 es14 es15 es16 es17 es18 es19 es20 es21 i22 es23 n34 y31 (ByteArray.mk #[])
                      (fun (l50 : List (List PV)) (s51 : ByteArray) (k52 : Int) (es53 : List (List PV)) (es54 : List (List PV)) (es55 : List (List PV)) (es56 : List (List PV)) (es57 : List (List PV)) (es58 : List (List PV)) (es59 : List (List PV)) (es60 : List (List PV)) (es61 : List (List PV)) (es62 : List (List PV)) (i63 : Int) (es64 : List (List PV)) =>
                        acts24_l5 n l50 s51 (IntKind.i64.wrap (k52 + (3 : Int))) es53 es54 es55 es56 es57 es58 es59 es60 es61 es62 i63 es64 k0))) (
                  Option.bind (([[(PV.int .i64 1)], [(PV.int .i64 3)], [(PV.int .i64 3)], [(PV.int .i64 3)], [(PV.int .i64 3)], [(PV.int .i64 5)], [(PV.int .i64 5)], [(PV.int .i64 5)], [(PV.int .i64 4)], [(PV.int .i64 2)], [(PV.int .i64 6)]] : List (List PV))[(Int.toNat y27)]?) fun e65 =>
                  Option.bind (e65[0]?) fun c66 =>
                  Option.bind (PV.asI .i64 c66) fun n67 =>
                  acts24_q9 n l9 s10 k11 es12 es13 es14 es15 es16 es17 es18 es19 es20 es21 i22 es23 n67 y31 (ByteArray.mk #[])
                    (fun (l68 : List (List PV)) (s69 : ByteArray) (k70 : Int) (es71 : List (List PV)) (es72 : List (List PV)) (es73 : List (List PV)) (es74 : List (List PV)) (es75 : List (List PV)) (es76 : List (List PV)) (es77 : List (List PV)) (es78 : List (List PV)) (es79 : List (List PV)) (es80 : List (List PV)) (i81 : Int) (es82 : List (List PV)) =>
                      acts24_l5 n l68 s69 (IntKind.i64.wrap (k70 + (3 : Int))) es71 es72 es73 es74 es75 es76 es77 es78 es79 es80 i81 es82 k0))
              else none) (
              if 0 ≤ y27 ∧ y27 < (11 : Int) then
                Option.bind (([[(PV.int .i64 1)], [(PV.int .i64 3)], [(PV.int .i64 3)], [(PV.int .i64 3)], [(PV.int .i64 3)], [(PV.int .i64 5)], [(PV.int .i64 5)], [(PV.int .i64 5)], [(PV.int .i64 4)], [(PV.int .i64 2)], [(PV.int .i64 6)]] : List (List PV))[(Int.toNat y27)]?) fun e83 =>
                Option.bind (e83[0]?) fun c84 =>
                Option.bind (PV.asI .i64 c84) fun n85 =>
                acts24_q9 n l9 s10 k11 es12 es13 es14 es15 es16 es17 es18 es19 es20 es21 i22 es23 n85 y31 (ByteArray.mk #[])
                  (fun (l86 : List (List PV)) (s87 : ByteArray) (k88 : Int) (es89 : List (List PV)) (es90 : List (List PV)) (es91 : List (List PV)) (es92 : List (List PV)) (es93 : List (List PV)) (es94 : List (List PV)) (es95 : List (List PV)) (es96 : List (List PV)) (es97 : List (List PV)) (es98 : List (List PV)) (i99 : Int) (es100 : List (List PV)) =>
                    acts24_l5 n l86 s87 (IntKind.i64.wrap (k88 + (3 : Int))) es89 es90 es91 es92 es93 es94 es95 es96 es97 es98 i99 es100 k0)
              else none)
          else none
        else none) (
        k0 es23)) (
      k0 es23)
def acts24_b {R : Type} (n : Nat) (i1 : List (List PV)) (i2 : List (List PV)) (i3 : List (List PV)) (i4 : List (List PV)) (l5 : List (List PV)) (s6 : ByteArray) (k : List (List PV) → Option R) : Option R :=
  Option.bind (sNewPlan i1 i2 i3 i4) fun y7 =>
  acts24_l5 n l5 s6 0 i1 i2 i3 i4 y7.1 y7.2.1 y7.2.2.1 y7.2.2.2.1 y7.2.2.2.2.1 y7.2.2.2.2.2.1 y7.2.2.2.2.2.2 [] k
def acts24_E (y : (List (List PV))) : PV × List PV := ((PV.os y 3), [])
open Classical in
noncomputable def sActs24 (i1 : List (List PV)) (i2 : List (List PV)) (i3 : List (List PV)) (i4 : List (List PV)) (l5 : List (List PV)) (s6 : ByteArray) : Option ((List (List PV))) := if h : ∃ y : (List (List PV)), actsP i1 i2 i3 i4 l5 s6 y ∧ ∃ n, ∀ (R : Type) (k : List (List PV) → Option R), acts24_b n  i1 i2 i3 i4 l5 s6 k = k y then some (Classical.choose h) else none
theorem acts24_pick (i1 : List (List PV)) (i2 : List (List PV)) (i3 : List (List PV)) (i4 : List (List PV)) (l5 : List (List PV)) (s6 : ByteArray) (y : (List (List PV))) (h : sActs24 i1 i2 i3 i4 l5 s6 = some y) : actsP i1 i2 i3 i4 l5 s6 y ∧ ∃ n, ∀ (R : Type) (k : List (List PV) → Option R), acts24_b n  i1 i2 i3 i4 l5 s6 k = k y := by
  unfold sActs24 at h
  split at h
  · rename_i hh
    cases h
    exact Classical.choose_spec hh
  · cases h
theorem acts24_ok : ∀ (i1 : List (List PV)) (i2 : List (List PV)) (i3 : List (List PV)) (i4 : List (List PV)) (l5 : List (List PV)) (s6 : ByteArray) (y : (List (List PV))), sActs24 i1 i2 i3 i4 l5 s6 = some y → ∃ n, ∀ (R : Type) (k : List (List PV) → Option R), acts24_b n  i1 i2 i3 i4 l5 s6 k = k y := fun i1 i2 i3 i4 l5 s6 y h => (acts24_pick i1 i2 i3 i4 l5 s6 y h).2
theorem acts24_got (i1 : List (List PV)) (i2 : List (List PV)) (i3 : List (List PV)) (i4 : List (List PV)) (l5 : List (List PV)) (s6 : ByteArray) (h : ∃ y : (List (List PV)), actsP i1 i2 i3 i4 l5 s6 y ∧ ∃ n, ∀ (R : Type) (k : List (List PV) → Option R), acts24_b n  i1 i2 i3 i4 l5 s6 k = k y) : ∃ y, sActs24 i1 i2 i3 i4 l5 s6 = some y ∧ actsP i1 i2 i3 i4 l5 s6 y := by
  unfold sActs24
  rw [dif_pos h]
  exact ⟨_, rfl, (Classical.choose_spec h).1⟩
def acts24_D : List PV → Option ((List (List PV)))
  | [(PV.agg [(PV.fs i1), (PV.fs i2), (PV.fs i3), (PV.fs i4)]), (PV.fs l5), (PV.str s6)] => sActs24 i1 i2 i3 i4 l5 s6
  | _ => none
def acts24_Γ : List (Nat × Cal) := [(44, .ctr rNewPlan_C), (16, .ctr within_C), (45, .ctr pLine_C)]
def acts24_C : Ctr := ⟨[none, none, none], (List (List PV)), acts24_D, acts24_E, true, .s⟩
def acts24_cfg : List (Nat × LC) := [(5, ⟨[1, 2, 3, 7, 8, 9, 10], [9], [], []⟩),
  (4000009, ⟨[1, 2, 3, 7, 8, 9, 10, 11], [], [], []⟩),
  (1005000, ⟨[9], [], [], []⟩),
  (5000009, ⟨[1, 2, 3, 7, 8, 9, 10], [], [], []⟩)]
def acts24_pat : Nat → Option SP
  | 5 => some ⟨sparse .undef [(1, (.val .fs)), (2, (.val .str)), (3, (.ref 0 0)), (7, (.val (.fn 16 []))), (8, (.ref 1 0)), (9, (.ow 2)), (10, (.val (.int .i64)))] 0 86, [(.pbox (.agg [.fs, .fs, .fs, .fs]) 4), (.pbox (.agg [.fs, .fs, .fs, .fs, .fs, .fs, (.int .i64)]) 7), (.row 3)], []⟩
  | _ => none
def acts24_patj : Nat → Option SP
  | 9 => some ⟨sparse .undef [(1, (.val .fs)), (2, (.val .str)), (3, (.ref 0 0)), (7, (.val (.fn 16 []))), (8, (.ref 1 0)), (9, (.ow 2)), (10, (.val (.int .i64))), (11, (.ref 3 0))] 0 86, [(.pbox (.agg [.fs, .fs, .fs, .fs]) 4), (.pbox (.agg [.fs, .fs, .fs, .fs, .fs, .fs, (.int .i64)]) 7), (.row 3), (.pbox (.agg [(.int .i64), (.int .i64), .str]) 3)], []⟩
  | _ => none
def acts24_J9 (n : Nat) (ls : List Leaf) (R : Type) (k : Ex → St → Option R) : Option R :=
  match ls with
  | [.rows l101, .str s102, .int k103, .rows es104, .rows es105, .rows es106, .rows es107, .rows es108, .rows es109, .rows es110, .rows es111, .rows es112, .rows es113, .int i114, .rows es115, .int i116, .int i117, .str s118] => acts24_q9 n l101 s102 k103 es104 es105 es106 es107 es108 es109 es110 es111 es112 es113 i114 es115 i116 i117 s118 (fun y1134 y1135 y1136 y1137 y1138 y1139 y1140 y1141 y1142 y1143 y1144 y1145 y1146 y1147 y1148 => k .normal ⟨sparse .undef [(1, (TV.val (PV.fs y1134))), (2, (TV.val (PV.str y1135))), (3, (TV.ref 0 0)), (7, (TV.val (PV.fn (Fn.func 16) []))), (8, (TV.ref 1 0)), (9, (TV.ow 2)), (10, (TV.val (PV.int .i64 y1136)))] 0 86, [(Ob.pbox (PV.agg [(PV.fs y1137), (PV.fs y1138), (PV.fs y1139), (PV.fs y1140)]) 4), (Ob.pbox (PV.agg [(PV.fs y1141), (PV.fs y1142), (PV.fs y1143), (PV.fs y1144), (PV.fs y1145), (PV.fs y1146), (PV.int .i64 y1147)]) 7), (Ob.row y1148 3)], []⟩)
  | _ => none
def acts24_L5 (n : Nat) (ls : List Leaf) (R : Type) (k : Ex → St → Option R) : Option R :=
  match ls with
  | [.rows l9, .str s10, .int k11, .rows es12, .rows es13, .rows es14, .rows es15, .rows es16, .rows es17, .rows es18, .rows es19, .rows es20, .rows es21, .int i22, .rows es23] => acts24_l5 n l9 s10 k11 es12 es13 es14 es15 es16 es17 es18 es19 es20 es21 i22 es23 (fun y2149 => k (.exit 0) ⟨sparse .undef [(9, (TV.ow 0))] 0 86, [(Ob.row y2149 3)], []⟩)
  | _ => none
def acts24_L (n key : Nat) (ls : List Leaf) (R : Type) (k : Ex → St → Option R) : Option R :=
  match key with
  | 5 => acts24_L5 n ls R k
  | _ => none
def acts24_J (n key : Nat) (ls : List Leaf) (R : Type) (k : Ex → St → Option R) : Option R :=
  match key with
  | 9 => acts24_J9 n ls R k
  | _ => none
def acts24_on : Code → Bool := onKeys [9]
def acts24_Λ : Nat → Loops := patL (normBy acts24_cfg) acts24_pat acts24_L (normJ acts24_cfg) acts24_on acts24_patj acts24_J
theorem acts24_step5 (n : Nat) (l9 : List (List PV)) (s10 : ByteArray) (k11 : Int) (es12 : List (List PV)) (es13 : List (List PV)) (es14 : List (List PV)) (es15 : List (List PV)) (es16 : List (List PV)) (es17 : List (List PV)) (es18 : List (List PV)) (es19 : List (List PV)) (es20 : List (List PV)) (es21 : List (List PV)) (i22 : Int) (es23 : List (List PV))  (R : Type) (k : Ex → St → Option R) :
    roundK T G0 (ctrOf acts24_Γ) (normBy acts24_cfg) (acts24_Λ n) (codeAt [1, 1, 1, 1, 0, 1, 0, 0] (bodyOf Tryd.f23)) (buildSt ⟨sparse .undef [(1, (.val .fs)), (2, (.val .str)), (3, (.ref 0 0)), (7, (.val (.fn 16 []))), (8, (.ref 1 0)), (9, (.ow 2)), (10, (.val (.int .i64)))] 0 86, [(.pbox (.agg [.fs, .fs, .fs, .fs]) 4), (.pbox (.agg [.fs, .fs, .fs, .fs, .fs, .fs, (.int .i64)]) 7), (.row 3)], []⟩ [.rows l9, .str s10, .int k11, .rows es12, .rows es13, .rows es14, .rows es15, .rows es16, .rows es17, .rows es18, .rows es19, .rows es20, .rows es21, .int i22, .rows es23]) R k = acts24_L5 (n + 1) [.rows l9, .str s10, .int k11, .rows es12, .rows es13, .rows es14, .rows es15, .rows es16, .rows es17, .rows es18, .rows es19, .rows es20, .rows es21, .int i22, .rows es23] R k := by kernel_rfl
theorem acts24_stepq9 (n : Nat) (l101 : List (List PV)) (s102 : ByteArray) (k103 : Int) (es104 : List (List PV)) (es105 : List (List PV)) (es106 : List (List PV)) (es107 : List (List PV)) (es108 : List (List PV)) (es109 : List (List PV)) (es110 : List (List PV)) (es111 : List (List PV)) (es112 : List (List PV)) (es113 : List (List PV)) (i114 : Int) (es115 : List (List PV)) (i116 : Int) (i117 : Int) (s118 : ByteArray)  (R : Type) (k : Ex → St → Option R) :
    joinK T G0 (ctrOf acts24_Γ) (normJ acts24_cfg) (acts24_Λ n) (codeAt [1, 1, 1, 1, 0, 1, 0, 0, 1, 0, 0, 1] (bodyOf Tryd.f23)) (buildSt ⟨sparse .undef [(1, (.val .fs)), (2, (.val .str)), (3, (.ref 0 0)), (7, (.val (.fn 16 []))), (8, (.ref 1 0)), (9, (.ow 2)), (10, (.val (.int .i64))), (11, (.ref 3 0))] 0 86, [(.pbox (.agg [.fs, .fs, .fs, .fs]) 4), (.pbox (.agg [.fs, .fs, .fs, .fs, .fs, .fs, (.int .i64)]) 7), (.row 3), (.pbox (.agg [(.int .i64), (.int .i64), .str]) 3)], []⟩ [.rows l101, .str s102, .int k103, .rows es104, .rows es105, .rows es106, .rows es107, .rows es108, .rows es109, .rows es110, .rows es111, .rows es112, .rows es113, .int i114, .rows es115, .int i116, .int i117, .str s118]) R k = acts24_J9 n [.rows l101, .str s102, .int k103, .rows es104, .rows es105, .rows es106, .rows es107, .rows es108, .rows es109, .rows es110, .rows es111, .rows es112, .rows es113, .int i114, .rows es115, .int i116, .int i117, .str s118] R k := by kernel_rfl
theorem acts24_eq (n : Nat) (i1 : List (List PV)) (i2 : List (List PV)) (i3 : List (List PV)) (i4 : List (List PV)) (l5 : List (List PV)) (s6 : ByteArray) :
    funK T G0 (ctrOf acts24_Γ) (acts24_Λ n) .s true [none, none, none] (funOf Tryd.f23) [(PV.agg [(PV.fs i1), (PV.fs i2), (PV.fs i3), (PV.fs i4)]), (PV.fs l5), (PV.str s6)] = acts24_b n  i1 i2 i3 i4 l5 s6 (fun a0 => if (noMem (acts24_E a0).1 && noMemL (acts24_E a0).2) = true then some (acts24_E a0) else none) := by kernel_rfl
theorem acts24_inv {ps : List PV} {y : (List (List PV))} (h : acts24_D ps = some y) : ∃ (i1 : List (List PV)) (i2 : List (List PV)) (i3 : List (List PV)) (i4 : List (List PV)) (l5 : List (List PV)) (s6 : ByteArray), ps = [(PV.agg [(PV.fs i1), (PV.fs i2), (PV.fs i3), (PV.fs i4)]), (PV.fs l5), (PV.str s6)] := by
  unfold acts24_D at h
  split at h
  · exact ⟨_, _, _, _, _, _, rfl⟩
  · cases h
theorem acts24_loops : loopsOf (bodyOf Tryd.f23) = [codeAt [1, 1, 1, 1, 0, 1, 0, 0] (bodyOf Tryd.f23)] := by kernel_rfl
theorem acts24_joins : (joinsOf (bodyOf Tryd.f23)).filter acts24_on = [codeAt [1, 1, 1, 1, 0, 1, 0, 0, 1, 0, 0, 1] (bodyOf Tryd.f23)] := by kernel_rfl
theorem acts24_holds (hΓ : HoldsAll Tryd.prog G0 acts24_Γ) (hok : ∀ (i1 : List (List PV)) (i2 : List (List PV)) (i3 : List (List PV)) (i4 : List (List PV)) (l5 : List (List PV)) (s6 : ByteArray) (y : (List (List PV))), sActs24 i1 i2 i3 i4 l5 s6 = some y → ∃ n, ∀ (R : Type) (k : List (List PV) → Option R), acts24_b n  i1 i2 i3 i4 l5 s6 k = k y) (hno : ∀ (i1 : List (List PV)) (i2 : List (List PV)) (i3 : List (List PV)) (i4 : List (List PV)) (l5 : List (List PV)) (s6 : ByteArray) (y : (List (List PV))), sActs24 i1 i2 i3 i4 l5 s6 = some y → (noMem (acts24_E y).1 && noMemL (acts24_E y).2) = true) : Holds Tryd.prog G0 23 acts24_C := by
  refine fun_pat mixed tOk (ctrOf_ok hΓ) Tryd.func23 rfl rfl rfl rfl (F := funOf Tryd.f23) (normBy_ok acts24_cfg) (pat := acts24_pat) (L := acts24_L) (normJ_ok acts24_cfg) (on := acts24_on) (patj := acts24_patj) (J := acts24_J) (fun c hc ls R k => ?_) (fun c hc p hp m ls R k r h => ?_) (fun c hc p hp m ls R k r h => ?_) (fun ps x h => ?_)
  · rw [show (funOf Tryd.f23).code = bodyOf Tryd.f23 from rfl, acts24_loops] at hc
    simp only [List.mem_cons, List.not_mem_nil, or_false] at hc
    rcases hc with rfl
    · show acts24_L5 0 ls R k = none
      unfold acts24_L5
      split
      · rfl
      · rfl
  · rw [show (funOf Tryd.f23).code = bodyOf Tryd.f23 from rfl, acts24_loops] at hc
    simp only [List.mem_cons, List.not_mem_nil, or_false] at hc
    rcases hc with rfl
    · have hp' : p = ⟨sparse .undef [(1, (.val .fs)), (2, (.val .str)), (3, (.ref 0 0)), (7, (.val (.fn 16 []))), (8, (.ref 1 0)), (9, (.ow 2)), (10, (.val (.int .i64)))] 0 86, [(.pbox (.agg [.fs, .fs, .fs, .fs]) 4), (.pbox (.agg [.fs, .fs, .fs, .fs, .fs, .fs, (.int .i64)]) 7), (.row 3)], []⟩ := (Option.some.inj (hp : some _ = some p)).symm
      subst hp'
      change acts24_L5 (m + 1) ls R k = some r at h
      have h' := h
      unfold acts24_L5 at h'
      split at h'
      · exact (acts24_step5 m _ _ _ _ _ _ _ _ _ _ _ _ _ _ _ R k).trans h
      · cases h'
  · rw [show (funOf Tryd.f23).code = bodyOf Tryd.f23 from rfl, acts24_joins] at hc
    simp only [List.mem_cons, List.not_mem_nil, or_false] at hc
    rcases hc with rfl
    · have hp' : p = ⟨sparse .undef [(1, (.val .fs)), (2, (.val .str)), (3, (.ref 0 0)), (7, (.val (.fn 16 []))), (8, (.ref 1 0)), (9, (.ow 2)), (10, (.val (.int .i64))), (11, (.ref 3 0))] 0 86, [(.pbox (.agg [.fs, .fs, .fs, .fs]) 4), (.pbox (.agg [.fs, .fs, .fs, .fs, .fs, .fs, (.int .i64)]) 7), (.row 3), (.pbox (.agg [(.int .i64), (.int .i64), .str]) 3)], []⟩ := (Option.some.inj (hp : some _ = some p)).symm
      subst hp'
      change acts24_J9 m ls R k = some r at h
      have h' := h
      unfold acts24_J9 at h'
      split at h'
      · exact (acts24_stepq9 m _ _ _ _ _ _ _ _ _ _ _ _ _ _ _ _ _ _ R k).trans h
      · cases h'
  · obtain ⟨y, hy, hx⟩ := bind_inv h
    cases hx
    obtain ⟨i1, i2, i3, i4, l5, s6, rfl⟩ := acts24_inv hy
    obtain ⟨n, hn⟩ := hok i1 i2 i3 i4 l5 s6 y hy
    exact ⟨n, (acts24_eq n i1 i2 i3 i4 l5 s6).trans ((hn _ _).trans (if_pos (hno i1 i2 i3 i4 l5 s6 y hy)))⟩

end
end Go.Proofs.YtkeklbicmfhemaaDoorV
