/- SeqChecks answers true at every input, and the arguments read behind the call as before. No condition. -/
/- Joined by this session's own program out of its texts: PFx27 SeqLaw Opens OpensT SeqChecks. -/
import Derived.Test.YtkbkndfonccekaaQ1
import Derived.Test.YtkbkndfonccekaaQ3
import Derived.Test.YtkbkndfonccekaaQ7
import Derived.Test.YtkbkndfonccekaaQ6
import Derived.Test.YtkbkndfonccekaaQ9
import Derived.Test.YtkbkndfonccekaaQ10
import Derived.Test.YtkbkndfonccekaaQ11
import Derived.ProofKit
import Derived.OpenShut
import Derived.ShutString
import Derived.ChangeOld
import Derived.Below
import Derived.SizedLaws
import Derived.Test.YtkbkndfonccekaaRows
namespace Go.Proofs.Ytkbkndfonccekaa.PF
open Go.RowKit Go.Proofs.YtkbkndfonccekaaW.PrintWords Go.Proofs.YtkbkndfonccekaaW.PrintLast Go.Proofs.YtkbkndfonccekaaW.PrintMore
attribute [local go_sem] Qn Qp Kq Kt
set_option linter.unusedVariables false
set_option linter.unusedSimpArgs false
def Xb.j0 : Nat → Int → Int → List (Qh) → Bool → ByteArray → Int → Int → Int → Int → Bool → Int → Int → Int → Int → Bool → Int → List (Qh) → Int → Int → List (Vd) → Int → Int → Int → Bool → Int → Int → Int → Int → Bool → Int → List (Qh) → Int → Int → List (Vd) → Bool → Int → Option (Bool)
  | 0, _, _, _, _, _, _, _, _, _, _, _, _, _, _, _, _, _, _, _, _, _, _, _, _, _, _, _, _, _, _, _, _, _, _, _, _ => none
  | k + 1, x3, x4, x6, x48, x374000, x374001, JT, JS, JR, JQ, JP, JO, JN, JM, JL, JK, JJ, JI, JH, JG, x374016, x374017, x374018, x374019, x374020, x374021, x374022, x374023, x374024, x374025, x374026, x374027, x374028, x374029, x374030, x374031 => if x48 = true then (none) else (if x3 = 0 then ((Zn.f k JT JS JR JQ JP JO JN JM JL JK JJ JI JH JG).bind fun t385 => (if x4 = t385 then ((Zy.f k JT JS JR JQ JP JO JN JM JL JK JJ JI JH JG).bind fun t386 => ((Wq.f k x6 t386 0).bind fun t389 => (some t389))) else (none))) else (if x4 = 0 then (some ((x6.length : Int) == 0)) else (none)))
def Xb.f (k : Nat) (JE : ByteArray) (JD : Int) (Jg : Int) (Jf : Int) (Jd : Int) (Jc : Bool) (Jb : Int) (Ja : Int) (J9 : Int) (J8 : Int) (J7 : Bool) (J6 : Int) (J3 : List (Qh)) (J5 : Int) (J4 : Int) (J2 : List (Vd)) (JC : Int) (JB : Int) (JA : Int) (Jz : Bool) (Jx : Int) (Jv : Int) (Ju : Int) (Jt : Int) (Js : Bool) (Jr : Int) (Jj : List (Qh)) (Jq : Int) (Jm : Int) (Jh : List (Vd)) (Jl : Bool) (Jk : Int) : Option (Bool) := (Xf.f k Jg Jf Jd Jc Jb Ja J9 J8 J7 J6 J3 J5 J4 J2).bind fun t374 => ((Qo.f k Jg Jf Jd Jc Jb Ja J9 J8 J7 J6 J3 J5 J4 J2).bind fun bt375 => ((Xr.f k Jg Jf Jd Jc Jb Ja J9 J8 J7 J6 J3 J5 J4 J2).bind fun bt377 => ((Xv.f k).bind fun t381 => (if t381 = true then ((Zz.f k Jg Jf Jd Jc Jb Ja J9 J8 J7 J6 J3 J5 J4 J2).bind fun t382 => (if t382 = t374 then (if bt375.2 = t374 then (if bt377.2 = t374 then ((Xt.f k JE JD Jg Jf Jd Jc Jb Ja J9 J8 J7 J6 J3 J5 J4 J2 JC JB JA Jz Jx Jv Ju Jt Js Jr Jj Jq Jm Jh Jl Jk).bind fun t383 => ((Zr.f k JE JD Jg Jf Jd Jc Jb Ja J9 J8 J7 J6 J3 J5 J4 J2 JC JB JA Jz Jx Jv Ju Jt Js Jr Jj Jq Jm Jh Jl Jk).bind fun t384 => (Xb.j0 k t374 bt375.1 bt377.1 (t383 != t384) JE JD Jg Jf Jd Jc Jb Ja J9 J8 J7 J6 J3 J5 J4 J2 JC JB JA Jz Jx Jv Ju Jt Js Jr Jj Jq Jm Jh Jl Jk))) else (none)) else (none)) else (none))) else (none)))))
def Xb.T4 : Bool × List (List Nat × List Nat) := (true, [([], []), ([0], [0]), ([1, 0], [1]), ([2], [2]), ([3, 2], [2, 3]), ([4, 2, 2], [2, 4]), ([2], [2]), ([5, 6, 2], [2, 5, 6]), ([2, 7], [2, 7]), ([8, 5], [8]), ([9], [9]), ([9], [9]), ([10, 11, 9], [9, 10, 11]), ([9, 12], [9, 12]), ([13, 9], [13]), ([14], [14]), ([14], [14]), ([15, 16, 14], [14, 15, 16]), ([14, 17], [14, 17]), ([18, 14], [18]), ([19], [19]), ([20, 19, 19], [19, 20]), ([19], [19]), ([22, 21, 19], [19, 22]), ([21, 23, 19], [19, 21, 23]), ([19, 24], [19, 24])])
def Xb.B4 : List Nat := [0, 1, 3, 7, 15, 31, 7, 127, 255, 511, 1023, 1023, 4095, 8191, 16383, 32767, 32767, 131071, 262143, 524287, 1048575, 2097151, 1048575, 8388607, 16777215, 33554431]
theorem Xb.tab4 : rtab .any (opsOf Try.f3 4) = Xb.T4 := by kernel_rfl
theorem Xb.bits4 : Wi Xb.T4.2 Xb.B4 = true := by kernel_rfl
set_option maxHeartbeats 8000000 in
set_option maxRecDepth 100000 in
theorem Xb.calls (k : Nat) (JE : ByteArray) (JD : Int) (Jg : Int) (Jf : Int) (Jd : Int) (Jc : Bool) (Jb : Int) (Ja : Int) (J9 : Int) (J8 : Int) (J7 : Bool) (J6 : Int) (A0_12 : Option Addr) (c0_12 : Nat) (J3 : List (Qh)) (J5 : Int) (J4 : Int) (A0_15 : Option Addr) (c0_15 : Nat) (J2 : List (Vd)) (JC : Int) (JB : Int) (JA : Int) (Jz : Bool) (Jx : Int) (Jv : Int) (Ju : Int) (Jt : Int) (Js : Bool) (Jr : Int) (A0_26 : Option Addr) (c0_26 : Nat) (Jj : List (Qh)) (Jq : Int) (Jm : Int) (A0_29 : Option Addr) (c0_29 : Nat) (Jh : List (Vd)) (Jl : Bool) (Jk : Int) (r : Bool) (w : World) (hr0_12 : Kd.C k27 w A0_12 J3.length J3) (hc0_12 : J3.length ≤ c0_12) (hr0_15 : Kd.C k30 w A0_15 J2.length J2) (hc0_15 : J2.length ≤ c0_15) (hr0_26 : Kd.C k27 w A0_26 Jj.length Jj) (hc0_26 : Jj.length ≤ c0_26) (hr0_29 : Kd.C k30 w A0_29 Jh.length Jh) (hc0_29 : Jh.length ≤ c0_29) (h : Xb.f k JE JD Jg Jf Jd Jc Jb Ja J9 J8 J7 J6 J3 J5 J4 J2 JC JB JA Jz Jx Jv Ju Jt Js Jr Jj Jq Jm Jh Jl Jk = some r) :
 Calls Try.prog 3 #[.agg #[.string JE, .int .i64 JD, .int .i64 Jg, .int .i64 Jf, .int .i64 Jd, .bool Jc, .int .i64 Jb, .int .u64 Ja, .int .u64 J9, .int .i64 J8, .bool J7, .int .i64 J6, .slice A0_12 J3.length c0_12, .int .i64 J5, .int .i64 J4, .slice A0_15 J2.length c0_15, .int .i64 JC, .int .i64 JB, .int .i64 JA, .bool Jz, .int .i64 Jx, .int .u64 Jv, .int .u64 Ju, .int .i64 Jt, .bool Js, .int .i64 Jr, .slice A0_26 Jj.length c0_26, .int .i64 Jq, .int .i64 Jm, .slice A0_29 Jh.length c0_29, .bool Jl, .int .i64 Jk]] w fun e w' => e = .returned (.bool r) ∧ Below w.heap.size w w' := by
 have hu32 := Try.underlying32
 have hu30 := Try.underlying30
 have HR0_12 := Zd.mk hr0_12
 have HC0_12 := Zd.mk hc0_12
 clear hr0_12 hc0_12
 have HR0_15 := Zd.mk hr0_15
 have HC0_15 := Zd.mk hc0_15
 clear hr0_15 hc0_15
 have HR0_26 := Zd.mk hr0_26
 have HC0_26 := Zd.mk hc0_26
 clear hr0_26 hc0_26
 have HR0_29 := Zd.mk hr0_29
 have HC0_29 := Zd.mk hc0_29
 clear hr0_29 hc0_29
 have HB := Zd.mk (Below.refl w.heap.size w)
 have H : ((Xf.f k Jg Jf Jd Jc Jb Ja J9 J8 J7 J6 J3 J5 J4 J2).bind fun t374 => ((Qo.f k Jg Jf Jd Jc Jb Ja J9 J8 J7 J6 J3 J5 J4 J2).bind fun bt375 => ((Xr.f k Jg Jf Jd Jc Jb Ja J9 J8 J7 J6 J3 J5 J4 J2).bind fun bt377 => ((Xv.f k).bind fun t381 => (if t381 = true then ((Zz.f k Jg Jf Jd Jc Jb Ja J9 J8 J7 J6 J3 J5 J4 J2).bind fun t382 => (if t382 = t374 then (if bt375.2 = t374 then (if bt377.2 = t374 then ((Xt.f k JE JD Jg Jf Jd Jc Jb Ja J9 J8 J7 J6 J3 J5 J4 J2 JC JB JA Jz Jx Jv Ju Jt Js Jr Jj Jq Jm Jh Jl Jk).bind fun t383 => ((Zr.f k JE JD Jg Jf Jd Jc Jb Ja J9 J8 J7 J6 J3 J5 J4 J2 JC JB JA Jz Jx Jv Ju Jt Js Jr Jj Jq Jm Jh Jl Jk).bind fun t384 => (Xb.j0 k t374 bt375.1 bt377.1 (t383 != t384) JE JD Jg Jf Jd Jc Jb Ja J9 J8 J7 J6 J3 J5 J4 J2 JC JB JA Jz Jx Jv Ju Jt Js Jr Jj Jq Jm Jh Jl Jk))) else (none)) else (none)) else (none))) else (none)))))) = some r := h
 clear h
 replace H := Option.bind_eq_some_iff.mp H
 obtain ⟨t374, A20, H⟩ := H
 replace H : ((Qo.f k Jg Jf Jd Jc Jb Ja J9 J8 J7 J6 J3 J5 J4 J2).bind fun bt375 => ((Xr.f k Jg Jf Jd Jc Jb Ja J9 J8 J7 J6 J3 J5 J4 J2).bind fun bt377 => ((Xv.f k).bind fun t381 => (if t381 = true then ((Zz.f k Jg Jf Jd Jc Jb Ja J9 J8 J7 J6 J3 J5 J4 J2).bind fun t382 => (if t382 = t374 then (if bt375.2 = t374 then (if bt377.2 = t374 then ((Xt.f k JE JD Jg Jf Jd Jc Jb Ja J9 J8 J7 J6 J3 J5 J4 J2 JC JB JA Jz Jx Jv Ju Jt Js Jr Jj Jq Jm Jh Jl Jk).bind fun t383 => ((Zr.f k JE JD Jg Jf Jd Jc Jb Ja J9 J8 J7 J6 J3 J5 J4 J2 JC JB JA Jz Jx Jv Ju Jt Js Jr Jj Jq Jm Jh Jl Jk).bind fun t384 => (Xb.j0 k t374 bt375.1 bt377.1 (t383 != t384) JE JD Jg Jf Jd Jc Jb Ja J9 J8 J7 J6 J3 J5 J4 J2 JC JB JA Jz Jx Jv Ju Jt Js Jr Jj Jq Jm Jh Jl Jk))) else (none)) else (none)) else (none))) else (none))))) = some r := H
 have A2 := Zd.mk A20
 clear A20
 replace H := Option.bind_eq_some_iff.mp H
 obtain ⟨⟨t375, t376⟩, A30, H⟩ := H
 replace H : ((Xr.f k Jg Jf Jd Jc Jb Ja J9 J8 J7 J6 J3 J5 J4 J2).bind fun bt377 => ((Xv.f k).bind fun t381 => (if t381 = true then ((Zz.f k Jg Jf Jd Jc Jb Ja J9 J8 J7 J6 J3 J5 J4 J2).bind fun t382 => (if t382 = t374 then (if t376 = t374 then (if bt377.2 = t374 then ((Xt.f k JE JD Jg Jf Jd Jc Jb Ja J9 J8 J7 J6 J3 J5 J4 J2 JC JB JA Jz Jx Jv Ju Jt Js Jr Jj Jq Jm Jh Jl Jk).bind fun t383 => ((Zr.f k JE JD Jg Jf Jd Jc Jb Ja J9 J8 J7 J6 J3 J5 J4 J2 JC JB JA Jz Jx Jv Ju Jt Js Jr Jj Jq Jm Jh Jl Jk).bind fun t384 => (Xb.j0 k t374 t375 bt377.1 (t383 != t384) JE JD Jg Jf Jd Jc Jb Ja J9 J8 J7 J6 J3 J5 J4 J2 JC JB JA Jz Jx Jv Ju Jt Js Jr Jj Jq Jm Jh Jl Jk))) else (none)) else (none)) else (none))) else (none)))) = some r := H
 have A3 := Zd.mk A30
 clear A30
 replace H := Option.bind_eq_some_iff.mp H
 obtain ⟨⟨t377, t380⟩, A40, H⟩ := H
 replace H : ((Xv.f k).bind fun t381 => (if t381 = true then ((Zz.f k Jg Jf Jd Jc Jb Ja J9 J8 J7 J6 J3 J5 J4 J2).bind fun t382 => (if t382 = t374 then (if t376 = t374 then (if t380 = t374 then ((Xt.f k JE JD Jg Jf Jd Jc Jb Ja J9 J8 J7 J6 J3 J5 J4 J2 JC JB JA Jz Jx Jv Ju Jt Js Jr Jj Jq Jm Jh Jl Jk).bind fun t383 => ((Zr.f k JE JD Jg Jf Jd Jc Jb Ja J9 J8 J7 J6 J3 J5 J4 J2 JC JB JA Jz Jx Jv Ju Jt Js Jr Jj Jq Jm Jh Jl Jk).bind fun t384 => (Xb.j0 k t374 t375 t377 (t383 != t384) JE JD Jg Jf Jd Jc Jb Ja J9 J8 J7 J6 J3 J5 J4 J2 JC JB JA Jz Jx Jv Ju Jt Js Jr Jj Jq Jm Jh Jl Jk))) else (none)) else (none)) else (none))) else (none))) = some r := H
 have A4 := Zd.mk A40
 clear A40
 have HC5 := Zd.mk H
 clear H
 go_enter Try.func3, Try.ntmps3
 go_upto_region 4 with (first | ((with_reducible refine Xd (N := 1) rfl ?_); (try (refine Qb (by rfl) ?_; dsimp only)); refine Xe ?hg (N := 1) ?hd (cs := #[.string JE, .int .i64 JD, .int .i64 Jg, .int .i64 Jf, .int .i64 Jd, .bool Jc, .int .i64 Jb, .int .u64 Ja, .int .u64 J9, .int .i64 J8, .bool J7, .int .i64 J6, .slice A0_12 J3.length c0_12, .int .i64 J5, .int .i64 J4, .slice A0_15 J2.length c0_15, .int .i64 JC, .int .i64 JB, .int .i64 JA, .bool Jz, .int .i64 Jx, .int .u64 Jv, .int .u64 Ju, .int .i64 Jt, .bool Js, .int .i64 Jr, .slice A0_26 Jj.length c0_26, .int .i64 Jq, .int .i64 Jm, .slice A0_29 Jh.length c0_29, .bool Jl, .int .i64 Jk]) (t := 32) ?hr ?_; (case hd => rfl); (case hg => rfl); (case hr => first | (go_simp; done) | (go_simp; rfl)); intro J1 hg w6 hbox hb; have n0_ := Zd.mk (Zj HB.out hb); have n1_ := Zd.mk (hbox); have n2_ := Zd.mk ((by rw [hg]; exact (Zl HB.out) : w.heap.size ≤ J1)); have n3_ := n2_; clear HB; have HB := n0_; have J0 := n1_; have GW373 := n2_; have GE373 := n3_; clear n0_ n1_ n2_ n3_; clear hb hbox hg; have hcz7_0 : w6.cell? ⟨J1, 0, none⟩ = some (.string JE) := (Za J0.out 0).trans rfl; have hcz7_1 : w6.cell? ⟨J1, 1, none⟩ = some (.int .i64 JD) := (Za J0.out 1).trans rfl; have hcz7_2 : w6.cell? ⟨J1, 2, none⟩ = some (.int .i64 Jg) := (Za J0.out 2).trans rfl; have hcz7_3 : w6.cell? ⟨J1, 3, none⟩ = some (.int .i64 Jf) := (Za J0.out 3).trans rfl; have hcz7_4 : w6.cell? ⟨J1, 4, none⟩ = some (.int .i64 Jd) := (Za J0.out 4).trans rfl; have hcz7_5 : w6.cell? ⟨J1, 5, none⟩ = some (.bool Jc) := (Za J0.out 5).trans rfl; have hcz7_6 : w6.cell? ⟨J1, 6, none⟩ = some (.int .i64 Jb) := (Za J0.out 6).trans rfl; have hcz7_7 : w6.cell? ⟨J1, 7, none⟩ = some (.int .u64 Ja) := (Za J0.out 7).trans rfl; have hcz7_8 : w6.cell? ⟨J1, 8, none⟩ = some (.int .u64 J9) := (Za J0.out 8).trans rfl; have hcz7_9 : w6.cell? ⟨J1, 9, none⟩ = some (.int .i64 J8) := (Za J0.out 9).trans rfl; have hcz7_10 : w6.cell? ⟨J1, 10, none⟩ = some (.bool J7) := (Za J0.out 10).trans rfl; have hcz7_11 : w6.cell? ⟨J1, 11, none⟩ = some (.int .i64 J6) := (Za J0.out 11).trans rfl; have hcz7_12 : w6.cell? ⟨J1, 12, none⟩ = some (.slice A0_12 J3.length c0_12) := (Za J0.out 12).trans rfl; have hcz7_13 : w6.cell? ⟨J1, 13, none⟩ = some (.int .i64 J5) := (Za J0.out 13).trans rfl; have hcz7_14 : w6.cell? ⟨J1, 14, none⟩ = some (.int .i64 J4) := (Za J0.out 14).trans rfl; have hcz7_15 : w6.cell? ⟨J1, 15, none⟩ = some (.slice A0_15 J2.length c0_15) := (Za J0.out 15).trans rfl; have hcz7_16 : w6.cell? ⟨J1, 16, none⟩ = some (.int .i64 JC) := (Za J0.out 16).trans rfl; have hcz7_17 : w6.cell? ⟨J1, 17, none⟩ = some (.int .i64 JB) := (Za J0.out 17).trans rfl; have hcz7_18 : w6.cell? ⟨J1, 18, none⟩ = some (.int .i64 JA) := (Za J0.out 18).trans rfl; have hcz7_19 : w6.cell? ⟨J1, 19, none⟩ = some (.bool Jz) := (Za J0.out 19).trans rfl; have hcz7_20 : w6.cell? ⟨J1, 20, none⟩ = some (.int .i64 Jx) := (Za J0.out 20).trans rfl; have hcz7_21 : w6.cell? ⟨J1, 21, none⟩ = some (.int .u64 Jv) := (Za J0.out 21).trans rfl; have hcz7_22 : w6.cell? ⟨J1, 22, none⟩ = some (.int .u64 Ju) := (Za J0.out 22).trans rfl; have hcz7_23 : w6.cell? ⟨J1, 23, none⟩ = some (.int .i64 Jt) := (Za J0.out 23).trans rfl; have hcz7_24 : w6.cell? ⟨J1, 24, none⟩ = some (.bool Js) := (Za J0.out 24).trans rfl; have hcz7_25 : w6.cell? ⟨J1, 25, none⟩ = some (.int .i64 Jr) := (Za J0.out 25).trans rfl; have hcz7_26 : w6.cell? ⟨J1, 26, none⟩ = some (.slice A0_26 Jj.length c0_26) := (Za J0.out 26).trans rfl; have hcz7_27 : w6.cell? ⟨J1, 27, none⟩ = some (.int .i64 Jq) := (Za J0.out 27).trans rfl; have hcz7_28 : w6.cell? ⟨J1, 28, none⟩ = some (.int .i64 Jm) := (Za J0.out 28).trans rfl; have hcz7_29 : w6.cell? ⟨J1, 29, none⟩ = some (.slice A0_29 Jh.length c0_29) := (Za J0.out 29).trans rfl; have hcz7_30 : w6.cell? ⟨J1, 30, none⟩ = some (.bool Jl) := (Za J0.out 30).trans rfl; have hcz7_31 : w6.cell? ⟨J1, 31, none⟩ = some (.int .i64 Jk) := (Za J0.out 31).trans rfl; have hfz7_0 := Zb J0.out 0; have hfz7_1 := Zb J0.out 1; have hfz7_2 := Zb J0.out 2; have hfz7_3 := Zb J0.out 3; have hfz7_4 := Zb J0.out 4; have hfz7_5 := Zb J0.out 5; have hfz7_6 := Zb J0.out 6; have hfz7_7 := Zb J0.out 7; have hfz7_8 := Zb J0.out 8; have hfz7_9 := Zb J0.out 9; have hfz7_10 := Zb J0.out 10; have hfz7_11 := Zb J0.out 11; have hfz7_12 := Zb J0.out 12; have hfz7_13 := Zb J0.out 13; have hfz7_14 := Zb J0.out 14; have hfz7_15 := Zb J0.out 15; have hfz7_16 := Zb J0.out 16; have hfz7_17 := Zb J0.out 17; have hfz7_18 := Zb J0.out 18; have hfz7_19 := Zb J0.out 19; have hfz7_20 := Zb J0.out 20; have hfz7_21 := Zb J0.out 21; have hfz7_22 := Zb J0.out 22; have hfz7_23 := Zb J0.out 23; have hfz7_24 := Zb J0.out 24; have hfz7_25 := Zb J0.out 25; have hfz7_26 := Zb J0.out 26; have hfz7_27 := Zb J0.out 27; have hfz7_28 := Zb J0.out 28; have hfz7_29 := Zb J0.out 29; have hfz7_30 := Zb J0.out 30; have hfz7_31 := Zb J0.out 31) | ((with_reducible refine Zx (f := 4) rfl ?_); refine Xz (some 10) rfl rfl Try.func4 (by kernel_rfl) rfl #[.agg #[.int .i64 Jg, .int .i64 Jf, .int .i64 Jd, .bool Jc, .int .i64 Jb, .int .u64 Ja, .int .u64 J9, .int .i64 J8, .bool J7, .int .i64 J6, .slice A0_12 J3.length c0_12, .int .i64 J5, .int .i64 J4, .slice A0_15 J2.length c0_15]] rfl (by (try simp only [List.map_toArray, List.map_cons, List.map_nil]); first | done | rfl | (simp only [List.length_drop, List.length_take]; rfl)) ?_; (with_reducible refine (Xf.calls k Jg Jf Jd Jc Jb Ja J9 J8 J7 J6 _ _ J3 J5 J4 _ _ J2 t374 _ ?side1 ?side2 ?side3 ?side4 A2.out).mono ?_); (case side1 => exact (Kd.Zw HR0_12.out HB.out)); (case side2 => exact HC0_12.out); (case side3 => exact (Kd.Zw HR0_15.out HB.out)); (case side4 => exact HC0_15.out); rintro e w8 ⟨rfl, hb⟩; refine ⟨_, rfl, ?_⟩; have n0_ := Zd.mk (Zp J0.out hb); have n1_ := Zd.mk (Zj HB.out hb); clear J0; clear HB; have J0 := n0_; have HB := n1_; clear n0_ n1_; (try clear hb); (try clear hb2); (try clear hk); (try clear hi); have hcz9_0 : w8.cell? ⟨J1, 0, none⟩ = some (.string JE) := (Za J0.out 0).trans rfl; have hcz9_1 : w8.cell? ⟨J1, 1, none⟩ = some (.int .i64 JD) := (Za J0.out 1).trans rfl; have hcz9_2 : w8.cell? ⟨J1, 2, none⟩ = some (.int .i64 Jg) := (Za J0.out 2).trans rfl; have hcz9_3 : w8.cell? ⟨J1, 3, none⟩ = some (.int .i64 Jf) := (Za J0.out 3).trans rfl; have hcz9_4 : w8.cell? ⟨J1, 4, none⟩ = some (.int .i64 Jd) := (Za J0.out 4).trans rfl; have hcz9_5 : w8.cell? ⟨J1, 5, none⟩ = some (.bool Jc) := (Za J0.out 5).trans rfl; have hcz9_6 : w8.cell? ⟨J1, 6, none⟩ = some (.int .i64 Jb) := (Za J0.out 6).trans rfl; have hcz9_7 : w8.cell? ⟨J1, 7, none⟩ = some (.int .u64 Ja) := (Za J0.out 7).trans rfl; have hcz9_8 : w8.cell? ⟨J1, 8, none⟩ = some (.int .u64 J9) := (Za J0.out 8).trans rfl; have hcz9_9 : w8.cell? ⟨J1, 9, none⟩ = some (.int .i64 J8) := (Za J0.out 9).trans rfl; have hcz9_10 : w8.cell? ⟨J1, 10, none⟩ = some (.bool J7) := (Za J0.out 10).trans rfl; have hcz9_11 : w8.cell? ⟨J1, 11, none⟩ = some (.int .i64 J6) := (Za J0.out 11).trans rfl; have hcz9_12 : w8.cell? ⟨J1, 12, none⟩ = some (.slice A0_12 J3.length c0_12) := (Za J0.out 12).trans rfl; have hcz9_13 : w8.cell? ⟨J1, 13, none⟩ = some (.int .i64 J5) := (Za J0.out 13).trans rfl; have hcz9_14 : w8.cell? ⟨J1, 14, none⟩ = some (.int .i64 J4) := (Za J0.out 14).trans rfl; have hcz9_15 : w8.cell? ⟨J1, 15, none⟩ = some (.slice A0_15 J2.length c0_15) := (Za J0.out 15).trans rfl; have hcz9_16 : w8.cell? ⟨J1, 16, none⟩ = some (.int .i64 JC) := (Za J0.out 16).trans rfl; have hcz9_17 : w8.cell? ⟨J1, 17, none⟩ = some (.int .i64 JB) := (Za J0.out 17).trans rfl; have hcz9_18 : w8.cell? ⟨J1, 18, none⟩ = some (.int .i64 JA) := (Za J0.out 18).trans rfl; have hcz9_19 : w8.cell? ⟨J1, 19, none⟩ = some (.bool Jz) := (Za J0.out 19).trans rfl; have hcz9_20 : w8.cell? ⟨J1, 20, none⟩ = some (.int .i64 Jx) := (Za J0.out 20).trans rfl; have hcz9_21 : w8.cell? ⟨J1, 21, none⟩ = some (.int .u64 Jv) := (Za J0.out 21).trans rfl; have hcz9_22 : w8.cell? ⟨J1, 22, none⟩ = some (.int .u64 Ju) := (Za J0.out 22).trans rfl; have hcz9_23 : w8.cell? ⟨J1, 23, none⟩ = some (.int .i64 Jt) := (Za J0.out 23).trans rfl; have hcz9_24 : w8.cell? ⟨J1, 24, none⟩ = some (.bool Js) := (Za J0.out 24).trans rfl; have hcz9_25 : w8.cell? ⟨J1, 25, none⟩ = some (.int .i64 Jr) := (Za J0.out 25).trans rfl; have hcz9_26 : w8.cell? ⟨J1, 26, none⟩ = some (.slice A0_26 Jj.length c0_26) := (Za J0.out 26).trans rfl; have hcz9_27 : w8.cell? ⟨J1, 27, none⟩ = some (.int .i64 Jq) := (Za J0.out 27).trans rfl; have hcz9_28 : w8.cell? ⟨J1, 28, none⟩ = some (.int .i64 Jm) := (Za J0.out 28).trans rfl; have hcz9_29 : w8.cell? ⟨J1, 29, none⟩ = some (.slice A0_29 Jh.length c0_29) := (Za J0.out 29).trans rfl; have hcz9_30 : w8.cell? ⟨J1, 30, none⟩ = some (.bool Jl) := (Za J0.out 30).trans rfl; have hcz9_31 : w8.cell? ⟨J1, 31, none⟩ = some (.int .i64 Jk) := (Za J0.out 31).trans rfl; have hfz9_0 := Zb J0.out 0; have hfz9_1 := Zb J0.out 1; have hfz9_2 := Zb J0.out 2; have hfz9_3 := Zb J0.out 3; have hfz9_4 := Zb J0.out 4; have hfz9_5 := Zb J0.out 5; have hfz9_6 := Zb J0.out 6; have hfz9_7 := Zb J0.out 7; have hfz9_8 := Zb J0.out 8; have hfz9_9 := Zb J0.out 9; have hfz9_10 := Zb J0.out 10; have hfz9_11 := Zb J0.out 11; have hfz9_12 := Zb J0.out 12; have hfz9_13 := Zb J0.out 13; have hfz9_14 := Zb J0.out 14; have hfz9_15 := Zb J0.out 15; have hfz9_16 := Zb J0.out 16; have hfz9_17 := Zb J0.out 17; have hfz9_18 := Zb J0.out 18; have hfz9_19 := Zb J0.out 19; have hfz9_20 := Zb J0.out 20; have hfz9_21 := Zb J0.out 21; have hfz9_22 := Zb J0.out 22; have hfz9_23 := Zb J0.out 23; have hfz9_24 := Zb J0.out 24; have hfz9_25 := Zb J0.out 25; have hfz9_26 := Zb J0.out 26; have hfz9_27 := Zb J0.out 27; have hfz9_28 := Zb J0.out 28; have hfz9_29 := Zb J0.out 29; have hfz9_30 := Zb J0.out 30; have hfz9_31 := Zb J0.out 31) | ((with_reducible refine Zx (f := 5) rfl ?_); refine Xz (some 14) rfl rfl Try.func5 (by kernel_rfl) rfl #[.agg #[.int .i64 Jg, .int .i64 Jf, .int .i64 Jd, .bool Jc, .int .i64 Jb, .int .u64 Ja, .int .u64 J9, .int .i64 J8, .bool J7, .int .i64 J6, .slice A0_12 J3.length c0_12, .int .i64 J5, .int .i64 J4, .slice A0_15 J2.length c0_15]] rfl (by (try simp only [List.map_toArray, List.map_cons, List.map_nil]); first | done | rfl | (simp only [List.length_drop, List.length_take]; rfl)) ?_; (with_reducible refine (Qo.calls k Jg Jf Jd Jc Jb Ja J9 J8 J7 J6 _ _ J3 J5 J4 _ _ J2 t375 t376 _ ?side1 ?side2 ?side3 ?side4 A3.out).mono ?_); (case side1 => exact (Kd.Zw HR0_12.out HB.out)); (case side2 => exact HC0_12.out); (case side3 => exact (Kd.Zw HR0_15.out HB.out)); (case side4 => exact HC0_15.out); rintro e w10 ⟨rfl, hb⟩; refine ⟨_, rfl, ?_⟩; have n0_ := Zd.mk (Zp J0.out hb); have n1_ := Zd.mk (Zj HB.out hb); clear J0; clear HB; have J0 := n0_; have HB := n1_; clear n0_ n1_; (try clear hb); (try clear hb2); (try clear hk); (try clear hi); have hcz11_0 : w10.cell? ⟨J1, 0, none⟩ = some (.string JE) := (Za J0.out 0).trans rfl; have hcz11_1 : w10.cell? ⟨J1, 1, none⟩ = some (.int .i64 JD) := (Za J0.out 1).trans rfl; have hcz11_2 : w10.cell? ⟨J1, 2, none⟩ = some (.int .i64 Jg) := (Za J0.out 2).trans rfl; have hcz11_3 : w10.cell? ⟨J1, 3, none⟩ = some (.int .i64 Jf) := (Za J0.out 3).trans rfl; have hcz11_4 : w10.cell? ⟨J1, 4, none⟩ = some (.int .i64 Jd) := (Za J0.out 4).trans rfl; have hcz11_5 : w10.cell? ⟨J1, 5, none⟩ = some (.bool Jc) := (Za J0.out 5).trans rfl; have hcz11_6 : w10.cell? ⟨J1, 6, none⟩ = some (.int .i64 Jb) := (Za J0.out 6).trans rfl; have hcz11_7 : w10.cell? ⟨J1, 7, none⟩ = some (.int .u64 Ja) := (Za J0.out 7).trans rfl; have hcz11_8 : w10.cell? ⟨J1, 8, none⟩ = some (.int .u64 J9) := (Za J0.out 8).trans rfl; have hcz11_9 : w10.cell? ⟨J1, 9, none⟩ = some (.int .i64 J8) := (Za J0.out 9).trans rfl; have hcz11_10 : w10.cell? ⟨J1, 10, none⟩ = some (.bool J7) := (Za J0.out 10).trans rfl; have hcz11_11 : w10.cell? ⟨J1, 11, none⟩ = some (.int .i64 J6) := (Za J0.out 11).trans rfl; have hcz11_12 : w10.cell? ⟨J1, 12, none⟩ = some (.slice A0_12 J3.length c0_12) := (Za J0.out 12).trans rfl; have hcz11_13 : w10.cell? ⟨J1, 13, none⟩ = some (.int .i64 J5) := (Za J0.out 13).trans rfl; have hcz11_14 : w10.cell? ⟨J1, 14, none⟩ = some (.int .i64 J4) := (Za J0.out 14).trans rfl; have hcz11_15 : w10.cell? ⟨J1, 15, none⟩ = some (.slice A0_15 J2.length c0_15) := (Za J0.out 15).trans rfl; have hcz11_16 : w10.cell? ⟨J1, 16, none⟩ = some (.int .i64 JC) := (Za J0.out 16).trans rfl; have hcz11_17 : w10.cell? ⟨J1, 17, none⟩ = some (.int .i64 JB) := (Za J0.out 17).trans rfl; have hcz11_18 : w10.cell? ⟨J1, 18, none⟩ = some (.int .i64 JA) := (Za J0.out 18).trans rfl; have hcz11_19 : w10.cell? ⟨J1, 19, none⟩ = some (.bool Jz) := (Za J0.out 19).trans rfl; have hcz11_20 : w10.cell? ⟨J1, 20, none⟩ = some (.int .i64 Jx) := (Za J0.out 20).trans rfl; have hcz11_21 : w10.cell? ⟨J1, 21, none⟩ = some (.int .u64 Jv) := (Za J0.out 21).trans rfl; have hcz11_22 : w10.cell? ⟨J1, 22, none⟩ = some (.int .u64 Ju) := (Za J0.out 22).trans rfl; have hcz11_23 : w10.cell? ⟨J1, 23, none⟩ = some (.int .i64 Jt) := (Za J0.out 23).trans rfl; have hcz11_24 : w10.cell? ⟨J1, 24, none⟩ = some (.bool Js) := (Za J0.out 24).trans rfl; have hcz11_25 : w10.cell? ⟨J1, 25, none⟩ = some (.int .i64 Jr) := (Za J0.out 25).trans rfl; have hcz11_26 : w10.cell? ⟨J1, 26, none⟩ = some (.slice A0_26 Jj.length c0_26) := (Za J0.out 26).trans rfl; have hcz11_27 : w10.cell? ⟨J1, 27, none⟩ = some (.int .i64 Jq) := (Za J0.out 27).trans rfl; have hcz11_28 : w10.cell? ⟨J1, 28, none⟩ = some (.int .i64 Jm) := (Za J0.out 28).trans rfl; have hcz11_29 : w10.cell? ⟨J1, 29, none⟩ = some (.slice A0_29 Jh.length c0_29) := (Za J0.out 29).trans rfl; have hcz11_30 : w10.cell? ⟨J1, 30, none⟩ = some (.bool Jl) := (Za J0.out 30).trans rfl; have hcz11_31 : w10.cell? ⟨J1, 31, none⟩ = some (.int .i64 Jk) := (Za J0.out 31).trans rfl; have hfz11_0 := Zb J0.out 0; have hfz11_1 := Zb J0.out 1; have hfz11_2 := Zb J0.out 2; have hfz11_3 := Zb J0.out 3; have hfz11_4 := Zb J0.out 4; have hfz11_5 := Zb J0.out 5; have hfz11_6 := Zb J0.out 6; have hfz11_7 := Zb J0.out 7; have hfz11_8 := Zb J0.out 8; have hfz11_9 := Zb J0.out 9; have hfz11_10 := Zb J0.out 10; have hfz11_11 := Zb J0.out 11; have hfz11_12 := Zb J0.out 12; have hfz11_13 := Zb J0.out 13; have hfz11_14 := Zb J0.out 14; have hfz11_15 := Zb J0.out 15; have hfz11_16 := Zb J0.out 16; have hfz11_17 := Zb J0.out 17; have hfz11_18 := Zb J0.out 18; have hfz11_19 := Zb J0.out 19; have hfz11_20 := Zb J0.out 20; have hfz11_21 := Zb J0.out 21; have hfz11_22 := Zb J0.out 22; have hfz11_23 := Zb J0.out 23; have hfz11_24 := Zb J0.out 24; have hfz11_25 := Zb J0.out 25; have hfz11_26 := Zb J0.out 26; have hfz11_27 := Zb J0.out 27; have hfz11_28 := Zb J0.out 28; have hfz11_29 := Zb J0.out 29; have hfz11_30 := Zb J0.out 30; have hfz11_31 := Zb J0.out 31) | ((with_reducible refine Zx (f := 6) rfl ?_); refine Xz (some 20) rfl rfl Try.func6 (by kernel_rfl) rfl #[.agg #[.int .i64 Jg, .int .i64 Jf, .int .i64 Jd, .bool Jc, .int .i64 Jb, .int .u64 Ja, .int .u64 J9, .int .i64 J8, .bool J7, .int .i64 J6, .slice A0_12 J3.length c0_12, .int .i64 J5, .int .i64 J4, .slice A0_15 J2.length c0_15]] rfl (by (try simp only [List.map_toArray, List.map_cons, List.map_nil]); first | done | rfl | (simp only [List.length_drop, List.length_take]; rfl)) ?_; (with_reducible refine (Xr.calls k Jg Jf Jd Jc Jb Ja J9 J8 J7 J6 (fun k_ => k_ < w.heap.size) _ _ J3 J5 J4 (fun k_ => k_ < w.heap.size) _ _ J2 t377 t380 _ ?side1 ?side2 A4.out).mono ?_); (case side1 => exact Kd.Wj HC0_12.out (Kd.Vj (Kd.C_F Jp HR0_12.out) HB.out)); (case side2 => exact Kd.Wj HC0_15.out (Kd.Vj (Kd.C_F Jy HR0_15.out) HB.out)); rintro e w12 ⟨v378, rfl, ho0, hb⟩; refine ⟨_, rfl, ?_⟩; have n0_ := Zd.mk (Kd.Vb (Kd.Xq (ok' := fun k_ => k_ ≠ J1) ho0 (fun k_ hk_ => Or.elim hk_ (fun hs_ => Or.elim hs_ (fun hs_ => fun e_ => Nat.not_le.2 hs_ (by rw [e_]; exact GW373.out)) (fun hs_ => fun e_ => Nat.not_le.2 hs_ (by rw [e_]; exact GW373.out))) (fun hn_ => (Kd.Kw J0.out k_ hn_)))) (Zl HB.out)); have n1_ := Zd.mk (Zp J0.out hb); have n2_ := Zd.mk (Zj HB.out hb); clear J0; clear HB; have HO379 := n0_; have J0 := n1_; have HB := n2_; clear n0_ n1_ n2_; (try clear hb); (try clear hb2); (try clear hk); (try clear hi); (try clear ho0)))
 (try simp only [Act.put, List.setIfInBounds_toArray, List.set_cons_zero, List.set_cons_succ])
 go_cut [48] (fun v48 wc => ∃ (kq : Nat) (JF : Bool), v48 = .bool JF ∧ Zd (Xb.j0 kq t374 t375 t377 JF JE JD Jg Jf Jd Jc Jb Ja J9 J8 J7 J6 J3 J5 J4 J2 JC JB JA Jz Jx Jv Ju Jt Js Jr Jj Jq Jm Jh Jl Jk = some r) ∧ Zd (kq ≤ k) ∧ Zd (Kd.N k27 27 wc w.heap.size (fun k_ => k_ ≠ J1) v378 t377) ∧ Zd (wc.heap[J1]? = some (.cells #[.string JE, .int .i64 JD, .int .i64 Jg, .int .i64 Jf, .int .i64 Jd, .bool Jc, .int .i64 Jb, .int .u64 Ja, .int .u64 J9, .int .i64 J8, .bool J7, .int .i64 J6, (.slice A0_12 J3.length c0_12), .int .i64 J5, .int .i64 J4, (.slice A0_15 J2.length c0_15), .int .i64 JC, .int .i64 JB, .int .i64 JA, .bool Jz, .int .i64 Jx, .int .u64 Jv, .int .u64 Ju, .int .i64 Jt, .bool Js, .int .i64 Jr, (.slice A0_26 Jj.length c0_26), .int .i64 Jq, .int .i64 Jm, (.slice A0_29 Jh.length c0_29), .bool Jl, .int .i64 Jk] 32 (0, 0))) ∧ Zd (Below w.heap.size w wc))
 case first =>
  have H := HC5.out
  clear HC5
  replace H := Option.bind_eq_some_iff.mp H
  obtain ⟨t381, A130, H⟩ := H
  replace H : (if t381 = true then ((Zz.f k Jg Jf Jd Jc Jb Ja J9 J8 J7 J6 J3 J5 J4 J2).bind fun t382 => (if t382 = t374 then (if t376 = t374 then (if t380 = t374 then ((Xt.f k JE JD Jg Jf Jd Jc Jb Ja J9 J8 J7 J6 J3 J5 J4 J2 JC JB JA Jz Jx Jv Ju Jt Js Jr Jj Jq Jm Jh Jl Jk).bind fun t383 => ((Zr.f k JE JD Jg Jf Jd Jc Jb Ja J9 J8 J7 J6 J3 J5 J4 J2 JC JB JA Jz Jx Jv Ju Jt Js Jr Jj Jq Jm Jh Jl Jk).bind fun t384 => (Xb.j0 k t374 t375 t377 (t383 != t384) JE JD Jg Jf Jd Jc Jb Ja J9 J8 J7 J6 J3 J5 J4 J2 JC JB JA Jz Jx Jv Ju Jt Js Jr Jj Jq Jm Jh Jl Jk))) else (none)) else (none)) else (none))) else (none)) = some r := H
  have A13 := Zd.mk A130
  clear A130
  by_cases c14 : t381 = true
  ·subst c14
   have H1 : ((Zz.f k Jg Jf Jd Jc Jb Ja J9 J8 J7 J6 J3 J5 J4 J2).bind fun t382 => (if t382 = t374 then (if t376 = t374 then (if t380 = t374 then ((Xt.f k JE JD Jg Jf Jd Jc Jb Ja J9 J8 J7 J6 J3 J5 J4 J2 JC JB JA Jz Jx Jv Ju Jt Js Jr Jj Jq Jm Jh Jl Jk).bind fun t383 => ((Zr.f k JE JD Jg Jf Jd Jc Jb Ja J9 J8 J7 J6 J3 J5 J4 J2 JC JB JA Jz Jx Jv Ju Jt Js Jr Jj Jq Jm Jh Jl Jk).bind fun t384 => (Xb.j0 k t374 t375 t377 (t383 != t384) JE JD Jg Jf Jd Jc Jb Ja J9 J8 J7 J6 J3 J5 J4 J2 JC JB JA Jz Jx Jv Ju Jt Js Jr Jj Jq Jm Jh Jl Jk))) else (none)) else (none)) else (none))) = some r := by rw [if_pos rfl] at H; exact H
   clear H
   have H := H1
   clear H1
   replace H := Option.bind_eq_some_iff.mp H
   obtain ⟨t382, A150, H⟩ := H
   replace H : (if t382 = t374 then (if t376 = t374 then (if t380 = t374 then ((Xt.f k JE JD Jg Jf Jd Jc Jb Ja J9 J8 J7 J6 J3 J5 J4 J2 JC JB JA Jz Jx Jv Ju Jt Js Jr Jj Jq Jm Jh Jl Jk).bind fun t383 => ((Zr.f k JE JD Jg Jf Jd Jc Jb Ja J9 J8 J7 J6 J3 J5 J4 J2 JC JB JA Jz Jx Jv Ju Jt Js Jr Jj Jq Jm Jh Jl Jk).bind fun t384 => (Xb.j0 k t374 t375 t377 (t383 != t384) JE JD Jg Jf Jd Jc Jb Ja J9 J8 J7 J6 J3 J5 J4 J2 JC JB JA Jz Jx Jv Ju Jt Js Jr Jj Jq Jm Jh Jl Jk))) else (none)) else (none)) else (none)) = some r := H
   have A15 := Zd.mk A150
   clear A150
   by_cases c16 : t382 = t374
   ·rw [if_pos c16] at H
    have c16b0 : (t382 == t374) = true := beq_iff_eq.mpr c16
    have c16b1 : (t382 != t374) = false := bne_eq_false_iff_eq.mpr c16
    clear c16
    (first | rw [c16b0] | (simp only [Xk]; rw [c16b0]) | skip)
    by_cases c17 : t376 = t374
    ·rw [if_pos c17] at H
     have c17b0 : (t376 == t374) = true := beq_iff_eq.mpr c17
     have c17b1 : (t376 != t374) = false := bne_eq_false_iff_eq.mpr c17
     clear c17
     by_cases c18 : t380 = t374
     ·rw [if_pos c18] at H
      have c18b0 : (t380 == t374) = true := beq_iff_eq.mpr c18
      have c18b1 : (t380 != t374) = false := bne_eq_false_iff_eq.mpr c18
      clear c18
      replace H := Option.bind_eq_some_iff.mp H
      obtain ⟨t383, A190, H⟩ := H
      replace H : ((Zr.f k JE JD Jg Jf Jd Jc Jb Ja J9 J8 J7 J6 J3 J5 J4 J2 JC JB JA Jz Jx Jv Ju Jt Js Jr Jj Jq Jm Jh Jl Jk).bind fun t384 => (Xb.j0 k t374 t375 t377 (t383 != t384) JE JD Jg Jf Jd Jc Jb Ja J9 J8 J7 J6 J3 J5 J4 J2 JC JB JA Jz Jx Jv Ju Jt Js Jr Jj Jq Jm Jh Jl Jk)) = some r := H
      have A19 := Zd.mk A190
      clear A190
      replace H := Option.bind_eq_some_iff.mp H
      obtain ⟨t384, A200, H⟩ := H
      replace H : (Xb.j0 k t374 t375 t377 (t383 != t384) JE JD Jg Jf Jd Jc Jb Ja J9 J8 J7 J6 J3 J5 J4 J2 JC JB JA Jz Jx Jv Ju Jt Js Jr Jj Jq Jm Jh Jl Jk) = some r := H
      have A20 := Zd.mk A200
      clear A200
      have H' := Zd.mk H
      clear H
      try go_wp2
      have n0_ := Zd.mk (Kd.Vg HO379.out)
      have n1_ := Zd.mk (Zg J0.out)
      have n2_ := Zd.mk (Xj HB.out)
      clear HO379
      clear J0
      clear HB
      have HO379 := n0_
      have J0 := n1_
      have HB := n2_
      clear n0_ n1_ n2_
      refine start_ (n := 26) (S := fun w' => w'.cell? ⟨J1, 0, none⟩ = some (.string JE) ∧ w'.cell? ⟨J1, 1, none⟩ = some (.int .i64 JD) ∧ w'.cell? ⟨J1, 2, none⟩ = some (.int .i64 Jg) ∧ w'.cell? ⟨J1, 3, none⟩ = some (.int .i64 Jf) ∧ w'.cell? ⟨J1, 4, none⟩ = some (.int .i64 Jd) ∧ w'.cell? ⟨J1, 5, none⟩ = some (.bool Jc) ∧ w'.cell? ⟨J1, 6, none⟩ = some (.int .i64 Jb) ∧ w'.cell? ⟨J1, 7, none⟩ = some (.int .u64 Ja) ∧ w'.cell? ⟨J1, 8, none⟩ = some (.int .u64 J9) ∧ w'.cell? ⟨J1, 9, none⟩ = some (.int .i64 J8) ∧ w'.cell? ⟨J1, 10, none⟩ = some (.bool J7) ∧ w'.cell? ⟨J1, 11, none⟩ = some (.int .i64 J6) ∧ w'.cell? ⟨J1, 12, none⟩ = some (.slice A0_12 J3.length c0_12) ∧ w'.cell? ⟨J1, 13, none⟩ = some (.int .i64 J5) ∧ w'.cell? ⟨J1, 14, none⟩ = some (.int .i64 J4) ∧ w'.cell? ⟨J1, 15, none⟩ = some (.slice A0_15 J2.length c0_15) ∧ w'.cell? ⟨J1, 16, none⟩ = some (.int .i64 JC) ∧ w'.cell? ⟨J1, 17, none⟩ = some (.int .i64 JB) ∧ w'.cell? ⟨J1, 18, none⟩ = some (.int .i64 JA) ∧ w'.cell? ⟨J1, 19, none⟩ = some (.bool Jz) ∧ w'.cell? ⟨J1, 20, none⟩ = some (.int .i64 Jx) ∧ w'.cell? ⟨J1, 21, none⟩ = some (.int .u64 Jv) ∧ w'.cell? ⟨J1, 22, none⟩ = some (.int .u64 Ju) ∧ w'.cell? ⟨J1, 23, none⟩ = some (.int .i64 Jt) ∧ w'.cell? ⟨J1, 24, none⟩ = some (.bool Js) ∧ w'.cell? ⟨J1, 25, none⟩ = some (.int .i64 Jr) ∧ w'.cell? ⟨J1, 26, none⟩ = some (.slice A0_26 Jj.length c0_26) ∧ w'.cell? ⟨J1, 27, none⟩ = some (.int .i64 Jq) ∧ w'.cell? ⟨J1, 28, none⟩ = some (.int .i64 Jm) ∧ w'.cell? ⟨J1, 29, none⟩ = some (.slice A0_29 Jh.length c0_29) ∧ w'.cell? ⟨J1, 30, none⟩ = some (.bool Jl) ∧ w'.cell? ⟨J1, 31, none⟩ = some (.int .i64 Jk)) (ds := []) #[false, false, false, false, false, false, false, false, false, false, false, false, false, false, false, false, false, false, false, false, false, false, false, false, false, false] (by kernel_rfl) rfl rfl ⟨(Za J0.out 0).trans rfl, (Za J0.out 1).trans rfl, (Za J0.out 2).trans rfl, (Za J0.out 3).trans rfl, (Za J0.out 4).trans rfl, (Za J0.out 5).trans rfl, (Za J0.out 6).trans rfl, (Za J0.out 7).trans rfl, (Za J0.out 8).trans rfl, (Za J0.out 9).trans rfl, (Za J0.out 10).trans rfl, (Za J0.out 11).trans rfl, (Za J0.out 12).trans rfl, (Za J0.out 13).trans rfl, (Za J0.out 14).trans rfl, (Za J0.out 15).trans rfl, (Za J0.out 16).trans rfl, (Za J0.out 17).trans rfl, (Za J0.out 18).trans rfl, (Za J0.out 19).trans rfl, (Za J0.out 20).trans rfl, (Za J0.out 21).trans rfl, (Za J0.out 22).trans rfl, (Za J0.out 23).trans rfl, (Za J0.out 24).trans rfl, (Za J0.out 25).trans rfl, (Za J0.out 26).trans rfl, (Za J0.out 27).trans rfl, (Za J0.out 28).trans rfl, (Za J0.out 29).trans rfl, (Za J0.out 30).trans rfl, (Za J0.out 31).trans rfl⟩ (fun hHeld => ?_); refine Ji Xb.tab4 Xb.bits4 (fun HT_ HW_ => ?_)
      generalize w12.drew = w21 at HO379 J0 HB hHeld ⊢
      refine one_ (i := 0) (N := some 23) #[true, false, false, false, false, false, false, false, false, false, false, false, false, false, false, false, false, false, false, false, false, false, false, false, false, false] rfl rfl (Vt HT_.out (by kernel_rfl)) (by decide) (fun K hK => ?_)
      refine Wp Try.func7 (by kernel_rfl) rfl #[] (by rfl) rfl rfl (by (try simp only [List.map_toArray, List.map_cons, List.map_nil]); first | done | rfl | (simp only [List.length_drop, List.length_take]; rfl)) ?_
      with_reducible refine (Xv.calls k  true _ A13.out).mono ?_
      rintro e w22 ⟨rfl, hb⟩
      refine ⟨_, rfl, ?_⟩
      have n0_ := Zd.mk (Kd.Kr HO379.out hb)
      have n1_ := Zd.mk (Zp J0.out hb)
      have n2_ := Zd.mk (Zj HB.out hb)
      clear HO379
      clear J0
      clear HB
      have HO379 := n0_
      have J0 := n1_
      have HB := n2_
      clear n0_ n1_ n2_
      (try clear hb)
      (try clear hb2)
      (try clear hk)
      (try clear hi)
      refine hK.out _ _ ⟨(Za J0.out 0).trans rfl, (Za J0.out 1).trans rfl, (Za J0.out 2).trans rfl, (Za J0.out 3).trans rfl, (Za J0.out 4).trans rfl, (Za J0.out 5).trans rfl, (Za J0.out 6).trans rfl, (Za J0.out 7).trans rfl, (Za J0.out 8).trans rfl, (Za J0.out 9).trans rfl, (Za J0.out 10).trans rfl, (Za J0.out 11).trans rfl, (Za J0.out 12).trans rfl, (Za J0.out 13).trans rfl, (Za J0.out 14).trans rfl, (Za J0.out 15).trans rfl, (Za J0.out 16).trans rfl, (Za J0.out 17).trans rfl, (Za J0.out 18).trans rfl, (Za J0.out 19).trans rfl, (Za J0.out 20).trans rfl, (Za J0.out 21).trans rfl, (Za J0.out 22).trans rfl, (Za J0.out 23).trans rfl, (Za J0.out 24).trans rfl, (Za J0.out 25).trans rfl, (Za J0.out 26).trans rfl, (Za J0.out 27).trans rfl, (Za J0.out 28).trans rfl, (Za J0.out 29).trans rfl, (Za J0.out 30).trans rfl, (Za J0.out 31).trans rfl⟩ (fun hHeld => ?_)
      clear hK K
      refine Jw (a' := ?_) ?_ ?_
      rotate_left
      ·show Act.put _ (some 23) _ = _
       simp only [Act.put, List.setIfInBounds_toArray, List.set_cons_zero, List.set_cons_succ, Xk]
       rfl
      refine Qe (i := 1) (N := some 24) (v := ?_) (a' := ?_) #[true, true, false, false, false, false, false, false, false, false, false, false, false, false, false, false, false, false, false, false, false, false, false, false, false, false] rfl rfl (Xu HT_.out (by kernel_rfl)) (fun _ _ _ h => h) (Or.inl ⟨by rfl, ?_⟩) ?_ ?_
      rotate_left
      ·intro w'
       go_simp
       with_reducible rfl
      rotate_left
      ·simp only [Act.put, List.setIfInBounds_toArray, List.set_cons_zero, List.set_cons_succ, Xk]
       rfl
      refine Qe (i := 2) (N := some 25) (v := ?_) (a' := ?_) #[true, true, true, false, false, false, false, false, false, false, false, false, false, false, false, false, false, false, false, false, false, false, false, false, false, false] rfl rfl (Xu HT_.out (by kernel_rfl)) (fun _ _ _ h => h) (Or.inl ⟨by rfl, ?_⟩) ?_ ?_
      rotate_left
      ·intro w'
       go_simp
       with_reducible rfl
      rotate_left
      ·simp only [Act.put, List.setIfInBounds_toArray, List.set_cons_zero, List.set_cons_succ, Xk]
       rfl
      refine Qe (i := 3) (N := some 26) (v := ?_) (a' := ?_) #[true, true, true, true, false, false, false, false, false, false, false, false, false, false, false, false, false, false, false, false, false, false, false, false, false, false] rfl rfl (Xu HT_.out (by kernel_rfl)) (fun _ _ _ h => h) (Or.inl ⟨by rfl, ?_⟩) ?_ ?_
      rotate_left
      ·intro w'
       go_simp
       with_reducible rfl
      rotate_left
      ·simp only [Act.put, List.setIfInBounds_toArray, List.set_cons_zero, List.set_cons_succ, Xk]
       rfl
      refine Qe (i := 6) (N := some 29) (v := ?_) (a' := ?_) #[true, true, true, true, false, false, true, false, false, false, false, false, false, false, false, false, false, false, false, false, false, false, false, false, false, false] rfl rfl (Xu HT_.out (by kernel_rfl)) (fun _ _ _ h => h) (Or.inl ⟨by rfl, ?_⟩) ?_ ?_
      rotate_left
      ·intro w'
       go_simp
       with_reducible rfl
      rotate_left
      ·simp only [Act.put, List.setIfInBounds_toArray, List.set_cons_zero, List.set_cons_succ, Xk]
       rfl
      refine Vx (i := 4) (N := some 27) (v := ?_) (a' := ?_) #[true, true, true, true, true, false, true, false, false, false, false, false, false, false, false, false, false, false, false, false, false, false, false, false, false, false] rfl rfl (Ql HT_.out HW_.out (by kernel_rfl)) (fun _ _ _ h => h) (Or.inl ⟨by rfl, ?_⟩) hHeld ?_ ?_
      rotate_left
      ·rintro w' ⟨s0, s1, s2, s3, s4, s5, s6, s7, s8, s9, s10, s11, s12, s13, s14, s15, s16, s17, s18, s19, s20, s21, s22, s23, s24, s25, s26, s27, s28, s29, s30, s31⟩
       go_simp
       with_reducible rfl
      rotate_left
      ·simp only [Act.put, List.setIfInBounds_toArray, List.set_cons_zero, List.set_cons_succ, Xk]
       rfl
      refine one_ (i := 5) (N := some 28) #[true, true, true, true, true, true, true, false, false, false, false, false, false, false, false, false, false, false, false, false, false, false, false, false, false, false] rfl rfl (Vt HT_.out (by kernel_rfl)) (by decide) (fun K hK => ?_)
      refine Wp Try.func8 (by kernel_rfl) rfl #[.agg #[.int .i64 Jg, .int .i64 Jf, .int .i64 Jd, .bool Jc, .int .i64 Jb, .int .u64 Ja, .int .u64 J9, .int .i64 J8, .bool J7, .int .i64 J6, .slice A0_12 J3.length c0_12, .int .i64 J5, .int .i64 J4, .slice A0_15 J2.length c0_15]] (by rfl) rfl rfl (by (try simp only [List.map_toArray, List.map_cons, List.map_nil]); first | done | rfl | (simp only [List.length_drop, List.length_take]; rfl)) ?_
      with_reducible refine (Zz.calls k Jg Jf Jd Jc Jb Ja J9 J8 J7 J6 _ _ J3 J5 J4 _ _ J2 t382 _ ?side1 ?side2 ?side3 ?side4 A15.out).mono ?_
      (case side1 => exact (Kd.Zw HR0_12.out HB.out))
      (case side2 => exact HC0_12.out)
      (case side3 => exact (Kd.Zw HR0_15.out HB.out))
      (case side4 => exact HC0_15.out)
      rintro e w23 ⟨rfl, hb⟩
      refine ⟨_, rfl, ?_⟩
      have n0_ := Zd.mk (Kd.Kr HO379.out hb)
      have n1_ := Zd.mk (Zp J0.out hb)
      have n2_ := Zd.mk (Zj HB.out hb)
      clear HO379
      clear J0
      clear HB
      have HO379 := n0_
      have J0 := n1_
      have HB := n2_
      clear n0_ n1_ n2_
      (try clear hb)
      (try clear hb2)
      (try clear hk)
      (try clear hi)
      refine hK.out _ _ ⟨(Za J0.out 0).trans rfl, (Za J0.out 1).trans rfl, (Za J0.out 2).trans rfl, (Za J0.out 3).trans rfl, (Za J0.out 4).trans rfl, (Za J0.out 5).trans rfl, (Za J0.out 6).trans rfl, (Za J0.out 7).trans rfl, (Za J0.out 8).trans rfl, (Za J0.out 9).trans rfl, (Za J0.out 10).trans rfl, (Za J0.out 11).trans rfl, (Za J0.out 12).trans rfl, (Za J0.out 13).trans rfl, (Za J0.out 14).trans rfl, (Za J0.out 15).trans rfl, (Za J0.out 16).trans rfl, (Za J0.out 17).trans rfl, (Za J0.out 18).trans rfl, (Za J0.out 19).trans rfl, (Za J0.out 20).trans rfl, (Za J0.out 21).trans rfl, (Za J0.out 22).trans rfl, (Za J0.out 23).trans rfl, (Za J0.out 24).trans rfl, (Za J0.out 25).trans rfl, (Za J0.out 26).trans rfl, (Za J0.out 27).trans rfl, (Za J0.out 28).trans rfl, (Za J0.out 29).trans rfl, (Za J0.out 30).trans rfl, (Za J0.out 31).trans rfl⟩ (fun hHeld => ?_)
      clear hK K
      refine Jw (a' := ?_) ?_ ?_
      rotate_left
      ·show Act.put _ (some 28) _ = _
       simp only [Act.put, List.setIfInBounds_toArray, List.set_cons_zero, List.set_cons_succ, Xk]
       rfl
      refine Qe (i := 7) (N := some 30) (v := ?_) (a' := ?_) #[true, true, true, true, true, true, true, true, false, false, false, false, false, false, false, false, false, false, false, false, false, false, false, false, false, false] rfl rfl (Xu HT_.out (by kernel_rfl)) (fun _ _ _ h => h) (Or.inl ⟨by rfl, ?_⟩) ?_ ?_
      rotate_left
      ·intro w'
       go_simp
       with_reducible rfl
      rotate_left
      ·simp only [Act.put, List.setIfInBounds_toArray, List.set_cons_zero, List.set_cons_succ, Xk]
       rfl
      refine Qe (i := 8) (N := some 31) (v := ?_) (a' := ?_) #[true, true, true, true, true, true, true, true, true, false, false, false, false, false, false, false, false, false, false, false, false, false, false, false, false, false] rfl rfl (Xu HT_.out (by kernel_rfl)) (fun _ _ _ h => h) (Or.inl ⟨by rfl, ?_⟩) ?_ ?_
      rotate_left
      ·intro w'
       go_simp
       with_reducible rfl
      rotate_left
      ·simp only [Act.put, List.setIfInBounds_toArray, List.set_cons_zero, List.set_cons_succ, Xk]
       rfl
      refine Qe (i := 9) (N := some 32) (v := ?_) (a' := ?_) #[true, true, true, true, true, true, true, true, true, true, false, false, false, false, false, false, false, false, false, false, false, false, false, false, false, false] rfl rfl (Xu HT_.out (by kernel_rfl)) (fun _ _ _ h => h) (Or.inl ⟨by rfl, ?_⟩) ?_ ?_
      rotate_left
      ·intro w'
       go_simp
       with_reducible rfl
      rotate_left
      ·simp only [Act.put, List.setIfInBounds_toArray, List.set_cons_zero, List.set_cons_succ, Xk]
       rfl
      refine Qe (i := 10) (N := some 33) (v := ?_) (a' := ?_) #[true, true, true, true, true, true, true, true, true, true, true, false, false, false, false, false, false, false, false, false, false, false, false, false, false, false] rfl rfl (Xu HT_.out (by kernel_rfl)) (fun _ _ _ h => h) (Or.inl ⟨by rfl, ?_⟩) ?_ ?_
      rotate_left
      ·intro w'
       go_simp
       with_reducible rfl
      rotate_left
      ·simp only [Act.put, List.setIfInBounds_toArray, List.set_cons_zero, List.set_cons_succ, Xk]
       rfl
      refine Qe (i := 11) (N := some 34) (v := ?_) (a' := ?_) #[true, true, true, true, true, true, true, true, true, true, true, true, false, false, false, false, false, false, false, false, false, false, false, false, false, false] rfl rfl (Xu HT_.out (by kernel_rfl)) (fun _ _ _ h => h) (Or.inl ⟨by rfl, ?_⟩) ?_ ?_
      rotate_left
      ·intro w'
       go_simp
       with_reducible rfl
      rotate_left
      ·simp only [Act.put, List.setIfInBounds_toArray, List.set_cons_zero, List.set_cons_succ, Xk]
       rfl
      refine Qe (i := 12) (N := some 35) (v := ?_) (a' := ?_) #[true, true, true, true, true, true, true, true, true, true, true, true, true, false, false, false, false, false, false, false, false, false, false, false, false, false] rfl rfl (Xu HT_.out (by kernel_rfl)) (fun _ _ _ h => h) (Or.inl ⟨by rfl, ?_⟩) ?_ ?_
      rotate_left
      ·intro w'
       go_simp
       with_reducible rfl
      rotate_left
      ·simp only [Act.put, List.setIfInBounds_toArray, List.set_cons_zero, List.set_cons_succ, Xk]
       rfl
      refine Qe (i := 13) (N := some 36) (v := ?_) (a' := ?_) #[true, true, true, true, true, true, true, true, true, true, true, true, true, true, false, false, false, false, false, false, false, false, false, false, false, false] rfl rfl (Xu HT_.out (by kernel_rfl)) (fun _ _ _ h => h) (Or.inl ⟨by rfl, ?_⟩) ?_ ?_
      rotate_left
      ·intro w'
       go_simp
       with_reducible rfl
      rotate_left
      ·simp only [Act.put, List.setIfInBounds_toArray, List.set_cons_zero, List.set_cons_succ, Xk]
       rfl
      refine Qe (i := 14) (N := some 37) (v := ?_) (a' := ?_) #[true, true, true, true, true, true, true, true, true, true, true, true, true, true, true, false, false, false, false, false, false, false, false, false, false, false] rfl rfl (Xu HT_.out (by kernel_rfl)) (fun _ _ _ h => h) (Or.inl ⟨by rfl, ?_⟩) ?_ ?_
      rotate_left
      ·intro w'
       go_simp
       with_reducible rfl
      rotate_left
      ·simp only [Act.put, List.setIfInBounds_toArray, List.set_cons_zero, List.set_cons_succ, Xk]
       rfl
      refine Qe (i := 15) (N := some 38) (v := ?_) (a' := ?_) #[true, true, true, true, true, true, true, true, true, true, true, true, true, true, true, true, false, false, false, false, false, false, false, false, false, false] rfl rfl (Xu HT_.out (by kernel_rfl)) (fun _ _ _ h => h) (Or.inl ⟨by rfl, ?_⟩) ?_ ?_
      rotate_left
      ·intro w'
       go_simp
       with_reducible rfl
      rotate_left
      ·simp only [Act.put, List.setIfInBounds_toArray, List.set_cons_zero, List.set_cons_succ, Xk]
       rfl
      refine Qe (i := 16) (N := some 39) (v := ?_) (a' := ?_) #[true, true, true, true, true, true, true, true, true, true, true, true, true, true, true, true, true, false, false, false, false, false, false, false, false, false] rfl rfl (Xu HT_.out (by kernel_rfl)) (fun _ _ _ h => h) (Or.inl ⟨by rfl, ?_⟩) ?_ ?_
      rotate_left
      ·intro w'
       go_simp
       with_reducible rfl
      rotate_left
      ·simp only [Act.put, List.setIfInBounds_toArray, List.set_cons_zero, List.set_cons_succ, Xk]
       rfl
      refine Qe (i := 17) (N := some 40) (v := ?_) (a' := ?_) #[true, true, true, true, true, true, true, true, true, true, true, true, true, true, true, true, true, true, false, false, false, false, false, false, false, false] rfl rfl (Xu HT_.out (by kernel_rfl)) (fun _ _ _ h => h) (Or.inl ⟨by rfl, ?_⟩) ?_ ?_
      rotate_left
      ·intro w'
       go_simp
       with_reducible rfl
      rotate_left
      ·simp only [Act.put, List.setIfInBounds_toArray, List.set_cons_zero, List.set_cons_succ, Xk]
       rfl
      refine Qe (i := 18) (N := some 41) (v := ?_) (a' := ?_) #[true, true, true, true, true, true, true, true, true, true, true, true, true, true, true, true, true, true, true, false, false, false, false, false, false, false] rfl rfl (Xu HT_.out (by kernel_rfl)) (fun _ _ _ h => h) (Or.inl ⟨by rfl, ?_⟩) ?_ ?_
      rotate_left
      ·intro w'
       go_simp
       with_reducible rfl
      rotate_left
      ·simp only [Act.put, List.setIfInBounds_toArray, List.set_cons_zero, List.set_cons_succ, Xk]
       rfl
      refine Qe (i := 19) (N := some 42) (v := ?_) (a' := ?_) #[true, true, true, true, true, true, true, true, true, true, true, true, true, true, true, true, true, true, true, true, false, false, false, false, false, false] rfl rfl (Xu HT_.out (by kernel_rfl)) (fun _ _ _ h => h) (Or.inl ⟨by rfl, ?_⟩) ?_ ?_
      rotate_left
      ·intro w'
       go_simp
       with_reducible rfl
      rotate_left
      ·simp only [Act.put, List.setIfInBounds_toArray, List.set_cons_zero, List.set_cons_succ, Xk]
       rfl
      refine Vx (i := 20) (N := some 43) (v := ?_) (a' := ?_) #[true, true, true, true, true, true, true, true, true, true, true, true, true, true, true, true, true, true, true, true, true, false, false, false, false, false] rfl rfl (Ql HT_.out HW_.out (by kernel_rfl)) (fun _ _ _ h => h) (Or.inl ⟨by rfl, ?_⟩) hHeld ?_ ?_
      rotate_left
      ·rintro w' ⟨s0, s1, s2, s3, s4, s5, s6, s7, s8, s9, s10, s11, s12, s13, s14, s15, s16, s17, s18, s19, s20, s21, s22, s23, s24, s25, s26, s27, s28, s29, s30, s31⟩
       refine exec_load_cells 32 (.tmp 1) ?_ J1 0 ?_ [.string JE, .int .i64 JD, .int .i64 Jg, .int .i64 Jf, .int .i64 Jd, .bool Jc, .int .i64 Jb, .int .u64 Ja, .int .u64 J9, .int .i64 J8, .bool J7, .int .i64 J6, .slice A0_12 J3.length c0_12, .int .i64 J5, .int .i64 J4, .slice A0_15 J2.length c0_15, .int .i64 JC, .int .i64 JB, .int .i64 JA, .bool Jz, .int .i64 Jx, .int .u64 Jv, .int .u64 Ju, .int .i64 Jt, .bool Js, .int .i64 Jr, .slice A0_26 Jj.length c0_26, .int .i64 Jq, .int .i64 Jm, .slice A0_29 Jh.length c0_29, .bool Jl, .int .i64 Jk] _ Try.underlying32 rfl (by kernel_rfl) ?_
       ·rfl
       ·rfl
       ·exact ⟨s0, s1, s2, s3, s4, s5, s6, s7, s8, s9, s10, s11, s12, s13, s14, s15, s16, s17, s18, s19, s20, s21, s22, s23, s24, s25, s26, s27, s28, s29, s30, s31, trivial⟩
      rotate_left
      ·simp only [Act.put, List.setIfInBounds_toArray, List.set_cons_zero, List.set_cons_succ, Xk]
       rfl
      refine Vx (i := 22) (N := some 45) (v := ?_) (a' := ?_) #[true, true, true, true, true, true, true, true, true, true, true, true, true, true, true, true, true, true, true, true, true, false, true, false, false, false] rfl rfl (Ql HT_.out HW_.out (by kernel_rfl)) (fun _ _ _ h => h) (Or.inl ⟨by rfl, ?_⟩) hHeld ?_ ?_
      rotate_left
      ·rintro w' ⟨s0, s1, s2, s3, s4, s5, s6, s7, s8, s9, s10, s11, s12, s13, s14, s15, s16, s17, s18, s19, s20, s21, s22, s23, s24, s25, s26, s27, s28, s29, s30, s31⟩
       refine exec_load_cells 32 (.tmp 1) ?_ J1 0 ?_ [.string JE, .int .i64 JD, .int .i64 Jg, .int .i64 Jf, .int .i64 Jd, .bool Jc, .int .i64 Jb, .int .u64 Ja, .int .u64 J9, .int .i64 J8, .bool J7, .int .i64 J6, .slice A0_12 J3.length c0_12, .int .i64 J5, .int .i64 J4, .slice A0_15 J2.length c0_15, .int .i64 JC, .int .i64 JB, .int .i64 JA, .bool Jz, .int .i64 Jx, .int .u64 Jv, .int .u64 Ju, .int .i64 Jt, .bool Js, .int .i64 Jr, .slice A0_26 Jj.length c0_26, .int .i64 Jq, .int .i64 Jm, .slice A0_29 Jh.length c0_29, .bool Jl, .int .i64 Jk] _ Try.underlying32 rfl (by kernel_rfl) ?_
       ·rfl
       ·rfl
       ·exact ⟨s0, s1, s2, s3, s4, s5, s6, s7, s8, s9, s10, s11, s12, s13, s14, s15, s16, s17, s18, s19, s20, s21, s22, s23, s24, s25, s26, s27, s28, s29, s30, s31, trivial⟩
      rotate_left
      ·simp only [Act.put, List.setIfInBounds_toArray, List.set_cons_zero, List.set_cons_succ, Xk]
       rfl
      refine one_ (i := 21) (N := some 44) #[true, true, true, true, true, true, true, true, true, true, true, true, true, true, true, true, true, true, true, true, true, true, true, false, false, false] rfl rfl (Vt HT_.out (by kernel_rfl)) (by decide) (fun K hK => ?_)
      refine Wp Try.func9 (by kernel_rfl) rfl #[.agg #[.string JE, .int .i64 JD, .int .i64 Jg, .int .i64 Jf, .int .i64 Jd, .bool Jc, .int .i64 Jb, .int .u64 Ja, .int .u64 J9, .int .i64 J8, .bool J7, .int .i64 J6, .slice A0_12 J3.length c0_12, .int .i64 J5, .int .i64 J4, .slice A0_15 J2.length c0_15, .int .i64 JC, .int .i64 JB, .int .i64 JA, .bool Jz, .int .i64 Jx, .int .u64 Jv, .int .u64 Ju, .int .i64 Jt, .bool Js, .int .i64 Jr, .slice A0_26 Jj.length c0_26, .int .i64 Jq, .int .i64 Jm, .slice A0_29 Jh.length c0_29, .bool Jl, .int .i64 Jk]] (by rfl) rfl rfl (by (try simp only [List.map_toArray, List.map_cons, List.map_nil]); first | done | rfl | (simp only [List.length_drop, List.length_take]; rfl)) ?_
      with_reducible refine (Xt.calls k JE JD Jg Jf Jd Jc Jb Ja J9 J8 J7 J6 _ _ J3 J5 J4 _ _ J2 JC JB JA Jz Jx Jv Ju Jt Js Jr _ _ Jj Jq Jm _ _ Jh Jl Jk t383 _ ?side1 ?side2 ?side3 ?side4 ?side5 ?side6 ?side7 ?side8 A19.out).mono ?_
      (case side1 => exact (Kd.Zw HR0_12.out HB.out))
      (case side2 => exact HC0_12.out)
      (case side3 => exact (Kd.Zw HR0_15.out HB.out))
      (case side4 => exact HC0_15.out)
      (case side5 => exact (Kd.Zw HR0_26.out HB.out))
      (case side6 => exact HC0_26.out)
      (case side7 => exact (Kd.Zw HR0_29.out HB.out))
      (case side8 => exact HC0_29.out)
      rintro e w24 ⟨rfl, hb⟩
      refine ⟨_, rfl, ?_⟩
      have n0_ := Zd.mk (Kd.Kr HO379.out hb)
      have n1_ := Zd.mk (Zp J0.out hb)
      have n2_ := Zd.mk (Zj HB.out hb)
      clear HO379
      clear J0
      clear HB
      have HO379 := n0_
      have J0 := n1_
      have HB := n2_
      clear n0_ n1_ n2_
      (try clear hb)
      (try clear hb2)
      (try clear hk)
      (try clear hi)
      refine hK.out _ _ ⟨(Za J0.out 0).trans rfl, (Za J0.out 1).trans rfl, (Za J0.out 2).trans rfl, (Za J0.out 3).trans rfl, (Za J0.out 4).trans rfl, (Za J0.out 5).trans rfl, (Za J0.out 6).trans rfl, (Za J0.out 7).trans rfl, (Za J0.out 8).trans rfl, (Za J0.out 9).trans rfl, (Za J0.out 10).trans rfl, (Za J0.out 11).trans rfl, (Za J0.out 12).trans rfl, (Za J0.out 13).trans rfl, (Za J0.out 14).trans rfl, (Za J0.out 15).trans rfl, (Za J0.out 16).trans rfl, (Za J0.out 17).trans rfl, (Za J0.out 18).trans rfl, (Za J0.out 19).trans rfl, (Za J0.out 20).trans rfl, (Za J0.out 21).trans rfl, (Za J0.out 22).trans rfl, (Za J0.out 23).trans rfl, (Za J0.out 24).trans rfl, (Za J0.out 25).trans rfl, (Za J0.out 26).trans rfl, (Za J0.out 27).trans rfl, (Za J0.out 28).trans rfl, (Za J0.out 29).trans rfl, (Za J0.out 30).trans rfl, (Za J0.out 31).trans rfl⟩ (fun hHeld => ?_)
      clear hK K
      refine Jw (a' := ?_) ?_ ?_
      rotate_left
      ·show Act.put _ (some 44) _ = _
       simp only [Act.put, List.setIfInBounds_toArray, List.set_cons_zero, List.set_cons_succ, Xk]
       rfl
      refine one_ (i := 23) (N := some 46) #[true, true, true, true, true, true, true, true, true, true, true, true, true, true, true, true, true, true, true, true, true, true, true, true, false, false] rfl rfl (Vt HT_.out (by kernel_rfl)) (by decide) (fun K hK => ?_)
      refine Wp Try.func10 (by kernel_rfl) rfl #[.agg #[.string JE, .int .i64 JD, .int .i64 Jg, .int .i64 Jf, .int .i64 Jd, .bool Jc, .int .i64 Jb, .int .u64 Ja, .int .u64 J9, .int .i64 J8, .bool J7, .int .i64 J6, .slice A0_12 J3.length c0_12, .int .i64 J5, .int .i64 J4, .slice A0_15 J2.length c0_15, .int .i64 JC, .int .i64 JB, .int .i64 JA, .bool Jz, .int .i64 Jx, .int .u64 Jv, .int .u64 Ju, .int .i64 Jt, .bool Js, .int .i64 Jr, .slice A0_26 Jj.length c0_26, .int .i64 Jq, .int .i64 Jm, .slice A0_29 Jh.length c0_29, .bool Jl, .int .i64 Jk]] (by rfl) rfl rfl (by (try simp only [List.map_toArray, List.map_cons, List.map_nil]); first | done | rfl | (simp only [List.length_drop, List.length_take]; rfl)) ?_
      with_reducible refine (Zr.calls k JE JD Jg Jf Jd Jc Jb Ja J9 J8 J7 J6 (fun k_ => k_ < w.heap.size) _ _ J3 J5 J4 (fun k_ => k_ < w.heap.size) _ _ J2 JC JB JA Jz Jx Jv Ju Jt Js Jr (fun k_ => k_ < w.heap.size) _ _ Jj Jq Jm (fun k_ => k_ < w.heap.size) _ _ Jh Jl Jk t384 _ ?side1 ?side2 ?side3 ?side4 A20.out).mono ?_
      (case side1 => exact Kd.Wj HC0_12.out (Kd.Vj (Kd.C_F Jp HR0_12.out) HB.out))
      (case side2 => exact Kd.Wj HC0_15.out (Kd.Vj (Kd.C_F Jy HR0_15.out) HB.out))
      (case side3 => exact Kd.Wj HC0_26.out (Kd.Vj (Kd.C_F Jp HR0_26.out) HB.out))
      (case side4 => exact Kd.Wj HC0_29.out (Kd.Vj (Kd.C_F Jy HR0_29.out) HB.out))
      rintro e w25 ⟨rfl, hb⟩
      refine ⟨_, rfl, ?_⟩
      have n0_ := Zd.mk (Kd.Kr HO379.out hb)
      have n1_ := Zd.mk (Zp J0.out hb)
      have n2_ := Zd.mk (Zj HB.out hb)
      clear HO379
      clear J0
      clear HB
      have HO379 := n0_
      have J0 := n1_
      have HB := n2_
      clear n0_ n1_ n2_
      (try clear hb)
      (try clear hb2)
      (try clear hk)
      (try clear hi)
      refine hK.out _ _ ⟨(Za J0.out 0).trans rfl, (Za J0.out 1).trans rfl, (Za J0.out 2).trans rfl, (Za J0.out 3).trans rfl, (Za J0.out 4).trans rfl, (Za J0.out 5).trans rfl, (Za J0.out 6).trans rfl, (Za J0.out 7).trans rfl, (Za J0.out 8).trans rfl, (Za J0.out 9).trans rfl, (Za J0.out 10).trans rfl, (Za J0.out 11).trans rfl, (Za J0.out 12).trans rfl, (Za J0.out 13).trans rfl, (Za J0.out 14).trans rfl, (Za J0.out 15).trans rfl, (Za J0.out 16).trans rfl, (Za J0.out 17).trans rfl, (Za J0.out 18).trans rfl, (Za J0.out 19).trans rfl, (Za J0.out 20).trans rfl, (Za J0.out 21).trans rfl, (Za J0.out 22).trans rfl, (Za J0.out 23).trans rfl, (Za J0.out 24).trans rfl, (Za J0.out 25).trans rfl, (Za J0.out 26).trans rfl, (Za J0.out 27).trans rfl, (Za J0.out 28).trans rfl, (Za J0.out 29).trans rfl, (Za J0.out 30).trans rfl, (Za J0.out 31).trans rfl⟩ (fun hHeld => ?_)
      clear hK K
      refine Jw (a' := ?_) ?_ ?_
      rotate_left
      ·show Act.put _ (some 46) _ = _
       simp only [Act.put, List.setIfInBounds_toArray, List.set_cons_zero, List.set_cons_succ, Xk]
       rfl
      refine Qe (i := 24) (N := some 47) (v := ?_) (a' := ?_) #[true, true, true, true, true, true, true, true, true, true, true, true, true, true, true, true, true, true, true, true, true, true, true, true, true, false] rfl rfl (Xu HT_.out (by kernel_rfl)) (fun _ _ _ h => h) (Or.inl ⟨by rfl, ?_⟩) ?_ ?_
      rotate_left
      ·intro w'
       go_simp
       with_reducible rfl
      rotate_left
      ·simp only [Act.put, List.setIfInBounds_toArray, List.set_cons_zero, List.set_cons_succ, Xk]
       rfl
      refine Qe (i := 25) (N := some 48) (v := ?_) (a' := ?_) #[true, true, true, true, true, true, true, true, true, true, true, true, true, true, true, true, true, true, true, true, true, true, true, true, true, true] rfl rfl (Xu HT_.out (by kernel_rfl)) (fun _ _ _ h => h) (Or.inl ⟨by rfl, ?_⟩) ?_ ?_
      rotate_left
      ·intro w'
       go_simp
       with_reducible rfl
      rotate_left
      ·simp only [Act.put, List.setIfInBounds_toArray, List.set_cons_zero, List.set_cons_succ, Xk]
       rfl
      refine done_ (done_of HT_.out (by kernel_rfl)) ?_
      try go_wp2
      go_meet
      case rel => exact ⟨_, ((t383 != t384)), (by first | rfl | (simp; done) | (simp [*]; done)), H', ⟨by first | omega | exact Nat.le_refl _⟩, ⟨HO379.out⟩, ⟨J0.out⟩, ⟨HB.out⟩⟩
     ·rw [if_neg c18] at H
      exact absurd H (by simp)
    ·rw [if_neg c17] at H
     exact absurd H (by simp)
   ·rw [if_neg c16] at H
    exact absurd H (by simp)
  ·replace c14 := Bool.eq_false_iff.mpr c14
   subst c14
   have H1 : (none) = some r := by rw [if_neg (show ¬ (false = true) by decide)] at H; exact H
   exact absurd H1 (by simp)
 case rest =>
  clear HC5
  obtain ⟨kq, JF, rfl, HA, HJ4, HO_6, J0, HB⟩ := hcut
  cases kq with
  | zero => exact absurd HA.out (by simp [Xb.j0])
  | succ kj4 =>
   have H := HA.out
   clear HA
   simp only [Xb.j0] at H
   by_cases c37 : JF = true
   ·subst c37
    have H1 : (none) = some r := by rw [if_pos rfl] at H; exact H
    exact absurd H1 (by simp)
   ·replace c37 := Bool.eq_false_iff.mpr c37
    subst c37
    have H1 : (if t374 = 0 then ((Zn.f kj4 Jg Jf Jd Jc Jb Ja J9 J8 J7 J6 J3 J5 J4 J2).bind fun t385 => (if t375 = t385 then ((Zy.f kj4 Jg Jf Jd Jc Jb Ja J9 J8 J7 J6 J3 J5 J4 J2).bind fun t386 => ((Wq.f kj4 t377 t386 0).bind fun t389 => (some t389))) else (none))) else (if t375 = 0 then (some ((t377.length : Int) == 0)) else (none))) = some r := by rw [if_neg (show ¬ (false = true) by decide)] at H; exact H
    clear H
    have H := H1
    clear H1
    by_cases c38 : t374 = 0
    ·rw [if_pos c38] at H
     have c38b0 : (t374 == 0) = true := beq_iff_eq.mpr c38
     have c38b1 : (t374 != 0) = false := bne_eq_false_iff_eq.mpr c38
     clear c38
     replace H := Option.bind_eq_some_iff.mp H
     obtain ⟨t385, A390, H⟩ := H
     replace H : (if t375 = t385 then ((Zy.f kj4 Jg Jf Jd Jc Jb Ja J9 J8 J7 J6 J3 J5 J4 J2).bind fun t386 => ((Wq.f kj4 t377 t386 0).bind fun t389 => (some t389))) else (none)) = some r := H
     have A39 := Zd.mk A390
     clear A390
     by_cases c40 : t375 = t385
     ·rw [if_pos c40] at H
      have c40b0 : (t375 == t385) = true := beq_iff_eq.mpr c40
      have c40b1 : (t375 != t385) = false := bne_eq_false_iff_eq.mpr c40
      clear c40
      replace H := Option.bind_eq_some_iff.mp H
      obtain ⟨t386, A410, H⟩ := H
      replace H : ((Wq.f kj4 t377 t386 0).bind fun t389 => (some t389)) = some r := H
      have A41 := Zd.mk A410
      clear A410
      replace H := Option.bind_eq_some_iff.mp H
      obtain ⟨t389, A420, H⟩ := H
      replace H : (some t389) = some r := H
      have A42 := Zd.mk A420
      clear A420
      obtain rfl := Option.some.inj H
      obtain ⟨hcz43_0, hcz43_1, hcz43_2, hcz43_3, hcz43_4, hcz43_5, hcz43_6, hcz43_7, hcz43_8, hcz43_9, hcz43_10, hcz43_11, hcz43_12, hcz43_13, hcz43_14, hcz43_15, hcz43_16, hcz43_17, hcz43_18, hcz43_19, hcz43_20, hcz43_21, hcz43_22, hcz43_23, hcz43_24, hcz43_25, hcz43_26, hcz43_27, hcz43_28, hcz43_29, hcz43_30, hcz43_31⟩ := zc32 J0.out
      obtain ⟨hfz43_0, hfz43_1, hfz43_2, hfz43_3, hfz43_4, hfz43_5, hfz43_6, hfz43_7, hfz43_8, hfz43_9, hfz43_10, hfz43_11, hfz43_12, hfz43_13, hfz43_14, hfz43_15, hfz43_16, hfz43_17, hfz43_18, hfz43_19, hfz43_20, hfz43_21, hfz43_22, hfz43_23, hfz43_24, hfz43_25, hfz43_26, hfz43_27, hfz43_28, hfz43_29, hfz43_30, hfz43_31⟩ := zf32 J0.out
      go_wp2_with (first | ((with_reducible refine Zx (f := 11) rfl ?_); refine Xz (some 61) rfl rfl Try.func11 (by kernel_rfl) rfl #[.agg #[.int .i64 Jg, .int .i64 Jf, .int .i64 Jd, .bool Jc, .int .i64 Jb, .int .u64 Ja, .int .u64 J9, .int .i64 J8, .bool J7, .int .i64 J6, .slice A0_12 J3.length c0_12, .int .i64 J5, .int .i64 J4, .slice A0_15 J2.length c0_15]] rfl (by (try simp only [List.map_toArray, List.map_cons, List.map_nil]); first | done | rfl | (simp only [List.length_drop, List.length_take]; rfl)) ?_; (with_reducible refine (Zn.calls kj4 Jg Jf Jd Jc Jb Ja J9 J8 J7 J6 _ _ J3 J5 J4 _ _ J2 t385 _ ?side1 ?side2 ?side3 ?side4 A39.out).mono ?_); (case side1 => exact (Kd.Zw HR0_12.out HB.out)); (case side2 => exact HC0_12.out); (case side3 => exact (Kd.Zw HR0_15.out HB.out)); (case side4 => exact HC0_15.out); rintro e w44 ⟨rfl, hb⟩; refine ⟨_, rfl, ?_⟩; have n0_ := Zd.mk (Kd.Kr HO_6.out hb); have n1_ := Zd.mk (Zp J0.out hb); have n2_ := Zd.mk (Zj HB.out hb); clear HO_6; clear J0; clear HB; have HO_6 := n0_; have J0 := n1_; have HB := n2_; clear n0_ n1_ n2_; (try clear hb); (try clear hb2); (try clear hk); (try clear hi); have hcz45_0 : w44.cell? ⟨J1, 0, none⟩ = some (.string JE) := (Za J0.out 0).trans rfl; have hcz45_1 : w44.cell? ⟨J1, 1, none⟩ = some (.int .i64 JD) := (Za J0.out 1).trans rfl; have hcz45_2 : w44.cell? ⟨J1, 2, none⟩ = some (.int .i64 Jg) := (Za J0.out 2).trans rfl; have hcz45_3 : w44.cell? ⟨J1, 3, none⟩ = some (.int .i64 Jf) := (Za J0.out 3).trans rfl; have hcz45_4 : w44.cell? ⟨J1, 4, none⟩ = some (.int .i64 Jd) := (Za J0.out 4).trans rfl; have hcz45_5 : w44.cell? ⟨J1, 5, none⟩ = some (.bool Jc) := (Za J0.out 5).trans rfl; have hcz45_6 : w44.cell? ⟨J1, 6, none⟩ = some (.int .i64 Jb) := (Za J0.out 6).trans rfl; have hcz45_7 : w44.cell? ⟨J1, 7, none⟩ = some (.int .u64 Ja) := (Za J0.out 7).trans rfl; have hcz45_8 : w44.cell? ⟨J1, 8, none⟩ = some (.int .u64 J9) := (Za J0.out 8).trans rfl; have hcz45_9 : w44.cell? ⟨J1, 9, none⟩ = some (.int .i64 J8) := (Za J0.out 9).trans rfl; have hcz45_10 : w44.cell? ⟨J1, 10, none⟩ = some (.bool J7) := (Za J0.out 10).trans rfl; have hcz45_11 : w44.cell? ⟨J1, 11, none⟩ = some (.int .i64 J6) := (Za J0.out 11).trans rfl; have hcz45_12 : w44.cell? ⟨J1, 12, none⟩ = some (.slice A0_12 J3.length c0_12) := (Za J0.out 12).trans rfl; have hcz45_13 : w44.cell? ⟨J1, 13, none⟩ = some (.int .i64 J5) := (Za J0.out 13).trans rfl; have hcz45_14 : w44.cell? ⟨J1, 14, none⟩ = some (.int .i64 J4) := (Za J0.out 14).trans rfl; have hcz45_15 : w44.cell? ⟨J1, 15, none⟩ = some (.slice A0_15 J2.length c0_15) := (Za J0.out 15).trans rfl; have hcz45_16 : w44.cell? ⟨J1, 16, none⟩ = some (.int .i64 JC) := (Za J0.out 16).trans rfl; have hcz45_17 : w44.cell? ⟨J1, 17, none⟩ = some (.int .i64 JB) := (Za J0.out 17).trans rfl; have hcz45_18 : w44.cell? ⟨J1, 18, none⟩ = some (.int .i64 JA) := (Za J0.out 18).trans rfl; have hcz45_19 : w44.cell? ⟨J1, 19, none⟩ = some (.bool Jz) := (Za J0.out 19).trans rfl; have hcz45_20 : w44.cell? ⟨J1, 20, none⟩ = some (.int .i64 Jx) := (Za J0.out 20).trans rfl; have hcz45_21 : w44.cell? ⟨J1, 21, none⟩ = some (.int .u64 Jv) := (Za J0.out 21).trans rfl; have hcz45_22 : w44.cell? ⟨J1, 22, none⟩ = some (.int .u64 Ju) := (Za J0.out 22).trans rfl; have hcz45_23 : w44.cell? ⟨J1, 23, none⟩ = some (.int .i64 Jt) := (Za J0.out 23).trans rfl; have hcz45_24 : w44.cell? ⟨J1, 24, none⟩ = some (.bool Js) := (Za J0.out 24).trans rfl; have hcz45_25 : w44.cell? ⟨J1, 25, none⟩ = some (.int .i64 Jr) := (Za J0.out 25).trans rfl; have hcz45_26 : w44.cell? ⟨J1, 26, none⟩ = some (.slice A0_26 Jj.length c0_26) := (Za J0.out 26).trans rfl; have hcz45_27 : w44.cell? ⟨J1, 27, none⟩ = some (.int .i64 Jq) := (Za J0.out 27).trans rfl; have hcz45_28 : w44.cell? ⟨J1, 28, none⟩ = some (.int .i64 Jm) := (Za J0.out 28).trans rfl; have hcz45_29 : w44.cell? ⟨J1, 29, none⟩ = some (.slice A0_29 Jh.length c0_29) := (Za J0.out 29).trans rfl; have hcz45_30 : w44.cell? ⟨J1, 30, none⟩ = some (.bool Jl) := (Za J0.out 30).trans rfl; have hcz45_31 : w44.cell? ⟨J1, 31, none⟩ = some (.int .i64 Jk) := (Za J0.out 31).trans rfl; have hfz45_0 := Zb J0.out 0; have hfz45_1 := Zb J0.out 1; have hfz45_2 := Zb J0.out 2; have hfz45_3 := Zb J0.out 3; have hfz45_4 := Zb J0.out 4; have hfz45_5 := Zb J0.out 5; have hfz45_6 := Zb J0.out 6; have hfz45_7 := Zb J0.out 7; have hfz45_8 := Zb J0.out 8; have hfz45_9 := Zb J0.out 9; have hfz45_10 := Zb J0.out 10; have hfz45_11 := Zb J0.out 11; have hfz45_12 := Zb J0.out 12; have hfz45_13 := Zb J0.out 13; have hfz45_14 := Zb J0.out 14; have hfz45_15 := Zb J0.out 15; have hfz45_16 := Zb J0.out 16; have hfz45_17 := Zb J0.out 17; have hfz45_18 := Zb J0.out 18; have hfz45_19 := Zb J0.out 19; have hfz45_20 := Zb J0.out 20; have hfz45_21 := Zb J0.out 21; have hfz45_22 := Zb J0.out 22; have hfz45_23 := Zb J0.out 23; have hfz45_24 := Zb J0.out 24; have hfz45_25 := Zb J0.out 25; have hfz45_26 := Zb J0.out 26; have hfz45_27 := Zb J0.out 27; have hfz45_28 := Zb J0.out 28; have hfz45_29 := Zb J0.out 29; have hfz45_30 := Zb J0.out 30; have hfz45_31 := Zb J0.out 31) | (go_at_call 13; (with_reducible refine (Zy.calls kj4 Jg Jf Jd Jc Jb Ja J9 J8 J7 J6 (fun k_ => k_ < w.heap.size) _ _ J3 J5 J4 (fun k_ => k_ < w.heap.size) _ _ J2 t386 _ ?side1 ?side2 A41.out).mono ?_); (case side1 => exact Kd.Wj HC0_12.out (Kd.Vj (Kd.C_F Jp HR0_12.out) HB.out)); (case side2 => exact Kd.Wj HC0_15.out (Kd.Vj (Kd.C_F Jy HR0_15.out) HB.out)); rintro e w46 ⟨v387, rfl, ho0, hb⟩; have n0_ := Zd.mk (Kd.Qs HO_6.out (Kd.Qr ho0) hb); have n1_ := Zd.mk (Kd.Vb (Kd.Xq (ok' := fun k_ => some k_ ≠ (v378 : Value).ownBlock ∧ k_ ≠ J1) ho0 (fun k_ hk_ => ⟨Or.elim hk_ (fun hs_ => Or.elim hs_ (fun hs_ => fun e_ => Nat.not_le.2 hs_ (Kd.Qr HO_6.out k_ e_.symm)) (fun hs_ => fun e_ => Nat.not_le.2 hs_ (Kd.Qr HO_6.out k_ e_.symm))) (fun hn_ => (Kd.Vu (Kd.N_lt HO_6.out) k_ hn_)), Or.elim hk_ (fun hs_ => Or.elim hs_ (fun hs_ => fun e_ => Nat.not_le.2 hs_ (by rw [e_]; exact GW373.out)) (fun hs_ => fun e_ => Nat.not_le.2 hs_ (by rw [e_]; exact GW373.out))) (fun hn_ => (Kd.Kw J0.out k_ hn_))⟩)) (Zl HB.out)); have n2_ := Zd.mk (Zp J0.out hb); have n3_ := Zd.mk (Zj HB.out hb); clear HO_6; clear J0; clear HB; have HO_6 := n0_; have HO388 := n1_; have J0 := n2_; have HB := n3_; clear n0_ n1_ n2_ n3_; (try clear hb); (try clear hb2); (try clear hk); (try clear hi); (try clear ho0); obtain ⟨Ao47, co47, eo47⟩ := Kd.Va HO_6.out; subst eo47; obtain ⟨Ao48, co48, eo48⟩ := Kd.Va HO388.out; subst eo48) | (go_at_call 12; (with_reducible refine (Wq.calls kj4 _ _ t377 _ _ t386 0 t389 _ ?side1 ?side2 ?side3 ?side4 A42.out).mono ?_); (case side1 => repeat (first | exact (Kd.Qq HO_6.out).2.2 | (with_reducible refine Kd.C_alloc ?_ _) | (with_reducible refine Kd.C_drewN ?_ _) | (with_reducible refine Kd.C_drew ?_))); (case side2 => exact (Kd.Qq HO_6.out).2.1); (case side3 => repeat (first | exact (Kd.Qq HO388.out).2.2 | (with_reducible refine Kd.C_alloc ?_ _) | (with_reducible refine Kd.C_drewN ?_ _) | (with_reducible refine Kd.C_drew ?_))); (case side4 => exact (Kd.Qq HO388.out).2.1); rintro e w49 ⟨rfl, hb⟩; have n0_ := Zd.mk (Kd.Kr HO_6.out hb); have n1_ := Zd.mk (Kd.Kr HO388.out hb); have n2_ := Zd.mk (Zp J0.out hb); have n3_ := Zd.mk (Zj HB.out hb); clear HO_6; clear HO388; clear J0; clear HB; have HO_6 := n0_; have HO388 := n1_; have J0 := n2_; have HB := n3_; clear n0_ n1_ n2_ n3_; (try clear hb); (try clear hb2); (try clear hk); (try clear hi)))
      go_ret
      exact ⟨by first | rfl | (simp [errW_none, errW_some] <;> rfl) | (simp [*, errW_none, errW_some] <;> rfl), HB.out⟩
     ·rw [if_neg c40] at H
      exact absurd H (by simp)
    ·rw [if_neg c38] at H
     have c38b0 : (t374 == 0) = false := beq_eq_false_iff_ne.mpr c38
     have c38b1 : (t374 != 0) = true := bne_iff_ne.mpr c38
     by_cases c52 : t375 = 0
     ·rw [if_pos c52] at H
      have c52b0 : (t375 == 0) = true := beq_iff_eq.mpr c52
      have c52b1 : (t375 != 0) = false := bne_eq_false_iff_eq.mpr c52
      clear c52
      obtain rfl := Option.some.inj H
      obtain ⟨Ao53, co53, eo53⟩ := Kd.Va HO_6.out
      subst eo53
      go_wp2
      go_ret
      exact ⟨by first | rfl | (simp [errW_none, errW_some] <;> rfl) | (simp [*, errW_none, errW_some] <;> rfl), HB.out⟩
     ·rw [if_neg c52] at H
      exact absurd H (by simp)
end Go.Proofs.Ytkbkndfonccekaa.PF
namespace Go.Proofs.Ytkbkndfonccekaa
open Go.RowKit Go.Proofs.YtkbkndfonccekaaW.PrintWords Go.Proofs.Ytkbkndfonccekaa.PF
set_option maxRecDepth 100000
theorem Je (t : Vp) (K : Nat) (n dp l : Int) (hs : Vm (Zo.f (K + 1)) t 11 = some (n, dp, l)) :
    (Big n dp l → Vm (Xf.f (K + 1)) t = some 3) ∧ (¬ Big n dp l → ∀ v, Vm (Qj.f K) t = some v → (v ≠ 0 → Vm (Xf.f (K + 1)) t = some v) ∧ (v = 0 → ∀ w, Vm (Zn.f K) t = some w → Vm (Xf.f (K + 1)) t = some (if w > 64 then 3 else 0))) := by
  simp only [Vm] at hs ⊢
  have hj : ∀ x : Bool, x = true → Xf.j0 (K + 1) x t.f0 t.f1.f0 t.f1.f1 t.f1.f2 t.f1.f3.f0 t.f1.f3.f1 t.f1.f3.f2 t.f1.f4 t.f1.f5 t.f1.f6 t.f1.f7 t.f2 t.f3 t.f4 = some 3 := fun x hx => by
    rw [Xf.j0, if_pos hx]
  unfold Xf.f
  rw [hs, Option.bind_some]
  refine ⟨fun hb => ?_, fun hb v hv => ?_⟩
  · simp only
    by_cases h1 : n > 48
    · rw [if_pos h1]; exact hj _ rfl
    · by_cases h2 : dp > 10
      · rw [if_neg h1, if_pos h2]; exact hj _ rfl
      · rw [if_neg h1, if_neg h2]
        refine hj _ (decide_eq_true ?_)
        unfold Big at hb
        omega
  · have h1 : ¬ n > 48 := fun h => hb (.inl h)
    have h2 : ¬ dp > 10 := fun h => hb (.inr (.inl h))
    have h3 : ¬ l > 12 := fun h => hb (.inr (.inr h))
    simp only
    rw [if_neg h1, if_neg h2, decide_eq_false h3, Xf.j0, if_neg (by decide), hv, Option.bind_some]
    refine ⟨fun h0 => by rw [if_neg h0], fun h0 w hw => ?_⟩
    rw [if_pos h0, hw, Option.bind_some]
    split <;> rfl
theorem seq_Check_eval (t : Vp) (K : Nat) (n dp l : Int) (hs : Vm (Xh.f (K + 1)) t 1 = some (n, dp, l)) :
    (Big n dp l → Vm (Zz.f (K + 1)) t = some 3) ∧ (¬ Big n dp l → ∀ v, Vm (Qv.f K) t = some v → (v ≠ 0 → Vm (Zz.f (K + 1)) t = some v) ∧ (v = 0 → ∀ w, Vm (Zt.f K) t = some w → Vm (Zz.f (K + 1)) t = some (if w > 64 then 3 else 0))) := by
  simp only [Vm] at hs ⊢
  have hj : ∀ x : Bool, x = true → Zz.j0 (K + 1) x t.f0 t.f1.f0 t.f1.f1 t.f1.f2 t.f1.f3.f0 t.f1.f3.f1 t.f1.f3.f2 t.f1.f4 t.f1.f5 t.f1.f6 t.f1.f7 t.f2 t.f3 t.f4 = some 3 := fun x hx => by
    rw [Zz.j0, if_pos hx]
  unfold Zz.f
  rw [hs, Option.bind_some]
  refine ⟨fun hb => ?_, fun hb v hv => ?_⟩
  · simp only
    by_cases h1 : n > 48
    · rw [if_pos h1]; exact hj _ rfl
    · by_cases h2 : dp > 10
      · rw [if_neg h1, if_pos h2]; exact hj _ rfl
      · rw [if_neg h1, if_neg h2]
        refine hj _ (decide_eq_true ?_)
        unfold Big at hb
        omega
  · have h1 : ¬ n > 48 := fun h => hb (.inl h)
    have h2 : ¬ dp > 10 := fun h => hb (.inr (.inl h))
    have h3 : ¬ l > 12 := fun h => hb (.inr (.inr h))
    simp only
    rw [if_neg h1, if_neg h2, decide_eq_false h3, Zz.j0, if_neg (by decide), hv, Option.bind_some]
    refine ⟨fun h0 => by rw [if_neg h0], fun h0 w hw => ?_⟩
    rw [if_pos h0, hw, Option.bind_some]
    split <;> rfl
theorem formed_at (k : Nat) (t : Vp) : Vm (Qv.f k) t = Qx k t := by
  simp only [Vm]
  unfold Qv.f
  rw [eta30]
structure Fine (t : Vp) : Prop where
  sm : Sm 10 t
  ok : Qx 10 t = some 0
  few : (Qm 10 t).length ≤ 12
  span : Qu 10 t ≤ 64
theorem fault_ex (m : Nat) (t : Vp) (ht : TmOk m t) : ∃ K v l, (∀ k, K ≤ k → Vm (Xf.f k) t = some v ∧ Vm (Zz.f k) t = some v ∧ ∃ n dp, Vm (Zo.f k) t 11 = some (n, dp, l)) ∧ (v = 0 → Fine t ∧ l = (Qm 10 t).length) := by
  obtain ⟨k1, n, dp, l, h1, ok1⟩ := size_ex 10 t (Nat.le_refl _)
  obtain ⟨k2, n', dp', l', h2, ok2⟩ := rsize_ex 11 t (Nat.le_refl _)
  have e1 : (11 - ((10 : Nat) : Int)) = 1 := rfl
  have e2 : (10 - ((10 : Nat) : Int)) = 0 := rfl
  rw [e1] at h1
  rw [e2] at ok1
  have h2 : Vm (Zo.f k2) t 11 = some (n', dp', l') := h2
  obtain ⟨hbig, hsmall⟩ := big_iff t ok1 ok2
  have H1 : ∀ k, k1 ≤ k → Vm (Xh.f k) t 1 = some (n, dp, l) := fun k hk => upM (f := fun k => Vm (Xh.f k) t 1) (fun k => size_mono k t 1) h1 hk
  have H2 : ∀ k, k2 ≤ k → Vm (Zo.f k) t 11 = some (n', dp', l') := fun k hk => upM (f := fun k => Vm (Zo.f k) t 11) (fun k => rsize_mono k t 11) h2 hk
  by_cases hB : Big n dp l
  · refine ⟨k1 + k2 + 1, 3, l', fun k hk => ?_, fun h => by cases h⟩
    obtain ⟨j, rfl⟩ : ∃ j, k = j + 1 := ⟨k - 1, by omega⟩
    exact ⟨(Je t j _ _ _ (H2 _ (by omega))).1 (hbig.1 hB), (seq_Check_eval t j _ _ _ (H1 _ (by omega))).1 hB, _, _, H2 _ (by omega)⟩
  · obtain ⟨hsh, hnn, hl, hll⟩ := hsmall hB
    have hB' : ¬ Big n' dp' l' := fun h => hB (hbig.2 h)
    have hsm := sm_of 10 t hsh hnn
    obtain ⟨v, hf, k3, hk3⟩ := shape_ex 10 m t hsm ht
    have H3 : ∀ k, k3 ≤ k → Vm (Qj.f k) t = some v := fun k hk => upM (f := fun k => Vm (Qj.f k) t) (fun k => shape_mono k t) hk3 hk
    have H4 : ∀ k, 10 ≤ k → Vm (Qv.f k) t = some v := fun k hk => by rw [formed_at]; exact upM (f := fun k => Qx k t) (fun k => formedF_le k t) hf hk
    by_cases hv : v = 0
    · subst hv
      obtain ⟨k5, hk5⟩ := span_ex 10 t (Nat.le_refl _) hsm hf
      obtain ⟨k6, hk6⟩ := long_ex 10 t (Nat.le_refl _) hsm hf
      have hrel := Jo 10 t hf
      have H5 : ∀ k, k5 ≤ k → Vm (Zt.f k) t = some (Qu 10 t) := fun k hk => upM (f := fun k => Vm (Zt.f k) t) (fun k => Wn k t) hk5 hk
      have H6 : ∀ k, k6 ≤ k → Vm (Zn.f k) t = some (Vl 10 t) := fun k hk => upM (f := fun k => Vm (Zn.f k) t) (fun k => long_mono k t) hk6 hk
      refine ⟨k1 + k2 + k3 + k5 + k6 + 11, (if Qu 10 t > 64 then 3 else 0), l', fun k hk => ?_, fun h => ?_⟩
      · obtain ⟨j, rfl⟩ : ∃ j, k = j + 1 := ⟨k - 1, by omega⟩
        refine ⟨?_, ((seq_Check_eval t j _ _ _ (H1 _ (by omega))).2 hB 0 (H4 j (by omega))).2 rfl _ (H5 j (by omega)), _, _, H2 _ (by omega)⟩
        rw [((Je t j _ _ _ (H2 _ (by omega))).2 hB' 0 (H3 j (by omega))).2 rfl _ (H6 j (by omega))]
        obtain ⟨_, _, _, _, r5, r6⟩ := hrel
        by_cases hs : Qu 10 t > 64
        · rw [if_pos hs, if_pos (r6 hs)]
        · rw [if_neg hs, r5 (by omega), if_neg hs]
      · have hlen := leavesV_len 10 t hf
        have hs : ¬ Qu 10 t > 64 := fun hs => by rw [if_pos hs] at h; cases h
        have hl12 : ¬ 12 < l := fun hh => hB (.inr (.inr hh))
        exact ⟨⟨hsm, hf, by omega, by omega⟩, by omega⟩
    · refine ⟨k1 + k2 + k3 + 11, v, l', fun k hk => ?_, fun h => absurd h hv⟩
      obtain ⟨j, rfl⟩ : ∃ j, k = j + 1 := ⟨k - 1, by omega⟩
      exact ⟨((Je t j _ _ _ (H2 _ (by omega))).2 hB' v (H3 j (by omega))).1 hv, ((seq_Check_eval t j _ _ _ (H1 _ (by omega))).2 hB v (H4 j (by omega))).1 hv, _, _, H2 _ (by omega)⟩
theorem sequenced_true : Xv.f 60 = some true := by kernel_rfl
theorem sequenced_up : ∀ k, 60 ≤ k → Xv.f k = some true := fun _ hk => upM (f := Xv.f) Xv.mono sequenced_true hk
theorem leaves_from (t : Vp) (h : Fine t) : ∃ K, ∀ k, K ≤ k → Vm (Zv.f k) t = some (Qm 10 t) ∧ Vm (Zy.f k) t = some (Qm 10 t) ∧ Vm (Zt.f k) t = some (Qu 10 t) ∧ Vm (Zn.f k) t = some (Qu 10 t) := by
  have hf := h.few
  obtain ⟨k1, h1⟩ := leaves_ex 10 t h.sm (by omega)
  obtain ⟨k2, h2⟩ := found_ex 10 t h.sm (by omega)
  obtain ⟨k3, h3⟩ := span_ex 10 t (Nat.le_refl _) h.sm h.ok
  obtain ⟨k4, h4⟩ := long_ex 10 t (Nat.le_refl _) h.sm h.ok
  have hr := (Jo 10 t h.ok).2.2.2.2.1 h.span
  rw [hr] at h4
  refine ⟨k1 + k2 + k3 + k4, fun k hk => ⟨?_, ?_, ?_, ?_⟩⟩
  · exact upM (f := fun k => Vm (Zv.f k) t) (fun k => leaves_mono k t) h1 (by omega)
  · exact upM (f := fun k => Vm (Zy.f k) t) (fun k => found_mono k t) h2 (by omega)
  · exact upM (f := fun k => Vm (Zt.f k) t) (fun k => Wn k t) h3 (by omega)
  · exact upM (f := fun k => Vm (Zn.f k) t) (fun k => long_mono k t) h4 (by omega)
theorem Leaves_from (m : Nat) (t : Vp) (h : Fine t) (ht : TmOk m t) : ∃ K, ∀ k, K ≤ k → Xr.l0 k [] (Qm 10 t) (Qm 10 t).length 0 = some (Qm 10 t, 0) ∧ listB (sameB k) (Qm 10 t) (Qm 10 t) = true := by
  have hf := h.few
  have hok := leavesV_ok 10 m t ht
  obtain ⟨k1, h1⟩ := Leaves_loop (Qm 10 t) (by omega) (Qm 10 t) 0 rfl hok [] rfl
  obtain ⟨k2, h2⟩ := same_list (Qm 10 t) (fun e he => by
    obtain ⟨j, hj⟩ := hok e he
    exact same_ex j e hj)
  refine ⟨k1 + k2, fun k hk => ⟨?_, ?_⟩⟩
  · exact upM (f := fun k => Xr.l0 k [] (Qm 10 t) (Qm 10 t).length ((0 : Nat) : Int)) (fun k => (Xr.mono_l k) _ _ _ _) h1 (by omega)
  · obtain ⟨j, rfl⟩ := Nat.exists_eq_add_of_le (show k2 ≤ k by omega)
    exact listB_mono (fun a b hab => sameB_up hab j) h2
theorem rd_0 (a b : Vp) : Zc [a, b] 0 = a := rfl
theorem rd_1 (a b : Vp) : Zc [a, b] 1 = b := rfl
theorem prop_ex (s : ByteArray) (x : Int) (t1 t2 : Vp) (b : Bool) (y : Int) (m1 m2 : Nat) (h1 : TmOk m1 t1) (h2 : TmOk m2 t2) : ∃ K c, ∀ k, K ≤ k → Xt.f k s x t1.f0 t1.f1.f0 t1.f1.f1 t1.f1.f2 t1.f1.f3.f0 t1.f1.f3.f1 t1.f1.f3.f2 t1.f1.f4 t1.f1.f5 t1.f1.f6 t1.f1.f7 t1.f2 t1.f3 t1.f4 t2.f0 t2.f1.f0 t2.f1.f1 t2.f1.f2 t2.f1.f3.f0 t2.f1.f3.f1 t2.f1.f3.f2 t2.f1.f4 t2.f1.f5 t2.f1.f6 t2.f1.f7 t2.f2 t2.f3 t2.f4 b y = some c ∧ Zr.f k s x t1.f0 t1.f1.f0 t1.f1.f1 t1.f1.f2 t1.f1.f3.f0 t1.f1.f3.f1 t1.f1.f3.f2 t1.f1.f4 t1.f1.f5 t1.f1.f6 t1.f1.f7 t1.f2 t1.f3 t1.f4 t2.f0 t2.f1.f0 t2.f1.f1 t2.f1.f2 t2.f1.f3.f0 t2.f1.f3.f1 t2.f1.f3.f2 t2.f1.f4 t2.f1.f5 t2.f1.f6 t2.f1.f7 t2.f2 t2.f3 t2.f4 b y = some c := by
  obtain ⟨K1, v1, l1, A1, B1⟩ := fault_ex m1 t1 h1
  obtain ⟨K2, v2, l2, A2, B2⟩ := fault_ex m2 t2 h2
  have w0 : wrap64 (0 + 1) = 1 := by kernel_rfl
  have w1 : wrap64 (1 + 1) = 2 := by kernel_rfl
  have step : ∀ k, K1 ≤ k → Zr.f (k + 1) s x t1.f0 t1.f1.f0 t1.f1.f1 t1.f1.f2 t1.f1.f3.f0 t1.f1.f3.f1 t1.f1.f3.f2 t1.f1.f4 t1.f1.f5 t1.f1.f6 t1.f1.f7 t1.f2 t1.f3 t1.f4 t2.f0 t2.f1.f0 t2.f1.f1 t2.f1.f2 t2.f1.f3.f0 t2.f1.f3.f1 t2.f1.f3.f2 t2.f1.f4 t2.f1.f5 t2.f1.f6 t2.f1.f7 t2.f2 t2.f3 t2.f4 b y = if v1 = 0 then Zr.l0 k [t1, t2] 2 1 s x t1.f0 t1.f1.f0 t1.f1.f1 t1.f1.f2 t1.f1.f3.f0 t1.f1.f3.f1 t1.f1.f3.f2 t1.f1.f4 t1.f1.f5 t1.f1.f6 t1.f1.f7 t1.f2 t1.f3 t1.f4 t2.f0 t2.f1.f0 t2.f1.f1 t2.f1.f2 t2.f1.f3.f0 t2.f1.f3.f1 t2.f1.f3.f2 t2.f1.f4 t2.f1.f5 t2.f1.f6 t2.f1.f7 t2.f2 t2.f3 t2.f4 b y else some v1 := fun k hk => by
    unfold Zr.f
    rw [Option.bind_some, eta30, eta30]
    have ha := (A1 k hk).1
    simp only [Vm] at ha
    show Zr.l0 (k + 1) [t1, t2] 2 0 _ _ _ _ _ _ _ _ _ _ _ _ _ _ _ _ _ _ _ _ _ _ _ _ _ _ _ _ _ _ _ _ = _
    rw [Zr.l0, if_pos (by decide), if_pos (by decide), if_pos (by simp), rd_0, ha, Option.bind_some, w0]
  have step2 : ∀ k, K2 ≤ k → Zr.l0 (k + 1) [t1, t2] 2 1 s x t1.f0 t1.f1.f0 t1.f1.f1 t1.f1.f2 t1.f1.f3.f0 t1.f1.f3.f1 t1.f1.f3.f2 t1.f1.f4 t1.f1.f5 t1.f1.f6 t1.f1.f7 t1.f2 t1.f3 t1.f4 t2.f0 t2.f1.f0 t2.f1.f1 t2.f1.f2 t2.f1.f3.f0 t2.f1.f3.f1 t2.f1.f3.f2 t2.f1.f4 t2.f1.f5 t2.f1.f6 t2.f1.f7 t2.f2 t2.f3 t2.f4 b y = if v2 = 0 then Zr.l0 k [t1, t2] 2 2 s x t1.f0 t1.f1.f0 t1.f1.f1 t1.f1.f2 t1.f1.f3.f0 t1.f1.f3.f1 t1.f1.f3.f2 t1.f1.f4 t1.f1.f5 t1.f1.f6 t1.f1.f7 t1.f2 t1.f3 t1.f4 t2.f0 t2.f1.f0 t2.f1.f1 t2.f1.f2 t2.f1.f3.f0 t2.f1.f3.f1 t2.f1.f3.f2 t2.f1.f4 t2.f1.f5 t2.f1.f6 t2.f1.f7 t2.f2 t2.f3 t2.f4 b y else some v2 := fun k hk => by
    have ha := (A2 k hk).1
    simp only [Vm] at ha
    rw [Zr.l0, if_pos (by decide), if_pos (by decide), if_pos (by simp), rd_1, ha, Option.bind_some, w1]
  have step3 : ∀ k, K1 ≤ k → K2 ≤ k → Zr.l0 (k + 1) [t1, t2] 2 2 s x t1.f0 t1.f1.f0 t1.f1.f1 t1.f1.f2 t1.f1.f3.f0 t1.f1.f3.f1 t1.f1.f3.f2 t1.f1.f4 t1.f1.f5 t1.f1.f6 t1.f1.f7 t1.f2 t1.f3 t1.f4 t2.f0 t2.f1.f0 t2.f1.f1 t2.f1.f2 t2.f1.f3.f0 t2.f1.f3.f1 t2.f1.f3.f2 t2.f1.f4 t2.f1.f5 t2.f1.f6 t2.f1.f7 t2.f2 t2.f3 t2.f4 b y = if wrap64 (l1 + l2) > 12 then some 3 else some 0 := fun k hk1 hk2 => by
    obtain ⟨_, _, n1, d1, e1⟩ := A1 k hk1
    obtain ⟨_, _, n2, d2, e2⟩ := A2 k hk2
    simp only [Vm] at e1 e2
    rw [Zr.l0, if_neg (by decide)]
    unfold Kz.f
    rw [e1, e2, Option.bind_some, Option.bind_some, Option.bind_some, Option.bind_some]
  have chk : ∀ k, K1 ≤ k → K2 ≤ k → Xt.f k s x t1.f0 t1.f1.f0 t1.f1.f1 t1.f1.f2 t1.f1.f3.f0 t1.f1.f3.f1 t1.f1.f3.f2 t1.f1.f4 t1.f1.f5 t1.f1.f6 t1.f1.f7 t1.f2 t1.f3 t1.f4 t2.f0 t2.f1.f0 t2.f1.f1 t2.f1.f2 t2.f1.f3.f0 t2.f1.f3.f1 t2.f1.f3.f2 t2.f1.f4 t2.f1.f5 t2.f1.f6 t2.f1.f7 t2.f2 t2.f3 t2.f4 b y = if v1 = 0 then (if v2 = 0 then (Zv.f k t1.f0 t1.f1.f0 t1.f1.f1 t1.f1.f2 t1.f1.f3.f0 t1.f1.f3.f1 t1.f1.f3.f2 t1.f1.f4 t1.f1.f5 t1.f1.f6 t1.f1.f7 t1.f2 t1.f3 t1.f4).bind fun l => (Zv.f k t2.f0 t2.f1.f0 t2.f1.f1 t2.f1.f2 t2.f1.f3.f0 t2.f1.f3.f1 t2.f1.f3.f2 t2.f1.f4 t2.f1.f5 t2.f1.f6 t2.f1.f7 t2.f2 t2.f3 t2.f4).bind fun l' => if wrap64 ((l.length : Int) + (l'.length : Int)) > 12 then some 3 else some 0 else some v2) else some v1 := fun k hk1 hk2 => by
    have e1 := (A1 k hk1).2.1
    have e2 := (A2 k hk2).2.1
    simp only [Vm] at e1 e2
    unfold Xt.f
    rw [e1, e2, Option.bind_some, Option.bind_some]
  by_cases h01 : v1 = 0
  · by_cases h02 : v2 = 0
    · obtain ⟨f1, g1⟩ := B1 h01
      obtain ⟨f2, g2⟩ := B2 h02
      obtain ⟨K3, C1⟩ := leaves_from t1 f1
      obtain ⟨K4, C2⟩ := leaves_from t2 f2
      refine ⟨K1 + K2 + K3 + K4 + 3, (if wrap64 (l1 + l2) > 12 then 3 else 0), fun k hk => ⟨?_, ?_⟩⟩
      · have c1 := (C1 k (by omega)).1
        have c2 := (C2 k (by omega)).1
        simp only [Vm] at c1 c2
        rw [chk k (by omega) (by omega), if_pos h01, if_pos h02, c1, c2, Option.bind_some, Option.bind_some, ← g1, ← g2]
        split <;> rfl
      · obtain ⟨j, rfl⟩ : ∃ j, k = j + 3 := ⟨k - 3, by omega⟩
        rw [step (j + 2) (by omega), if_pos h01, step2 (j + 1) (by omega), if_pos h02, step3 j (by omega) (by omega)]
        split <;> rfl
    · refine ⟨K1 + K2 + 3, v2, fun k hk => ⟨by rw [chk k (by omega) (by omega), if_pos h01, if_neg h02], ?_⟩⟩
      obtain ⟨j, rfl⟩ : ∃ j, k = j + 3 := ⟨k - 3, by omega⟩
      rw [step (j + 2) (by omega), if_pos h01, step2 (j + 1) (by omega), if_neg h02]
  · refine ⟨K1 + K2 + 3, v1, fun k hk => ⟨by rw [chk k (by omega) (by omega), if_neg h01], ?_⟩⟩
    obtain ⟨j, rfl⟩ : ∃ j, k = j + 3 := ⟨k - 3, by omega⟩
    rw [step (j + 2) (by omega), if_neg h01]
theorem checks_true (s : ByteArray) (x : Int) (t1 t2 : Vp) (b : Bool) (y : Int) (m1 m2 : Nat) (h1 : TmOk m1 t1) (h2 : TmOk m2 t2) : ∃ k, Xb.f k s x t1.f0 t1.f1.f0 t1.f1.f1 t1.f1.f2 t1.f1.f3.f0 t1.f1.f3.f1 t1.f1.f3.f2 t1.f1.f4 t1.f1.f5 t1.f1.f6 t1.f1.f7 t1.f2 t1.f3 t1.f4 t2.f0 t2.f1.f0 t2.f1.f1 t2.f1.f2 t2.f1.f3.f0 t2.f1.f3.f1 t2.f1.f3.f2 t2.f1.f4 t2.f1.f5 t2.f1.f6 t2.f1.f7 t2.f2 t2.f3 t2.f4 b y = some true := by
  obtain ⟨K0, c, P⟩ := prop_ex s x t1 t2 b y m1 m2 h1 h2
  obtain ⟨K1, v1, l1, A1, B1⟩ := fault_ex m1 t1 h1
  have hn : (c != c) = false := by simp
  by_cases h0 : v1 = 0
  · subst h0
    obtain ⟨f1, _⟩ := B1 rfl
    obtain ⟨K2, C1⟩ := leaves_from t1 f1
    obtain ⟨K3, C2⟩ := Leaves_from m1 t1 f1 h1
    obtain ⟨k, hk⟩ : ∃ k, k = K0 + K1 + K2 + K3 + 60 := ⟨_, rfl⟩
    refine ⟨k + 1, ?_⟩
    obtain ⟨a1, a2, _⟩ := A1 (k + 1) (by omega)
    obtain ⟨p1, p2⟩ := P (k + 1) (by omega)
    obtain ⟨c1, _, c3, _⟩ := C1 (k + 1) (by omega)
    obtain ⟨_, c2, _, c4⟩ := C1 k (by omega)
    obtain ⟨d1, _⟩ := C2 (k + 1) (by omega)
    obtain ⟨_, d2⟩ := C2 k (by omega)
    simp only [Vm] at a1 a2 c1 c2 c3 c4
    have hsp : Qo.f (k + 1) t1.f0 t1.f1.f0 t1.f1.f1 t1.f1.f2 t1.f1.f3.f0 t1.f1.f3.f1 t1.f1.f3.f2 t1.f1.f4 t1.f1.f5 t1.f1.f6 t1.f1.f7 t1.f2 t1.f3 t1.f4 = some (Qu 10 t1, 0) := by
      unfold Qo.f
      rw [a2, Option.bind_some, if_pos rfl, c3, Option.bind_some]
    have hle : Xr.f (k + 1) t1.f0 t1.f1.f0 t1.f1.f1 t1.f1.f2 t1.f1.f3.f0 t1.f1.f3.f1 t1.f1.f3.f2 t1.f1.f4 t1.f1.f5 t1.f1.f6 t1.f1.f7 t1.f2 t1.f3 t1.f4 = some (Qm 10 t1, 0) := by
      unfold Xr.f
      rw [a2, Option.bind_some, if_pos rfl, c1, Option.bind_some, d1]
    unfold Xb.f
    rw [a1, Option.bind_some, hsp, Option.bind_some, hle, Option.bind_some, sequenced_up (k + 1) (by omega), Option.bind_some, if_pos rfl, a2, Option.bind_some, if_pos rfl, if_pos rfl, if_pos rfl, p1, Option.bind_some, p2, Option.bind_some, hn]
    rw [Xb.j0, if_neg (by decide), if_pos rfl, c4, Option.bind_some, if_pos rfl, c2, Option.bind_some]
    unfold Wq.f
    rw [if_pos d2, Option.bind_some]
  · obtain ⟨k, hk⟩ : ∃ k, k = K0 + K1 + 60 := ⟨_, rfl⟩
    refine ⟨k + 1, ?_⟩
    obtain ⟨a1, a2, _⟩ := A1 (k + 1) (by omega)
    obtain ⟨p1, p2⟩ := P (k + 1) (by omega)
    simp only [Vm] at a1 a2
    have hsp : Qo.f (k + 1) t1.f0 t1.f1.f0 t1.f1.f1 t1.f1.f2 t1.f1.f3.f0 t1.f1.f3.f1 t1.f1.f3.f2 t1.f1.f4 t1.f1.f5 t1.f1.f6 t1.f1.f7 t1.f2 t1.f3 t1.f4 = some (0, v1) := by
      unfold Qo.f
      rw [a2, Option.bind_some, if_neg h0]
    have hle : Xr.f (k + 1) t1.f0 t1.f1.f0 t1.f1.f1 t1.f1.f2 t1.f1.f3.f0 t1.f1.f3.f1 t1.f1.f3.f2 t1.f1.f4 t1.f1.f5 t1.f1.f6 t1.f1.f7 t1.f2 t1.f3 t1.f4 = some ([], v1) := by
      unfold Xr.f
      rw [a2, Option.bind_some, if_neg h0]
    unfold Xb.f
    rw [a1, Option.bind_some, hsp, Option.bind_some, hle, Option.bind_some, sequenced_up (k + 1) (by omega), Option.bind_some, if_pos rfl, a2, Option.bind_some, if_pos rfl, if_pos rfl, if_pos rfl, p1, Option.bind_some, p2, Option.bind_some, hn]
    rw [Xb.j0, if_neg (by decide), if_neg h0, if_pos rfl]
    rfl
end Go.Proofs.Ytkbkndfonccekaa
namespace Go.Proofs.Ytkbkndfonccekaa
open Go.RowKit Go.ChangeShapes Go.WideShapes Go.ChangeAt
def Light {H : Type} (P : Program) (t : TypeId) (d : DataW H) : Prop := ∀ n ∈ d.weights P t, n ≤ reachBytes
theorem light_each {H : Type} {P : Program} : ∀ {ts : List TypeId} {ds : List (DataW H)}, (∀ n ∈ DataW.weightsEach P ts ds, n ≤ reachBytes) → ∀ {j : Nat} {t : TypeId} {d : DataW H}, ts[j]? = some t → ds[j]? = some d → Light P t d :=
  fun h _ _ _ ht hd n hn => h n (DataW.weights_mem_each ht hd n hn)
theorem light_all {H : Type} {P : Program} {e : TypeId} : ∀ {ds : List (DataW H)}, (∀ n ∈ DataW.weightsAll P e ds, n ≤ reachBytes) → ∀ d ∈ ds, Light P e d
  | [], _, d, hd => by simp at hd
  | d0 :: ds, h, d, hd => by
    simp only [DataW.weightsAll, List.mem_append] at h
    rcases List.mem_cons.1 hd with rfl | hd
    · exact fun n hn => h n (.inl hn)
    · exact light_all (fun n hn => h n (.inr hn)) d hd
structure Opens {α : Type} (P : Program) (d : Rep α) (t : TypeId) (W : α → Prop) : Prop where
  cells : P.cellsOf t = d.sz
  opens : ∀ {H : Type} (enc : TypeId × Value → H) (w : World) (n : Nat) (cs : List Value) (y : DataW H × List MemPlace),
    DataW.trod enc P w 0 (fun _ => true) true n t cs = some y → Light P t y.1 → ∃ x, d.rel w (fun k => k < w.heap.size) x cs ∧ W x
theorem Opens.int {P : Program} {t : TypeId} {k : IntKind} (u : P.underlying t = some (.int k)) (hc : P.cellsOf t = 1) : Opens P (Rep.int k) t (fun _ => True) :=
  ⟨hc, fun enc w n cs y h _ => by
    obtain ⟨m, rfl, rfl, hw⟩ := DataW.trod_int u h
    refine ⟨m, ⟨rfl, ?_⟩, trivial⟩
    simpa [Lit.wf, InK] using hw⟩
theorem Opens.bool {P : Program} {t : TypeId} (u : P.underlying t = some .bool) (hc : P.cellsOf t = 1) : Opens P Rep.bool t (fun _ => True) :=
  ⟨hc, fun enc w n cs y h _ => by
    cases n with
    | zero => simp [DataW.trod] at h
    | succ m =>
      unfold DataW.trod at h
      rw [u] at h
      split at h <;> try (simp at *; done)
      rename_i b _
      exact ⟨b, ⟨rfl, trivial⟩, trivial⟩⟩
theorem Opens.str {P : Program} {t : TypeId} (u : P.underlying t = some .string) (hc : P.cellsOf t = 1) : Opens P Rep.str t (fun x => x.size ≤ reachBytes) :=
  ⟨hc, fun enc w n cs y h hl => by
    cases n with
    | zero => simp [DataW.trod] at h
    | succ m =>
      unfold DataW.trod at h
      rw [u] at h
      split at h <;> try (simp at *; done)
      rename_i s _
      simp only [Option.ite_none_right_eq_some, Option.some.injEq] at h
      obtain ⟨hm, rfl⟩ := h
      refine ⟨s, ⟨rfl, by simpa [maxLen] using hm⟩, ?_⟩
      have := hl s.data.toList.length (by simp [DataW.weights])
      simpa using this⟩
theorem choose_list {α : Type} (n : Nat) (Q : Nat → α → Prop) (h : ∀ i, i < n → ∃ x, Q i x) : ∃ xs : List α, xs.length = n ∧ ∀ i x, xs[i]? = some x → Q i x := by
  induction n with
  | zero => exact ⟨[], rfl, fun i x h => by simp at h⟩
  | succ n ih =>
    obtain ⟨xs, hl, hq⟩ := ih (fun i hi => h i (by omega))
    obtain ⟨x, hx⟩ := h n (by omega)
    refine ⟨xs ++ [x], by simp [hl], fun i y hy => ?_⟩
    rcases Nat.lt_trichotomy i xs.length with hi | rfl | hi
    · rw [List.getElem?_append_left hi] at hy; exact hq i y hy
    · simp at hy; subst hy; rw [hl]; exact hx
    · rw [List.getElem?_eq_none (by simp; omega)] at hy; simp at hy
end Go.Proofs.Ytkbkndfonccekaa
namespace Go.Proofs.Ytkbkndfonccekaa
open Go.RowKit Go.ChangeShapes Go.WideShapes Go.ChangeAt
open Go.Proofs.YtkbkndfonccekaaW.PrintWords (Kd)
open Go.Proofs.Ytkbkndfonccekaa.PF
set_option maxRecDepth 100000
structure OpK {α : Type} (P : Program) (sz : Nat) (K : World → α → List Value → Prop) (t : TypeId) (N : Nat) : Prop where
  cells : P.cellsOf t = sz
  opens : ∀ {H : Type} (enc : TypeId × Value → H) (w : World) (n : Nat) (cs : List Value) (y : DataW H × List MemPlace), n < N →
    DataW.trod enc P w 0 (fun _ => true) true n t cs = some y → Light P t y.1 → ∃ x, K w x cs
theorem OpK.of {α : Type} {P : Program} {d : Rep α} {t : TypeId} {W : α → Prop} {N : Nat} (h : Opens P d t W) : OpK P d.sz (fun w x cs => d.rel w (fun k => k < w.heap.size) x cs ∧ W x) t N :=
  ⟨h.cells, fun enc w n cs y _ ht hl => h.opens enc w n cs y ht hl⟩
theorem OpK.imp {α β : Type} {P : Program} {sz : Nat} {K : World → α → List Value → Prop} {K' : World → β → List Value → Prop} {t : TypeId} {N : Nat} (h : OpK P sz K t N) (hi : ∀ w x cs, K w x cs → ∃ x', K' w x' cs) : OpK P sz K' t N :=
  ⟨h.cells, fun enc w n cs y hn ht hl => by
    obtain ⟨x, hx⟩ := h.opens enc w n cs y hn ht hl
    exact hi w x cs hx⟩
theorem OpK.less {α : Type} {P : Program} {sz : Nat} {K : World → α → List Value → Prop} {t : TypeId} {N M : Nat} (h : OpK P sz K t N) (hm : M ≤ N) : OpK P sz K t M :=
  ⟨h.cells, fun enc w n cs y hn ht hl => h.opens enc w n cs y (by omega) ht hl⟩
theorem OpK.zero {α : Type} {P : Program} {sz : Nat} {K : World → α → List Value → Prop} {t : TypeId} (hc : P.cellsOf t = sz) : OpK P sz K t 0 :=
  ⟨hc, fun _ _ _ _ _ hn => absurd hn (Nat.not_lt_zero _)⟩
def OpKF {α : Type} (P : Program) (sz : Nat) (K : World → α → List Value → Prop) (fs : List Field) (o : Nat) (N : Nat) : Prop :=
  ∀ {H : Type} (enc : TypeId × Value → H) (w : World) (n : Nat) (cs : List Value) (ys : List (DataW H × List MemPlace)), n < N → ys.length = fs.length →
    (∀ (i : Nat) (f : Field), fs[i]? = some f → DataW.trod enc P w 0 (fun _ => true) true n f.type ((cs.drop f.offset).take (P.cellsOf f.type)) = ys[i]?) →
    (∀ m ∈ DataW.weightsEach P (fs.map (·.type)) (ys.map (·.1)), m ≤ reachBytes) → ∃ x, K w x ((cs.drop o).take sz)
theorem OpKF.one {α : Type} {P : Program} {sz : Nat} {K : World → α → List Value → Prop} {f : Field} {o N : Nat} (h : OpK P sz K f.type N) (ho : f.offset = o) : OpKF P sz K [f] o N := by
  intro H enc w n cs ys hn hl ht hw
  subst ho
  have h0 := ht 0 f rfl
  rw [h.cells] at h0
  have hl0 : 0 < ys.length := by simp [hl]
  have hy : ys[0]? = some ys[0] := List.getElem?_eq_getElem hl0
  rw [hy] at h0
  exact h.opens enc w n _ _ hn h0 (light_each hw (j := 0) (t := f.type) (d := ys[0].1) rfl (by rw [List.getElem?_map, hy]; rfl))
def PairK {α β : Type} (Ka : World → α → List Value → Prop) (Kb : World → β → List Value → Prop) : World → α × β → List Value → Prop := fun w x cs => ∃ c0 c1, cs = c0 ++ c1 ∧ Ka w x.1 c0 ∧ Kb w x.2 c1
theorem OpKF.pair {α β : Type} {P : Program} {sa sb : Nat} {Ka : World → α → List Value → Prop} {Kb : World → β → List Value → Prop} {f : Field} {fs : List Field} {o N : Nat} (h : OpK P sa Ka f.type N) (ho : f.offset = o) (hs : OpKF P sb Kb fs (o + sa) N) :
    OpKF P (sa + sb) (PairK Ka Kb) (f :: fs) o N := by
  intro H enc w n cs ys hn hl ht hw
  subst ho
  match ys, hl with
  | y :: ys, hl =>
    have h0 := ht 0 f rfl
    rw [h.cells] at h0
    obtain ⟨x, hx⟩ := h.opens enc w n _ y hn h0 (light_each hw (j := 0) rfl rfl)
    simp only [List.map_cons, DataW.weightsEach, List.mem_append] at hw
    obtain ⟨z, hz⟩ := hs enc w n cs ys hn (by simpa using hl) (fun i g hg => by simpa using ht (i + 1) g (by simpa using hg)) (fun m hm => hw m (.inr hm))
    refine ⟨(x, z), _, _, ?_, hx, hz⟩
    rw [List.take_add, List.drop_drop]
theorem OpK.struct {α : Type} {P : Program} {sz : Nat} {K : World → α → List Value → Prop} {t : TypeId} {fs : Array Field} {N : Nat} (u : P.underlying t = some (.struct fs)) (hc : P.cellsOf t = sz) (h : OpKF P sz K fs.toList 0 N) : OpK P sz K t (N + 1) :=
  ⟨hc, fun enc w n cs y hn ht hl => by
    obtain ⟨xs, m, rfl, rfl, hcl, hxl, hf⟩ := DataW.trod_struct u ht
    obtain ⟨x, hx⟩ := h enc w m cs xs (by omega) (by simpa using hxl) (fun i f hi => hf i f (by simpa using hi)) (by
      intro k hk
      refine hl k ?_
      simp only [DataW.weights, u]
      exact hk)
    refine ⟨x, ?_⟩
    rw [List.drop_zero, List.take_of_length_le (by omega)] at hx
    exact hx⟩
theorem OpK.slice {α : Type} {P : Program} {sz : Nat} {K : World → α → List Value → Prop} {t e : TypeId} {N : Nat} (h : OpK P sz K e N) (u : P.underlying t = some (.slice e)) (hc : P.cellsOf t = 1) (hz : 0 < sz) (B : Nat) (hB : P.bytesOf e = B) :
    OpK P 1 (fun w (xs : List α) cs => ∃ A c, cs = [.slice A xs.length c] ∧ xs.length ≤ c ∧ Go.Proofs.YtkbkndfonccekaaW.PrintWords.Qz (K w) sz w A xs.length xs ∧ xs.length * B ≤ reachBytes) t (N + 1) :=
  ⟨hc, fun enc w n cs y hn ht hl => by
    rcases DataW.trod_slice u ht with ⟨rfl, rfl⟩ | ⟨a, len, cap, elems, rest, m, rfl, rfl, rfl, hb, hlc, hm, hlen, hel, hsp, hns⟩
    · exact ⟨[], none, 0, rfl, Nat.le_refl _, ⟨rfl, by simp, fun h => absurd h (Nat.lt_irrefl 0)⟩, by simp⟩
    have hl2 : ∀ n ∈ DataW.weightsAll P e (elems.map (·.1)), n ≤ reachBytes := fun n hn => hl n (by
      simp only [DataW.weights, u, List.mem_cons, List.mem_append]
      exact .inr (.inl hn))
    have hplain : 0 < len → ∃ b o, a = ⟨b, o, none⟩ := by
      intro h0
      have h1 := hel 0 h0
      have hy : elems[0]? = some (elems[0]'(by omega)) := List.getElem?_eq_getElem (by omega)
      rw [hy, h.cells, Option.bind_eq_some_iff] at h1
      obtain ⟨cs, hcs, h2⟩ := h1
      obtain ⟨_, hcl, hce⟩ := World.cells?_some hcs
      have hc0 := hce 0 hz
      obtain ⟨v, hv⟩ : ∃ v, cs[0]? = some v := ⟨cs[0]'(by omega), List.getElem?_eq_getElem (by omega)⟩
      rw [hv] at hc0
      obtain ⟨b, o, spot⟩ := a
      have h9 := World.cell?_spot hc0
      have hspot : spot = none := by simpa [Addr.add] using h9
      exact ⟨b, o, by rw [hspot]⟩
    have key : ∀ i, i < len → ∃ x, ∃ cs, cs.length = sz ∧ K w x cs ∧ ∀ j v, cs[j]? = some v → w.cell? (a.add (i * sz + j)) = some v := by
      intro i hi
      have h1 := hel i hi
      have hy : elems[i]? = some elems[i] := List.getElem?_eq_getElem (by omega)
      rw [hy, h.cells, Option.bind_eq_some_iff] at h1
      obtain ⟨cs, hcs, h2⟩ := h1
      obtain ⟨x, hx⟩ := h.opens enc w m cs _ (by omega) h2 (light_all hl2 _ (List.mem_map.2 ⟨_, List.mem_of_getElem? hy, rfl⟩))
      obtain ⟨_, hcl, hce⟩ := World.cells?_some hcs
      obtain ⟨b, o, rfl⟩ := hplain (by omega)
      refine ⟨x, cs, hcl, hx, fun j v hv => ?_⟩
      have hj : j < sz := by rw [← hcl]; exact (List.getElem?_eq_some_iff.1 hv).1
      rw [← hv, ← hce j hj]
      simp only [add_plain, Nat.add_assoc]
    obtain ⟨xs, hxl, hq⟩ := choose_list len _ key
    have hm' : cap ≤ 9223372036854775807 := by simpa [maxLen] using hm
    refine ⟨xs, some a, cap, by rw [hxl], by omega, ⟨rfl, by rw [hxl]; omega, fun _ => ⟨a, rfl, fun j x hx => hq j x hx⟩⟩, ?_⟩
    have := hl ((elems.length + rest.length) * P.bytesOf e) (by simp [DataW.weights, u])
    rw [hB] at this
    rw [hxl, ← hlen]
    exact Nat.le_trans (Nat.mul_le_mul_right _ (by omega)) this⟩
theorem opens_int : Opens Try.prog (Rep.int .i64) 3 (fun _ => True) := Opens.int Try.underlying3 (by kernel_rfl)
theorem opens_u64 : Opens Try.prog (Rep.int .u64) 22 (fun _ => True) := Opens.int Try.underlying22 (by kernel_rfl)
theorem opens_bool : Opens Try.prog Rep.bool 4 (fun _ => True) := Opens.bool Try.underlying4 (by kernel_rfl)
theorem opens_str : Opens Try.prog Rep.str 9 (fun x => x.size ≤ reachBytes) := Opens.str Try.underlying9 (by kernel_rfl)
def IntK : World → Int → List Value → Prop := fun _ x cs => cs = [.int .i64 x] ∧ -9223372036854775808 ≤ x ∧ x ≤ 9223372036854775807
def WordK : World → Int → List Value → Prop := fun _ x cs => cs = [.int .u64 x]
def BoolK : World → Bool → List Value → Prop := fun _ x cs => cs = [.bool x]
theorem k_int (N : Nat) : OpK Try.prog 1 IntK 3 N := (OpK.of opens_int).imp (fun _ x _ h => ⟨x, h.1.1, InK.i64 h.1.2⟩)
theorem k_u64 (N : Nat) : OpK Try.prog 1 WordK 22 N := (OpK.of opens_u64).imp (fun _ x _ h => ⟨x, h.1.1⟩)
theorem k_bool (N : Nat) : OpK Try.prog 1 BoolK 4 N := (OpK.of opens_bool).imp (fun _ x _ h => ⟨x, h.1.1⟩)
theorem k_bits : ∀ N, OpK Try.prog 3 (PairK IntK (PairK WordK WordK)) 24 N
  | 0 => OpK.zero (by kernel_rfl)
  | N + 1 => OpK.struct Try.underlying24 (by kernel_rfl) (OpKF.pair (sa := 1) (sb := 2) (k_int N) rfl (OpKF.pair (sa := 1) (sb := 1) (k_u64 N) rfl (OpKF.one (k_u64 N) rfl)))
def ExK (N : Nat) : World → Jn → List Value → Prop := fun w x cs => k27.K w x cs ∧ ExOk N x
def SlK {α : Type} (K : World → α → List Value → Prop) (sz B : Nat) : World → List α → List Value → Prop := fun w (xs : List α) cs => ∃ A c, cs = [.slice A xs.length c] ∧ xs.length ≤ c ∧ Go.Proofs.YtkbkndfonccekaaW.PrintWords.Qz (K w) sz w A xs.length xs ∧ xs.length * B ≤ reachBytes
theorem reads_imp {α : Type} {R R' : α → List Value → Prop} {sz : Nat} {w : World} {A : Option Addr} {xs : List α} (h : Go.Proofs.YtkbkndfonccekaaW.PrintWords.Qz R sz w A xs.length xs) (hi : ∀ x cs, R x cs → R' x cs) : Go.Proofs.YtkbkndfonccekaaW.PrintWords.Qz R' sz w A xs.length xs :=
  ⟨h.1, h.2.1, fun hn => by
    obtain ⟨ad, hA, hc⟩ := h.2.2 hn
    exact ⟨ad, hA, fun j p hp => by
      obtain ⟨c, h1, h2, h3⟩ := hc j p hp
      exact ⟨c, h1, hi _ _ h2, h3⟩⟩⟩
theorem reads_mem {α : Type} {R : α → List Value → Prop} {sz : Nat} {w : World} {A : Option Addr} {xs : List α} (h : Go.Proofs.YtkbkndfonccekaaW.PrintWords.Qz R sz w A xs.length xs) : ∀ x ∈ xs, ∃ cs, R x cs := fun x hx => by
  obtain ⟨j, hj⟩ := List.getElem?_of_mem hx
  obtain ⟨ad, _, hc⟩ := h.2.2 (List.length_pos_of_mem hx)
  obtain ⟨c, _, h2, _⟩ := hc j x hj
  exact ⟨c, h2⟩
theorem k_expr (N : Nat) : OpK Try.prog 10 (ExK N) 27 N := by
  induction N with
  | zero => exact OpK.zero (by kernel_rfl)
  | succ N ih =>
    have hs : OpK Try.prog 1 (SlK (ExK N) 10 96) 25 N := by
      cases N with
      | zero => exact OpK.zero (by kernel_rfl)
      | succ M => exact (ih.less (Nat.le_succ M)).slice Try.underlying25 (by kernel_rfl) (by decide) 96 (by kernel_rfl)
    refine (OpK.struct (sz := 10) Try.underlying27 (by kernel_rfl) (OpKF.pair (sa := 1) (sb := 9) (k_int N) rfl (OpKF.pair (sa := 1) (sb := 8) (k_int N) rfl (OpKF.pair (sa := 1) (sb := 7) (k_bool N) rfl (OpKF.pair (sa := 3) (sb := 4) (k_bits N) rfl (OpKF.pair (sa := 1) (sb := 3) (k_int N) rfl (OpKF.pair (sa := 1) (sb := 2) (k_bool N) rfl (OpKF.pair (sa := 1) (sb := 1) (k_int N) rfl (OpKF.one hs rfl))))))))).imp ?_
    rintro w ⟨x0, x1, x2, ⟨x3, x4, x5⟩, x6, x7, x8, x9⟩ cs ⟨_, _, rfl, ⟨rfl, _⟩, _, _, rfl, ⟨rfl, _⟩, _, _, rfl, rfl, _, _, rfl, ⟨_, _, rfl, ⟨rfl, _⟩, _, _, rfl, rfl, rfl⟩, _, _, rfl, ⟨rfl, _⟩, _, _, rfl, rfl, _, _, rfl, ⟨rfl, _⟩, A, c, rfl, hl, hr, hb⟩
    refine ⟨⟨x0, x1, x2, ⟨x3, x4, x5⟩, x6, x7, x8, x9⟩, ?_, ?_, fun x hx => ?_⟩
    · exact k27_mk w ⟨x0, x1, x2, ⟨x3, x4, x5⟩, x6, x7, x8, x9⟩ hl (reads_imp hr (fun _ _ h => h.1))
    · have h9 : reachBytes = 140737488351232 := rfl
      have hb : x9.length * 96 ≤ reachBytes := hb
      show x9.length ≤ 1466015503701
      omega
    · obtain ⟨_, h⟩ := reads_mem hr x hx
      exact h.2
def TmK (N : Nat) : World → Vp → List Value → Prop := fun w x cs => k30.K w x cs ∧ TmOk N x
theorem k_temp (N : Nat) : OpK Try.prog 14 (TmK N) 30 N := by
  induction N with
  | zero => exact OpK.zero (by kernel_rfl)
  | succ N ih =>
    have hs : OpK Try.prog 1 (SlK (TmK N) 14 144) 28 N := by
      cases N with
      | zero => exact OpK.zero (by kernel_rfl)
      | succ M => exact (ih.less (Nat.le_succ M)).slice Try.underlying28 (by kernel_rfl) (by decide) 144 (by kernel_rfl)
    refine (OpK.struct (sz := 14) Try.underlying30 (by kernel_rfl) (OpKF.pair (sa := 1) (sb := 13) (k_int N) rfl (OpKF.pair (sa := 10) (sb := 3) (k_expr N) rfl (OpKF.pair (sa := 1) (sb := 2) (k_int N) rfl (OpKF.pair (sa := 1) (sb := 1) (k_int N) rfl (OpKF.one hs rfl)))))).imp ?_
    rintro w ⟨x0, e, x2, x3, x4⟩ cs ⟨_, _, rfl, ⟨rfl, g1⟩, _, _, rfl, ⟨hE, hEo⟩, _, _, rfl, ⟨rfl, _⟩, _, _, rfl, ⟨rfl, _⟩, A, c, rfl, hl, hr, hb⟩
    obtain ⟨A1, c1, rfl, hl1, hC1⟩ := k27_open hE
    refine ⟨⟨x0, e, x2, x3, x4⟩, ?_, g1, ⟨N, hEo⟩, fun x hx => ?_⟩
    · exact k30_mk w ⟨x0, e, x2, x3, x4⟩ hl1 hC1 hl (reads_imp hr (fun _ _ h => h.1))
    · obtain ⟨_, h⟩ := reads_mem hr x hx
      exact h.2
theorem arg_prop {H : Type} {enc : TypeId × Value → H} {w : World} {r : Reach} {b : Nat} {v : Value} {d : DataW H} {p : List MemPlace} (hv : Value.okWide Try.prog w r b 32 v)
    (h : DataW.Trod enc Try.prog w 0 (fun _ => true) true 32 v d p) (hl : Light Try.prog 32 d) :
    ∃ (s : ByteArray) (x : Int) (t1 t2 : Vp) (z : Bool) (y : Int) (A1 A2 A3 A4 : Option Addr) (c1 c2 c3 c4 : Nat) (m1 m2 : Nat), v = .agg #[.string s, .int .i64 x, .int .i64 t1.f0, .int .i64 t1.f1.f0, .int .i64 t1.f1.f1, .bool t1.f1.f2, .int .i64 t1.f1.f3.f0, .int .u64 t1.f1.f3.f1, .int .u64 t1.f1.f3.f2, .int .i64 t1.f1.f4, .bool t1.f1.f5, .int .i64 t1.f1.f6, .slice A1 t1.f1.f7.length c1, .int .i64 t1.f2, .int .i64 t1.f3, .slice A2 t1.f4.length c2,
        .int .i64 t2.f0, .int .i64 t2.f1.f0, .int .i64 t2.f1.f1, .bool t2.f1.f2, .int .i64 t2.f1.f3.f0, .int .u64 t2.f1.f3.f1, .int .u64 t2.f1.f3.f2, .int .i64 t2.f1.f4, .bool t2.f1.f5, .int .i64 t2.f1.f6, .slice A3 t2.f1.f7.length c3, .int .i64 t2.f2, .int .i64 t2.f3, .slice A4 t2.f4.length c4, .bool z, .int .i64 y] ∧
      (Kd.C k27 w A1 t1.f1.f7.length t1.f1.f7 ∧ t1.f1.f7.length ≤ c1) ∧ (Kd.C k30 w A2 t1.f4.length t1.f4 ∧ t1.f4.length ≤ c2) ∧ (Kd.C k27 w A3 t2.f1.f7.length t2.f1.f7 ∧ t2.f1.f7.length ≤ c3) ∧ (Kd.C k30 w A4 t2.f4.length t2.f4 ∧ t2.f4.length ≤ c4) ∧ TmOk m1 t1 ∧ TmOk m2 t2 := by
  obtain ⟨cs, rfl, _⟩ := okWide_struct Try.underlying32 hv
  obtain ⟨n, hf⟩ := h
  have hO : OpK Try.prog 32 (PairK (fun w x cs => Rep.str.rel w (fun k => k < w.heap.size) x cs ∧ x.size ≤ reachBytes) (PairK IntK (PairK (TmK (n + 1)) (PairK (TmK (n + 1)) (PairK BoolK IntK))))) 32 (n + 1 + 1) :=
    OpK.struct Try.underlying32 (by kernel_rfl) (OpKF.pair (sa := 1) (sb := 31) (OpK.of opens_str) rfl (OpKF.pair (sa := 1) (sb := 30) (k_int _) rfl (OpKF.pair (sa := 14) (sb := 16) (k_temp _) rfl (OpKF.pair (sa := 14) (sb := 2) (k_temp _) rfl (OpKF.pair (sa := 1) (sb := 1) (k_bool _) rfl (OpKF.one (k_int _) rfl))))))
  obtain ⟨⟨s, x, t1, t2, z, y⟩, hx⟩ := hO.opens enc w n _ _ (by omega) hf hl
  obtain ⟨_, _, hc, ⟨⟨rfl, _⟩, _⟩, _, _, rfl, ⟨rfl, _⟩, _, _, rfl, ⟨hT1, hO1⟩, _, _, rfl, ⟨hT2, hO2⟩, _, _, rfl, rfl, rfl, _⟩ := hx
  obtain ⟨A1, c1, A2, c2, rfl, a1, a2, a3, a4⟩ := k30_open hT1
  obtain ⟨A3, c3, A4, c4, rfl, b1, b2, b3, b4⟩ := k30_open hT2
  refine ⟨s, x, t1, t2, z, y, A1, A2, A3, A4, c1, c2, c3, c4, _, _, ?_, ⟨a2, a1⟩, ⟨a4, a3⟩, ⟨b2, b1⟩, ⟨b4, b3⟩, hO1, hO2⟩
  obtain ⟨cs⟩ := cs
  simp only [Value.cells] at hc
  rw [hc]
  rfl
end Go.Proofs.Ytkbkndfonccekaa
namespace Go.Proofs.Ytkbkndfonccekaa.SeqChecks
open Go.ChangeShapes Go.WideShapes Go.ChangeAt Go.RowKit
open Go.Proofs.Ytkbkndfonccekaa.PF
set_option linter.unusedVariables false
theorem own : ownKnob Try.prog.godebug = none := by kernel_rfl
theorem laidOut : laidOutB Try.prog = true := by kernel_rfl
set_option maxRecDepth 100000 in
theorem lifted (os : Os) (started : os.Started) (H : Type) (enc : TypeId × Value → H) :
    ReturnsInHanded {} Try.checked os 3 .any (Rows.seqChecksSpec.pre6 enc Try.prog Try.f3 Rows.seqChecksRow.domain false) (Rows.seqChecksSpec.post enc Try.prog Try.f3 false true false false) := by
  refine returnsInHanded_of_change_sized (C := Try.checked) own started (by kernel_rfl) Try.func3
    (ChangeSpec.witness6 (enc := enc) (C := Try.checked) false ⟨#[], #[.agg #[.string ByteArray.empty, .int .i64 0, .int .i64 0, .int .i64 0, .int .i64 0, .bool false, .int .i64 0, .int .u64 0, .int .u64 0, .int .i64 0, .bool false, .int .i64 0, .slice none 0 0, .int .i64 0, .int .i64 0, .slice none 0 0, .int .i64 0, .int .i64 0, .int .i64 0, .bool false, .int .i64 0, .int .u64 0, .int .u64 0, .int .i64 0, .bool false, .int .i64 0, .slice none 0 0, .int .i64 0, .int .i64 0, .slice none 0 0, .bool false, .int .i64 0]], []⟩ 8 (by kernel_rfl) (by kernel_rfl) (by kernel_rfl) (by kernel_rfl)) ?_
  intro W base args ds gs before hval0 hW hcnd hsz0 _
  have hsz : (DataW.weightsEach Try.prog (Try.f3.params.toList ++ Rows.seqChecksSpec.plain.varTypes Try.prog) (ds ++ gs)).all (· ≤ reachBytes) = true := hsz0
  have hval : ∀ (j : Nat) t v, Try.f3.params[j]? = some t → args[j]? = some v → Value.okWide Try.prog W .any base t v := hval0
  have hW' := hW
  obtain ⟨p, q, hA0, hV, rfl, hfz, hnd⟩ := hW
  have hA : DataW.TrodAll enc Try.prog W 0 (fun _ => true) true Try.f3.params.toList args.toList ds p := hA0
  rw [Try.params3] at hA hval hsz
  obtain ⟨v0, vs0, d0, ds0, p0, q0, hargs, rfl, rfl, h0, r0⟩ := trodAll_cons hA
  obtain ⟨rfl, rfl, rfl⟩ := trodAll_nil r0
  obtain rfl : args = #[v0] := by cases args; simp_all
  obtain ⟨rfl, rfl⟩ := trodVars_none hV
  have hall : ∀ n ∈ DataW.weightsEach Try.prog (#[32].toList ++ Rows.seqChecksSpec.plain.varTypes Try.prog) ([d0] ++ []), n ≤ reachBytes := by
    intro n hn
    simpa using List.all_eq_true.1 hsz n hn
  obtain ⟨s, x, t1, t2, z, y, A1, A2, A3, A4, c1, c2, c3, c4, m1, m2, rfl, hr1, hr2, hr3, hr4, hO1, hO2⟩ := arg_prop (hval 0 32 v0 rfl rfl) h0 (light_each hall (j := 0) rfl rfl)
  have ll0 : ∀ x ∈ p0, x.block < W.heap.size := by obtain ⟨m, hm⟩ := h0; exact DataW.trod_lt m _ _ _ hm
  clear hA0 hval0 hsz0 hsz hall
  refine Calls.mono ((Exists.elim (checks_true s x t1 t2 z y m1 m2 hO1 hO2) fun k hk => Xb.calls k s x t1.f0 t1.f1.f0 t1.f1.f1 t1.f1.f2 t1.f1.f3.f0 t1.f1.f3.f1 t1.f1.f3.f2 t1.f1.f4 t1.f1.f5 t1.f1.f6 A1 c1 t1.f1.f7 t1.f2 t1.f3 A2 c2 t1.f4 t2.f0 t2.f1.f0 t2.f1.f1 t2.f1.f2 t2.f1.f3.f0 t2.f1.f3.f1 t2.f1.f3.f2 t2.f1.f4 t2.f1.f5 t2.f1.f6 A3 c3 t2.f1.f7 t2.f2 t2.f3 A4 c4 t2.f4 z y true W hr1.1 hr1.2 hr2.1 hr2.2 hr3.1 hr3.2 hr4.1 hr4.2 hk)) fun e W' ⟨he, bel⟩ => ?_
  subst he
  exact ⟨_, rfl, _, _, _, [], _, [], hW', trodAll_mk1 (shut_bool Try.underlying4 _),
    (trodAll_cons_mk (Below.trod laidOut (by kernel_rfl) (of_decide_eq_true (by kernel_rfl)) h0 bel ll0) trodAll_mk0), rfl, bel.frame _, fun h => by cases h⟩
theorem over : Rows.seqChecksRow.holds Try.pinned (OpenSpec.ofChange Rows.seqChecksSpec) :=
  OpenClaim.holds_of_wide 3 Try.f3 rfl rfl rfl rfl rfl rfl rfl ⟨rfl, rfl, rfl, rfl, rfl⟩ rfl rfl rfl rfl rfl (by kernel_rfl) Try.func3 (by kernel_rfl)
    (of_decide_eq_true (by kernel_rfl)) (by unfold Func.isWrapper; first | (rw [if_pos (by decide +kernel)]; kernel_rfl) | (rw [if_neg (by decide +kernel)]; exact ⟨rfl, rfl⟩))
    (fun os started H enc _ => lifted os started H enc)
end Go.Proofs.Ytkbkndfonccekaa.SeqChecks
namespace Go.Proofs.Ytkbkndfonccekaa
theorem seqChecks_holds : Rows.SeqChecksSaid := SeqChecks.over
#print axioms seqChecks_holds
end Go.Proofs.Ytkbkndfonccekaa
