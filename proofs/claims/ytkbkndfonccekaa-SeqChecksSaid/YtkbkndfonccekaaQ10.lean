/- Joined by this session's own program out of its texts: PFx21 PFx22. -/
import Derived.Test.YtkbkndfonccekaaQ1
import Derived.Test.YtkbkndfonccekaaQ6
import Derived.Test.YtkbkndfonccekaaQ5
namespace Go.Proofs.Ytkbkndfonccekaa.PF
open Go.RowKit Go.Proofs.YtkbkndfonccekaaW.PrintWords Go.Proofs.YtkbkndfonccekaaW.PrintLast Go.Proofs.YtkbkndfonccekaaW.PrintMore
attribute [local go_sem] Qn Qp Kq Kt
set_option linter.unusedVariables false
set_option linter.unusedSimpArgs false
def Xt.f (k : Nat) (JA : ByteArray) (Jz : Int) (Jx : Int) (Jv : Int) (Ju : Int) (Jt : Bool) (Js : Int) (Jr : Int) (Jq : Int) (Jo : Int) (Jm : Bool) (J2 : Int) (J6 : List (Qh)) (Jl : Int) (Jk : Int) (J5 : List (Vd)) (Jj : Int) (Jh : Int) (Jg : Int) (Jf : Bool) (Je : Int) (Jd : Int) (Jc : Int) (Jb : Int) (Ja : Bool) (J9 : Int) (J4 : List (Qh)) (J8 : Int) (J7 : Int) (J3 : List (Vd)) (JC : Bool) (JB : Int) : Option (Int) := (Zz.f k Jx Jv Ju Jt Js Jr Jq Jo Jm J2 J6 Jl Jk J5).bind fun t340 => (if t340 = 0 then ((Zz.f k Jj Jh Jg Jf Je Jd Jc Jb Ja J9 J4 J8 J7 J3).bind fun t341 => (if t341 = 0 then ((Zv.f k Jx Jv Ju Jt Js Jr Jq Jo Jm J2 J6 Jl Jk J5).bind fun t342 => ((Zv.f k Jj Jh Jg Jf Je Jd Jc Jb Ja J9 J4 J8 J7 J3).bind fun t345 => (if (wrap64 ((t342.length : Int) + (t345.length : Int))) > 12 then (some 3) else (some 0)))) else (some t341))) else (some t340))
def Xt.T7 : Bool × List (List Nat × List Nat) := (true, [([], []), ([0], [0]), ([1], [1]), ([2], [2]), ([], []), ([4], [4]), ([5, 2], [5]), ([6], [6]), ([3, 7], [3, 7]), ([8], [8])])
def Xt.B7 : List Nat := [0, 1, 3, 7, 0, 16, 55, 119, 255, 511]
theorem Xt.tab7 : rtab .any (opsOf Try.f9 7) = Xt.T7 := by kernel_rfl
theorem Xt.bits7 : Wi Xt.T7.2 Xt.B7 = true := by kernel_rfl
set_option maxHeartbeats 8000000 in
set_option maxRecDepth 100000 in
theorem Xt.calls (k : Nat) (JA : ByteArray) (Jz : Int) (Jx : Int) (Jv : Int) (Ju : Int) (Jt : Bool) (Js : Int) (Jr : Int) (Jq : Int) (Jo : Int) (Jm : Bool) (J2 : Int) (A0_12 : Option Addr) (c0_12 : Nat) (J6 : List (Qh)) (Jl : Int) (Jk : Int) (A0_15 : Option Addr) (c0_15 : Nat) (J5 : List (Vd)) (Jj : Int) (Jh : Int) (Jg : Int) (Jf : Bool) (Je : Int) (Jd : Int) (Jc : Int) (Jb : Int) (Ja : Bool) (J9 : Int) (A0_26 : Option Addr) (c0_26 : Nat) (J4 : List (Qh)) (J8 : Int) (J7 : Int) (A0_29 : Option Addr) (c0_29 : Nat) (J3 : List (Vd)) (JC : Bool) (JB : Int) (r : Int) (w : World) (hr0_12 : Kd.C k27 w A0_12 J6.length J6) (hc0_12 : J6.length ≤ c0_12) (hr0_15 : Kd.C k30 w A0_15 J5.length J5) (hc0_15 : J5.length ≤ c0_15) (hr0_26 : Kd.C k27 w A0_26 J4.length J4) (hc0_26 : J4.length ≤ c0_26) (hr0_29 : Kd.C k30 w A0_29 J3.length J3) (hc0_29 : J3.length ≤ c0_29) (h : Xt.f k JA Jz Jx Jv Ju Jt Js Jr Jq Jo Jm J2 J6 Jl Jk J5 Jj Jh Jg Jf Je Jd Jc Jb Ja J9 J4 J8 J7 J3 JC JB = some r) :
 Calls Try.prog 9 #[.agg #[.string JA, .int .i64 Jz, .int .i64 Jx, .int .i64 Jv, .int .i64 Ju, .bool Jt, .int .i64 Js, .int .u64 Jr, .int .u64 Jq, .int .i64 Jo, .bool Jm, .int .i64 J2, .slice A0_12 J6.length c0_12, .int .i64 Jl, .int .i64 Jk, .slice A0_15 J5.length c0_15, .int .i64 Jj, .int .i64 Jh, .int .i64 Jg, .bool Jf, .int .i64 Je, .int .u64 Jd, .int .u64 Jc, .int .i64 Jb, .bool Ja, .int .i64 J9, .slice A0_26 J4.length c0_26, .int .i64 J8, .int .i64 J7, .slice A0_29 J3.length c0_29, .bool JC, .int .i64 JB]] w fun e w' => e = .returned (.int .i64 r) ∧ Below w.heap.size w w' := by
 have hu32 := Try.underlying32
 have hu30 := Try.underlying30
 have HR0_12 := Zd.mk hr0_12
 have HC0_12 := Zd.mk hc0_12
 clear hr0_12 hc0_12
 have HR0_15 := Zd.mk hr0_15
 have HC0_15 := Zd.mk hc0_15
 clear hr0_15 hc0_15
 have HR0_26 := Zd.mk hr0_26
 have HC0_26 := Zd.mk hc0_26
 clear hr0_26 hc0_26
 have HR0_29 := Zd.mk hr0_29
 have HC0_29 := Zd.mk hc0_29
 clear hr0_29 hc0_29
 have HB := Zd.mk (Below.refl w.heap.size w)
 have H : ((Zz.f k Jx Jv Ju Jt Js Jr Jq Jo Jm J2 J6 Jl Jk J5).bind fun t340 => (if t340 = 0 then ((Zz.f k Jj Jh Jg Jf Je Jd Jc Jb Ja J9 J4 J8 J7 J3).bind fun t341 => (if t341 = 0 then ((Zv.f k Jx Jv Ju Jt Js Jr Jq Jo Jm J2 J6 Jl Jk J5).bind fun t342 => ((Zv.f k Jj Jh Jg Jf Je Jd Jc Jb Ja J9 J4 J8 J7 J3).bind fun t345 => (if (wrap64 ((t342.length : Int) + (t345.length : Int))) > 12 then (some 3) else (some 0)))) else (some t341))) else (some t340))) = some r := h
 clear h
 replace H := Option.bind_eq_some_iff.mp H
 obtain ⟨t340, A20, H⟩ := H
 replace H : (if t340 = 0 then ((Zz.f k Jj Jh Jg Jf Je Jd Jc Jb Ja J9 J4 J8 J7 J3).bind fun t341 => (if t341 = 0 then ((Zv.f k Jx Jv Ju Jt Js Jr Jq Jo Jm J2 J6 Jl Jk J5).bind fun t342 => ((Zv.f k Jj Jh Jg Jf Je Jd Jc Jb Ja J9 J4 J8 J7 J3).bind fun t345 => (if (wrap64 ((t342.length : Int) + (t345.length : Int))) > 12 then (some 3) else (some 0)))) else (some t341))) else (some t340)) = some r := H
 have A2 := Zd.mk A20
 clear A20
 by_cases c3 : t340 = 0
 ·rw [if_pos c3] at H
  have c3b0 : (t340 == 0) = true := beq_iff_eq.mpr c3
  have c3b1 : (t340 != 0) = false := bne_eq_false_iff_eq.mpr c3
  clear c3
  replace H := Option.bind_eq_some_iff.mp H
  obtain ⟨t341, A40, H⟩ := H
  replace H : (if t341 = 0 then ((Zv.f k Jx Jv Ju Jt Js Jr Jq Jo Jm J2 J6 Jl Jk J5).bind fun t342 => ((Zv.f k Jj Jh Jg Jf Je Jd Jc Jb Ja J9 J4 J8 J7 J3).bind fun t345 => (if (wrap64 ((t342.length : Int) + (t345.length : Int))) > 12 then (some 3) else (some 0)))) else (some t341)) = some r := H
  have A4 := Zd.mk A40
  clear A40
  by_cases c5 : t341 = 0
  ·rw [if_pos c5] at H
   have c5b0 : (t341 == 0) = true := beq_iff_eq.mpr c5
   have c5b1 : (t341 != 0) = false := bne_eq_false_iff_eq.mpr c5
   clear c5
   replace H := Option.bind_eq_some_iff.mp H
   obtain ⟨t342, A60, H⟩ := H
   replace H : ((Zv.f k Jj Jh Jg Jf Je Jd Jc Jb Ja J9 J4 J8 J7 J3).bind fun t345 => (if (wrap64 ((t342.length : Int) + (t345.length : Int))) > 12 then (some 3) else (some 0))) = some r := H
   have A6 := Zd.mk A60
   clear A60
   replace H := Option.bind_eq_some_iff.mp H
   obtain ⟨t345, A70, H⟩ := H
   replace H : (if (wrap64 ((t342.length : Int) + (t345.length : Int))) > 12 then (some 3) else (some 0)) = some r := H
   have A7 := Zd.mk A70
   clear A70
   by_cases c8 : (wrap64 ((t342.length : Int) + (t345.length : Int))) > 12
   ·rw [if_pos c8] at H
    have c8b0 : decide (12 < (wrap64 ((t342.length : Int) + (t345.length : Int)))) = true := decide_eq_true c8
    clear c8
    obtain rfl := Option.some.inj H
    go_enter Try.func9, Try.ntmps9
    try go_wp2_with (first | ((with_reducible refine Xd (N := 1) rfl ?_); refine Xe ?hg (N := 1) ?hd (cs := #[.string JA, .int .i64 Jz, .int .i64 Jx, .int .i64 Jv, .int .i64 Ju, .bool Jt, .int .i64 Js, .int .u64 Jr, .int .u64 Jq, .int .i64 Jo, .bool Jm, .int .i64 J2, .slice A0_12 J6.length c0_12, .int .i64 Jl, .int .i64 Jk, .slice A0_15 J5.length c0_15, .int .i64 Jj, .int .i64 Jh, .int .i64 Jg, .bool Jf, .int .i64 Je, .int .u64 Jd, .int .u64 Jc, .int .i64 Jb, .bool Ja, .int .i64 J9, .slice A0_26 J4.length c0_26, .int .i64 J8, .int .i64 J7, .slice A0_29 J3.length c0_29, .bool JC, .int .i64 JB]) (t := 32) ?hr ?_; (case hd => rfl); (case hg => rfl); (case hr => first | (go_simp; done) | (go_simp; rfl)); intro J1 hg w9 hbox hb; have n0_ := Zd.mk (Zj HB.out hb); have n1_ := Zd.mk (hbox); have n2_ := Zd.mk ((by rw [hg]; exact (Zl HB.out) : w.heap.size ≤ J1)); have n3_ := n2_; clear HB; have HB := n0_; have J0 := n1_; have GW339 := n2_; have GE339 := n3_; clear n0_ n1_ n2_ n3_; clear hb hbox hg; have hcz10_0 : w9.cell? ⟨J1, 0, none⟩ = some (.string JA) := (Za J0.out 0).trans rfl; have hcz10_1 : w9.cell? ⟨J1, 1, none⟩ = some (.int .i64 Jz) := (Za J0.out 1).trans rfl; have hcz10_2 : w9.cell? ⟨J1, 2, none⟩ = some (.int .i64 Jx) := (Za J0.out 2).trans rfl; have hcz10_3 : w9.cell? ⟨J1, 3, none⟩ = some (.int .i64 Jv) := (Za J0.out 3).trans rfl; have hcz10_4 : w9.cell? ⟨J1, 4, none⟩ = some (.int .i64 Ju) := (Za J0.out 4).trans rfl; have hcz10_5 : w9.cell? ⟨J1, 5, none⟩ = some (.bool Jt) := (Za J0.out 5).trans rfl; have hcz10_6 : w9.cell? ⟨J1, 6, none⟩ = some (.int .i64 Js) := (Za J0.out 6).trans rfl; have hcz10_7 : w9.cell? ⟨J1, 7, none⟩ = some (.int .u64 Jr) := (Za J0.out 7).trans rfl; have hcz10_8 : w9.cell? ⟨J1, 8, none⟩ = some (.int .u64 Jq) := (Za J0.out 8).trans rfl; have hcz10_9 : w9.cell? ⟨J1, 9, none⟩ = some (.int .i64 Jo) := (Za J0.out 9).trans rfl; have hcz10_10 : w9.cell? ⟨J1, 10, none⟩ = some (.bool Jm) := (Za J0.out 10).trans rfl; have hcz10_11 : w9.cell? ⟨J1, 11, none⟩ = some (.int .i64 J2) := (Za J0.out 11).trans rfl; have hcz10_12 : w9.cell? ⟨J1, 12, none⟩ = some (.slice A0_12 J6.length c0_12) := (Za J0.out 12).trans rfl; have hcz10_13 : w9.cell? ⟨J1, 13, none⟩ = some (.int .i64 Jl) := (Za J0.out 13).trans rfl; have hcz10_14 : w9.cell? ⟨J1, 14, none⟩ = some (.int .i64 Jk) := (Za J0.out 14).trans rfl; have hcz10_15 : w9.cell? ⟨J1, 15, none⟩ = some (.slice A0_15 J5.length c0_15) := (Za J0.out 15).trans rfl; have hcz10_16 : w9.cell? ⟨J1, 16, none⟩ = some (.int .i64 Jj) := (Za J0.out 16).trans rfl; have hcz10_17 : w9.cell? ⟨J1, 17, none⟩ = some (.int .i64 Jh) := (Za J0.out 17).trans rfl; have hcz10_18 : w9.cell? ⟨J1, 18, none⟩ = some (.int .i64 Jg) := (Za J0.out 18).trans rfl; have hcz10_19 : w9.cell? ⟨J1, 19, none⟩ = some (.bool Jf) := (Za J0.out 19).trans rfl; have hcz10_20 : w9.cell? ⟨J1, 20, none⟩ = some (.int .i64 Je) := (Za J0.out 20).trans rfl; have hcz10_21 : w9.cell? ⟨J1, 21, none⟩ = some (.int .u64 Jd) := (Za J0.out 21).trans rfl; have hcz10_22 : w9.cell? ⟨J1, 22, none⟩ = some (.int .u64 Jc) := (Za J0.out 22).trans rfl; have hcz10_23 : w9.cell? ⟨J1, 23, none⟩ = some (.int .i64 Jb) := (Za J0.out 23).trans rfl; have hcz10_24 : w9.cell? ⟨J1, 24, none⟩ = some (.bool Ja) := (Za J0.out 24).trans rfl; have hcz10_25 : w9.cell? ⟨J1, 25, none⟩ = some (.int .i64 J9) := (Za J0.out 25).trans rfl; have hcz10_26 : w9.cell? ⟨J1, 26, none⟩ = some (.slice A0_26 J4.length c0_26) := (Za J0.out 26).trans rfl; have hcz10_27 : w9.cell? ⟨J1, 27, none⟩ = some (.int .i64 J8) := (Za J0.out 27).trans rfl; have hcz10_28 : w9.cell? ⟨J1, 28, none⟩ = some (.int .i64 J7) := (Za J0.out 28).trans rfl; have hcz10_29 : w9.cell? ⟨J1, 29, none⟩ = some (.slice A0_29 J3.length c0_29) := (Za J0.out 29).trans rfl; have hcz10_30 : w9.cell? ⟨J1, 30, none⟩ = some (.bool JC) := (Za J0.out 30).trans rfl; have hcz10_31 : w9.cell? ⟨J1, 31, none⟩ = some (.int .i64 JB) := (Za J0.out 31).trans rfl; have hfz10_0 := Zb J0.out 0; have hfz10_1 := Zb J0.out 1; have hfz10_2 := Zb J0.out 2; have hfz10_3 := Zb J0.out 3; have hfz10_4 := Zb J0.out 4; have hfz10_5 := Zb J0.out 5; have hfz10_6 := Zb J0.out 6; have hfz10_7 := Zb J0.out 7; have hfz10_8 := Zb J0.out 8; have hfz10_9 := Zb J0.out 9; have hfz10_10 := Zb J0.out 10; have hfz10_11 := Zb J0.out 11; have hfz10_12 := Zb J0.out 12; have hfz10_13 := Zb J0.out 13; have hfz10_14 := Zb J0.out 14; have hfz10_15 := Zb J0.out 15; have hfz10_16 := Zb J0.out 16; have hfz10_17 := Zb J0.out 17; have hfz10_18 := Zb J0.out 18; have hfz10_19 := Zb J0.out 19; have hfz10_20 := Zb J0.out 20; have hfz10_21 := Zb J0.out 21; have hfz10_22 := Zb J0.out 22; have hfz10_23 := Zb J0.out 23; have hfz10_24 := Zb J0.out 24; have hfz10_25 := Zb J0.out 25; have hfz10_26 := Zb J0.out 26; have hfz10_27 := Zb J0.out 27; have hfz10_28 := Zb J0.out 28; have hfz10_29 := Zb J0.out 29; have hfz10_30 := Zb J0.out 30; have hfz10_31 := Zb J0.out 31) | ((with_reducible refine Zx (f := 8) rfl ?_); refine Xz (some 7) rfl rfl Try.func8 (by kernel_rfl) rfl #[.agg #[.int .i64 Jx, .int .i64 Jv, .int .i64 Ju, .bool Jt, .int .i64 Js, .int .u64 Jr, .int .u64 Jq, .int .i64 Jo, .bool Jm, .int .i64 J2, .slice A0_12 J6.length c0_12, .int .i64 Jl, .int .i64 Jk, .slice A0_15 J5.length c0_15]] rfl (by (try simp only [List.map_toArray, List.map_cons, List.map_nil]); first | done | rfl | (simp only [List.length_drop, List.length_take]; rfl)) ?_; (with_reducible refine (Zz.calls k Jx Jv Ju Jt Js Jr Jq Jo Jm J2 _ _ J6 Jl Jk _ _ J5 t340 _ ?side1 ?side2 ?side3 ?side4 A2.out).mono ?_); (case side1 => exact (Kd.Zw HR0_12.out HB.out)); (case side2 => exact HC0_12.out); (case side3 => exact (Kd.Zw HR0_15.out HB.out)); (case side4 => exact HC0_15.out); rintro e w11 ⟨rfl, hb⟩; refine ⟨_, rfl, ?_⟩; have n0_ := Zd.mk (Zp J0.out hb); have n1_ := Zd.mk (Zj HB.out hb); clear J0; clear HB; have J0 := n0_; have HB := n1_; clear n0_ n1_; (try clear hb); (try clear hb2); (try clear hk); (try clear hi); have hcz12_0 : w11.cell? ⟨J1, 0, none⟩ = some (.string JA) := (Za J0.out 0).trans rfl; have hcz12_1 : w11.cell? ⟨J1, 1, none⟩ = some (.int .i64 Jz) := (Za J0.out 1).trans rfl; have hcz12_2 : w11.cell? ⟨J1, 2, none⟩ = some (.int .i64 Jx) := (Za J0.out 2).trans rfl; have hcz12_3 : w11.cell? ⟨J1, 3, none⟩ = some (.int .i64 Jv) := (Za J0.out 3).trans rfl; have hcz12_4 : w11.cell? ⟨J1, 4, none⟩ = some (.int .i64 Ju) := (Za J0.out 4).trans rfl; have hcz12_5 : w11.cell? ⟨J1, 5, none⟩ = some (.bool Jt) := (Za J0.out 5).trans rfl; have hcz12_6 : w11.cell? ⟨J1, 6, none⟩ = some (.int .i64 Js) := (Za J0.out 6).trans rfl; have hcz12_7 : w11.cell? ⟨J1, 7, none⟩ = some (.int .u64 Jr) := (Za J0.out 7).trans rfl; have hcz12_8 : w11.cell? ⟨J1, 8, none⟩ = some (.int .u64 Jq) := (Za J0.out 8).trans rfl; have hcz12_9 : w11.cell? ⟨J1, 9, none⟩ = some (.int .i64 Jo) := (Za J0.out 9).trans rfl; have hcz12_10 : w11.cell? ⟨J1, 10, none⟩ = some (.bool Jm) := (Za J0.out 10).trans rfl; have hcz12_11 : w11.cell? ⟨J1, 11, none⟩ = some (.int .i64 J2) := (Za J0.out 11).trans rfl; have hcz12_12 : w11.cell? ⟨J1, 12, none⟩ = some (.slice A0_12 J6.length c0_12) := (Za J0.out 12).trans rfl; have hcz12_13 : w11.cell? ⟨J1, 13, none⟩ = some (.int .i64 Jl) := (Za J0.out 13).trans rfl; have hcz12_14 : w11.cell? ⟨J1, 14, none⟩ = some (.int .i64 Jk) := (Za J0.out 14).trans rfl; have hcz12_15 : w11.cell? ⟨J1, 15, none⟩ = some (.slice A0_15 J5.length c0_15) := (Za J0.out 15).trans rfl; have hcz12_16 : w11.cell? ⟨J1, 16, none⟩ = some (.int .i64 Jj) := (Za J0.out 16).trans rfl; have hcz12_17 : w11.cell? ⟨J1, 17, none⟩ = some (.int .i64 Jh) := (Za J0.out 17).trans rfl; have hcz12_18 : w11.cell? ⟨J1, 18, none⟩ = some (.int .i64 Jg) := (Za J0.out 18).trans rfl; have hcz12_19 : w11.cell? ⟨J1, 19, none⟩ = some (.bool Jf) := (Za J0.out 19).trans rfl; have hcz12_20 : w11.cell? ⟨J1, 20, none⟩ = some (.int .i64 Je) := (Za J0.out 20).trans rfl; have hcz12_21 : w11.cell? ⟨J1, 21, none⟩ = some (.int .u64 Jd) := (Za J0.out 21).trans rfl; have hcz12_22 : w11.cell? ⟨J1, 22, none⟩ = some (.int .u64 Jc) := (Za J0.out 22).trans rfl; have hcz12_23 : w11.cell? ⟨J1, 23, none⟩ = some (.int .i64 Jb) := (Za J0.out 23).trans rfl; have hcz12_24 : w11.cell? ⟨J1, 24, none⟩ = some (.bool Ja) := (Za J0.out 24).trans rfl; have hcz12_25 : w11.cell? ⟨J1, 25, none⟩ = some (.int .i64 J9) := (Za J0.out 25).trans rfl; have hcz12_26 : w11.cell? ⟨J1, 26, none⟩ = some (.slice A0_26 J4.length c0_26) := (Za J0.out 26).trans rfl; have hcz12_27 : w11.cell? ⟨J1, 27, none⟩ = some (.int .i64 J8) := (Za J0.out 27).trans rfl; have hcz12_28 : w11.cell? ⟨J1, 28, none⟩ = some (.int .i64 J7) := (Za J0.out 28).trans rfl; have hcz12_29 : w11.cell? ⟨J1, 29, none⟩ = some (.slice A0_29 J3.length c0_29) := (Za J0.out 29).trans rfl; have hcz12_30 : w11.cell? ⟨J1, 30, none⟩ = some (.bool JC) := (Za J0.out 30).trans rfl; have hcz12_31 : w11.cell? ⟨J1, 31, none⟩ = some (.int .i64 JB) := (Za J0.out 31).trans rfl; have hfz12_0 := Zb J0.out 0; have hfz12_1 := Zb J0.out 1; have hfz12_2 := Zb J0.out 2; have hfz12_3 := Zb J0.out 3; have hfz12_4 := Zb J0.out 4; have hfz12_5 := Zb J0.out 5; have hfz12_6 := Zb J0.out 6; have hfz12_7 := Zb J0.out 7; have hfz12_8 := Zb J0.out 8; have hfz12_9 := Zb J0.out 9; have hfz12_10 := Zb J0.out 10; have hfz12_11 := Zb J0.out 11; have hfz12_12 := Zb J0.out 12; have hfz12_13 := Zb J0.out 13; have hfz12_14 := Zb J0.out 14; have hfz12_15 := Zb J0.out 15; have hfz12_16 := Zb J0.out 16; have hfz12_17 := Zb J0.out 17; have hfz12_18 := Zb J0.out 18; have hfz12_19 := Zb J0.out 19; have hfz12_20 := Zb J0.out 20; have hfz12_21 := Zb J0.out 21; have hfz12_22 := Zb J0.out 22; have hfz12_23 := Zb J0.out 23; have hfz12_24 := Zb J0.out 24; have hfz12_25 := Zb J0.out 25; have hfz12_26 := Zb J0.out 26; have hfz12_27 := Zb J0.out 27; have hfz12_28 := Zb J0.out 28; have hfz12_29 := Zb J0.out 29; have hfz12_30 := Zb J0.out 30; have hfz12_31 := Zb J0.out 31) | ((with_reducible refine Zx (f := 8) rfl ?_); refine Xz (some 13) rfl rfl Try.func8 (by kernel_rfl) rfl #[.agg #[.int .i64 Jj, .int .i64 Jh, .int .i64 Jg, .bool Jf, .int .i64 Je, .int .u64 Jd, .int .u64 Jc, .int .i64 Jb, .bool Ja, .int .i64 J9, .slice A0_26 J4.length c0_26, .int .i64 J8, .int .i64 J7, .slice A0_29 J3.length c0_29]] rfl (by (try simp only [List.map_toArray, List.map_cons, List.map_nil]); first | done | rfl | (simp only [List.length_drop, List.length_take]; rfl)) ?_; (with_reducible refine (Zz.calls k Jj Jh Jg Jf Je Jd Jc Jb Ja J9 _ _ J4 J8 J7 _ _ J3 t341 _ ?side1 ?side2 ?side3 ?side4 A4.out).mono ?_); (case side1 => exact (Kd.Zw HR0_26.out HB.out)); (case side2 => exact HC0_26.out); (case side3 => exact (Kd.Zw HR0_29.out HB.out)); (case side4 => exact HC0_29.out); rintro e w13 ⟨rfl, hb⟩; refine ⟨_, rfl, ?_⟩; have n0_ := Zd.mk (Zp J0.out hb); have n1_ := Zd.mk (Zj HB.out hb); clear J0; clear HB; have J0 := n0_; have HB := n1_; clear n0_ n1_; (try clear hb); (try clear hb2); (try clear hk); (try clear hi)))
    have n0_ := Zd.mk (Zg J0.out)
    have n1_ := Zd.mk (Xj HB.out)
    clear J0
    clear HB
    have J0 := n0_
    have HB := n1_
    clear n0_ n1_
    refine start_ (n := 10) (S := fun w' => w'.cell? ⟨J1, 0, none⟩ = some (.string JA) ∧ w'.cell? ⟨J1, 1, none⟩ = some (.int .i64 Jz) ∧ w'.cell? ⟨J1, 2, none⟩ = some (.int .i64 Jx) ∧ w'.cell? ⟨J1, 3, none⟩ = some (.int .i64 Jv) ∧ w'.cell? ⟨J1, 4, none⟩ = some (.int .i64 Ju) ∧ w'.cell? ⟨J1, 5, none⟩ = some (.bool Jt) ∧ w'.cell? ⟨J1, 6, none⟩ = some (.int .i64 Js) ∧ w'.cell? ⟨J1, 7, none⟩ = some (.int .u64 Jr) ∧ w'.cell? ⟨J1, 8, none⟩ = some (.int .u64 Jq) ∧ w'.cell? ⟨J1, 9, none⟩ = some (.int .i64 Jo) ∧ w'.cell? ⟨J1, 10, none⟩ = some (.bool Jm) ∧ w'.cell? ⟨J1, 11, none⟩ = some (.int .i64 J2) ∧ w'.cell? ⟨J1, 12, none⟩ = some (.slice A0_12 J6.length c0_12) ∧ w'.cell? ⟨J1, 13, none⟩ = some (.int .i64 Jl) ∧ w'.cell? ⟨J1, 14, none⟩ = some (.int .i64 Jk) ∧ w'.cell? ⟨J1, 15, none⟩ = some (.slice A0_15 J5.length c0_15) ∧ w'.cell? ⟨J1, 16, none⟩ = some (.int .i64 Jj) ∧ w'.cell? ⟨J1, 17, none⟩ = some (.int .i64 Jh) ∧ w'.cell? ⟨J1, 18, none⟩ = some (.int .i64 Jg) ∧ w'.cell? ⟨J1, 19, none⟩ = some (.bool Jf) ∧ w'.cell? ⟨J1, 20, none⟩ = some (.int .i64 Je) ∧ w'.cell? ⟨J1, 21, none⟩ = some (.int .u64 Jd) ∧ w'.cell? ⟨J1, 22, none⟩ = some (.int .u64 Jc) ∧ w'.cell? ⟨J1, 23, none⟩ = some (.int .i64 Jb) ∧ w'.cell? ⟨J1, 24, none⟩ = some (.bool Ja) ∧ w'.cell? ⟨J1, 25, none⟩ = some (.int .i64 J9) ∧ w'.cell? ⟨J1, 26, none⟩ = some (.slice A0_26 J4.length c0_26) ∧ w'.cell? ⟨J1, 27, none⟩ = some (.int .i64 J8) ∧ w'.cell? ⟨J1, 28, none⟩ = some (.int .i64 J7) ∧ w'.cell? ⟨J1, 29, none⟩ = some (.slice A0_29 J3.length c0_29) ∧ w'.cell? ⟨J1, 30, none⟩ = some (.bool JC) ∧ w'.cell? ⟨J1, 31, none⟩ = some (.int .i64 JB)) (ds := []) #[false, false, false, false, false, false, false, false, false, false] (by kernel_rfl) rfl rfl ⟨(Za J0.out 0).trans rfl, (Za J0.out 1).trans rfl, (Za J0.out 2).trans rfl, (Za J0.out 3).trans rfl, (Za J0.out 4).trans rfl, (Za J0.out 5).trans rfl, (Za J0.out 6).trans rfl, (Za J0.out 7).trans rfl, (Za J0.out 8).trans rfl, (Za J0.out 9).trans rfl, (Za J0.out 10).trans rfl, (Za J0.out 11).trans rfl, (Za J0.out 12).trans rfl, (Za J0.out 13).trans rfl, (Za J0.out 14).trans rfl, (Za J0.out 15).trans rfl, (Za J0.out 16).trans rfl, (Za J0.out 17).trans rfl, (Za J0.out 18).trans rfl, (Za J0.out 19).trans rfl, (Za J0.out 20).trans rfl, (Za J0.out 21).trans rfl, (Za J0.out 22).trans rfl, (Za J0.out 23).trans rfl, (Za J0.out 24).trans rfl, (Za J0.out 25).trans rfl, (Za J0.out 26).trans rfl, (Za J0.out 27).trans rfl, (Za J0.out 28).trans rfl, (Za J0.out 29).trans rfl, (Za J0.out 30).trans rfl, (Za J0.out 31).trans rfl⟩ (fun hHeld => ?_); refine Ji Xt.tab7 Xt.bits7 (fun HT_ HW_ => ?_)
    generalize w13.drew = w14 at J0 HB hHeld ⊢
    refine Qe (i := 0) (N := some 17) (v := ?_) (a' := ?_) #[true, false, false, false, false, false, false, false, false, false] rfl rfl (Xu HT_.out (by kernel_rfl)) (fun _ _ _ h => h) (Or.inl ⟨by rfl, ?_⟩) ?_ ?_
    rotate_left
    ·intro w'
     go_simp
     with_reducible rfl
    rotate_left
    ·simp only [Act.put, List.setIfInBounds_toArray, List.set_cons_zero, List.set_cons_succ, Xk]
     rfl
    refine Qe (i := 4) (N := some 21) (v := ?_) (a' := ?_) #[true, false, false, false, true, false, false, false, false, false] rfl rfl (Xu HT_.out (by kernel_rfl)) (fun _ _ _ h => h) (Or.inl ⟨by rfl, ?_⟩) ?_ ?_
    rotate_left
    ·intro w'
     go_simp
     with_reducible rfl
    rotate_left
    ·simp only [Act.put, List.setIfInBounds_toArray, List.set_cons_zero, List.set_cons_succ, Xk]
     rfl
    refine Vx (i := 1) (N := some 18) (v := ?_) (a' := ?_) #[true, true, false, false, true, false, false, false, false, false] rfl rfl (Ql HT_.out HW_.out (by kernel_rfl)) (fun _ _ _ h => h) (Or.inl ⟨by rfl, ?_⟩) hHeld ?_ ?_
    rotate_left
    ·rintro w' ⟨s0, s1, s2, s3, s4, s5, s6, s7, s8, s9, s10, s11, s12, s13, s14, s15, s16, s17, s18, s19, s20, s21, s22, s23, s24, s25, s26, s27, s28, s29, s30, s31⟩
     go_simp
     with_reducible rfl
    rotate_left
    ·simp only [Act.put, List.setIfInBounds_toArray, List.set_cons_zero, List.set_cons_succ, Xk]
     rfl
    refine Vx (i := 5) (N := some 22) (v := ?_) (a' := ?_) #[true, true, false, false, true, true, false, false, false, false] rfl rfl (Ql HT_.out HW_.out (by kernel_rfl)) (fun _ _ _ h => h) (Or.inl ⟨by rfl, ?_⟩) hHeld ?_ ?_
    rotate_left
    ·rintro w' ⟨s0, s1, s2, s3, s4, s5, s6, s7, s8, s9, s10, s11, s12, s13, s14, s15, s16, s17, s18, s19, s20, s21, s22, s23, s24, s25, s26, s27, s28, s29, s30, s31⟩
     go_simp
     with_reducible rfl
    rotate_left
    ·simp only [Act.put, List.setIfInBounds_toArray, List.set_cons_zero, List.set_cons_succ, Xk]
     rfl
    refine one_ (i := 2) (N := some 19) #[true, true, true, false, true, true, false, false, false, false] rfl rfl (Vt HT_.out (by kernel_rfl)) (by decide) (fun K hK => ?_)
    refine Wp Try.func18 (by kernel_rfl) rfl #[.agg #[.int .i64 Jx, .int .i64 Jv, .int .i64 Ju, .bool Jt, .int .i64 Js, .int .u64 Jr, .int .u64 Jq, .int .i64 Jo, .bool Jm, .int .i64 J2, .slice A0_12 J6.length c0_12, .int .i64 Jl, .int .i64 Jk, .slice A0_15 J5.length c0_15]] (by rfl) rfl rfl (by (try simp only [List.map_toArray, List.map_cons, List.map_nil]); first | done | rfl | (simp only [List.length_drop, List.length_take]; rfl)) ?_
    with_reducible refine (Zv.calls k Jx Jv Ju Jt Js Jr Jq Jo Jm J2 (fun k_ => k_ < w.heap.size) _ _ J6 Jl Jk (fun k_ => k_ < w.heap.size) _ _ J5 t342 _ ?side1 ?side2 A6.out).mono ?_
    (case side1 => exact Kd.Wj HC0_12.out (Kd.Vj (Kd.C_F Jp HR0_12.out) HB.out))
    (case side2 => exact Kd.Wj HC0_15.out (Kd.Vj (Kd.C_F Jy HR0_15.out) HB.out))
    rintro e w15 ⟨v343, rfl, ho0, hb⟩
    refine ⟨_, rfl, ?_⟩
    have n0_ := Zd.mk (Kd.Vb (Kd.Xq (ok' := fun k_ => k_ ≠ J1) ho0 (fun k_ hk_ => Or.elim hk_ (fun hs_ => Or.elim hs_ (fun hs_ => fun e_ => Nat.not_le.2 hs_ (by rw [e_]; exact GW339.out)) (fun hs_ => fun e_ => Nat.not_le.2 hs_ (by rw [e_]; exact GW339.out))) (fun hn_ => (Kd.Kw J0.out k_ hn_)))) (Zl HB.out))
    have n1_ := Zd.mk (Zp J0.out hb)
    have n2_ := Zd.mk (Zj HB.out hb)
    clear J0
    clear HB
    have HO344 := n0_
    have J0 := n1_
    have HB := n2_
    clear n0_ n1_ n2_
    (try clear hb)
    (try clear hb2)
    (try clear hk)
    (try clear hi)
    (try clear ho0)
    obtain ⟨Ao16, co16, eo16⟩ := Kd.Va HO344.out
    (first | subst eo16 | (injection eo16 with f1_ f2_ f3_; have f4_ := f1_.symm; have f5_ := f3_.symm; clear f1_ f2_ f3_; subst f4_; subst f5_))
    refine hK.out _ _ ⟨(Za J0.out 0).trans rfl, (Za J0.out 1).trans rfl, (Za J0.out 2).trans rfl, (Za J0.out 3).trans rfl, (Za J0.out 4).trans rfl, (Za J0.out 5).trans rfl, (Za J0.out 6).trans rfl, (Za J0.out 7).trans rfl, (Za J0.out 8).trans rfl, (Za J0.out 9).trans rfl, (Za J0.out 10).trans rfl, (Za J0.out 11).trans rfl, (Za J0.out 12).trans rfl, (Za J0.out 13).trans rfl, (Za J0.out 14).trans rfl, (Za J0.out 15).trans rfl, (Za J0.out 16).trans rfl, (Za J0.out 17).trans rfl, (Za J0.out 18).trans rfl, (Za J0.out 19).trans rfl, (Za J0.out 20).trans rfl, (Za J0.out 21).trans rfl, (Za J0.out 22).trans rfl, (Za J0.out 23).trans rfl, (Za J0.out 24).trans rfl, (Za J0.out 25).trans rfl, (Za J0.out 26).trans rfl, (Za J0.out 27).trans rfl, (Za J0.out 28).trans rfl, (Za J0.out 29).trans rfl, (Za J0.out 30).trans rfl, (Za J0.out 31).trans rfl⟩ (fun hHeld => ?_)
    clear hK K
    refine Jw (a' := ?_) ?_ ?_
    rotate_left
    ·show Act.put _ (some 19) _ = _
     simp only [Act.put, List.setIfInBounds_toArray, List.set_cons_zero, List.set_cons_succ, Xk]
     rfl
    refine Qe (i := 3) (N := some 20) (v := ?_) (a' := ?_) #[true, true, true, true, true, true, false, false, false, false] rfl rfl (Xu HT_.out (by kernel_rfl)) (fun _ _ _ h => h) (Or.inl ⟨by rfl, ?_⟩) ?_ ?_
    rotate_left
    ·intro w'
     go_simp
     with_reducible rfl
    rotate_left
    ·simp only [Act.put, List.setIfInBounds_toArray, List.set_cons_zero, List.set_cons_succ, Xk]
     rfl
    refine one_ (i := 6) (N := some 23) #[true, true, true, true, true, true, true, false, false, false] rfl rfl (Vt HT_.out (by kernel_rfl)) (by decide) (fun K hK => ?_)
    refine Wp Try.func18 (by kernel_rfl) rfl #[.agg #[.int .i64 Jj, .int .i64 Jh, .int .i64 Jg, .bool Jf, .int .i64 Je, .int .u64 Jd, .int .u64 Jc, .int .i64 Jb, .bool Ja, .int .i64 J9, .slice A0_26 J4.length c0_26, .int .i64 J8, .int .i64 J7, .slice A0_29 J3.length c0_29]] (by rfl) rfl rfl (by (try simp only [List.map_toArray, List.map_cons, List.map_nil]); first | done | rfl | (simp only [List.length_drop, List.length_take]; rfl)) ?_
    with_reducible refine (Zv.calls k Jj Jh Jg Jf Je Jd Jc Jb Ja J9 (fun k_ => k_ < w.heap.size) _ _ J4 J8 J7 (fun k_ => k_ < w.heap.size) _ _ J3 t345 _ ?side1 ?side2 A7.out).mono ?_
    (case side1 => exact Kd.Wj HC0_26.out (Kd.Vj (Kd.C_F Jp HR0_26.out) HB.out))
    (case side2 => exact Kd.Wj HC0_29.out (Kd.Vj (Kd.C_F Jy HR0_29.out) HB.out))
    rintro e w17 ⟨v346, rfl, ho0, hb⟩
    refine ⟨_, rfl, ?_⟩
    have n0_ := Zd.mk (Kd.Qs HO344.out (Kd.Qr ho0) hb)
    have n1_ := Zd.mk (Kd.Vb (Kd.Xq (ok' := fun k_ => some k_ ≠ (.slice Ao16 t342.length co16 : Value).ownBlock ∧ k_ ≠ J1) ho0 (fun k_ hk_ => ⟨Or.elim hk_ (fun hs_ => Or.elim hs_ (fun hs_ => fun e_ => Nat.not_le.2 hs_ (Kd.Qr HO344.out k_ e_.symm)) (fun hs_ => fun e_ => Nat.not_le.2 hs_ (Kd.Qr HO344.out k_ e_.symm))) (fun hn_ => (Kd.Vu (Kd.N_lt HO344.out) k_ hn_)), Or.elim hk_ (fun hs_ => Or.elim hs_ (fun hs_ => fun e_ => Nat.not_le.2 hs_ (by rw [e_]; exact GW339.out)) (fun hs_ => fun e_ => Nat.not_le.2 hs_ (by rw [e_]; exact GW339.out))) (fun hn_ => (Kd.Kw J0.out k_ hn_))⟩)) (Zl HB.out))
    have n2_ := Zd.mk (Zp J0.out hb)
    have n3_ := Zd.mk (Zj HB.out hb)
    clear HO344
    clear J0
    clear HB
    have HO344 := n0_
    have HO347 := n1_
    have J0 := n2_
    have HB := n3_
    clear n0_ n1_ n2_ n3_
    (try clear hb)
    (try clear hb2)
    (try clear hk)
    (try clear hi)
    (try clear ho0)
    obtain ⟨Ao18, co18, eo18⟩ := Kd.Va HO347.out
    (first | subst eo18 | (injection eo18 with f1_ f2_ f3_; have f4_ := f1_.symm; have f5_ := f3_.symm; clear f1_ f2_ f3_; subst f4_; subst f5_))
    refine hK.out _ _ ⟨(Za J0.out 0).trans rfl, (Za J0.out 1).trans rfl, (Za J0.out 2).trans rfl, (Za J0.out 3).trans rfl, (Za J0.out 4).trans rfl, (Za J0.out 5).trans rfl, (Za J0.out 6).trans rfl, (Za J0.out 7).trans rfl, (Za J0.out 8).trans rfl, (Za J0.out 9).trans rfl, (Za J0.out 10).trans rfl, (Za J0.out 11).trans rfl, (Za J0.out 12).trans rfl, (Za J0.out 13).trans rfl, (Za J0.out 14).trans rfl, (Za J0.out 15).trans rfl, (Za J0.out 16).trans rfl, (Za J0.out 17).trans rfl, (Za J0.out 18).trans rfl, (Za J0.out 19).trans rfl, (Za J0.out 20).trans rfl, (Za J0.out 21).trans rfl, (Za J0.out 22).trans rfl, (Za J0.out 23).trans rfl, (Za J0.out 24).trans rfl, (Za J0.out 25).trans rfl, (Za J0.out 26).trans rfl, (Za J0.out 27).trans rfl, (Za J0.out 28).trans rfl, (Za J0.out 29).trans rfl, (Za J0.out 30).trans rfl, (Za J0.out 31).trans rfl⟩ (fun hHeld => ?_)
    clear hK K
    refine Jw (a' := ?_) ?_ ?_
    rotate_left
    ·show Act.put _ (some 23) _ = _
     simp only [Act.put, List.setIfInBounds_toArray, List.set_cons_zero, List.set_cons_succ, Xk]
     rfl
    refine Qe (i := 7) (N := some 24) (v := ?_) (a' := ?_) #[true, true, true, true, true, true, true, true, false, false] rfl rfl (Xu HT_.out (by kernel_rfl)) (fun _ _ _ h => h) (Or.inl ⟨by rfl, ?_⟩) ?_ ?_
    rotate_left
    ·intro w'
     go_simp
     with_reducible rfl
    rotate_left
    ·simp only [Act.put, List.setIfInBounds_toArray, List.set_cons_zero, List.set_cons_succ, Xk]
     rfl
    refine Qe (i := 8) (N := some 25) (v := ?_) (a' := ?_) #[true, true, true, true, true, true, true, true, true, false] rfl rfl (Xu HT_.out (by kernel_rfl)) (fun _ _ _ h => h) (Or.inl ⟨by rfl, ?_⟩) ?_ ?_
    rotate_left
    ·intro w'
     go_simp
     with_reducible rfl
    rotate_left
    ·simp only [Act.put, List.setIfInBounds_toArray, List.set_cons_zero, List.set_cons_succ, Xk]
     rfl
    refine Qe (i := 9) (N := some 26) (v := ?_) (a' := ?_) #[true, true, true, true, true, true, true, true, true, true] rfl rfl (Xu HT_.out (by kernel_rfl)) (fun _ _ _ h => h) (Or.inl ⟨by rfl, ?_⟩) ?_ ?_
    rotate_left
    ·intro w'
     go_simp
     with_reducible rfl
    rotate_left
    ·simp only [Act.put, List.setIfInBounds_toArray, List.set_cons_zero, List.set_cons_succ, Xk]
     rfl
    refine done_ (done_of HT_.out (by kernel_rfl)) ?_
    try go_wp2
    go_ret
    exact ⟨by first | rfl | (simp [errW_none, errW_some] <;> rfl) | (simp [*, errW_none, errW_some] <;> rfl), HB.out⟩
   ·rw [if_neg c8] at H
    have c8b0 : decide (12 < (wrap64 ((t342.length : Int) + (t345.length : Int)))) = false := decide_eq_false c8
    clear c8
    obtain rfl := Option.some.inj H
    go_enter Try.func9, Try.ntmps9
    try go_wp2_with (first | ((with_reducible refine Xd (N := 1) rfl ?_); refine Xe ?hg (N := 1) ?hd (cs := #[.string JA, .int .i64 Jz, .int .i64 Jx, .int .i64 Jv, .int .i64 Ju, .bool Jt, .int .i64 Js, .int .u64 Jr, .int .u64 Jq, .int .i64 Jo, .bool Jm, .int .i64 J2, .slice A0_12 J6.length c0_12, .int .i64 Jl, .int .i64 Jk, .slice A0_15 J5.length c0_15, .int .i64 Jj, .int .i64 Jh, .int .i64 Jg, .bool Jf, .int .i64 Je, .int .u64 Jd, .int .u64 Jc, .int .i64 Jb, .bool Ja, .int .i64 J9, .slice A0_26 J4.length c0_26, .int .i64 J8, .int .i64 J7, .slice A0_29 J3.length c0_29, .bool JC, .int .i64 JB]) (t := 32) ?hr ?_; (case hd => rfl); (case hg => rfl); (case hr => first | (go_simp; done) | (go_simp; rfl)); intro J1 hg w19 hbox hb; have n0_ := Zd.mk (Zj HB.out hb); have n1_ := Zd.mk (hbox); have n2_ := Zd.mk ((by rw [hg]; exact (Zl HB.out) : w.heap.size ≤ J1)); have n3_ := n2_; clear HB; have HB := n0_; have J0 := n1_; have GW339 := n2_; have GE339 := n3_; clear n0_ n1_ n2_ n3_; clear hb hbox hg; have hcz20_0 : w19.cell? ⟨J1, 0, none⟩ = some (.string JA) := (Za J0.out 0).trans rfl; have hcz20_1 : w19.cell? ⟨J1, 1, none⟩ = some (.int .i64 Jz) := (Za J0.out 1).trans rfl; have hcz20_2 : w19.cell? ⟨J1, 2, none⟩ = some (.int .i64 Jx) := (Za J0.out 2).trans rfl; have hcz20_3 : w19.cell? ⟨J1, 3, none⟩ = some (.int .i64 Jv) := (Za J0.out 3).trans rfl; have hcz20_4 : w19.cell? ⟨J1, 4, none⟩ = some (.int .i64 Ju) := (Za J0.out 4).trans rfl; have hcz20_5 : w19.cell? ⟨J1, 5, none⟩ = some (.bool Jt) := (Za J0.out 5).trans rfl; have hcz20_6 : w19.cell? ⟨J1, 6, none⟩ = some (.int .i64 Js) := (Za J0.out 6).trans rfl; have hcz20_7 : w19.cell? ⟨J1, 7, none⟩ = some (.int .u64 Jr) := (Za J0.out 7).trans rfl; have hcz20_8 : w19.cell? ⟨J1, 8, none⟩ = some (.int .u64 Jq) := (Za J0.out 8).trans rfl; have hcz20_9 : w19.cell? ⟨J1, 9, none⟩ = some (.int .i64 Jo) := (Za J0.out 9).trans rfl; have hcz20_10 : w19.cell? ⟨J1, 10, none⟩ = some (.bool Jm) := (Za J0.out 10).trans rfl; have hcz20_11 : w19.cell? ⟨J1, 11, none⟩ = some (.int .i64 J2) := (Za J0.out 11).trans rfl; have hcz20_12 : w19.cell? ⟨J1, 12, none⟩ = some (.slice A0_12 J6.length c0_12) := (Za J0.out 12).trans rfl; have hcz20_13 : w19.cell? ⟨J1, 13, none⟩ = some (.int .i64 Jl) := (Za J0.out 13).trans rfl; have hcz20_14 : w19.cell? ⟨J1, 14, none⟩ = some (.int .i64 Jk) := (Za J0.out 14).trans rfl; have hcz20_15 : w19.cell? ⟨J1, 15, none⟩ = some (.slice A0_15 J5.length c0_15) := (Za J0.out 15).trans rfl; have hcz20_16 : w19.cell? ⟨J1, 16, none⟩ = some (.int .i64 Jj) := (Za J0.out 16).trans rfl; have hcz20_17 : w19.cell? ⟨J1, 17, none⟩ = some (.int .i64 Jh) := (Za J0.out 17).trans rfl; have hcz20_18 : w19.cell? ⟨J1, 18, none⟩ = some (.int .i64 Jg) := (Za J0.out 18).trans rfl; have hcz20_19 : w19.cell? ⟨J1, 19, none⟩ = some (.bool Jf) := (Za J0.out 19).trans rfl; have hcz20_20 : w19.cell? ⟨J1, 20, none⟩ = some (.int .i64 Je) := (Za J0.out 20).trans rfl; have hcz20_21 : w19.cell? ⟨J1, 21, none⟩ = some (.int .u64 Jd) := (Za J0.out 21).trans rfl; have hcz20_22 : w19.cell? ⟨J1, 22, none⟩ = some (.int .u64 Jc) := (Za J0.out 22).trans rfl; have hcz20_23 : w19.cell? ⟨J1, 23, none⟩ = some (.int .i64 Jb) := (Za J0.out 23).trans rfl; have hcz20_24 : w19.cell? ⟨J1, 24, none⟩ = some (.bool Ja) := (Za J0.out 24).trans rfl; have hcz20_25 : w19.cell? ⟨J1, 25, none⟩ = some (.int .i64 J9) := (Za J0.out 25).trans rfl; have hcz20_26 : w19.cell? ⟨J1, 26, none⟩ = some (.slice A0_26 J4.length c0_26) := (Za J0.out 26).trans rfl; have hcz20_27 : w19.cell? ⟨J1, 27, none⟩ = some (.int .i64 J8) := (Za J0.out 27).trans rfl; have hcz20_28 : w19.cell? ⟨J1, 28, none⟩ = some (.int .i64 J7) := (Za J0.out 28).trans rfl; have hcz20_29 : w19.cell? ⟨J1, 29, none⟩ = some (.slice A0_29 J3.length c0_29) := (Za J0.out 29).trans rfl; have hcz20_30 : w19.cell? ⟨J1, 30, none⟩ = some (.bool JC) := (Za J0.out 30).trans rfl; have hcz20_31 : w19.cell? ⟨J1, 31, none⟩ = some (.int .i64 JB) := (Za J0.out 31).trans rfl; have hfz20_0 := Zb J0.out 0; have hfz20_1 := Zb J0.out 1; have hfz20_2 := Zb J0.out 2; have hfz20_3 := Zb J0.out 3; have hfz20_4 := Zb J0.out 4; have hfz20_5 := Zb J0.out 5; have hfz20_6 := Zb J0.out 6; have hfz20_7 := Zb J0.out 7; have hfz20_8 := Zb J0.out 8; have hfz20_9 := Zb J0.out 9; have hfz20_10 := Zb J0.out 10; have hfz20_11 := Zb J0.out 11; have hfz20_12 := Zb J0.out 12; have hfz20_13 := Zb J0.out 13; have hfz20_14 := Zb J0.out 14; have hfz20_15 := Zb J0.out 15; have hfz20_16 := Zb J0.out 16; have hfz20_17 := Zb J0.out 17; have hfz20_18 := Zb J0.out 18; have hfz20_19 := Zb J0.out 19; have hfz20_20 := Zb J0.out 20; have hfz20_21 := Zb J0.out 21; have hfz20_22 := Zb J0.out 22; have hfz20_23 := Zb J0.out 23; have hfz20_24 := Zb J0.out 24; have hfz20_25 := Zb J0.out 25; have hfz20_26 := Zb J0.out 26; have hfz20_27 := Zb J0.out 27; have hfz20_28 := Zb J0.out 28; have hfz20_29 := Zb J0.out 29; have hfz20_30 := Zb J0.out 30; have hfz20_31 := Zb J0.out 31) | ((with_reducible refine Zx (f := 8) rfl ?_); refine Xz (some 7) rfl rfl Try.func8 (by kernel_rfl) rfl #[.agg #[.int .i64 Jx, .int .i64 Jv, .int .i64 Ju, .bool Jt, .int .i64 Js, .int .u64 Jr, .int .u64 Jq, .int .i64 Jo, .bool Jm, .int .i64 J2, .slice A0_12 J6.length c0_12, .int .i64 Jl, .int .i64 Jk, .slice A0_15 J5.length c0_15]] rfl (by (try simp only [List.map_toArray, List.map_cons, List.map_nil]); first | done | rfl | (simp only [List.length_drop, List.length_take]; rfl)) ?_; (with_reducible refine (Zz.calls k Jx Jv Ju Jt Js Jr Jq Jo Jm J2 _ _ J6 Jl Jk _ _ J5 t340 _ ?side1 ?side2 ?side3 ?side4 A2.out).mono ?_); (case side1 => exact (Kd.Zw HR0_12.out HB.out)); (case side2 => exact HC0_12.out); (case side3 => exact (Kd.Zw HR0_15.out HB.out)); (case side4 => exact HC0_15.out); rintro e w21 ⟨rfl, hb⟩; refine ⟨_, rfl, ?_⟩; have n0_ := Zd.mk (Zp J0.out hb); have n1_ := Zd.mk (Zj HB.out hb); clear J0; clear HB; have J0 := n0_; have HB := n1_; clear n0_ n1_; (try clear hb); (try clear hb2); (try clear hk); (try clear hi); have hcz22_0 : w21.cell? ⟨J1, 0, none⟩ = some (.string JA) := (Za J0.out 0).trans rfl; have hcz22_1 : w21.cell? ⟨J1, 1, none⟩ = some (.int .i64 Jz) := (Za J0.out 1).trans rfl; have hcz22_2 : w21.cell? ⟨J1, 2, none⟩ = some (.int .i64 Jx) := (Za J0.out 2).trans rfl; have hcz22_3 : w21.cell? ⟨J1, 3, none⟩ = some (.int .i64 Jv) := (Za J0.out 3).trans rfl; have hcz22_4 : w21.cell? ⟨J1, 4, none⟩ = some (.int .i64 Ju) := (Za J0.out 4).trans rfl; have hcz22_5 : w21.cell? ⟨J1, 5, none⟩ = some (.bool Jt) := (Za J0.out 5).trans rfl; have hcz22_6 : w21.cell? ⟨J1, 6, none⟩ = some (.int .i64 Js) := (Za J0.out 6).trans rfl; have hcz22_7 : w21.cell? ⟨J1, 7, none⟩ = some (.int .u64 Jr) := (Za J0.out 7).trans rfl; have hcz22_8 : w21.cell? ⟨J1, 8, none⟩ = some (.int .u64 Jq) := (Za J0.out 8).trans rfl; have hcz22_9 : w21.cell? ⟨J1, 9, none⟩ = some (.int .i64 Jo) := (Za J0.out 9).trans rfl; have hcz22_10 : w21.cell? ⟨J1, 10, none⟩ = some (.bool Jm) := (Za J0.out 10).trans rfl; have hcz22_11 : w21.cell? ⟨J1, 11, none⟩ = some (.int .i64 J2) := (Za J0.out 11).trans rfl; have hcz22_12 : w21.cell? ⟨J1, 12, none⟩ = some (.slice A0_12 J6.length c0_12) := (Za J0.out 12).trans rfl; have hcz22_13 : w21.cell? ⟨J1, 13, none⟩ = some (.int .i64 Jl) := (Za J0.out 13).trans rfl; have hcz22_14 : w21.cell? ⟨J1, 14, none⟩ = some (.int .i64 Jk) := (Za J0.out 14).trans rfl; have hcz22_15 : w21.cell? ⟨J1, 15, none⟩ = some (.slice A0_15 J5.length c0_15) := (Za J0.out 15).trans rfl; have hcz22_16 : w21.cell? ⟨J1, 16, none⟩ = some (.int .i64 Jj) := (Za J0.out 16).trans rfl; have hcz22_17 : w21.cell? ⟨J1, 17, none⟩ = some (.int .i64 Jh) := (Za J0.out 17).trans rfl; have hcz22_18 : w21.cell? ⟨J1, 18, none⟩ = some (.int .i64 Jg) := (Za J0.out 18).trans rfl; have hcz22_19 : w21.cell? ⟨J1, 19, none⟩ = some (.bool Jf) := (Za J0.out 19).trans rfl; have hcz22_20 : w21.cell? ⟨J1, 20, none⟩ = some (.int .i64 Je) := (Za J0.out 20).trans rfl; have hcz22_21 : w21.cell? ⟨J1, 21, none⟩ = some (.int .u64 Jd) := (Za J0.out 21).trans rfl; have hcz22_22 : w21.cell? ⟨J1, 22, none⟩ = some (.int .u64 Jc) := (Za J0.out 22).trans rfl; have hcz22_23 : w21.cell? ⟨J1, 23, none⟩ = some (.int .i64 Jb) := (Za J0.out 23).trans rfl; have hcz22_24 : w21.cell? ⟨J1, 24, none⟩ = some (.bool Ja) := (Za J0.out 24).trans rfl; have hcz22_25 : w21.cell? ⟨J1, 25, none⟩ = some (.int .i64 J9) := (Za J0.out 25).trans rfl; have hcz22_26 : w21.cell? ⟨J1, 26, none⟩ = some (.slice A0_26 J4.length c0_26) := (Za J0.out 26).trans rfl; have hcz22_27 : w21.cell? ⟨J1, 27, none⟩ = some (.int .i64 J8) := (Za J0.out 27).trans rfl; have hcz22_28 : w21.cell? ⟨J1, 28, none⟩ = some (.int .i64 J7) := (Za J0.out 28).trans rfl; have hcz22_29 : w21.cell? ⟨J1, 29, none⟩ = some (.slice A0_29 J3.length c0_29) := (Za J0.out 29).trans rfl; have hcz22_30 : w21.cell? ⟨J1, 30, none⟩ = some (.bool JC) := (Za J0.out 30).trans rfl; have hcz22_31 : w21.cell? ⟨J1, 31, none⟩ = some (.int .i64 JB) := (Za J0.out 31).trans rfl; have hfz22_0 := Zb J0.out 0; have hfz22_1 := Zb J0.out 1; have hfz22_2 := Zb J0.out 2; have hfz22_3 := Zb J0.out 3; have hfz22_4 := Zb J0.out 4; have hfz22_5 := Zb J0.out 5; have hfz22_6 := Zb J0.out 6; have hfz22_7 := Zb J0.out 7; have hfz22_8 := Zb J0.out 8; have hfz22_9 := Zb J0.out 9; have hfz22_10 := Zb J0.out 10; have hfz22_11 := Zb J0.out 11; have hfz22_12 := Zb J0.out 12; have hfz22_13 := Zb J0.out 13; have hfz22_14 := Zb J0.out 14; have hfz22_15 := Zb J0.out 15; have hfz22_16 := Zb J0.out 16; have hfz22_17 := Zb J0.out 17; have hfz22_18 := Zb J0.out 18; have hfz22_19 := Zb J0.out 19; have hfz22_20 := Zb J0.out 20; have hfz22_21 := Zb J0.out 21; have hfz22_22 := Zb J0.out 22; have hfz22_23 := Zb J0.out 23; have hfz22_24 := Zb J0.out 24; have hfz22_25 := Zb J0.out 25; have hfz22_26 := Zb J0.out 26; have hfz22_27 := Zb J0.out 27; have hfz22_28 := Zb J0.out 28; have hfz22_29 := Zb J0.out 29; have hfz22_30 := Zb J0.out 30; have hfz22_31 := Zb J0.out 31) | ((with_reducible refine Zx (f := 8) rfl ?_); refine Xz (some 13) rfl rfl Try.func8 (by kernel_rfl) rfl #[.agg #[.int .i64 Jj, .int .i64 Jh, .int .i64 Jg, .bool Jf, .int .i64 Je, .int .u64 Jd, .int .u64 Jc, .int .i64 Jb, .bool Ja, .int .i64 J9, .slice A0_26 J4.length c0_26, .int .i64 J8, .int .i64 J7, .slice A0_29 J3.length c0_29]] rfl (by (try simp only [List.map_toArray, List.map_cons, List.map_nil]); first | done | rfl | (simp only [List.length_drop, List.length_take]; rfl)) ?_; (with_reducible refine (Zz.calls k Jj Jh Jg Jf Je Jd Jc Jb Ja J9 _ _ J4 J8 J7 _ _ J3 t341 _ ?side1 ?side2 ?side3 ?side4 A4.out).mono ?_); (case side1 => exact (Kd.Zw HR0_26.out HB.out)); (case side2 => exact HC0_26.out); (case side3 => exact (Kd.Zw HR0_29.out HB.out)); (case side4 => exact HC0_29.out); rintro e w23 ⟨rfl, hb⟩; refine ⟨_, rfl, ?_⟩; have n0_ := Zd.mk (Zp J0.out hb); have n1_ := Zd.mk (Zj HB.out hb); clear J0; clear HB; have J0 := n0_; have HB := n1_; clear n0_ n1_; (try clear hb); (try clear hb2); (try clear hk); (try clear hi)))
    have n0_ := Zd.mk (Zg J0.out)
    have n1_ := Zd.mk (Xj HB.out)
    clear J0
    clear HB
    have J0 := n0_
    have HB := n1_
    clear n0_ n1_
    refine start_ (n := 10) (S := fun w' => w'.cell? ⟨J1, 0, none⟩ = some (.string JA) ∧ w'.cell? ⟨J1, 1, none⟩ = some (.int .i64 Jz) ∧ w'.cell? ⟨J1, 2, none⟩ = some (.int .i64 Jx) ∧ w'.cell? ⟨J1, 3, none⟩ = some (.int .i64 Jv) ∧ w'.cell? ⟨J1, 4, none⟩ = some (.int .i64 Ju) ∧ w'.cell? ⟨J1, 5, none⟩ = some (.bool Jt) ∧ w'.cell? ⟨J1, 6, none⟩ = some (.int .i64 Js) ∧ w'.cell? ⟨J1, 7, none⟩ = some (.int .u64 Jr) ∧ w'.cell? ⟨J1, 8, none⟩ = some (.int .u64 Jq) ∧ w'.cell? ⟨J1, 9, none⟩ = some (.int .i64 Jo) ∧ w'.cell? ⟨J1, 10, none⟩ = some (.bool Jm) ∧ w'.cell? ⟨J1, 11, none⟩ = some (.int .i64 J2) ∧ w'.cell? ⟨J1, 12, none⟩ = some (.slice A0_12 J6.length c0_12) ∧ w'.cell? ⟨J1, 13, none⟩ = some (.int .i64 Jl) ∧ w'.cell? ⟨J1, 14, none⟩ = some (.int .i64 Jk) ∧ w'.cell? ⟨J1, 15, none⟩ = some (.slice A0_15 J5.length c0_15) ∧ w'.cell? ⟨J1, 16, none⟩ = some (.int .i64 Jj) ∧ w'.cell? ⟨J1, 17, none⟩ = some (.int .i64 Jh) ∧ w'.cell? ⟨J1, 18, none⟩ = some (.int .i64 Jg) ∧ w'.cell? ⟨J1, 19, none⟩ = some (.bool Jf) ∧ w'.cell? ⟨J1, 20, none⟩ = some (.int .i64 Je) ∧ w'.cell? ⟨J1, 21, none⟩ = some (.int .u64 Jd) ∧ w'.cell? ⟨J1, 22, none⟩ = some (.int .u64 Jc) ∧ w'.cell? ⟨J1, 23, none⟩ = some (.int .i64 Jb) ∧ w'.cell? ⟨J1, 24, none⟩ = some (.bool Ja) ∧ w'.cell? ⟨J1, 25, none⟩ = some (.int .i64 J9) ∧ w'.cell? ⟨J1, 26, none⟩ = some (.slice A0_26 J4.length c0_26) ∧ w'.cell? ⟨J1, 27, none⟩ = some (.int .i64 J8) ∧ w'.cell? ⟨J1, 28, none⟩ = some (.int .i64 J7) ∧ w'.cell? ⟨J1, 29, none⟩ = some (.slice A0_29 J3.length c0_29) ∧ w'.cell? ⟨J1, 30, none⟩ = some (.bool JC) ∧ w'.cell? ⟨J1, 31, none⟩ = some (.int .i64 JB)) (ds := []) #[false, false, false, false, false, false, false, false, false, false] (by kernel_rfl) rfl rfl ⟨(Za J0.out 0).trans rfl, (Za J0.out 1).trans rfl, (Za J0.out 2).trans rfl, (Za J0.out 3).trans rfl, (Za J0.out 4).trans rfl, (Za J0.out 5).trans rfl, (Za J0.out 6).trans rfl, (Za J0.out 7).trans rfl, (Za J0.out 8).trans rfl, (Za J0.out 9).trans rfl, (Za J0.out 10).trans rfl, (Za J0.out 11).trans rfl, (Za J0.out 12).trans rfl, (Za J0.out 13).trans rfl, (Za J0.out 14).trans rfl, (Za J0.out 15).trans rfl, (Za J0.out 16).trans rfl, (Za J0.out 17).trans rfl, (Za J0.out 18).trans rfl, (Za J0.out 19).trans rfl, (Za J0.out 20).trans rfl, (Za J0.out 21).trans rfl, (Za J0.out 22).trans rfl, (Za J0.out 23).trans rfl, (Za J0.out 24).trans rfl, (Za J0.out 25).trans rfl, (Za J0.out 26).trans rfl, (Za J0.out 27).trans rfl, (Za J0.out 28).trans rfl, (Za J0.out 29).trans rfl, (Za J0.out 30).trans rfl, (Za J0.out 31).trans rfl⟩ (fun hHeld => ?_); refine Ji Xt.tab7 Xt.bits7 (fun HT_ HW_ => ?_)
    generalize w23.drew = w24 at J0 HB hHeld ⊢
    refine Qe (i := 0) (N := some 17) (v := ?_) (a' := ?_) #[true, false, false, false, false, false, false, false, false, false] rfl rfl (Xu HT_.out (by kernel_rfl)) (fun _ _ _ h => h) (Or.inl ⟨by rfl, ?_⟩) ?_ ?_
    rotate_left
    ·intro w'
     go_simp
     with_reducible rfl
    rotate_left
    ·simp only [Act.put, List.setIfInBounds_toArray, List.set_cons_zero, List.set_cons_succ, Xk]
     rfl
    refine Qe (i := 4) (N := some 21) (v := ?_) (a' := ?_) #[true, false, false, false, true, false, false, false, false, false] rfl rfl (Xu HT_.out (by kernel_rfl)) (fun _ _ _ h => h) (Or.inl ⟨by rfl, ?_⟩) ?_ ?_
    rotate_left
    ·intro w'
     go_simp
     with_reducible rfl
    rotate_left
    ·simp only [Act.put, List.setIfInBounds_toArray, List.set_cons_zero, List.set_cons_succ, Xk]
     rfl
    refine Vx (i := 1) (N := some 18) (v := ?_) (a' := ?_) #[true, true, false, false, true, false, false, false, false, false] rfl rfl (Ql HT_.out HW_.out (by kernel_rfl)) (fun _ _ _ h => h) (Or.inl ⟨by rfl, ?_⟩) hHeld ?_ ?_
    rotate_left
    ·rintro w' ⟨s0, s1, s2, s3, s4, s5, s6, s7, s8, s9, s10, s11, s12, s13, s14, s15, s16, s17, s18, s19, s20, s21, s22, s23, s24, s25, s26, s27, s28, s29, s30, s31⟩
     go_simp
     with_reducible rfl
    rotate_left
    ·simp only [Act.put, List.setIfInBounds_toArray, List.set_cons_zero, List.set_cons_succ, Xk]
     rfl
    refine Vx (i := 5) (N := some 22) (v := ?_) (a' := ?_) #[true, true, false, false, true, true, false, false, false, false] rfl rfl (Ql HT_.out HW_.out (by kernel_rfl)) (fun _ _ _ h => h) (Or.inl ⟨by rfl, ?_⟩) hHeld ?_ ?_
    rotate_left
    ·rintro w' ⟨s0, s1, s2, s3, s4, s5, s6, s7, s8, s9, s10, s11, s12, s13, s14, s15, s16, s17, s18, s19, s20, s21, s22, s23, s24, s25, s26, s27, s28, s29, s30, s31⟩
     go_simp
     with_reducible rfl
    rotate_left
    ·simp only [Act.put, List.setIfInBounds_toArray, List.set_cons_zero, List.set_cons_succ, Xk]
     rfl
    refine one_ (i := 2) (N := some 19) #[true, true, true, false, true, true, false, false, false, false] rfl rfl (Vt HT_.out (by kernel_rfl)) (by decide) (fun K hK => ?_)
    refine Wp Try.func18 (by kernel_rfl) rfl #[.agg #[.int .i64 Jx, .int .i64 Jv, .int .i64 Ju, .bool Jt, .int .i64 Js, .int .u64 Jr, .int .u64 Jq, .int .i64 Jo, .bool Jm, .int .i64 J2, .slice A0_12 J6.length c0_12, .int .i64 Jl, .int .i64 Jk, .slice A0_15 J5.length c0_15]] (by rfl) rfl rfl (by (try simp only [List.map_toArray, List.map_cons, List.map_nil]); first | done | rfl | (simp only [List.length_drop, List.length_take]; rfl)) ?_
    with_reducible refine (Zv.calls k Jx Jv Ju Jt Js Jr Jq Jo Jm J2 (fun k_ => k_ < w.heap.size) _ _ J6 Jl Jk (fun k_ => k_ < w.heap.size) _ _ J5 t342 _ ?side1 ?side2 A6.out).mono ?_
    (case side1 => exact Kd.Wj HC0_12.out (Kd.Vj (Kd.C_F Jp HR0_12.out) HB.out))
    (case side2 => exact Kd.Wj HC0_15.out (Kd.Vj (Kd.C_F Jy HR0_15.out) HB.out))
    rintro e w25 ⟨v343, rfl, ho0, hb⟩
    refine ⟨_, rfl, ?_⟩
    have n0_ := Zd.mk (Kd.Vb (Kd.Xq (ok' := fun k_ => k_ ≠ J1) ho0 (fun k_ hk_ => Or.elim hk_ (fun hs_ => Or.elim hs_ (fun hs_ => fun e_ => Nat.not_le.2 hs_ (by rw [e_]; exact GW339.out)) (fun hs_ => fun e_ => Nat.not_le.2 hs_ (by rw [e_]; exact GW339.out))) (fun hn_ => (Kd.Kw J0.out k_ hn_)))) (Zl HB.out))
    have n1_ := Zd.mk (Zp J0.out hb)
    have n2_ := Zd.mk (Zj HB.out hb)
    clear J0
    clear HB
    have HO344 := n0_
    have J0 := n1_
    have HB := n2_
    clear n0_ n1_ n2_
    (try clear hb)
    (try clear hb2)
    (try clear hk)
    (try clear hi)
    (try clear ho0)
    obtain ⟨Ao26, co26, eo26⟩ := Kd.Va HO344.out
    (first | subst eo26 | (injection eo26 with f1_ f2_ f3_; have f4_ := f1_.symm; have f5_ := f3_.symm; clear f1_ f2_ f3_; subst f4_; subst f5_))
    refine hK.out _ _ ⟨(Za J0.out 0).trans rfl, (Za J0.out 1).trans rfl, (Za J0.out 2).trans rfl, (Za J0.out 3).trans rfl, (Za J0.out 4).trans rfl, (Za J0.out 5).trans rfl, (Za J0.out 6).trans rfl, (Za J0.out 7).trans rfl, (Za J0.out 8).trans rfl, (Za J0.out 9).trans rfl, (Za J0.out 10).trans rfl, (Za J0.out 11).trans rfl, (Za J0.out 12).trans rfl, (Za J0.out 13).trans rfl, (Za J0.out 14).trans rfl, (Za J0.out 15).trans rfl, (Za J0.out 16).trans rfl, (Za J0.out 17).trans rfl, (Za J0.out 18).trans rfl, (Za J0.out 19).trans rfl, (Za J0.out 20).trans rfl, (Za J0.out 21).trans rfl, (Za J0.out 22).trans rfl, (Za J0.out 23).trans rfl, (Za J0.out 24).trans rfl, (Za J0.out 25).trans rfl, (Za J0.out 26).trans rfl, (Za J0.out 27).trans rfl, (Za J0.out 28).trans rfl, (Za J0.out 29).trans rfl, (Za J0.out 30).trans rfl, (Za J0.out 31).trans rfl⟩ (fun hHeld => ?_)
    clear hK K
    refine Jw (a' := ?_) ?_ ?_
    rotate_left
    ·show Act.put _ (some 19) _ = _
     simp only [Act.put, List.setIfInBounds_toArray, List.set_cons_zero, List.set_cons_succ, Xk]
     rfl
    refine Qe (i := 3) (N := some 20) (v := ?_) (a' := ?_) #[true, true, true, true, true, true, false, false, false, false] rfl rfl (Xu HT_.out (by kernel_rfl)) (fun _ _ _ h => h) (Or.inl ⟨by rfl, ?_⟩) ?_ ?_
    rotate_left
    ·intro w'
     go_simp
     with_reducible rfl
    rotate_left
    ·simp only [Act.put, List.setIfInBounds_toArray, List.set_cons_zero, List.set_cons_succ, Xk]
     rfl
    refine one_ (i := 6) (N := some 23) #[true, true, true, true, true, true, true, false, false, false] rfl rfl (Vt HT_.out (by kernel_rfl)) (by decide) (fun K hK => ?_)
    refine Wp Try.func18 (by kernel_rfl) rfl #[.agg #[.int .i64 Jj, .int .i64 Jh, .int .i64 Jg, .bool Jf, .int .i64 Je, .int .u64 Jd, .int .u64 Jc, .int .i64 Jb, .bool Ja, .int .i64 J9, .slice A0_26 J4.length c0_26, .int .i64 J8, .int .i64 J7, .slice A0_29 J3.length c0_29]] (by rfl) rfl rfl (by (try simp only [List.map_toArray, List.map_cons, List.map_nil]); first | done | rfl | (simp only [List.length_drop, List.length_take]; rfl)) ?_
    with_reducible refine (Zv.calls k Jj Jh Jg Jf Je Jd Jc Jb Ja J9 (fun k_ => k_ < w.heap.size) _ _ J4 J8 J7 (fun k_ => k_ < w.heap.size) _ _ J3 t345 _ ?side1 ?side2 A7.out).mono ?_
    (case side1 => exact Kd.Wj HC0_26.out (Kd.Vj (Kd.C_F Jp HR0_26.out) HB.out))
    (case side2 => exact Kd.Wj HC0_29.out (Kd.Vj (Kd.C_F Jy HR0_29.out) HB.out))
    rintro e w27 ⟨v346, rfl, ho0, hb⟩
    refine ⟨_, rfl, ?_⟩
    have n0_ := Zd.mk (Kd.Qs HO344.out (Kd.Qr ho0) hb)
    have n1_ := Zd.mk (Kd.Vb (Kd.Xq (ok' := fun k_ => some k_ ≠ (.slice Ao26 t342.length co26 : Value).ownBlock ∧ k_ ≠ J1) ho0 (fun k_ hk_ => ⟨Or.elim hk_ (fun hs_ => Or.elim hs_ (fun hs_ => fun e_ => Nat.not_le.2 hs_ (Kd.Qr HO344.out k_ e_.symm)) (fun hs_ => fun e_ => Nat.not_le.2 hs_ (Kd.Qr HO344.out k_ e_.symm))) (fun hn_ => (Kd.Vu (Kd.N_lt HO344.out) k_ hn_)), Or.elim hk_ (fun hs_ => Or.elim hs_ (fun hs_ => fun e_ => Nat.not_le.2 hs_ (by rw [e_]; exact GW339.out)) (fun hs_ => fun e_ => Nat.not_le.2 hs_ (by rw [e_]; exact GW339.out))) (fun hn_ => (Kd.Kw J0.out k_ hn_))⟩)) (Zl HB.out))
    have n2_ := Zd.mk (Zp J0.out hb)
    have n3_ := Zd.mk (Zj HB.out hb)
    clear HO344
    clear J0
    clear HB
    have HO344 := n0_
    have HO347 := n1_
    have J0 := n2_
    have HB := n3_
    clear n0_ n1_ n2_ n3_
    (try clear hb)
    (try clear hb2)
    (try clear hk)
    (try clear hi)
    (try clear ho0)
    obtain ⟨Ao28, co28, eo28⟩ := Kd.Va HO347.out
    (first | subst eo28 | (injection eo28 with f1_ f2_ f3_; have f4_ := f1_.symm; have f5_ := f3_.symm; clear f1_ f2_ f3_; subst f4_; subst f5_))
    refine hK.out _ _ ⟨(Za J0.out 0).trans rfl, (Za J0.out 1).trans rfl, (Za J0.out 2).trans rfl, (Za J0.out 3).trans rfl, (Za J0.out 4).trans rfl, (Za J0.out 5).trans rfl, (Za J0.out 6).trans rfl, (Za J0.out 7).trans rfl, (Za J0.out 8).trans rfl, (Za J0.out 9).trans rfl, (Za J0.out 10).trans rfl, (Za J0.out 11).trans rfl, (Za J0.out 12).trans rfl, (Za J0.out 13).trans rfl, (Za J0.out 14).trans rfl, (Za J0.out 15).trans rfl, (Za J0.out 16).trans rfl, (Za J0.out 17).trans rfl, (Za J0.out 18).trans rfl, (Za J0.out 19).trans rfl, (Za J0.out 20).trans rfl, (Za J0.out 21).trans rfl, (Za J0.out 22).trans rfl, (Za J0.out 23).trans rfl, (Za J0.out 24).trans rfl, (Za J0.out 25).trans rfl, (Za J0.out 26).trans rfl, (Za J0.out 27).trans rfl, (Za J0.out 28).trans rfl, (Za J0.out 29).trans rfl, (Za J0.out 30).trans rfl, (Za J0.out 31).trans rfl⟩ (fun hHeld => ?_)
    clear hK K
    refine Jw (a' := ?_) ?_ ?_
    rotate_left
    ·show Act.put _ (some 23) _ = _
     simp only [Act.put, List.setIfInBounds_toArray, List.set_cons_zero, List.set_cons_succ, Xk]
     rfl
    refine Qe (i := 7) (N := some 24) (v := ?_) (a' := ?_) #[true, true, true, true, true, true, true, true, false, false] rfl rfl (Xu HT_.out (by kernel_rfl)) (fun _ _ _ h => h) (Or.inl ⟨by rfl, ?_⟩) ?_ ?_
    rotate_left
    ·intro w'
     go_simp
     with_reducible rfl
    rotate_left
    ·simp only [Act.put, List.setIfInBounds_toArray, List.set_cons_zero, List.set_cons_succ, Xk]
     rfl
    refine Qe (i := 8) (N := some 25) (v := ?_) (a' := ?_) #[true, true, true, true, true, true, true, true, true, false] rfl rfl (Xu HT_.out (by kernel_rfl)) (fun _ _ _ h => h) (Or.inl ⟨by rfl, ?_⟩) ?_ ?_
    rotate_left
    ·intro w'
     go_simp
     with_reducible rfl
    rotate_left
    ·simp only [Act.put, List.setIfInBounds_toArray, List.set_cons_zero, List.set_cons_succ, Xk]
     rfl
    refine Qe (i := 9) (N := some 26) (v := ?_) (a' := ?_) #[true, true, true, true, true, true, true, true, true, true] rfl rfl (Xu HT_.out (by kernel_rfl)) (fun _ _ _ h => h) (Or.inl ⟨by rfl, ?_⟩) ?_ ?_
    rotate_left
    ·intro w'
     go_simp
     with_reducible rfl
    rotate_left
    ·simp only [Act.put, List.setIfInBounds_toArray, List.set_cons_zero, List.set_cons_succ, Xk]
     rfl
    refine done_ (done_of HT_.out (by kernel_rfl)) ?_
    try go_wp2
    go_ret
    exact ⟨by first | rfl | (simp [errW_none, errW_some] <;> rfl) | (simp [*, errW_none, errW_some] <;> rfl), HB.out⟩
  ·rw [if_neg c5] at H
   have c5b0 : (t341 == 0) = false := beq_eq_false_iff_ne.mpr c5
   have c5b1 : (t341 != 0) = true := bne_iff_ne.mpr c5
   obtain rfl := Option.some.inj H
   go_enter Try.func9, Try.ntmps9
   go_wp2_with (first | ((with_reducible refine Xd (N := 1) rfl ?_); refine Xe ?hg (N := 1) ?hd (cs := #[.string JA, .int .i64 Jz, .int .i64 Jx, .int .i64 Jv, .int .i64 Ju, .bool Jt, .int .i64 Js, .int .u64 Jr, .int .u64 Jq, .int .i64 Jo, .bool Jm, .int .i64 J2, .slice A0_12 J6.length c0_12, .int .i64 Jl, .int .i64 Jk, .slice A0_15 J5.length c0_15, .int .i64 Jj, .int .i64 Jh, .int .i64 Jg, .bool Jf, .int .i64 Je, .int .u64 Jd, .int .u64 Jc, .int .i64 Jb, .bool Ja, .int .i64 J9, .slice A0_26 J4.length c0_26, .int .i64 J8, .int .i64 J7, .slice A0_29 J3.length c0_29, .bool JC, .int .i64 JB]) (t := 32) ?hr ?_; (case hd => rfl); (case hg => rfl); (case hr => first | (go_simp; done) | (go_simp; rfl)); intro J1 hg w29 hbox hb; have n0_ := Zd.mk (Zj HB.out hb); have n1_ := Zd.mk (hbox); have n2_ := Zd.mk ((by rw [hg]; exact (Zl HB.out) : w.heap.size ≤ J1)); have n3_ := n2_; clear HB; have HB := n0_; have J0 := n1_; have GW339 := n2_; have GE339 := n3_; clear n0_ n1_ n2_ n3_; clear hb hbox hg; have hcz30_0 : w29.cell? ⟨J1, 0, none⟩ = some (.string JA) := (Za J0.out 0).trans rfl; have hcz30_1 : w29.cell? ⟨J1, 1, none⟩ = some (.int .i64 Jz) := (Za J0.out 1).trans rfl; have hcz30_2 : w29.cell? ⟨J1, 2, none⟩ = some (.int .i64 Jx) := (Za J0.out 2).trans rfl; have hcz30_3 : w29.cell? ⟨J1, 3, none⟩ = some (.int .i64 Jv) := (Za J0.out 3).trans rfl; have hcz30_4 : w29.cell? ⟨J1, 4, none⟩ = some (.int .i64 Ju) := (Za J0.out 4).trans rfl; have hcz30_5 : w29.cell? ⟨J1, 5, none⟩ = some (.bool Jt) := (Za J0.out 5).trans rfl; have hcz30_6 : w29.cell? ⟨J1, 6, none⟩ = some (.int .i64 Js) := (Za J0.out 6).trans rfl; have hcz30_7 : w29.cell? ⟨J1, 7, none⟩ = some (.int .u64 Jr) := (Za J0.out 7).trans rfl; have hcz30_8 : w29.cell? ⟨J1, 8, none⟩ = some (.int .u64 Jq) := (Za J0.out 8).trans rfl; have hcz30_9 : w29.cell? ⟨J1, 9, none⟩ = some (.int .i64 Jo) := (Za J0.out 9).trans rfl; have hcz30_10 : w29.cell? ⟨J1, 10, none⟩ = some (.bool Jm) := (Za J0.out 10).trans rfl; have hcz30_11 : w29.cell? ⟨J1, 11, none⟩ = some (.int .i64 J2) := (Za J0.out 11).trans rfl; have hcz30_12 : w29.cell? ⟨J1, 12, none⟩ = some (.slice A0_12 J6.length c0_12) := (Za J0.out 12).trans rfl; have hcz30_13 : w29.cell? ⟨J1, 13, none⟩ = some (.int .i64 Jl) := (Za J0.out 13).trans rfl; have hcz30_14 : w29.cell? ⟨J1, 14, none⟩ = some (.int .i64 Jk) := (Za J0.out 14).trans rfl; have hcz30_15 : w29.cell? ⟨J1, 15, none⟩ = some (.slice A0_15 J5.length c0_15) := (Za J0.out 15).trans rfl; have hcz30_16 : w29.cell? ⟨J1, 16, none⟩ = some (.int .i64 Jj) := (Za J0.out 16).trans rfl; have hcz30_17 : w29.cell? ⟨J1, 17, none⟩ = some (.int .i64 Jh) := (Za J0.out 17).trans rfl; have hcz30_18 : w29.cell? ⟨J1, 18, none⟩ = some (.int .i64 Jg) := (Za J0.out 18).trans rfl; have hcz30_19 : w29.cell? ⟨J1, 19, none⟩ = some (.bool Jf) := (Za J0.out 19).trans rfl; have hcz30_20 : w29.cell? ⟨J1, 20, none⟩ = some (.int .i64 Je) := (Za J0.out 20).trans rfl; have hcz30_21 : w29.cell? ⟨J1, 21, none⟩ = some (.int .u64 Jd) := (Za J0.out 21).trans rfl; have hcz30_22 : w29.cell? ⟨J1, 22, none⟩ = some (.int .u64 Jc) := (Za J0.out 22).trans rfl; have hcz30_23 : w29.cell? ⟨J1, 23, none⟩ = some (.int .i64 Jb) := (Za J0.out 23).trans rfl; have hcz30_24 : w29.cell? ⟨J1, 24, none⟩ = some (.bool Ja) := (Za J0.out 24).trans rfl; have hcz30_25 : w29.cell? ⟨J1, 25, none⟩ = some (.int .i64 J9) := (Za J0.out 25).trans rfl; have hcz30_26 : w29.cell? ⟨J1, 26, none⟩ = some (.slice A0_26 J4.length c0_26) := (Za J0.out 26).trans rfl; have hcz30_27 : w29.cell? ⟨J1, 27, none⟩ = some (.int .i64 J8) := (Za J0.out 27).trans rfl; have hcz30_28 : w29.cell? ⟨J1, 28, none⟩ = some (.int .i64 J7) := (Za J0.out 28).trans rfl; have hcz30_29 : w29.cell? ⟨J1, 29, none⟩ = some (.slice A0_29 J3.length c0_29) := (Za J0.out 29).trans rfl; have hcz30_30 : w29.cell? ⟨J1, 30, none⟩ = some (.bool JC) := (Za J0.out 30).trans rfl; have hcz30_31 : w29.cell? ⟨J1, 31, none⟩ = some (.int .i64 JB) := (Za J0.out 31).trans rfl; have hfz30_0 := Zb J0.out 0; have hfz30_1 := Zb J0.out 1; have hfz30_2 := Zb J0.out 2; have hfz30_3 := Zb J0.out 3; have hfz30_4 := Zb J0.out 4; have hfz30_5 := Zb J0.out 5; have hfz30_6 := Zb J0.out 6; have hfz30_7 := Zb J0.out 7; have hfz30_8 := Zb J0.out 8; have hfz30_9 := Zb J0.out 9; have hfz30_10 := Zb J0.out 10; have hfz30_11 := Zb J0.out 11; have hfz30_12 := Zb J0.out 12; have hfz30_13 := Zb J0.out 13; have hfz30_14 := Zb J0.out 14; have hfz30_15 := Zb J0.out 15; have hfz30_16 := Zb J0.out 16; have hfz30_17 := Zb J0.out 17; have hfz30_18 := Zb J0.out 18; have hfz30_19 := Zb J0.out 19; have hfz30_20 := Zb J0.out 20; have hfz30_21 := Zb J0.out 21; have hfz30_22 := Zb J0.out 22; have hfz30_23 := Zb J0.out 23; have hfz30_24 := Zb J0.out 24; have hfz30_25 := Zb J0.out 25; have hfz30_26 := Zb J0.out 26; have hfz30_27 := Zb J0.out 27; have hfz30_28 := Zb J0.out 28; have hfz30_29 := Zb J0.out 29; have hfz30_30 := Zb J0.out 30; have hfz30_31 := Zb J0.out 31) | ((with_reducible refine Zx (f := 8) rfl ?_); refine Xz (some 7) rfl rfl Try.func8 (by kernel_rfl) rfl #[.agg #[.int .i64 Jx, .int .i64 Jv, .int .i64 Ju, .bool Jt, .int .i64 Js, .int .u64 Jr, .int .u64 Jq, .int .i64 Jo, .bool Jm, .int .i64 J2, .slice A0_12 J6.length c0_12, .int .i64 Jl, .int .i64 Jk, .slice A0_15 J5.length c0_15]] rfl (by (try simp only [List.map_toArray, List.map_cons, List.map_nil]); first | done | rfl | (simp only [List.length_drop, List.length_take]; rfl)) ?_; (with_reducible refine (Zz.calls k Jx Jv Ju Jt Js Jr Jq Jo Jm J2 _ _ J6 Jl Jk _ _ J5 t340 _ ?side1 ?side2 ?side3 ?side4 A2.out).mono ?_); (case side1 => exact (Kd.Zw HR0_12.out HB.out)); (case side2 => exact HC0_12.out); (case side3 => exact (Kd.Zw HR0_15.out HB.out)); (case side4 => exact HC0_15.out); rintro e w31 ⟨rfl, hb⟩; refine ⟨_, rfl, ?_⟩; have n0_ := Zd.mk (Zp J0.out hb); have n1_ := Zd.mk (Zj HB.out hb); clear J0; clear HB; have J0 := n0_; have HB := n1_; clear n0_ n1_; (try clear hb); (try clear hb2); (try clear hk); (try clear hi); have hcz32_0 : w31.cell? ⟨J1, 0, none⟩ = some (.string JA) := (Za J0.out 0).trans rfl; have hcz32_1 : w31.cell? ⟨J1, 1, none⟩ = some (.int .i64 Jz) := (Za J0.out 1).trans rfl; have hcz32_2 : w31.cell? ⟨J1, 2, none⟩ = some (.int .i64 Jx) := (Za J0.out 2).trans rfl; have hcz32_3 : w31.cell? ⟨J1, 3, none⟩ = some (.int .i64 Jv) := (Za J0.out 3).trans rfl; have hcz32_4 : w31.cell? ⟨J1, 4, none⟩ = some (.int .i64 Ju) := (Za J0.out 4).trans rfl; have hcz32_5 : w31.cell? ⟨J1, 5, none⟩ = some (.bool Jt) := (Za J0.out 5).trans rfl; have hcz32_6 : w31.cell? ⟨J1, 6, none⟩ = some (.int .i64 Js) := (Za J0.out 6).trans rfl; have hcz32_7 : w31.cell? ⟨J1, 7, none⟩ = some (.int .u64 Jr) := (Za J0.out 7).trans rfl; have hcz32_8 : w31.cell? ⟨J1, 8, none⟩ = some (.int .u64 Jq) := (Za J0.out 8).trans rfl; have hcz32_9 : w31.cell? ⟨J1, 9, none⟩ = some (.int .i64 Jo) := (Za J0.out 9).trans rfl; have hcz32_10 : w31.cell? ⟨J1, 10, none⟩ = some (.bool Jm) := (Za J0.out 10).trans rfl; have hcz32_11 : w31.cell? ⟨J1, 11, none⟩ = some (.int .i64 J2) := (Za J0.out 11).trans rfl; have hcz32_12 : w31.cell? ⟨J1, 12, none⟩ = some (.slice A0_12 J6.length c0_12) := (Za J0.out 12).trans rfl; have hcz32_13 : w31.cell? ⟨J1, 13, none⟩ = some (.int .i64 Jl) := (Za J0.out 13).trans rfl; have hcz32_14 : w31.cell? ⟨J1, 14, none⟩ = some (.int .i64 Jk) := (Za J0.out 14).trans rfl; have hcz32_15 : w31.cell? ⟨J1, 15, none⟩ = some (.slice A0_15 J5.length c0_15) := (Za J0.out 15).trans rfl; have hcz32_16 : w31.cell? ⟨J1, 16, none⟩ = some (.int .i64 Jj) := (Za J0.out 16).trans rfl; have hcz32_17 : w31.cell? ⟨J1, 17, none⟩ = some (.int .i64 Jh) := (Za J0.out 17).trans rfl; have hcz32_18 : w31.cell? ⟨J1, 18, none⟩ = some (.int .i64 Jg) := (Za J0.out 18).trans rfl; have hcz32_19 : w31.cell? ⟨J1, 19, none⟩ = some (.bool Jf) := (Za J0.out 19).trans rfl; have hcz32_20 : w31.cell? ⟨J1, 20, none⟩ = some (.int .i64 Je) := (Za J0.out 20).trans rfl; have hcz32_21 : w31.cell? ⟨J1, 21, none⟩ = some (.int .u64 Jd) := (Za J0.out 21).trans rfl; have hcz32_22 : w31.cell? ⟨J1, 22, none⟩ = some (.int .u64 Jc) := (Za J0.out 22).trans rfl; have hcz32_23 : w31.cell? ⟨J1, 23, none⟩ = some (.int .i64 Jb) := (Za J0.out 23).trans rfl; have hcz32_24 : w31.cell? ⟨J1, 24, none⟩ = some (.bool Ja) := (Za J0.out 24).trans rfl; have hcz32_25 : w31.cell? ⟨J1, 25, none⟩ = some (.int .i64 J9) := (Za J0.out 25).trans rfl; have hcz32_26 : w31.cell? ⟨J1, 26, none⟩ = some (.slice A0_26 J4.length c0_26) := (Za J0.out 26).trans rfl; have hcz32_27 : w31.cell? ⟨J1, 27, none⟩ = some (.int .i64 J8) := (Za J0.out 27).trans rfl; have hcz32_28 : w31.cell? ⟨J1, 28, none⟩ = some (.int .i64 J7) := (Za J0.out 28).trans rfl; have hcz32_29 : w31.cell? ⟨J1, 29, none⟩ = some (.slice A0_29 J3.length c0_29) := (Za J0.out 29).trans rfl; have hcz32_30 : w31.cell? ⟨J1, 30, none⟩ = some (.bool JC) := (Za J0.out 30).trans rfl; have hcz32_31 : w31.cell? ⟨J1, 31, none⟩ = some (.int .i64 JB) := (Za J0.out 31).trans rfl; have hfz32_0 := Zb J0.out 0; have hfz32_1 := Zb J0.out 1; have hfz32_2 := Zb J0.out 2; have hfz32_3 := Zb J0.out 3; have hfz32_4 := Zb J0.out 4; have hfz32_5 := Zb J0.out 5; have hfz32_6 := Zb J0.out 6; have hfz32_7 := Zb J0.out 7; have hfz32_8 := Zb J0.out 8; have hfz32_9 := Zb J0.out 9; have hfz32_10 := Zb J0.out 10; have hfz32_11 := Zb J0.out 11; have hfz32_12 := Zb J0.out 12; have hfz32_13 := Zb J0.out 13; have hfz32_14 := Zb J0.out 14; have hfz32_15 := Zb J0.out 15; have hfz32_16 := Zb J0.out 16; have hfz32_17 := Zb J0.out 17; have hfz32_18 := Zb J0.out 18; have hfz32_19 := Zb J0.out 19; have hfz32_20 := Zb J0.out 20; have hfz32_21 := Zb J0.out 21; have hfz32_22 := Zb J0.out 22; have hfz32_23 := Zb J0.out 23; have hfz32_24 := Zb J0.out 24; have hfz32_25 := Zb J0.out 25; have hfz32_26 := Zb J0.out 26; have hfz32_27 := Zb J0.out 27; have hfz32_28 := Zb J0.out 28; have hfz32_29 := Zb J0.out 29; have hfz32_30 := Zb J0.out 30; have hfz32_31 := Zb J0.out 31) | ((with_reducible refine Zx (f := 8) rfl ?_); refine Xz (some 13) rfl rfl Try.func8 (by kernel_rfl) rfl #[.agg #[.int .i64 Jj, .int .i64 Jh, .int .i64 Jg, .bool Jf, .int .i64 Je, .int .u64 Jd, .int .u64 Jc, .int .i64 Jb, .bool Ja, .int .i64 J9, .slice A0_26 J4.length c0_26, .int .i64 J8, .int .i64 J7, .slice A0_29 J3.length c0_29]] rfl (by (try simp only [List.map_toArray, List.map_cons, List.map_nil]); first | done | rfl | (simp only [List.length_drop, List.length_take]; rfl)) ?_; (with_reducible refine (Zz.calls k Jj Jh Jg Jf Je Jd Jc Jb Ja J9 _ _ J4 J8 J7 _ _ J3 t341 _ ?side1 ?side2 ?side3 ?side4 A4.out).mono ?_); (case side1 => exact (Kd.Zw HR0_26.out HB.out)); (case side2 => exact HC0_26.out); (case side3 => exact (Kd.Zw HR0_29.out HB.out)); (case side4 => exact HC0_29.out); rintro e w33 ⟨rfl, hb⟩; refine ⟨_, rfl, ?_⟩; have n0_ := Zd.mk (Zp J0.out hb); have n1_ := Zd.mk (Zj HB.out hb); clear J0; clear HB; have J0 := n0_; have HB := n1_; clear n0_ n1_; (try clear hb); (try clear hb2); (try clear hk); (try clear hi)))
   go_ret
   exact ⟨by first | rfl | (simp [errW_none, errW_some] <;> rfl) | (simp [*, errW_none, errW_some] <;> rfl), HB.out⟩
 ·rw [if_neg c3] at H
  have c3b0 : (t340 == 0) = false := beq_eq_false_iff_ne.mpr c3
  have c3b1 : (t340 != 0) = true := bne_iff_ne.mpr c3
  obtain rfl := Option.some.inj H
  go_enter Try.func9, Try.ntmps9
  go_wp2_with (first | ((with_reducible refine Xd (N := 1) rfl ?_); refine Xe ?hg (N := 1) ?hd (cs := #[.string JA, .int .i64 Jz, .int .i64 Jx, .int .i64 Jv, .int .i64 Ju, .bool Jt, .int .i64 Js, .int .u64 Jr, .int .u64 Jq, .int .i64 Jo, .bool Jm, .int .i64 J2, .slice A0_12 J6.length c0_12, .int .i64 Jl, .int .i64 Jk, .slice A0_15 J5.length c0_15, .int .i64 Jj, .int .i64 Jh, .int .i64 Jg, .bool Jf, .int .i64 Je, .int .u64 Jd, .int .u64 Jc, .int .i64 Jb, .bool Ja, .int .i64 J9, .slice A0_26 J4.length c0_26, .int .i64 J8, .int .i64 J7, .slice A0_29 J3.length c0_29, .bool JC, .int .i64 JB]) (t := 32) ?hr ?_; (case hd => rfl); (case hg => rfl); (case hr => first | (go_simp; done) | (go_simp; rfl)); intro J1 hg w34 hbox hb; have n0_ := Zd.mk (Zj HB.out hb); have n1_ := Zd.mk (hbox); have n2_ := Zd.mk ((by rw [hg]; exact (Zl HB.out) : w.heap.size ≤ J1)); have n3_ := n2_; clear HB; have HB := n0_; have J0 := n1_; have GW339 := n2_; have GE339 := n3_; clear n0_ n1_ n2_ n3_; clear hb hbox hg; have hcz35_0 : w34.cell? ⟨J1, 0, none⟩ = some (.string JA) := (Za J0.out 0).trans rfl; have hcz35_1 : w34.cell? ⟨J1, 1, none⟩ = some (.int .i64 Jz) := (Za J0.out 1).trans rfl; have hcz35_2 : w34.cell? ⟨J1, 2, none⟩ = some (.int .i64 Jx) := (Za J0.out 2).trans rfl; have hcz35_3 : w34.cell? ⟨J1, 3, none⟩ = some (.int .i64 Jv) := (Za J0.out 3).trans rfl; have hcz35_4 : w34.cell? ⟨J1, 4, none⟩ = some (.int .i64 Ju) := (Za J0.out 4).trans rfl; have hcz35_5 : w34.cell? ⟨J1, 5, none⟩ = some (.bool Jt) := (Za J0.out 5).trans rfl; have hcz35_6 : w34.cell? ⟨J1, 6, none⟩ = some (.int .i64 Js) := (Za J0.out 6).trans rfl; have hcz35_7 : w34.cell? ⟨J1, 7, none⟩ = some (.int .u64 Jr) := (Za J0.out 7).trans rfl; have hcz35_8 : w34.cell? ⟨J1, 8, none⟩ = some (.int .u64 Jq) := (Za J0.out 8).trans rfl; have hcz35_9 : w34.cell? ⟨J1, 9, none⟩ = some (.int .i64 Jo) := (Za J0.out 9).trans rfl; have hcz35_10 : w34.cell? ⟨J1, 10, none⟩ = some (.bool Jm) := (Za J0.out 10).trans rfl; have hcz35_11 : w34.cell? ⟨J1, 11, none⟩ = some (.int .i64 J2) := (Za J0.out 11).trans rfl; have hcz35_12 : w34.cell? ⟨J1, 12, none⟩ = some (.slice A0_12 J6.length c0_12) := (Za J0.out 12).trans rfl; have hcz35_13 : w34.cell? ⟨J1, 13, none⟩ = some (.int .i64 Jl) := (Za J0.out 13).trans rfl; have hcz35_14 : w34.cell? ⟨J1, 14, none⟩ = some (.int .i64 Jk) := (Za J0.out 14).trans rfl; have hcz35_15 : w34.cell? ⟨J1, 15, none⟩ = some (.slice A0_15 J5.length c0_15) := (Za J0.out 15).trans rfl; have hcz35_16 : w34.cell? ⟨J1, 16, none⟩ = some (.int .i64 Jj) := (Za J0.out 16).trans rfl; have hcz35_17 : w34.cell? ⟨J1, 17, none⟩ = some (.int .i64 Jh) := (Za J0.out 17).trans rfl; have hcz35_18 : w34.cell? ⟨J1, 18, none⟩ = some (.int .i64 Jg) := (Za J0.out 18).trans rfl; have hcz35_19 : w34.cell? ⟨J1, 19, none⟩ = some (.bool Jf) := (Za J0.out 19).trans rfl; have hcz35_20 : w34.cell? ⟨J1, 20, none⟩ = some (.int .i64 Je) := (Za J0.out 20).trans rfl; have hcz35_21 : w34.cell? ⟨J1, 21, none⟩ = some (.int .u64 Jd) := (Za J0.out 21).trans rfl; have hcz35_22 : w34.cell? ⟨J1, 22, none⟩ = some (.int .u64 Jc) := (Za J0.out 22).trans rfl; have hcz35_23 : w34.cell? ⟨J1, 23, none⟩ = some (.int .i64 Jb) := (Za J0.out 23).trans rfl; have hcz35_24 : w34.cell? ⟨J1, 24, none⟩ = some (.bool Ja) := (Za J0.out 24).trans rfl; have hcz35_25 : w34.cell? ⟨J1, 25, none⟩ = some (.int .i64 J9) := (Za J0.out 25).trans rfl; have hcz35_26 : w34.cell? ⟨J1, 26, none⟩ = some (.slice A0_26 J4.length c0_26) := (Za J0.out 26).trans rfl; have hcz35_27 : w34.cell? ⟨J1, 27, none⟩ = some (.int .i64 J8) := (Za J0.out 27).trans rfl; have hcz35_28 : w34.cell? ⟨J1, 28, none⟩ = some (.int .i64 J7) := (Za J0.out 28).trans rfl; have hcz35_29 : w34.cell? ⟨J1, 29, none⟩ = some (.slice A0_29 J3.length c0_29) := (Za J0.out 29).trans rfl; have hcz35_30 : w34.cell? ⟨J1, 30, none⟩ = some (.bool JC) := (Za J0.out 30).trans rfl; have hcz35_31 : w34.cell? ⟨J1, 31, none⟩ = some (.int .i64 JB) := (Za J0.out 31).trans rfl; have hfz35_0 := Zb J0.out 0; have hfz35_1 := Zb J0.out 1; have hfz35_2 := Zb J0.out 2; have hfz35_3 := Zb J0.out 3; have hfz35_4 := Zb J0.out 4; have hfz35_5 := Zb J0.out 5; have hfz35_6 := Zb J0.out 6; have hfz35_7 := Zb J0.out 7; have hfz35_8 := Zb J0.out 8; have hfz35_9 := Zb J0.out 9; have hfz35_10 := Zb J0.out 10; have hfz35_11 := Zb J0.out 11; have hfz35_12 := Zb J0.out 12; have hfz35_13 := Zb J0.out 13; have hfz35_14 := Zb J0.out 14; have hfz35_15 := Zb J0.out 15; have hfz35_16 := Zb J0.out 16; have hfz35_17 := Zb J0.out 17; have hfz35_18 := Zb J0.out 18; have hfz35_19 := Zb J0.out 19; have hfz35_20 := Zb J0.out 20; have hfz35_21 := Zb J0.out 21; have hfz35_22 := Zb J0.out 22; have hfz35_23 := Zb J0.out 23; have hfz35_24 := Zb J0.out 24; have hfz35_25 := Zb J0.out 25; have hfz35_26 := Zb J0.out 26; have hfz35_27 := Zb J0.out 27; have hfz35_28 := Zb J0.out 28; have hfz35_29 := Zb J0.out 29; have hfz35_30 := Zb J0.out 30; have hfz35_31 := Zb J0.out 31) | ((with_reducible refine Zx (f := 8) rfl ?_); refine Xz (some 7) rfl rfl Try.func8 (by kernel_rfl) rfl #[.agg #[.int .i64 Jx, .int .i64 Jv, .int .i64 Ju, .bool Jt, .int .i64 Js, .int .u64 Jr, .int .u64 Jq, .int .i64 Jo, .bool Jm, .int .i64 J2, .slice A0_12 J6.length c0_12, .int .i64 Jl, .int .i64 Jk, .slice A0_15 J5.length c0_15]] rfl (by (try simp only [List.map_toArray, List.map_cons, List.map_nil]); first | done | rfl | (simp only [List.length_drop, List.length_take]; rfl)) ?_; (with_reducible refine (Zz.calls k Jx Jv Ju Jt Js Jr Jq Jo Jm J2 _ _ J6 Jl Jk _ _ J5 t340 _ ?side1 ?side2 ?side3 ?side4 A2.out).mono ?_); (case side1 => exact (Kd.Zw HR0_12.out HB.out)); (case side2 => exact HC0_12.out); (case side3 => exact (Kd.Zw HR0_15.out HB.out)); (case side4 => exact HC0_15.out); rintro e w36 ⟨rfl, hb⟩; refine ⟨_, rfl, ?_⟩; have n0_ := Zd.mk (Zp J0.out hb); have n1_ := Zd.mk (Zj HB.out hb); clear J0; clear HB; have J0 := n0_; have HB := n1_; clear n0_ n1_; (try clear hb); (try clear hb2); (try clear hk); (try clear hi)))
  go_ret
  exact ⟨by first | rfl | (simp [errW_none, errW_some] <;> rfl) | (simp [*, errW_none, errW_some] <;> rfl), HB.out⟩
end Go.Proofs.Ytkbkndfonccekaa.PF
namespace Go.Proofs.Ytkbkndfonccekaa.PF
open Go.RowKit Go.Proofs.YtkbkndfonccekaaW.PrintWords Go.Proofs.YtkbkndfonccekaaW.PrintLast Go.Proofs.YtkbkndfonccekaaW.PrintMore
attribute [local go_sem] Qn Qp Kq Kt
set_option linter.unusedVariables false
set_option linter.unusedSimpArgs false
def Kz.f (k : Nat) (JA : Int) (Jz : Int) (Jx : Int) (Jv : Bool) (Ju : Int) (Jt : Int) (Js : Int) (Jr : Int) (Jq : Bool) (Jo : Int) (JF : List (Qh)) (J2 : Int) (JG : Int) (JE : List (Vd)) : Option (Int) := (Zo.f k JA Jz Jx Jv Ju Jt Js Jr Jq Jo JF J2 JG JE 11).bind fun bt349 => (some bt349.2.2)
set_option maxHeartbeats 8000000 in
set_option maxRecDepth 100000 in
theorem Kz.calls (k : Nat) (JA : Int) (Jz : Int) (Jx : Int) (Jv : Bool) (Ju : Int) (Jt : Int) (Js : Int) (Jr : Int) (Jq : Bool) (Jo : Int) (A0_10 : Option Addr) (c0_10 : Nat) (JF : List (Qh)) (J2 : Int) (JG : Int) (A0_13 : Option Addr) (c0_13 : Nat) (JE : List (Vd)) (r : Int) (w : World) (hr0_10 : Kd.C k27 w A0_10 JF.length JF) (hc0_10 : JF.length ≤ c0_10) (hr0_13 : Kd.C k30 w A0_13 JE.length JE) (hc0_13 : JE.length ≤ c0_13) (h : Kz.f k JA Jz Jx Jv Ju Jt Js Jr Jq Jo JF J2 JG JE = some r) :
 Calls Try.prog 25 #[.agg #[.int .i64 JA, .int .i64 Jz, .int .i64 Jx, .bool Jv, .int .i64 Ju, .int .u64 Jt, .int .u64 Js, .int .i64 Jr, .bool Jq, .int .i64 Jo, .slice A0_10 JF.length c0_10, .int .i64 J2, .int .i64 JG, .slice A0_13 JE.length c0_13]] w fun e w' => e = .returned (.int .i64 r) ∧ Below w.heap.size w w' := by
 have hu30 := Try.underlying30
 have HR0_10 := Zd.mk hr0_10
 have HC0_10 := Zd.mk hc0_10
 clear hr0_10 hc0_10
 have HR0_13 := Zd.mk hr0_13
 have HC0_13 := Zd.mk hc0_13
 clear hr0_13 hc0_13
 have HB := Zd.mk (Below.refl w.heap.size w)
 have H : ((Zo.f k JA Jz Jx Jv Ju Jt Js Jr Jq Jo JF J2 JG JE 11).bind fun bt349 => (some bt349.2.2)) = some r := h
 clear h
 replace H := Option.bind_eq_some_iff.mp H
 obtain ⟨⟨t349, t350, t351⟩, A20, H⟩ := H
 replace H : (some t351) = some r := H
 have A2 := Zd.mk A20
 clear A20
 obtain rfl := Option.some.inj H
 go_enter Try.func25, Try.ntmps25
 go_wp2_with (first | ((with_reducible refine Xd (N := 1) rfl ?_); refine Xe ?hg (N := 1) ?hd (cs := #[.int .i64 JA, .int .i64 Jz, .int .i64 Jx, .bool Jv, .int .i64 Ju, .int .u64 Jt, .int .u64 Js, .int .i64 Jr, .bool Jq, .int .i64 Jo, .slice A0_10 JF.length c0_10, .int .i64 J2, .int .i64 JG, .slice A0_13 JE.length c0_13]) (t := 30) ?hr ?_; (case hd => rfl); (case hg => rfl); (case hr => first | (go_simp; done) | (go_simp; rfl)); intro JD hg w3 hbox hb; have n0_ := Zd.mk (Zj HB.out hb); have n1_ := Zd.mk (hbox); have n2_ := Zd.mk ((by rw [hg]; exact (Zl HB.out) : w.heap.size ≤ JD)); have n3_ := n2_; clear HB; have HB := n0_; have Jn := n1_; have GW348 := n2_; have GE348 := n3_; clear n0_ n1_ n2_ n3_; clear hb hbox hg; have hcz4_0 : w3.cell? ⟨JD, 0, none⟩ = some (.int .i64 JA) := (Za Jn.out 0).trans rfl; have hcz4_1 : w3.cell? ⟨JD, 1, none⟩ = some (.int .i64 Jz) := (Za Jn.out 1).trans rfl; have hcz4_2 : w3.cell? ⟨JD, 2, none⟩ = some (.int .i64 Jx) := (Za Jn.out 2).trans rfl; have hcz4_3 : w3.cell? ⟨JD, 3, none⟩ = some (.bool Jv) := (Za Jn.out 3).trans rfl; have hcz4_4 : w3.cell? ⟨JD, 4, none⟩ = some (.int .i64 Ju) := (Za Jn.out 4).trans rfl; have hcz4_5 : w3.cell? ⟨JD, 5, none⟩ = some (.int .u64 Jt) := (Za Jn.out 5).trans rfl; have hcz4_6 : w3.cell? ⟨JD, 6, none⟩ = some (.int .u64 Js) := (Za Jn.out 6).trans rfl; have hcz4_7 : w3.cell? ⟨JD, 7, none⟩ = some (.int .i64 Jr) := (Za Jn.out 7).trans rfl; have hcz4_8 : w3.cell? ⟨JD, 8, none⟩ = some (.bool Jq) := (Za Jn.out 8).trans rfl; have hcz4_9 : w3.cell? ⟨JD, 9, none⟩ = some (.int .i64 Jo) := (Za Jn.out 9).trans rfl; have hcz4_10 : w3.cell? ⟨JD, 10, none⟩ = some (.slice A0_10 JF.length c0_10) := (Za Jn.out 10).trans rfl; have hcz4_11 : w3.cell? ⟨JD, 11, none⟩ = some (.int .i64 J2) := (Za Jn.out 11).trans rfl; have hcz4_12 : w3.cell? ⟨JD, 12, none⟩ = some (.int .i64 JG) := (Za Jn.out 12).trans rfl; have hcz4_13 : w3.cell? ⟨JD, 13, none⟩ = some (.slice A0_13 JE.length c0_13) := (Za Jn.out 13).trans rfl; have hfz4_0 := Zb Jn.out 0; have hfz4_1 := Zb Jn.out 1; have hfz4_2 := Zb Jn.out 2; have hfz4_3 := Zb Jn.out 3; have hfz4_4 := Zb Jn.out 4; have hfz4_5 := Zb Jn.out 5; have hfz4_6 := Zb Jn.out 6; have hfz4_7 := Zb Jn.out 7; have hfz4_8 := Zb Jn.out 8; have hfz4_9 := Zb Jn.out 9; have hfz4_10 := Zb Jn.out 10; have hfz4_11 := Zb Jn.out 11; have hfz4_12 := Zb Jn.out 12; have hfz4_13 := Zb Jn.out 13) | ((with_reducible refine Zx (f := 15) rfl ?_); refine Xz (some 8) rfl rfl Try.func15 (by kernel_rfl) rfl #[.agg #[.int .i64 JA, .int .i64 Jz, .int .i64 Jx, .bool Jv, .int .i64 Ju, .int .u64 Jt, .int .u64 Js, .int .i64 Jr, .bool Jq, .int .i64 Jo, .slice A0_10 JF.length c0_10, .int .i64 J2, .int .i64 JG, .slice A0_13 JE.length c0_13], .int .i64 11] rfl (by (try simp only [List.map_toArray, List.map_cons, List.map_nil]); first | done | rfl | (simp only [List.length_drop, List.length_take]; rfl)) ?_; (with_reducible refine (Zo.calls k JA Jz Jx Jv Ju Jt Js Jr Jq Jo _ _ JF J2 JG _ _ JE 11 t349 t350 t351 _ ?side1 ?side2 ?side3 ?side4 A2.out).mono ?_); (case side1 => exact (Kd.Zw HR0_10.out HB.out)); (case side2 => exact HC0_10.out); (case side3 => exact (Kd.Zw HR0_13.out HB.out)); (case side4 => exact HC0_13.out); rintro e w5 ⟨rfl, hb⟩; refine ⟨_, rfl, ?_⟩; have n0_ := Zd.mk (Zp Jn.out hb); have n1_ := Zd.mk (Zj HB.out hb); clear Jn; clear HB; have Jn := n0_; have HB := n1_; clear n0_ n1_; (try clear hb); (try clear hb2); (try clear hk); (try clear hi)))
 go_ret
 exact ⟨by first | rfl | (simp [errW_none, errW_some] <;> rfl) | (simp [*, errW_none, errW_some] <;> rfl), HB.out⟩
end Go.Proofs.Ytkbkndfonccekaa.PF
