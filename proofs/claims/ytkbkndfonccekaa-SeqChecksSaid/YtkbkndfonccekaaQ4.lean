/- Joined by this session's own program out of its texts: PFx7. -/
import Derived.Test.YtkbkndfonccekaaQ1
namespace Go.Proofs.Ytkbkndfonccekaa.PF
open Go.RowKit Go.Proofs.YtkbkndfonccekaaW.PrintWords Go.Proofs.YtkbkndfonccekaaW.PrintLast Go.Proofs.YtkbkndfonccekaaW.PrintMore
attribute [local go_sem] Qn Qp Kq Kt
set_option linter.unusedVariables false
set_option linter.unusedSimpArgs false
mutual
def Zt.l0 : Nat → Int → List (Vd) → Int → Int → Option (Int)
  | 0, _, _, _, _ => none
  | k + 1, x3, x33, x34, x35 => if x35 < x34 then (if 0 ≤ x35 then (if x35 < (x33.length : Int) then ((Zt.f k ((Zc x33 x35).f0) ((Zc x33 x35).f1.f0) ((Zc x33 x35).f1.f1) ((Zc x33 x35).f1.f2) ((Zc x33 x35).f1.f3.f0) ((Zc x33 x35).f1.f3.f1) ((Zc x33 x35).f1.f3.f2) ((Zc x33 x35).f1.f4) ((Zc x33 x35).f1.f5) ((Zc x33 x35).f1.f6) ((Zc x33 x35).f1.f7) ((Zc x33 x35).f2) ((Zc x33 x35).f3) ((Zc x33 x35).f4)).bind fun t131 => (Zt.l0 k (mx x3 t131) x33 x34 (wrap64 (x35 + 1)))) else (none)) else (none)) else (some x3)
def Zt.f : Nat → Int → Int → Int → Bool → Int → Int → Int → Int → Bool → Int → List (Qh) → Int → Int → List (Vd) → Option (Int)
  | 0, _, _, _, _, _, _, _, _, _, _, _, _, _, _ => none
  | k + 1, J4, Jk, Jj, Jh, Jg, Jf, Je, Jd, Jb, Ja, J7, J6, J8, J0 => if J4 = 1 then (if 0 < (J0.length : Int) then ((Zt.f k ((Zc J0 0).f0) ((Zc J0 0).f1.f0) ((Zc J0 0).f1.f1) ((Zc J0 0).f1.f2) ((Zc J0 0).f1.f3.f0) ((Zc J0 0).f1.f3.f1) ((Zc J0 0).f1.f3.f2) ((Zc J0 0).f1.f4) ((Zc J0 0).f1.f5) ((Zc J0 0).f1.f6) ((Zc J0 0).f1.f7) ((Zc J0 0).f2) ((Zc J0 0).f3) ((Zc J0 0).f4)).bind fun t124 => (if 1 < (J0.length : Int) then ((Zt.f k ((Zc J0 1).f0) ((Zc J0 1).f1.f0) ((Zc J0 1).f1.f1) ((Zc J0 1).f1.f2) ((Zc J0 1).f1.f3.f0) ((Zc J0 1).f1.f3.f1) ((Zc J0 1).f1.f3.f2) ((Zc J0 1).f1.f4) ((Zc J0 1).f1.f5) ((Zc J0 1).f1.f6) ((Zc J0 1).f1.f7) ((Zc J0 1).f2) ((Zc J0 1).f3) ((Zc J0 1).f4)).bind fun t126 => (some (wrap64 ((wrap64 ((wrap64 (t124 + J6)) + t126)) - 1)))) else (none))) else (none)) else (if J4 = 2 then (if 0 < (J0.length : Int) then ((Zt.f k ((Zc J0 0).f0) ((Zc J0 0).f1.f0) ((Zc J0 0).f1.f1) ((Zc J0 0).f1.f2) ((Zc J0 0).f1.f3.f0) ((Zc J0 0).f1.f3.f1) ((Zc J0 0).f1.f3.f2) ((Zc J0 0).f1.f4) ((Zc J0 0).f1.f5) ((Zc J0 0).f1.f6) ((Zc J0 0).f1.f7) ((Zc J0 0).f2) ((Zc J0 0).f3) ((Zc J0 0).f4)).bind fun t128 => (Zt.l0 k t128 J0 (J0.length : Int) 0)) else (none)) else (if J4 = 3 then (if 0 < (J0.length : Int) then ((Zt.f k ((Zc J0 0).f0) ((Zc J0 0).f1.f0) ((Zc J0 0).f1.f1) ((Zc J0 0).f1.f2) ((Zc J0 0).f1.f3.f0) ((Zc J0 0).f1.f3.f1) ((Zc J0 0).f1.f3.f2) ((Zc J0 0).f1.f4) ((Zc J0 0).f1.f5) ((Zc J0 0).f1.f6) ((Zc J0 0).f1.f7) ((Zc J0 0).f2) ((Zc J0 0).f3) ((Zc J0 0).f4)).bind fun t133 => (if 1 < (J0.length : Int) then ((Zt.f k ((Zc J0 1).f0) ((Zc J0 1).f1.f0) ((Zc J0 1).f1.f1) ((Zc J0 1).f1.f2) ((Zc J0 1).f1.f3.f0) ((Zc J0 1).f1.f3.f1) ((Zc J0 1).f1.f3.f2) ((Zc J0 1).f1.f4) ((Zc J0 1).f1.f5) ((Zc J0 1).f1.f6) ((Zc J0 1).f1.f7) ((Zc J0 1).f2) ((Zc J0 1).f3) ((Zc J0 1).f4)).bind fun t135 => (some (mx t133 t135))) else (none))) else (none)) else (if J4 = 4 then (if 0 < (J0.length : Int) then ((Zt.f k ((Zc J0 0).f0) ((Zc J0 0).f1.f0) ((Zc J0 0).f1.f1) ((Zc J0 0).f1.f2) ((Zc J0 0).f1.f3.f0) ((Zc J0 0).f1.f3.f1) ((Zc J0 0).f1.f3.f2) ((Zc J0 0).f1.f4) ((Zc J0 0).f1.f5) ((Zc J0 0).f1.f6) ((Zc J0 0).f1.f7) ((Zc J0 0).f2) ((Zc J0 0).f3) ((Zc J0 0).f4)).bind fun t137 => (some (mn (wrap64 (J6 * t137)) 65))) else (none)) else (some 1))))
end
theorem Zt.mono_l : ∀ k, (∀ y0 y1 y2 y3 y4 y5 y6 y7 y8 y9 y10 y11 y12 y13, Xo (Zt.f k y0 y1 y2 y3 y4 y5 y6 y7 y8 y9 y10 y11 y12 y13) (Zt.f (k + 1) y0 y1 y2 y3 y4 y5 y6 y7 y8 y9 y10 y11 y12 y13)) ∧ (∀ y0 y1 y2 y3, Xo (Zt.l0 k y0 y1 y2 y3) (Zt.l0 (k + 1) y0 y1 y2 y3))
  | 0 => ⟨fun _ _ _ _ _ _ _ _ _ _ _ _ _ _ r h => by simp [Zt.f] at h, fun _ _ _ _ r h => by simp [Zt.l0] at h⟩
  | k + 1 => by
    obtain ⟨ih0, ih1⟩ := Zt.mono_l k
    refine ⟨?_, ?_⟩
    · intro y0 y1 y2 y3 y4 y5 y6 y7 y8 y9 y10 y11 y12 y13
      unfold Zt.f
      repeat' first
      | (with_reducible exact ih0 _ _ _ _ _ _ _ _ _ _ _ _ _ _)
      | (with_reducible exact ih1 _ _ _ _)
      | (with_reducible exact Xo.refl _)
      | (with_reducible exact Xo.none _)
      | (with_reducible refine Xo.ite ?_ ?_)
      | (with_reducible refine Xo.bind ?_ (fun _ => ?_))
      | exact ih0 _ _ _ _ _ _ _ _ _ _ _ _ _ _
      | exact ih1 _ _ _ _
      | exact Xo.none _
      | refine Xo.ite ?_ ?_
      | refine Xo.bind ?_ (fun _ => ?_)
    · intro y0 y1 y2 y3
      unfold Zt.l0
      repeat' first
      | (with_reducible exact ih0 _ _ _ _ _ _ _ _ _ _ _ _ _ _)
      | (with_reducible exact ih1 _ _ _ _)
      | (with_reducible exact Xo.refl _)
      | (with_reducible exact Xo.none _)
      | (with_reducible refine Xo.ite ?_ ?_)
      | (with_reducible refine Xo.bind ?_ (fun _ => ?_))
      | exact ih0 _ _ _ _ _ _ _ _ _ _ _ _ _ _
      | exact ih1 _ _ _ _
      | exact Xo.none _
      | refine Xo.ite ?_ ?_
      | refine Xo.bind ?_ (fun _ => ?_)
theorem Zt.mono : ∀ a0 a1 a2 a3 a4 a5 a6 a7 a8 a9 a10 a11 a12 a13 k, Xo (Zt.f k a0 a1 a2 a3 a4 a5 a6 a7 a8 a9 a10 a11 a12 a13) (Zt.f (k + 1) a0 a1 a2 a3 a4 a5 a6 a7 a8 a9 a10 a11 a12 a13) := by
  intro a0 a1 a2 a3 a4 a5 a6 a7 a8 a9 a10 a11 a12 a13 k
  obtain ⟨ih0, ih1⟩ := Zt.mono_l k
  exact ih0 a0 a1 a2 a3 a4 a5 a6 a7 a8 a9 a10 a11 a12 a13
def Zt.T3 : Bool × List (List Nat × List Nat) := (true, [([], []), ([0], [0]), ([1], [1]), ([2], [2]), ([3], [3]), ([], []), ([5], [5]), ([4, 6], [4, 6]), ([], []), ([8], [8]), ([9], [9]), ([10], [10]), ([11, 4], [11]), ([7, 12], [7, 12]), ([13], [13]), ([14, 12, 0, 1, 2, 3, 4, 5, 6, 7, 8, 9, 10, 11, 12, 13, 14], [14])])
def Zt.B3 : List Nat := [0, 1, 3, 7, 15, 0, 32, 127, 0, 256, 768, 1792, 3871, 8191, 16383, 32767]
theorem Zt.tab3 : rtab .any (opsOf Try.f17 3) = Zt.T3 := by kernel_rfl
theorem Zt.bits3 : Wi Zt.T3.2 Zt.B3 = true := by kernel_rfl
def Zt.T13 : Bool × List (List Nat × List Nat) := (true, [([], []), ([0], [0]), ([1], [1]), ([2], [2]), ([3], [3]), ([], []), ([5], [5]), ([6], [6]), ([7], [7]), ([8, 4], [8]), ([4, 9], [4, 9]), ([10, 9, 0, 1, 2, 3, 4, 5, 6, 7, 8, 9, 10], [10])])
def Zt.B13 : List Nat := [0, 1, 3, 7, 15, 0, 32, 96, 224, 511, 1023, 2047]
theorem Zt.tab13 : rtab .any (opsOf Try.f17 13) = Zt.T13 := by kernel_rfl
theorem Zt.bits13 : Wi Zt.T13.2 Zt.B13 = true := by kernel_rfl
def Zt.T15 : Bool × List (List Nat × List Nat) := (true, [([], []), ([0], [0]), ([], []), ([2], [2]), ([3], [3]), ([4], [4]), ([5], [5]), ([1, 6], [1, 6]), ([7], [7]), ([8, 6, 0, 1, 2, 3, 4, 5, 6, 7, 8], [8])])
def Zt.B15 : List Nat := [0, 1, 0, 4, 12, 28, 60, 127, 255, 511]
theorem Zt.tab15 : rtab .any (opsOf Try.f17 15) = Zt.T15 := by kernel_rfl
theorem Zt.bits15 : Wi Zt.T15.2 Zt.B15 = true := by kernel_rfl
set_option maxHeartbeats 8000000 in
set_option maxRecDepth 100000 in
theorem Zt.calls (k : Nat) : ∀ (J4 : Int) (Jk : Int) (Jj : Int) (Jh : Bool) (Jg : Int) (Jf : Int) (Je : Int) (Jd : Int) (Jb : Bool) (Ja : Int) (A0_10 : Option Addr) (c0_10 : Nat) (J7 : List (Qh)) (J6 : Int) (J8 : Int) (A0_13 : Option Addr) (c0_13 : Nat) (J0 : List (Vd)) (r : Int) (w : World) (hr0_10 : Kd.C k27 w A0_10 J7.length J7) (hc0_10 : J7.length ≤ c0_10) (hr0_13 : Kd.C k30 w A0_13 J0.length J0) (hc0_13 : J0.length ≤ c0_13) (h : Zt.f k J4 Jk Jj Jh Jg Jf Je Jd Jb Ja J7 J6 J8 J0 = some r),
 Calls Try.prog 17 #[.agg #[.int .i64 J4, .int .i64 Jk, .int .i64 Jj, .bool Jh, .int .i64 Jg, .int .u64 Jf, .int .u64 Je, .int .i64 Jd, .bool Jb, .int .i64 Ja, .slice A0_10 J7.length c0_10, .int .i64 J6, .int .i64 J8, .slice A0_13 J0.length c0_13]] w fun e w' => e = .returned (.int .i64 r) ∧ Below w.heap.size w w' := by
 induction k using Nat.strongRecOn with
 | _ k ih =>
 intro J4 Jk Jj Jh Jg Jf Je Jd Jb Ja A0_10 c0_10 J7 J6 J8 A0_13 c0_13 J0 r w hr0_10 hc0_10 hr0_13 hc0_13 h
 cases k with
 | zero => exact absurd h (by simp [Zt.f])
 | succ k =>
 simp only [Zt.f] at h
 have hu30 := Try.underlying30
 have HR0_10 := Zd.mk hr0_10
 have HC0_10 := Zd.mk hc0_10
 clear hr0_10 hc0_10
 have HR0_13 := Zd.mk hr0_13
 have HC0_13 := Zd.mk hc0_13
 clear hr0_13 hc0_13
 have HB := Zd.mk (Below.refl w.heap.size w)
 have H : (if J4 = 1 then (if 0 < (J0.length : Int) then ((Zt.f k ((Zc J0 0).f0) ((Zc J0 0).f1.f0) ((Zc J0 0).f1.f1) ((Zc J0 0).f1.f2) ((Zc J0 0).f1.f3.f0) ((Zc J0 0).f1.f3.f1) ((Zc J0 0).f1.f3.f2) ((Zc J0 0).f1.f4) ((Zc J0 0).f1.f5) ((Zc J0 0).f1.f6) ((Zc J0 0).f1.f7) ((Zc J0 0).f2) ((Zc J0 0).f3) ((Zc J0 0).f4)).bind fun t124 => (if 1 < (J0.length : Int) then ((Zt.f k ((Zc J0 1).f0) ((Zc J0 1).f1.f0) ((Zc J0 1).f1.f1) ((Zc J0 1).f1.f2) ((Zc J0 1).f1.f3.f0) ((Zc J0 1).f1.f3.f1) ((Zc J0 1).f1.f3.f2) ((Zc J0 1).f1.f4) ((Zc J0 1).f1.f5) ((Zc J0 1).f1.f6) ((Zc J0 1).f1.f7) ((Zc J0 1).f2) ((Zc J0 1).f3) ((Zc J0 1).f4)).bind fun t126 => (some (wrap64 ((wrap64 ((wrap64 (t124 + J6)) + t126)) - 1)))) else (none))) else (none)) else (if J4 = 2 then (if 0 < (J0.length : Int) then ((Zt.f k ((Zc J0 0).f0) ((Zc J0 0).f1.f0) ((Zc J0 0).f1.f1) ((Zc J0 0).f1.f2) ((Zc J0 0).f1.f3.f0) ((Zc J0 0).f1.f3.f1) ((Zc J0 0).f1.f3.f2) ((Zc J0 0).f1.f4) ((Zc J0 0).f1.f5) ((Zc J0 0).f1.f6) ((Zc J0 0).f1.f7) ((Zc J0 0).f2) ((Zc J0 0).f3) ((Zc J0 0).f4)).bind fun t128 => (Zt.l0 k t128 J0 (J0.length : Int) 0)) else (none)) else (if J4 = 3 then (if 0 < (J0.length : Int) then ((Zt.f k ((Zc J0 0).f0) ((Zc J0 0).f1.f0) ((Zc J0 0).f1.f1) ((Zc J0 0).f1.f2) ((Zc J0 0).f1.f3.f0) ((Zc J0 0).f1.f3.f1) ((Zc J0 0).f1.f3.f2) ((Zc J0 0).f1.f4) ((Zc J0 0).f1.f5) ((Zc J0 0).f1.f6) ((Zc J0 0).f1.f7) ((Zc J0 0).f2) ((Zc J0 0).f3) ((Zc J0 0).f4)).bind fun t133 => (if 1 < (J0.length : Int) then ((Zt.f k ((Zc J0 1).f0) ((Zc J0 1).f1.f0) ((Zc J0 1).f1.f1) ((Zc J0 1).f1.f2) ((Zc J0 1).f1.f3.f0) ((Zc J0 1).f1.f3.f1) ((Zc J0 1).f1.f3.f2) ((Zc J0 1).f1.f4) ((Zc J0 1).f1.f5) ((Zc J0 1).f1.f6) ((Zc J0 1).f1.f7) ((Zc J0 1).f2) ((Zc J0 1).f3) ((Zc J0 1).f4)).bind fun t135 => (some (mx t133 t135))) else (none))) else (none)) else (if J4 = 4 then (if 0 < (J0.length : Int) then ((Zt.f k ((Zc J0 0).f0) ((Zc J0 0).f1.f0) ((Zc J0 0).f1.f1) ((Zc J0 0).f1.f2) ((Zc J0 0).f1.f3.f0) ((Zc J0 0).f1.f3.f1) ((Zc J0 0).f1.f3.f2) ((Zc J0 0).f1.f4) ((Zc J0 0).f1.f5) ((Zc J0 0).f1.f6) ((Zc J0 0).f1.f7) ((Zc J0 0).f2) ((Zc J0 0).f3) ((Zc J0 0).f4)).bind fun t137 => (some (mn (wrap64 (J6 * t137)) 65))) else (none)) else (some 1))))) = some r := h
 clear h
 by_cases c2 : J4 = 1
 ·rw [if_pos c2] at H
  have c2b0 : (J4 == 1) = true := beq_iff_eq.mpr c2
  have c2b1 : (J4 != 1) = false := bne_eq_false_iff_eq.mpr c2
  clear c2
  by_cases c3 : 0 < (J0.length : Int)
  ·rw [if_pos c3] at H
   have c3b0 : decide (0 < (J0.length : Int)) = true := decide_eq_true c3
   have c3b1 : decide (0 < J0.length) = true := decide_eq_true (by omega)
   clear c3
   replace H := Option.bind_eq_some_iff.mp H
   obtain ⟨t124, A40, H⟩ := H
   replace H : (if 1 < (J0.length : Int) then ((Zt.f k ((Zc J0 1).f0) ((Zc J0 1).f1.f0) ((Zc J0 1).f1.f1) ((Zc J0 1).f1.f2) ((Zc J0 1).f1.f3.f0) ((Zc J0 1).f1.f3.f1) ((Zc J0 1).f1.f3.f2) ((Zc J0 1).f1.f4) ((Zc J0 1).f1.f5) ((Zc J0 1).f1.f6) ((Zc J0 1).f1.f7) ((Zc J0 1).f2) ((Zc J0 1).f3) ((Zc J0 1).f4)).bind fun t126 => (some (wrap64 ((wrap64 ((wrap64 (t124 + J6)) + t126)) - 1)))) else (none)) = some r := H
   have A4 := Zd.mk A40
   clear A40
   by_cases c5 : 1 < (J0.length : Int)
   ·rw [if_pos c5] at H
    have c5b0 : decide (1 < (J0.length : Int)) = true := decide_eq_true c5
    have c5b1 : decide (1 < J0.length) = true := decide_eq_true (by omega)
    clear c5
    replace H := Option.bind_eq_some_iff.mp H
    obtain ⟨t126, A60, H⟩ := H
    replace H : (some (wrap64 ((wrap64 ((wrap64 (t124 + J6)) + t126)) - 1))) = some r := H
    have A6 := Zd.mk A60
    clear A60
    obtain rfl := Option.some.inj H
    go_enter Try.func17, Try.ntmps17
    try go_wp2_with (((with_reducible refine Xd (N := 1) rfl ?_); refine Xe ?hg (N := 1) ?hd (cs := #[.int .i64 J4, .int .i64 Jk, .int .i64 Jj, .bool Jh, .int .i64 Jg, .int .u64 Jf, .int .u64 Je, .int .i64 Jd, .bool Jb, .int .i64 Ja, .slice A0_10 J7.length c0_10, .int .i64 J6, .int .i64 J8, .slice A0_13 J0.length c0_13]) (t := 30) ?hr ?_; (case hd => rfl); (case hg => rfl); (case hr => first | (go_simp; done) | (go_simp; rfl)); intro J3 hg w7 hbox hb; have n0_ := Zd.mk (Zj HB.out hb); have n1_ := Zd.mk (hbox); have n2_ := Zd.mk ((by rw [hg]; exact (Zl HB.out) : w.heap.size ≤ J3)); have n3_ := n2_; clear HB; have HB := n0_; have J1 := n1_; have GW122 := n2_; have GE122 := n3_; clear n0_ n1_ n2_ n3_; clear hb hbox hg; have hcz8_0 : w7.cell? ⟨J3, 0, none⟩ = some (.int .i64 J4) := (Za J1.out 0).trans rfl; have hcz8_1 : w7.cell? ⟨J3, 1, none⟩ = some (.int .i64 Jk) := (Za J1.out 1).trans rfl; have hcz8_2 : w7.cell? ⟨J3, 2, none⟩ = some (.int .i64 Jj) := (Za J1.out 2).trans rfl; have hcz8_3 : w7.cell? ⟨J3, 3, none⟩ = some (.bool Jh) := (Za J1.out 3).trans rfl; have hcz8_4 : w7.cell? ⟨J3, 4, none⟩ = some (.int .i64 Jg) := (Za J1.out 4).trans rfl; have hcz8_5 : w7.cell? ⟨J3, 5, none⟩ = some (.int .u64 Jf) := (Za J1.out 5).trans rfl; have hcz8_6 : w7.cell? ⟨J3, 6, none⟩ = some (.int .u64 Je) := (Za J1.out 6).trans rfl; have hcz8_7 : w7.cell? ⟨J3, 7, none⟩ = some (.int .i64 Jd) := (Za J1.out 7).trans rfl; have hcz8_8 : w7.cell? ⟨J3, 8, none⟩ = some (.bool Jb) := (Za J1.out 8).trans rfl; have hcz8_9 : w7.cell? ⟨J3, 9, none⟩ = some (.int .i64 Ja) := (Za J1.out 9).trans rfl; have hcz8_10 : w7.cell? ⟨J3, 10, none⟩ = some (.slice A0_10 J7.length c0_10) := (Za J1.out 10).trans rfl; have hcz8_11 : w7.cell? ⟨J3, 11, none⟩ = some (.int .i64 J6) := (Za J1.out 11).trans rfl; have hcz8_12 : w7.cell? ⟨J3, 12, none⟩ = some (.int .i64 J8) := (Za J1.out 12).trans rfl; have hcz8_13 : w7.cell? ⟨J3, 13, none⟩ = some (.slice A0_13 J0.length c0_13) := (Za J1.out 13).trans rfl; have hfz8_0 := Zb J1.out 0; have hfz8_1 := Zb J1.out 1; have hfz8_2 := Zb J1.out 2; have hfz8_3 := Zb J1.out 3; have hfz8_4 := Zb J1.out 4; have hfz8_5 := Zb J1.out 5; have hfz8_6 := Zb J1.out 6; have hfz8_7 := Zb J1.out 7; have hfz8_8 := Zb J1.out 8; have hfz8_9 := Zb J1.out 9; have hfz8_10 := Zb J1.out 10; have hfz8_11 := Zb J1.out 11; have hfz8_12 := Zb J1.out 12; have hfz8_13 := Zb J1.out 13))
    have n0_ := Zd.mk (Zg J1.out)
    have n1_ := Zd.mk (Xj HB.out)
    clear J1
    clear HB
    have J1 := n0_
    have HB := n1_
    clear n0_ n1_
    have p123 : 0 ≤ (0 : Int) := (by omega)
    have q123 : 0 < (J0.length : Int) := of_decide_eq_true (by first | (with_reducible assumption) | assumption)
    obtain ⟨ad123, A123_10, c123_10, A123_13, c123_13, e123, hx123_0, hx123_1, hx123_2, hx123_3, hx123_4, hx123_5, hx123_6, hx123_7, hx123_8, hx123_9, hx123_10, hx123_11, hx123_12, hx123_13, hl123_10, hi123_10, hl123_13, hi123_13⟩ := Jc HR0_13.out 0 p123 q123
    have hw123_13 := hx123_13
    (try rw [show ((0 : Int)).toNat = 0 from rfl] at hw123_13)
    (try rw [show 0 * 14 = 0 from rfl] at hw123_13)
    (try rw [Addr.add_zero'] at hw123_13)
    have hw123_12 := hx123_12
    (try rw [show ((0 : Int)).toNat = 0 from rfl] at hw123_12)
    (try rw [show 0 * 14 = 0 from rfl] at hw123_12)
    (try rw [Addr.add_zero'] at hw123_12)
    have hw123_11 := hx123_11
    (try rw [show ((0 : Int)).toNat = 0 from rfl] at hw123_11)
    (try rw [show 0 * 14 = 0 from rfl] at hw123_11)
    (try rw [Addr.add_zero'] at hw123_11)
    have hw123_10 := hx123_10
    (try rw [show ((0 : Int)).toNat = 0 from rfl] at hw123_10)
    (try rw [show 0 * 14 = 0 from rfl] at hw123_10)
    (try rw [Addr.add_zero'] at hw123_10)
    have hw123_9 := hx123_9
    (try rw [show ((0 : Int)).toNat = 0 from rfl] at hw123_9)
    (try rw [show 0 * 14 = 0 from rfl] at hw123_9)
    (try rw [Addr.add_zero'] at hw123_9)
    have hw123_8 := hx123_8
    (try rw [show ((0 : Int)).toNat = 0 from rfl] at hw123_8)
    (try rw [show 0 * 14 = 0 from rfl] at hw123_8)
    (try rw [Addr.add_zero'] at hw123_8)
    have hw123_7 := hx123_7
    (try rw [show ((0 : Int)).toNat = 0 from rfl] at hw123_7)
    (try rw [show 0 * 14 = 0 from rfl] at hw123_7)
    (try rw [Addr.add_zero'] at hw123_7)
    have hw123_6 := hx123_6
    (try rw [show ((0 : Int)).toNat = 0 from rfl] at hw123_6)
    (try rw [show 0 * 14 = 0 from rfl] at hw123_6)
    (try rw [Addr.add_zero'] at hw123_6)
    have hw123_5 := hx123_5
    (try rw [show ((0 : Int)).toNat = 0 from rfl] at hw123_5)
    (try rw [show 0 * 14 = 0 from rfl] at hw123_5)
    (try rw [Addr.add_zero'] at hw123_5)
    have hw123_4 := hx123_4
    (try rw [show ((0 : Int)).toNat = 0 from rfl] at hw123_4)
    (try rw [show 0 * 14 = 0 from rfl] at hw123_4)
    (try rw [Addr.add_zero'] at hw123_4)
    have hw123_3 := hx123_3
    (try rw [show ((0 : Int)).toNat = 0 from rfl] at hw123_3)
    (try rw [show 0 * 14 = 0 from rfl] at hw123_3)
    (try rw [Addr.add_zero'] at hw123_3)
    have hw123_2 := hx123_2
    (try rw [show ((0 : Int)).toNat = 0 from rfl] at hw123_2)
    (try rw [show 0 * 14 = 0 from rfl] at hw123_2)
    (try rw [Addr.add_zero'] at hw123_2)
    have hw123_1 := hx123_1
    (try rw [show ((0 : Int)).toNat = 0 from rfl] at hw123_1)
    (try rw [show 0 * 14 = 0 from rfl] at hw123_1)
    (try rw [Addr.add_zero'] at hw123_1)
    have hw123_0 := hx123_0
    (try rw [show ((0 : Int)).toNat = 0 from rfl] at hw123_0)
    (try rw [show 0 * 14 = 0 from rfl] at hw123_0)
    (try rw [Addr.add_zero'] at hw123_0)
    cases e123
    have qi123 : (0 < J0.length) = True := eq_true (by omega)
    (try rw [show ((0 : Int)).toNat = 0 from rfl] at hx123_0)
    (try rw [show 0 * 14 = 0 from rfl] at hx123_0)
    (try rw [Addr.add_zero'] at hx123_0)
    (try rw [show ((0 : Int)).toNat = 0 from rfl] at hx123_1)
    (try rw [show 0 * 14 = 0 from rfl] at hx123_1)
    (try rw [Addr.add_zero'] at hx123_1)
    (try rw [show ((0 : Int)).toNat = 0 from rfl] at hx123_2)
    (try rw [show 0 * 14 = 0 from rfl] at hx123_2)
    (try rw [Addr.add_zero'] at hx123_2)
    (try rw [show ((0 : Int)).toNat = 0 from rfl] at hx123_3)
    (try rw [show 0 * 14 = 0 from rfl] at hx123_3)
    (try rw [Addr.add_zero'] at hx123_3)
    (try rw [show ((0 : Int)).toNat = 0 from rfl] at hx123_4)
    (try rw [show 0 * 14 = 0 from rfl] at hx123_4)
    (try rw [Addr.add_zero'] at hx123_4)
    (try rw [show ((0 : Int)).toNat = 0 from rfl] at hx123_5)
    (try rw [show 0 * 14 = 0 from rfl] at hx123_5)
    (try rw [Addr.add_zero'] at hx123_5)
    (try rw [show ((0 : Int)).toNat = 0 from rfl] at hx123_6)
    (try rw [show 0 * 14 = 0 from rfl] at hx123_6)
    (try rw [Addr.add_zero'] at hx123_6)
    (try rw [show ((0 : Int)).toNat = 0 from rfl] at hx123_7)
    (try rw [show 0 * 14 = 0 from rfl] at hx123_7)
    (try rw [Addr.add_zero'] at hx123_7)
    (try rw [show ((0 : Int)).toNat = 0 from rfl] at hx123_8)
    (try rw [show 0 * 14 = 0 from rfl] at hx123_8)
    (try rw [Addr.add_zero'] at hx123_8)
    (try rw [show ((0 : Int)).toNat = 0 from rfl] at hx123_9)
    (try rw [show 0 * 14 = 0 from rfl] at hx123_9)
    (try rw [Addr.add_zero'] at hx123_9)
    (try rw [show ((0 : Int)).toNat = 0 from rfl] at hx123_10)
    (try rw [show 0 * 14 = 0 from rfl] at hx123_10)
    (try rw [Addr.add_zero'] at hx123_10)
    (try rw [show ((0 : Int)).toNat = 0 from rfl] at hx123_11)
    (try rw [show 0 * 14 = 0 from rfl] at hx123_11)
    (try rw [Addr.add_zero'] at hx123_11)
    (try rw [show ((0 : Int)).toNat = 0 from rfl] at hx123_12)
    (try rw [show 0 * 14 = 0 from rfl] at hx123_12)
    (try rw [Addr.add_zero'] at hx123_12)
    (try rw [show ((0 : Int)).toNat = 0 from rfl] at hx123_13)
    (try rw [show 0 * 14 = 0 from rfl] at hx123_13)
    (try rw [Addr.add_zero'] at hx123_13)
    replace hx123_0 := zb HB.out hx123_0
    replace hx123_1 := zb HB.out hx123_1
    replace hx123_2 := zb HB.out hx123_2
    replace hx123_3 := zb HB.out hx123_3
    replace hx123_4 := zb HB.out hx123_4
    replace hx123_5 := zb HB.out hx123_5
    replace hx123_6 := zb HB.out hx123_6
    replace hx123_7 := zb HB.out hx123_7
    replace hx123_8 := zb HB.out hx123_8
    replace hx123_9 := zb HB.out hx123_9
    replace hx123_10 := zb HB.out hx123_10
    replace hx123_11 := zb HB.out hx123_11
    replace hx123_12 := zb HB.out hx123_12
    replace hx123_13 := zb HB.out hx123_13
    have HR123_10 := Zd.mk hi123_10
    have HC123_10 := Zd.mk hl123_10
    clear hi123_10 hl123_10
    have HR123_13 := Zd.mk hi123_13
    have HC123_13 := Zd.mk hl123_13
    clear hi123_13 hl123_13
    replace p123 := eq_true p123
    replace q123 := eq_true q123
    have p125 : 0 ≤ (1 : Int) := (by omega)
    have q125 : 1 < (J0.length : Int) := of_decide_eq_true (by first | (with_reducible assumption) | assumption)
    obtain ⟨ad125, A125_10, c125_10, A125_13, c125_13, e125, hx125_0, hx125_1, hx125_2, hx125_3, hx125_4, hx125_5, hx125_6, hx125_7, hx125_8, hx125_9, hx125_10, hx125_11, hx125_12, hx125_13, hl125_10, hi125_10, hl125_13, hi125_13⟩ := Jc HR0_13.out 1 p125 q125
    have hw125_13 := hx125_13
    (try rw [show ((1 : Int)).toNat = 1 from rfl] at hw125_13)
    (try rw [show 1 * 14 = 14 from rfl] at hw125_13)
    (try simp only [Nat.reduceMul, Nat.reduceEqDiff, Go.Addr.add, ↓reduceIte] at hw125_13)
    have hw125_12 := hx125_12
    (try rw [show ((1 : Int)).toNat = 1 from rfl] at hw125_12)
    (try rw [show 1 * 14 = 14 from rfl] at hw125_12)
    (try simp only [Nat.reduceMul, Nat.reduceEqDiff, Go.Addr.add, ↓reduceIte] at hw125_12)
    have hw125_11 := hx125_11
    (try rw [show ((1 : Int)).toNat = 1 from rfl] at hw125_11)
    (try rw [show 1 * 14 = 14 from rfl] at hw125_11)
    (try simp only [Nat.reduceMul, Nat.reduceEqDiff, Go.Addr.add, ↓reduceIte] at hw125_11)
    have hw125_10 := hx125_10
    (try rw [show ((1 : Int)).toNat = 1 from rfl] at hw125_10)
    (try rw [show 1 * 14 = 14 from rfl] at hw125_10)
    (try simp only [Nat.reduceMul, Nat.reduceEqDiff, Go.Addr.add, ↓reduceIte] at hw125_10)
    have hw125_9 := hx125_9
    (try rw [show ((1 : Int)).toNat = 1 from rfl] at hw125_9)
    (try rw [show 1 * 14 = 14 from rfl] at hw125_9)
    (try simp only [Nat.reduceMul, Nat.reduceEqDiff, Go.Addr.add, ↓reduceIte] at hw125_9)
    have hw125_8 := hx125_8
    (try rw [show ((1 : Int)).toNat = 1 from rfl] at hw125_8)
    (try rw [show 1 * 14 = 14 from rfl] at hw125_8)
    (try simp only [Nat.reduceMul, Nat.reduceEqDiff, Go.Addr.add, ↓reduceIte] at hw125_8)
    have hw125_7 := hx125_7
    (try rw [show ((1 : Int)).toNat = 1 from rfl] at hw125_7)
    (try rw [show 1 * 14 = 14 from rfl] at hw125_7)
    (try simp only [Nat.reduceMul, Nat.reduceEqDiff, Go.Addr.add, ↓reduceIte] at hw125_7)
    have hw125_6 := hx125_6
    (try rw [show ((1 : Int)).toNat = 1 from rfl] at hw125_6)
    (try rw [show 1 * 14 = 14 from rfl] at hw125_6)
    (try simp only [Nat.reduceMul, Nat.reduceEqDiff, Go.Addr.add, ↓reduceIte] at hw125_6)
    have hw125_5 := hx125_5
    (try rw [show ((1 : Int)).toNat = 1 from rfl] at hw125_5)
    (try rw [show 1 * 14 = 14 from rfl] at hw125_5)
    (try simp only [Nat.reduceMul, Nat.reduceEqDiff, Go.Addr.add, ↓reduceIte] at hw125_5)
    have hw125_4 := hx125_4
    (try rw [show ((1 : Int)).toNat = 1 from rfl] at hw125_4)
    (try rw [show 1 * 14 = 14 from rfl] at hw125_4)
    (try simp only [Nat.reduceMul, Nat.reduceEqDiff, Go.Addr.add, ↓reduceIte] at hw125_4)
    have hw125_3 := hx125_3
    (try rw [show ((1 : Int)).toNat = 1 from rfl] at hw125_3)
    (try rw [show 1 * 14 = 14 from rfl] at hw125_3)
    (try simp only [Nat.reduceMul, Nat.reduceEqDiff, Go.Addr.add, ↓reduceIte] at hw125_3)
    have hw125_2 := hx125_2
    (try rw [show ((1 : Int)).toNat = 1 from rfl] at hw125_2)
    (try rw [show 1 * 14 = 14 from rfl] at hw125_2)
    (try simp only [Nat.reduceMul, Nat.reduceEqDiff, Go.Addr.add, ↓reduceIte] at hw125_2)
    have hw125_1 := hx125_1
    (try rw [show ((1 : Int)).toNat = 1 from rfl] at hw125_1)
    (try rw [show 1 * 14 = 14 from rfl] at hw125_1)
    (try simp only [Nat.reduceMul, Nat.reduceEqDiff, Go.Addr.add, ↓reduceIte] at hw125_1)
    have hw125_0 := hx125_0
    (try rw [show ((1 : Int)).toNat = 1 from rfl] at hw125_0)
    (try rw [show 1 * 14 = 14 from rfl] at hw125_0)
    (try simp only [Nat.reduceMul, Nat.reduceEqDiff, Go.Addr.add, ↓reduceIte] at hw125_0)
    obtain rfl : ad123 = ad125 := (by injection e125)
    (try simp only [show (1 : Int).toNat = 1 from rfl, Nat.reduceMul, Nat.reduceEqDiff, Go.Addr.add, ↓reduceIte] at hx125_0)
    (try simp only [show (1 : Int).toNat = 1 from rfl, Nat.reduceMul, Nat.reduceEqDiff, Go.Addr.add, ↓reduceIte] at hx125_1)
    (try simp only [show (1 : Int).toNat = 1 from rfl, Nat.reduceMul, Nat.reduceEqDiff, Go.Addr.add, ↓reduceIte] at hx125_2)
    (try simp only [show (1 : Int).toNat = 1 from rfl, Nat.reduceMul, Nat.reduceEqDiff, Go.Addr.add, ↓reduceIte] at hx125_3)
    (try simp only [show (1 : Int).toNat = 1 from rfl, Nat.reduceMul, Nat.reduceEqDiff, Go.Addr.add, ↓reduceIte] at hx125_4)
    (try simp only [show (1 : Int).toNat = 1 from rfl, Nat.reduceMul, Nat.reduceEqDiff, Go.Addr.add, ↓reduceIte] at hx125_5)
    (try simp only [show (1 : Int).toNat = 1 from rfl, Nat.reduceMul, Nat.reduceEqDiff, Go.Addr.add, ↓reduceIte] at hx125_6)
    (try simp only [show (1 : Int).toNat = 1 from rfl, Nat.reduceMul, Nat.reduceEqDiff, Go.Addr.add, ↓reduceIte] at hx125_7)
    (try simp only [show (1 : Int).toNat = 1 from rfl, Nat.reduceMul, Nat.reduceEqDiff, Go.Addr.add, ↓reduceIte] at hx125_8)
    (try simp only [show (1 : Int).toNat = 1 from rfl, Nat.reduceMul, Nat.reduceEqDiff, Go.Addr.add, ↓reduceIte] at hx125_9)
    (try simp only [show (1 : Int).toNat = 1 from rfl, Nat.reduceMul, Nat.reduceEqDiff, Go.Addr.add, ↓reduceIte] at hx125_10)
    (try simp only [show (1 : Int).toNat = 1 from rfl, Nat.reduceMul, Nat.reduceEqDiff, Go.Addr.add, ↓reduceIte] at hx125_11)
    (try simp only [show (1 : Int).toNat = 1 from rfl, Nat.reduceMul, Nat.reduceEqDiff, Go.Addr.add, ↓reduceIte] at hx125_12)
    (try simp only [show (1 : Int).toNat = 1 from rfl, Nat.reduceMul, Nat.reduceEqDiff, Go.Addr.add, ↓reduceIte] at hx125_13)
    have qi125 : (1 < J0.length) = True := eq_true (by omega)
    (try rw [show ((1 : Int)).toNat = 1 from rfl] at hx125_0)
    (try rw [show 1 * 14 = 14 from rfl] at hx125_0)
    (try rw [show ((1 : Int)).toNat = 1 from rfl] at hx125_1)
    (try rw [show 1 * 14 = 14 from rfl] at hx125_1)
    (try rw [show ((1 : Int)).toNat = 1 from rfl] at hx125_2)
    (try rw [show 1 * 14 = 14 from rfl] at hx125_2)
    (try rw [show ((1 : Int)).toNat = 1 from rfl] at hx125_3)
    (try rw [show 1 * 14 = 14 from rfl] at hx125_3)
    (try rw [show ((1 : Int)).toNat = 1 from rfl] at hx125_4)
    (try rw [show 1 * 14 = 14 from rfl] at hx125_4)
    (try rw [show ((1 : Int)).toNat = 1 from rfl] at hx125_5)
    (try rw [show 1 * 14 = 14 from rfl] at hx125_5)
    (try rw [show ((1 : Int)).toNat = 1 from rfl] at hx125_6)
    (try rw [show 1 * 14 = 14 from rfl] at hx125_6)
    (try rw [show ((1 : Int)).toNat = 1 from rfl] at hx125_7)
    (try rw [show 1 * 14 = 14 from rfl] at hx125_7)
    (try rw [show ((1 : Int)).toNat = 1 from rfl] at hx125_8)
    (try rw [show 1 * 14 = 14 from rfl] at hx125_8)
    (try rw [show ((1 : Int)).toNat = 1 from rfl] at hx125_9)
    (try rw [show 1 * 14 = 14 from rfl] at hx125_9)
    (try rw [show ((1 : Int)).toNat = 1 from rfl] at hx125_10)
    (try rw [show 1 * 14 = 14 from rfl] at hx125_10)
    (try rw [show ((1 : Int)).toNat = 1 from rfl] at hx125_11)
    (try rw [show 1 * 14 = 14 from rfl] at hx125_11)
    (try rw [show ((1 : Int)).toNat = 1 from rfl] at hx125_12)
    (try rw [show 1 * 14 = 14 from rfl] at hx125_12)
    (try rw [show ((1 : Int)).toNat = 1 from rfl] at hx125_13)
    (try rw [show 1 * 14 = 14 from rfl] at hx125_13)
    replace hx125_0 := zb HB.out hx125_0
    replace hx125_1 := zb HB.out hx125_1
    replace hx125_2 := zb HB.out hx125_2
    replace hx125_3 := zb HB.out hx125_3
    replace hx125_4 := zb HB.out hx125_4
    replace hx125_5 := zb HB.out hx125_5
    replace hx125_6 := zb HB.out hx125_6
    replace hx125_7 := zb HB.out hx125_7
    replace hx125_8 := zb HB.out hx125_8
    replace hx125_9 := zb HB.out hx125_9
    replace hx125_10 := zb HB.out hx125_10
    replace hx125_11 := zb HB.out hx125_11
    replace hx125_12 := zb HB.out hx125_12
    replace hx125_13 := zb HB.out hx125_13
    have HR125_10 := Zd.mk hi125_10
    have HC125_10 := Zd.mk hl125_10
    clear hi125_10 hl125_10
    have HR125_13 := Zd.mk hi125_13
    have HC125_13 := Zd.mk hl125_13
    clear hi125_13 hl125_13
    replace p125 := eq_true p125
    replace q125 := eq_true q125
    refine start_ (n := 16) (S := fun w' => w'.cell? ⟨J3, 0, none⟩ = some (.int .i64 J4) ∧ w'.cell? ⟨J3, 1, none⟩ = some (.int .i64 Jk) ∧ w'.cell? ⟨J3, 2, none⟩ = some (.int .i64 Jj) ∧ w'.cell? ⟨J3, 3, none⟩ = some (.bool Jh) ∧ w'.cell? ⟨J3, 4, none⟩ = some (.int .i64 Jg) ∧ w'.cell? ⟨J3, 5, none⟩ = some (.int .u64 Jf) ∧ w'.cell? ⟨J3, 6, none⟩ = some (.int .u64 Je) ∧ w'.cell? ⟨J3, 7, none⟩ = some (.int .i64 Jd) ∧ w'.cell? ⟨J3, 8, none⟩ = some (.bool Jb) ∧ w'.cell? ⟨J3, 9, none⟩ = some (.int .i64 Ja) ∧ w'.cell? ⟨J3, 10, none⟩ = some (.slice A0_10 J7.length c0_10) ∧ w'.cell? ⟨J3, 11, none⟩ = some (.int .i64 J6) ∧ w'.cell? ⟨J3, 12, none⟩ = some (.int .i64 J8) ∧ w'.cell? ⟨J3, 13, none⟩ = some (.slice (some ad123) J0.length c0_13) ∧ w'.cell? ad123 = some (.int .i64 ((Zc J0 0).f0)) ∧ w'.cell? ⟨ad123.block, ad123.off + 1, none⟩ = some (.int .i64 ((Zc J0 0).f1.f0)) ∧ w'.cell? ⟨ad123.block, ad123.off + 2, none⟩ = some (.int .i64 ((Zc J0 0).f1.f1)) ∧ w'.cell? ⟨ad123.block, ad123.off + 3, none⟩ = some (.bool ((Zc J0 0).f1.f2)) ∧ w'.cell? ⟨ad123.block, ad123.off + 4, none⟩ = some (.int .i64 ((Zc J0 0).f1.f3.f0)) ∧ w'.cell? ⟨ad123.block, ad123.off + 5, none⟩ = some (.int .u64 ((Zc J0 0).f1.f3.f1)) ∧ w'.cell? ⟨ad123.block, ad123.off + 6, none⟩ = some (.int .u64 ((Zc J0 0).f1.f3.f2)) ∧ w'.cell? ⟨ad123.block, ad123.off + 7, none⟩ = some (.int .i64 ((Zc J0 0).f1.f4)) ∧ w'.cell? ⟨ad123.block, ad123.off + 8, none⟩ = some (.bool ((Zc J0 0).f1.f5)) ∧ w'.cell? ⟨ad123.block, ad123.off + 9, none⟩ = some (.int .i64 ((Zc J0 0).f1.f6)) ∧ w'.cell? ⟨ad123.block, ad123.off + 10, none⟩ = some (.slice A123_10 ((Zc J0 0).f1.f7).length c123_10) ∧ w'.cell? ⟨ad123.block, ad123.off + 11, none⟩ = some (.int .i64 ((Zc J0 0).f2)) ∧ w'.cell? ⟨ad123.block, ad123.off + 12, none⟩ = some (.int .i64 ((Zc J0 0).f3)) ∧ w'.cell? ⟨ad123.block, ad123.off + 13, none⟩ = some (.slice A123_13 ((Zc J0 0).f4).length c123_13) ∧ w'.cell? ⟨ad123.block, ad123.off + 14, none⟩ = some (.int .i64 ((Zc J0 1).f0)) ∧ w'.cell? ⟨ad123.block, ad123.off + 14 + 1, none⟩ = some (.int .i64 ((Zc J0 1).f1.f0)) ∧ w'.cell? ⟨ad123.block, ad123.off + 14 + 2, none⟩ = some (.int .i64 ((Zc J0 1).f1.f1)) ∧ w'.cell? ⟨ad123.block, ad123.off + 14 + 3, none⟩ = some (.bool ((Zc J0 1).f1.f2)) ∧ w'.cell? ⟨ad123.block, ad123.off + 14 + 4, none⟩ = some (.int .i64 ((Zc J0 1).f1.f3.f0)) ∧ w'.cell? ⟨ad123.block, ad123.off + 14 + 5, none⟩ = some (.int .u64 ((Zc J0 1).f1.f3.f1)) ∧ w'.cell? ⟨ad123.block, ad123.off + 14 + 6, none⟩ = some (.int .u64 ((Zc J0 1).f1.f3.f2)) ∧ w'.cell? ⟨ad123.block, ad123.off + 14 + 7, none⟩ = some (.int .i64 ((Zc J0 1).f1.f4)) ∧ w'.cell? ⟨ad123.block, ad123.off + 14 + 8, none⟩ = some (.bool ((Zc J0 1).f1.f5)) ∧ w'.cell? ⟨ad123.block, ad123.off + 14 + 9, none⟩ = some (.int .i64 ((Zc J0 1).f1.f6)) ∧ w'.cell? ⟨ad123.block, ad123.off + 14 + 10, none⟩ = some (.slice A125_10 ((Zc J0 1).f1.f7).length c125_10) ∧ w'.cell? ⟨ad123.block, ad123.off + 14 + 11, none⟩ = some (.int .i64 ((Zc J0 1).f2)) ∧ w'.cell? ⟨ad123.block, ad123.off + 14 + 12, none⟩ = some (.int .i64 ((Zc J0 1).f3)) ∧ w'.cell? ⟨ad123.block, ad123.off + 14 + 13, none⟩ = some (.slice A125_13 ((Zc J0 1).f4).length c125_13)) (ds := []) #[false, false, false, false, false, false, false, false, false, false, false, false, false, false, false, false] (by kernel_rfl) rfl rfl ⟨(Za J1.out 0).trans rfl, (Za J1.out 1).trans rfl, (Za J1.out 2).trans rfl, (Za J1.out 3).trans rfl, (Za J1.out 4).trans rfl, (Za J1.out 5).trans rfl, (Za J1.out 6).trans rfl, (Za J1.out 7).trans rfl, (Za J1.out 8).trans rfl, (Za J1.out 9).trans rfl, (Za J1.out 10).trans rfl, (Za J1.out 11).trans rfl, (Za J1.out 12).trans rfl, (Za J1.out 13).trans rfl, (zb HB.out hw123_0), (zb HB.out hw123_1), (zb HB.out hw123_2), (zb HB.out hw123_3), (zb HB.out hw123_4), (zb HB.out hw123_5), (zb HB.out hw123_6), (zb HB.out hw123_7), (zb HB.out hw123_8), (zb HB.out hw123_9), (zb HB.out hw123_10), (zb HB.out hw123_11), (zb HB.out hw123_12), (zb HB.out hw123_13), (zb HB.out hw125_0), (zb HB.out hw125_1), (zb HB.out hw125_2), (zb HB.out hw125_3), (zb HB.out hw125_4), (zb HB.out hw125_5), (zb HB.out hw125_6), (zb HB.out hw125_7), (zb HB.out hw125_8), (zb HB.out hw125_9), (zb HB.out hw125_10), (zb HB.out hw125_11), (zb HB.out hw125_12), (zb HB.out hw125_13)⟩ (fun hHeld => ?_); refine Ji Zt.tab3 Zt.bits3 (fun HT_ HW_ => ?_)
    generalize w7.drew = w9 at J1 HB HR123_10 HR123_13 HR125_10 HR125_13 hx123_0 hx123_1 hx123_10 hx123_11 hx123_12 hx123_13 hx123_2 hx123_3 hx123_4 hx123_5 hx123_6 hx123_7 hx123_8 hx123_9 hx125_0 hx125_1 hx125_10 hx125_11 hx125_12 hx125_13 hx125_2 hx125_3 hx125_4 hx125_5 hx125_6 hx125_7 hx125_8 hx125_9 hHeld ⊢
    refine Qe (i := 0) (N := some 10) (v := ?_) (a' := ?_) #[true, false, false, false, false, false, false, false, false, false, false, false, false, false, false, false] rfl rfl (Xu HT_.out (by kernel_rfl)) (fun _ _ _ h => h) (Or.inl ⟨by rfl, ?_⟩) ?_ ?_
    rotate_left
    ·intro w'
     go_simp
     with_reducible rfl
    rotate_left
    ·simp only [Act.put, List.setIfInBounds_toArray, List.set_cons_zero, List.set_cons_succ, Xk]
     rfl
    refine Qe (i := 5) (N := some 15) (v := ?_) (a' := ?_) #[true, false, false, false, false, true, false, false, false, false, false, false, false, false, false, false] rfl rfl (Xu HT_.out (by kernel_rfl)) (fun _ _ _ h => h) (Or.inl ⟨by rfl, ?_⟩) ?_ ?_
    rotate_left
    ·intro w'
     go_simp
     with_reducible rfl
    rotate_left
    ·simp only [Act.put, List.setIfInBounds_toArray, List.set_cons_zero, List.set_cons_succ, Xk]
     rfl
    refine Qe (i := 8) (N := some 18) (v := ?_) (a' := ?_) #[true, false, false, false, false, true, false, false, true, false, false, false, false, false, false, false] rfl rfl (Xu HT_.out (by kernel_rfl)) (fun _ _ _ h => h) (Or.inl ⟨by rfl, ?_⟩) ?_ ?_
    rotate_left
    ·intro w'
     go_simp
     with_reducible rfl
    rotate_left
    ·simp only [Act.put, List.setIfInBounds_toArray, List.set_cons_zero, List.set_cons_succ, Xk]
     rfl
    refine Vx (i := 1) (N := some 11) (v := ?_) (a' := ?_) #[true, true, false, false, false, true, false, false, true, false, false, false, false, false, false, false] rfl rfl (Ql HT_.out HW_.out (by kernel_rfl)) (fun _ _ _ h => h) (Or.inl ⟨by rfl, ?_⟩) hHeld ?_ ?_
    rotate_left
    ·rintro w' ⟨s0, s1, s2, s3, s4, s5, s6, s7, s8, s9, s10, s11, s12, s13, s14, s15, s16, s17, s18, s19, s20, s21, s22, s23, s24, s25, s26, s27, s28, s29, s30, s31, s32, s33, s34, s35, s36, s37, s38, s39, s40, s41⟩
     go_simp
     with_reducible rfl
    rotate_left
    ·simp only [Act.put, List.setIfInBounds_toArray, List.set_cons_zero, List.set_cons_succ, Xk]
     rfl
    refine Qe (i := 2) (N := some 12) (v := ?_) (a' := ?_) #[true, true, true, false, false, true, false, false, true, false, false, false, false, false, false, false] rfl rfl (Xu HT_.out (by kernel_rfl)) (fun _ _ _ h => h) (Or.inl ⟨by rfl, ?_⟩) ?_ ?_
    rotate_left
    ·intro w'
     go_simp
     with_reducible rfl
    rotate_left
    ·simp only [Act.put, List.setIfInBounds_toArray, List.set_cons_zero, List.set_cons_succ, Xk]
     rfl
    refine Vx (i := 3) (N := some 13) (v := ?_) (a' := ?_) #[true, true, true, true, false, true, false, false, true, false, false, false, false, false, false, false] rfl rfl (Ql HT_.out HW_.out (by kernel_rfl)) (fun _ _ _ h => h) (Or.inl ⟨by rfl, ?_⟩) hHeld ?_ ?_
    rotate_left
    ·rintro w' ⟨s0, s1, s2, s3, s4, s5, s6, s7, s8, s9, s10, s11, s12, s13, s14, s15, s16, s17, s18, s19, s20, s21, s22, s23, s24, s25, s26, s27, s28, s29, s30, s31, s32, s33, s34, s35, s36, s37, s38, s39, s40, s41⟩
     go_simp
     with_reducible rfl
    rotate_left
    ·simp only [Act.put, List.setIfInBounds_toArray, List.set_cons_zero, List.set_cons_succ, Xk]
     rfl
    refine Vx (i := 6) (N := some 16) (v := ?_) (a' := ?_) #[true, true, true, true, false, true, true, false, true, false, false, false, false, false, false, false] rfl rfl (Ql HT_.out HW_.out (by kernel_rfl)) (fun _ _ _ h => h) (Or.inl ⟨by rfl, ?_⟩) hHeld ?_ ?_
    rotate_left
    ·rintro w' ⟨s0, s1, s2, s3, s4, s5, s6, s7, s8, s9, s10, s11, s12, s13, s14, s15, s16, s17, s18, s19, s20, s21, s22, s23, s24, s25, s26, s27, s28, s29, s30, s31, s32, s33, s34, s35, s36, s37, s38, s39, s40, s41⟩
     go_simp
     with_reducible rfl
    rotate_left
    ·simp only [Act.put, List.setIfInBounds_toArray, List.set_cons_zero, List.set_cons_succ, Xk]
     rfl
    refine Vx (i := 9) (N := some 19) (v := ?_) (a' := ?_) #[true, true, true, true, false, true, true, false, true, true, false, false, false, false, false, false] rfl rfl (Ql HT_.out HW_.out (by kernel_rfl)) (fun _ _ _ h => h) (Or.inl ⟨by rfl, ?_⟩) hHeld ?_ ?_
    rotate_left
    ·rintro w' ⟨s0, s1, s2, s3, s4, s5, s6, s7, s8, s9, s10, s11, s12, s13, s14, s15, s16, s17, s18, s19, s20, s21, s22, s23, s24, s25, s26, s27, s28, s29, s30, s31, s32, s33, s34, s35, s36, s37, s38, s39, s40, s41⟩
     go_simp
     with_reducible rfl
    rotate_left
    ·simp only [Act.put, List.setIfInBounds_toArray, List.set_cons_zero, List.set_cons_succ, Xk]
     rfl
    refine Qe (i := 10) (N := some 20) (v := ?_) (a' := ?_) #[true, true, true, true, false, true, true, false, true, true, true, false, false, false, false, false] rfl rfl (Xu HT_.out (by kernel_rfl)) (fun _ _ _ h => h) (Or.inl ⟨by rfl, ?_⟩) ?_ ?_
    rotate_left
    ·intro w'
     go_simp
     with_reducible rfl
    rotate_left
    ·simp only [Act.put, List.setIfInBounds_toArray, List.set_cons_zero, List.set_cons_succ, Xk]
     rfl
    refine Vx (i := 11) (N := some 21) (v := ?_) (a' := ?_) #[true, true, true, true, false, true, true, false, true, true, true, true, false, false, false, false] rfl rfl (Ql HT_.out HW_.out (by kernel_rfl)) (fun _ _ _ h => h) (Or.inl ⟨by rfl, ?_⟩) hHeld ?_ ?_
    rotate_left
    ·rintro w' ⟨s0, s1, s2, s3, s4, s5, s6, s7, s8, s9, s10, s11, s12, s13, s14, s15, s16, s17, s18, s19, s20, s21, s22, s23, s24, s25, s26, s27, s28, s29, s30, s31, s32, s33, s34, s35, s36, s37, s38, s39, s40, s41⟩
     go_simp
     with_reducible rfl
    rotate_left
    ·simp only [Act.put, List.setIfInBounds_toArray, List.set_cons_zero, List.set_cons_succ, Xk]
     rfl
    refine one_ (i := 4) (N := some 14) #[true, true, true, true, true, true, true, false, true, true, true, true, false, false, false, false] rfl rfl (Vt HT_.out (by kernel_rfl)) (by decide) (fun K hK => ?_)
    refine Wp Try.func17 (by kernel_rfl) rfl #[.agg #[.int .i64 ((Zc J0 0).f0), .int .i64 ((Zc J0 0).f1.f0), .int .i64 ((Zc J0 0).f1.f1), .bool ((Zc J0 0).f1.f2), .int .i64 ((Zc J0 0).f1.f3.f0), .int .u64 ((Zc J0 0).f1.f3.f1), .int .u64 ((Zc J0 0).f1.f3.f2), .int .i64 ((Zc J0 0).f1.f4), .bool ((Zc J0 0).f1.f5), .int .i64 ((Zc J0 0).f1.f6), .slice A123_10 ((Zc J0 0).f1.f7).length c123_10, .int .i64 ((Zc J0 0).f2), .int .i64 ((Zc J0 0).f3), .slice A123_13 ((Zc J0 0).f4).length c123_13]] (by rfl) rfl rfl (by (try simp only [List.map_toArray, List.map_cons, List.map_nil]); first | done | rfl | (simp only [List.length_drop, List.length_take]; rfl)) ?_
    with_reducible refine (ih k (by omega) ((Zc J0 0).f0) ((Zc J0 0).f1.f0) ((Zc J0 0).f1.f1) ((Zc J0 0).f1.f2) ((Zc J0 0).f1.f3.f0) ((Zc J0 0).f1.f3.f1) ((Zc J0 0).f1.f3.f2) ((Zc J0 0).f1.f4) ((Zc J0 0).f1.f5) ((Zc J0 0).f1.f6) _ _ ((Zc J0 0).f1.f7) ((Zc J0 0).f2) ((Zc J0 0).f3) _ _ ((Zc J0 0).f4) t124 _ ?side1 ?side2 ?side3 ?side4 A4.out).mono ?_
    (case side1 => exact (Kd.Zw HR123_10.out HB.out))
    (case side2 => exact HC123_10.out)
    (case side3 => exact (Kd.Zw HR123_13.out HB.out))
    (case side4 => exact HC123_13.out)
    rintro e w10 ⟨rfl, hb⟩
    refine ⟨_, rfl, ?_⟩
    have n0_ := Zd.mk (Zp J1.out hb)
    have n1_ := Zd.mk (Zj HB.out hb)
    clear J1
    clear HB
    have J1 := n0_
    have HB := n1_
    clear n0_ n1_
    (try clear hb)
    (try clear hb2)
    (try clear hk)
    (try clear hi)
    refine hK.out _ _ ⟨(Za J1.out 0).trans rfl, (Za J1.out 1).trans rfl, (Za J1.out 2).trans rfl, (Za J1.out 3).trans rfl, (Za J1.out 4).trans rfl, (Za J1.out 5).trans rfl, (Za J1.out 6).trans rfl, (Za J1.out 7).trans rfl, (Za J1.out 8).trans rfl, (Za J1.out 9).trans rfl, (Za J1.out 10).trans rfl, (Za J1.out 11).trans rfl, (Za J1.out 12).trans rfl, (Za J1.out 13).trans rfl, (zb HB.out hw123_0), (zb HB.out hw123_1), (zb HB.out hw123_2), (zb HB.out hw123_3), (zb HB.out hw123_4), (zb HB.out hw123_5), (zb HB.out hw123_6), (zb HB.out hw123_7), (zb HB.out hw123_8), (zb HB.out hw123_9), (zb HB.out hw123_10), (zb HB.out hw123_11), (zb HB.out hw123_12), (zb HB.out hw123_13), (zb HB.out hw125_0), (zb HB.out hw125_1), (zb HB.out hw125_2), (zb HB.out hw125_3), (zb HB.out hw125_4), (zb HB.out hw125_5), (zb HB.out hw125_6), (zb HB.out hw125_7), (zb HB.out hw125_8), (zb HB.out hw125_9), (zb HB.out hw125_10), (zb HB.out hw125_11), (zb HB.out hw125_12), (zb HB.out hw125_13)⟩ (fun hHeld => ?_)
    clear hK K
    refine Jw (a' := ?_) ?_ ?_
    rotate_left
    ·show Act.put _ (some 14) _ = _
     simp only [Act.put, List.setIfInBounds_toArray, List.set_cons_zero, List.set_cons_succ, Xk]
     rfl
    refine Qe (i := 7) (N := some 17) (v := ?_) (a' := ?_) #[true, true, true, true, true, true, true, true, true, true, true, true, false, false, false, false] rfl rfl (Xu HT_.out (by kernel_rfl)) (fun _ _ _ h => h) (Or.inl ⟨by rfl, ?_⟩) ?_ ?_
    rotate_left
    ·intro w'
     go_simp
     with_reducible rfl
    rotate_left
    ·simp only [Act.put, List.setIfInBounds_toArray, List.set_cons_zero, List.set_cons_succ, Xk]
     rfl
    refine one_ (i := 12) (N := some 22) #[true, true, true, true, true, true, true, true, true, true, true, true, true, false, false, false] rfl rfl (Vt HT_.out (by kernel_rfl)) (by decide) (fun K hK => ?_)
    refine Wp Try.func17 (by kernel_rfl) rfl #[.agg #[.int .i64 ((Zc J0 1).f0), .int .i64 ((Zc J0 1).f1.f0), .int .i64 ((Zc J0 1).f1.f1), .bool ((Zc J0 1).f1.f2), .int .i64 ((Zc J0 1).f1.f3.f0), .int .u64 ((Zc J0 1).f1.f3.f1), .int .u64 ((Zc J0 1).f1.f3.f2), .int .i64 ((Zc J0 1).f1.f4), .bool ((Zc J0 1).f1.f5), .int .i64 ((Zc J0 1).f1.f6), .slice A125_10 ((Zc J0 1).f1.f7).length c125_10, .int .i64 ((Zc J0 1).f2), .int .i64 ((Zc J0 1).f3), .slice A125_13 ((Zc J0 1).f4).length c125_13]] (by rfl) rfl rfl (by (try simp only [List.map_toArray, List.map_cons, List.map_nil]); first | done | rfl | (simp only [List.length_drop, List.length_take]; rfl)) ?_
    with_reducible refine (ih k (by omega) ((Zc J0 1).f0) ((Zc J0 1).f1.f0) ((Zc J0 1).f1.f1) ((Zc J0 1).f1.f2) ((Zc J0 1).f1.f3.f0) ((Zc J0 1).f1.f3.f1) ((Zc J0 1).f1.f3.f2) ((Zc J0 1).f1.f4) ((Zc J0 1).f1.f5) ((Zc J0 1).f1.f6) _ _ ((Zc J0 1).f1.f7) ((Zc J0 1).f2) ((Zc J0 1).f3) _ _ ((Zc J0 1).f4) t126 _ ?side1 ?side2 ?side3 ?side4 A6.out).mono ?_
    (case side1 => exact (Kd.Zw HR125_10.out HB.out))
    (case side2 => exact HC125_10.out)
    (case side3 => exact (Kd.Zw HR125_13.out HB.out))
    (case side4 => exact HC125_13.out)
    rintro e w11 ⟨rfl, hb⟩
    refine ⟨_, rfl, ?_⟩
    have n0_ := Zd.mk (Zp J1.out hb)
    have n1_ := Zd.mk (Zj HB.out hb)
    clear J1
    clear HB
    have J1 := n0_
    have HB := n1_
    clear n0_ n1_
    (try clear hb)
    (try clear hb2)
    (try clear hk)
    (try clear hi)
    refine hK.out _ _ ⟨(Za J1.out 0).trans rfl, (Za J1.out 1).trans rfl, (Za J1.out 2).trans rfl, (Za J1.out 3).trans rfl, (Za J1.out 4).trans rfl, (Za J1.out 5).trans rfl, (Za J1.out 6).trans rfl, (Za J1.out 7).trans rfl, (Za J1.out 8).trans rfl, (Za J1.out 9).trans rfl, (Za J1.out 10).trans rfl, (Za J1.out 11).trans rfl, (Za J1.out 12).trans rfl, (Za J1.out 13).trans rfl, (zb HB.out hw123_0), (zb HB.out hw123_1), (zb HB.out hw123_2), (zb HB.out hw123_3), (zb HB.out hw123_4), (zb HB.out hw123_5), (zb HB.out hw123_6), (zb HB.out hw123_7), (zb HB.out hw123_8), (zb HB.out hw123_9), (zb HB.out hw123_10), (zb HB.out hw123_11), (zb HB.out hw123_12), (zb HB.out hw123_13), (zb HB.out hw125_0), (zb HB.out hw125_1), (zb HB.out hw125_2), (zb HB.out hw125_3), (zb HB.out hw125_4), (zb HB.out hw125_5), (zb HB.out hw125_6), (zb HB.out hw125_7), (zb HB.out hw125_8), (zb HB.out hw125_9), (zb HB.out hw125_10), (zb HB.out hw125_11), (zb HB.out hw125_12), (zb HB.out hw125_13)⟩ (fun hHeld => ?_)
    clear hK K
    refine Jw (a' := ?_) ?_ ?_
    rotate_left
    ·show Act.put _ (some 22) _ = _
     simp only [Act.put, List.setIfInBounds_toArray, List.set_cons_zero, List.set_cons_succ, Xk]
     rfl
    refine Qe (i := 13) (N := some 23) (v := ?_) (a' := ?_) #[true, true, true, true, true, true, true, true, true, true, true, true, true, true, false, false] rfl rfl (Xu HT_.out (by kernel_rfl)) (fun _ _ _ h => h) (Or.inl ⟨by rfl, ?_⟩) ?_ ?_
    rotate_left
    ·intro w'
     go_simp
     with_reducible rfl
    rotate_left
    ·simp only [Act.put, List.setIfInBounds_toArray, List.set_cons_zero, List.set_cons_succ, Xk]
     rfl
    refine Qe (i := 14) (N := some 24) (v := ?_) (a' := ?_) #[true, true, true, true, true, true, true, true, true, true, true, true, true, true, true, false] rfl rfl (Xu HT_.out (by kernel_rfl)) (fun _ _ _ h => h) (Or.inl ⟨by rfl, ?_⟩) ?_ ?_
    rotate_left
    ·intro w'
     go_simp
     with_reducible rfl
    rotate_left
    ·simp only [Act.put, List.setIfInBounds_toArray, List.set_cons_zero, List.set_cons_succ, Xk]
     rfl
    refine Qe (i := 15) (N := some 2) (v := ?_) (a' := ?_) #[true, true, true, true, true, true, true, true, true, true, true, true, true, true, true, true] rfl rfl (Xu HT_.out (by kernel_rfl)) (fun _ _ _ h => h) (Or.inl ⟨by rfl, ?_⟩) ?_ ?_
    rotate_left
    ·intro w'
     go_simp
     with_reducible rfl
    rotate_left
    ·simp only [Act.put, List.setIfInBounds_toArray, List.set_cons_zero, List.set_cons_succ, Xk]
     rfl
    refine done_ (done_of HT_.out (by kernel_rfl)) ?_
    try go_wp2
    go_ret
    exact ⟨by first | rfl | (simp [errW_none, errW_some] <;> rfl) | (simp [*, errW_none, errW_some] <;> rfl), HB.out⟩
   ·rw [if_neg c5] at H
    exact absurd H (by simp)
  ·rw [if_neg c3] at H
   exact absurd H (by simp)
 ·rw [if_neg c2] at H
  have c2b0 : (J4 == 1) = false := beq_eq_false_iff_ne.mpr c2
  have c2b1 : (J4 != 1) = true := bne_iff_ne.mpr c2
  by_cases c12 : J4 = 2
  ·rw [if_pos c12] at H
   have c12b0 : (J4 == 2) = true := beq_iff_eq.mpr c12
   have c12b1 : (J4 != 2) = false := bne_eq_false_iff_eq.mpr c12
   clear c12
   by_cases c13 : 0 < (J0.length : Int)
   ·rw [if_pos c13] at H
    have c13b0 : decide (0 < (J0.length : Int)) = true := decide_eq_true c13
    have c13b1 : decide (0 < J0.length) = true := decide_eq_true (by omega)
    clear c13
    replace H := Option.bind_eq_some_iff.mp H
    obtain ⟨t128, A140, H⟩ := H
    replace H : (Zt.l0 k t128 J0 (J0.length : Int) 0) = some r := H
    have A14 := Zd.mk A140
    clear A140
    have H' := Zd.mk H
    clear H
    go_enter Try.func17, Try.ntmps17
    go_wp2_with (first | ((with_reducible refine Xd (N := 1) rfl ?_); refine Xe ?hg (N := 1) ?hd (cs := #[.int .i64 J4, .int .i64 Jk, .int .i64 Jj, .bool Jh, .int .i64 Jg, .int .u64 Jf, .int .u64 Je, .int .i64 Jd, .bool Jb, .int .i64 Ja, .slice A0_10 J7.length c0_10, .int .i64 J6, .int .i64 J8, .slice A0_13 J0.length c0_13]) (t := 30) ?hr ?_; (case hd => rfl); (case hg => rfl); (case hr => first | (go_simp; done) | (go_simp; rfl)); intro J3 hg w15 hbox hb; have n0_ := Zd.mk (Zj HB.out hb); have n1_ := Zd.mk (hbox); have n2_ := Zd.mk ((by rw [hg]; exact (Zl HB.out) : w.heap.size ≤ J3)); have n3_ := n2_; clear HB; have HB := n0_; have J1 := n1_; have GW122 := n2_; have GE122 := n3_; clear n0_ n1_ n2_ n3_; clear hb hbox hg; have hcz16_0 : w15.cell? ⟨J3, 0, none⟩ = some (.int .i64 J4) := (Za J1.out 0).trans rfl; have hcz16_1 : w15.cell? ⟨J3, 1, none⟩ = some (.int .i64 Jk) := (Za J1.out 1).trans rfl; have hcz16_2 : w15.cell? ⟨J3, 2, none⟩ = some (.int .i64 Jj) := (Za J1.out 2).trans rfl; have hcz16_3 : w15.cell? ⟨J3, 3, none⟩ = some (.bool Jh) := (Za J1.out 3).trans rfl; have hcz16_4 : w15.cell? ⟨J3, 4, none⟩ = some (.int .i64 Jg) := (Za J1.out 4).trans rfl; have hcz16_5 : w15.cell? ⟨J3, 5, none⟩ = some (.int .u64 Jf) := (Za J1.out 5).trans rfl; have hcz16_6 : w15.cell? ⟨J3, 6, none⟩ = some (.int .u64 Je) := (Za J1.out 6).trans rfl; have hcz16_7 : w15.cell? ⟨J3, 7, none⟩ = some (.int .i64 Jd) := (Za J1.out 7).trans rfl; have hcz16_8 : w15.cell? ⟨J3, 8, none⟩ = some (.bool Jb) := (Za J1.out 8).trans rfl; have hcz16_9 : w15.cell? ⟨J3, 9, none⟩ = some (.int .i64 Ja) := (Za J1.out 9).trans rfl; have JC : w15.cell? ⟨J3, 10, none⟩ = some (.slice A0_10 J7.length c0_10) := (Za J1.out 10).trans rfl; have JB : w15.cell? ⟨J3, 11, none⟩ = some (.int .i64 J6) := (Za J1.out 11).trans rfl; have JA : w15.cell? ⟨J3, 12, none⟩ = some (.int .i64 J8) := (Za J1.out 12).trans rfl; have Jz : w15.cell? ⟨J3, 13, none⟩ = some (.slice A0_13 J0.length c0_13) := (Za J1.out 13).trans rfl; have hfz16_0 := Zb J1.out 0; have hfz16_1 := Zb J1.out 1; have hfz16_2 := Zb J1.out 2; have hfz16_3 := Zb J1.out 3; have hfz16_4 := Zb J1.out 4; have hfz16_5 := Zb J1.out 5; have hfz16_6 := Zb J1.out 6; have hfz16_7 := Zb J1.out 7; have hfz16_8 := Zb J1.out 8; have hfz16_9 := Zb J1.out 9; have Jt := Zb J1.out 10; have Js := Zb J1.out 11; have Jr := Zb J1.out 12; have Jq := Zb J1.out 13; have p127 : 0 ≤ (0 : Int) := (by omega); have q127 : 0 < (J0.length : Int) := of_decide_eq_true (by first | (with_reducible assumption) | assumption); obtain ⟨ad127, A127_10, c127_10, A127_13, c127_13, e127, hx127_0, hx127_1, hx127_2, hx127_3, hx127_4, hx127_5, hx127_6, hx127_7, hx127_8, hx127_9, hx127_10, hx127_11, hx127_12, hx127_13, hl127_10, hi127_10, hl127_13, hi127_13⟩ := Jc HR0_13.out 0 p127 q127; cases e127; have qi127 : (0 < J0.length) = True := eq_true (by omega); (try rw [show ((0 : Int)).toNat = 0 from rfl] at hx127_0); (try rw [show 0 * 14 = 0 from rfl] at hx127_0); (try rw [Addr.add_zero'] at hx127_0); (try rw [show ((0 : Int)).toNat = 0 from rfl] at hx127_1); (try rw [show 0 * 14 = 0 from rfl] at hx127_1); (try rw [Addr.add_zero'] at hx127_1); (try rw [show ((0 : Int)).toNat = 0 from rfl] at hx127_2); (try rw [show 0 * 14 = 0 from rfl] at hx127_2); (try rw [Addr.add_zero'] at hx127_2); (try rw [show ((0 : Int)).toNat = 0 from rfl] at hx127_3); (try rw [show 0 * 14 = 0 from rfl] at hx127_3); (try rw [Addr.add_zero'] at hx127_3); (try rw [show ((0 : Int)).toNat = 0 from rfl] at hx127_4); (try rw [show 0 * 14 = 0 from rfl] at hx127_4); (try rw [Addr.add_zero'] at hx127_4); (try rw [show ((0 : Int)).toNat = 0 from rfl] at hx127_5); (try rw [show 0 * 14 = 0 from rfl] at hx127_5); (try rw [Addr.add_zero'] at hx127_5); (try rw [show ((0 : Int)).toNat = 0 from rfl] at hx127_6); (try rw [show 0 * 14 = 0 from rfl] at hx127_6); (try rw [Addr.add_zero'] at hx127_6); (try rw [show ((0 : Int)).toNat = 0 from rfl] at hx127_7); (try rw [show 0 * 14 = 0 from rfl] at hx127_7); (try rw [Addr.add_zero'] at hx127_7); (try rw [show ((0 : Int)).toNat = 0 from rfl] at hx127_8); (try rw [show 0 * 14 = 0 from rfl] at hx127_8); (try rw [Addr.add_zero'] at hx127_8); (try rw [show ((0 : Int)).toNat = 0 from rfl] at hx127_9); (try rw [show 0 * 14 = 0 from rfl] at hx127_9); (try rw [Addr.add_zero'] at hx127_9); (try rw [show ((0 : Int)).toNat = 0 from rfl] at hx127_10); (try rw [show 0 * 14 = 0 from rfl] at hx127_10); (try rw [Addr.add_zero'] at hx127_10); (try rw [show ((0 : Int)).toNat = 0 from rfl] at hx127_11); (try rw [show 0 * 14 = 0 from rfl] at hx127_11); (try rw [Addr.add_zero'] at hx127_11); (try rw [show ((0 : Int)).toNat = 0 from rfl] at hx127_12); (try rw [show 0 * 14 = 0 from rfl] at hx127_12); (try rw [Addr.add_zero'] at hx127_12); (try rw [show ((0 : Int)).toNat = 0 from rfl] at hx127_13); (try rw [show 0 * 14 = 0 from rfl] at hx127_13); (try rw [Addr.add_zero'] at hx127_13); replace hx127_0 := zb HB.out hx127_0; replace hx127_1 := zb HB.out hx127_1; replace hx127_2 := zb HB.out hx127_2; replace hx127_3 := zb HB.out hx127_3; replace hx127_4 := zb HB.out hx127_4; replace hx127_5 := zb HB.out hx127_5; replace hx127_6 := zb HB.out hx127_6; replace hx127_7 := zb HB.out hx127_7; replace hx127_8 := zb HB.out hx127_8; replace hx127_9 := zb HB.out hx127_9; replace hx127_10 := zb HB.out hx127_10; replace hx127_11 := zb HB.out hx127_11; replace hx127_12 := zb HB.out hx127_12; replace hx127_13 := zb HB.out hx127_13; have HR127_10 := Zd.mk hi127_10; have HC127_10 := Zd.mk hl127_10; clear hi127_10 hl127_10; have HR127_13 := Zd.mk hi127_13; have HC127_13 := Zd.mk hl127_13; clear hi127_13 hl127_13; replace p127 := eq_true p127; replace q127 := eq_true q127) | ((with_reducible refine Zx (f := 17) rfl ?_); refine Xz (some 31) rfl rfl Try.func17 (by kernel_rfl) rfl #[.agg #[.int .i64 ((Zc J0 0).f0), .int .i64 ((Zc J0 0).f1.f0), .int .i64 ((Zc J0 0).f1.f1), .bool ((Zc J0 0).f1.f2), .int .i64 ((Zc J0 0).f1.f3.f0), .int .u64 ((Zc J0 0).f1.f3.f1), .int .u64 ((Zc J0 0).f1.f3.f2), .int .i64 ((Zc J0 0).f1.f4), .bool ((Zc J0 0).f1.f5), .int .i64 ((Zc J0 0).f1.f6), .slice A127_10 ((Zc J0 0).f1.f7).length c127_10, .int .i64 ((Zc J0 0).f2), .int .i64 ((Zc J0 0).f3), .slice A127_13 ((Zc J0 0).f4).length c127_13]] rfl (by (try simp only [List.map_toArray, List.map_cons, List.map_nil]); first | done | rfl | (simp only [List.length_drop, List.length_take]; rfl)) ?_; (with_reducible refine (ih k (by omega) ((Zc J0 0).f0) ((Zc J0 0).f1.f0) ((Zc J0 0).f1.f1) ((Zc J0 0).f1.f2) ((Zc J0 0).f1.f3.f0) ((Zc J0 0).f1.f3.f1) ((Zc J0 0).f1.f3.f2) ((Zc J0 0).f1.f4) ((Zc J0 0).f1.f5) ((Zc J0 0).f1.f6) _ _ ((Zc J0 0).f1.f7) ((Zc J0 0).f2) ((Zc J0 0).f3) _ _ ((Zc J0 0).f4) t128 _ ?side1 ?side2 ?side3 ?side4 A14.out).mono ?_); (case side1 => exact (Kd.Zw HR127_10.out HB.out)); (case side2 => exact HC127_10.out); (case side3 => exact (Kd.Zw HR127_13.out HB.out)); (case side4 => exact HC127_13.out); rintro e w17 ⟨rfl, hb⟩; refine ⟨_, rfl, ?_⟩; have n0_ := Zd.mk (Zp J1.out hb); have n1_ := Zd.mk (Zj HB.out hb); clear J1; clear HB; have J1 := n0_; have HB := n1_; clear n0_ n1_; (try clear hb); (try clear hb2); (try clear hk); (try clear hi); have hcz18_0 : w17.cell? ⟨J3, 0, none⟩ = some (.int .i64 J4) := (Za J1.out 0).trans rfl; have hcz18_1 : w17.cell? ⟨J3, 1, none⟩ = some (.int .i64 Jk) := (Za J1.out 1).trans rfl; have hcz18_2 : w17.cell? ⟨J3, 2, none⟩ = some (.int .i64 Jj) := (Za J1.out 2).trans rfl; have hcz18_3 : w17.cell? ⟨J3, 3, none⟩ = some (.bool Jh) := (Za J1.out 3).trans rfl; have hcz18_4 : w17.cell? ⟨J3, 4, none⟩ = some (.int .i64 Jg) := (Za J1.out 4).trans rfl; have hcz18_5 : w17.cell? ⟨J3, 5, none⟩ = some (.int .u64 Jf) := (Za J1.out 5).trans rfl; have hcz18_6 : w17.cell? ⟨J3, 6, none⟩ = some (.int .u64 Je) := (Za J1.out 6).trans rfl; have hcz18_7 : w17.cell? ⟨J3, 7, none⟩ = some (.int .i64 Jd) := (Za J1.out 7).trans rfl; have hcz18_8 : w17.cell? ⟨J3, 8, none⟩ = some (.bool Jb) := (Za J1.out 8).trans rfl; have hcz18_9 : w17.cell? ⟨J3, 9, none⟩ = some (.int .i64 Ja) := (Za J1.out 9).trans rfl; have Jy : w17.cell? ⟨J3, 10, none⟩ = some (.slice A0_10 J7.length c0_10) := (Za J1.out 10).trans rfl; have Jx : w17.cell? ⟨J3, 11, none⟩ = some (.int .i64 J6) := (Za J1.out 11).trans rfl; have Jv : w17.cell? ⟨J3, 12, none⟩ = some (.int .i64 J8) := (Za J1.out 12).trans rfl; have Ju : w17.cell? ⟨J3, 13, none⟩ = some (.slice (some ad127) J0.length c0_13) := (Za J1.out 13).trans rfl; have hfz18_0 := Zb J1.out 0; have hfz18_1 := Zb J1.out 1; have hfz18_2 := Zb J1.out 2; have hfz18_3 := Zb J1.out 3; have hfz18_4 := Zb J1.out 4; have hfz18_5 := Zb J1.out 5; have hfz18_6 := Zb J1.out 6; have hfz18_7 := Zb J1.out 7; have hfz18_8 := Zb J1.out 8; have hfz18_9 := Zb J1.out 9; have Jp := Zb J1.out 10; have Jo := Zb J1.out 11; have Jn := Zb J1.out 12; have Jm := Zb J1.out 13))
    go_loopg [3, 35] k (fun kq v3 v35 w' => ∃ (Jl : Int) (J2 : Int), v3 = .int .i64 Jl ∧ v35 = .int .i64 J2 ∧ Zd (Zt.l0 kq Jl J0 (J0.length : Int) J2 = some r) ∧ Zd (kq ≤ k) ∧ Zd (w'.heap[J3]? = some (.cells #[.int .i64 J4, .int .i64 Jk, .int .i64 Jj, .bool Jh, .int .i64 Jg, .int .u64 Jf, .int .u64 Je, .int .i64 Jd, .bool Jb, .int .i64 Ja, (.slice A0_10 J7.length c0_10), .int .i64 J6, .int .i64 J8, (.slice (some ad127) J0.length c0_13)] 30 (0, 0))) ∧ Zd (Below w.heap.size w w'))
    case atStart => exact ⟨(t128), (0), (by first | rfl | (simp; done) | (simp [*]; done)), (by first | rfl | (simp; done) | (simp [*]; done)), H', ⟨Nat.le_refl _⟩, ⟨J1.out⟩, ⟨HB.out⟩⟩
    case round =>
     clear H'
     try clear c2
     try clear c2b0
     try clear c2b1
     try clear c12b0
     try clear c12b1
     try clear c13b0
     try clear c13b1
     try clear hcz16_0
     try clear hcz16_1
     try clear JC
     try clear JB
     try clear JA
     try clear Jz
     try clear hcz16_2
     try clear hcz16_3
     try clear hcz16_4
     try clear hcz16_5
     try clear hcz16_6
     try clear hcz16_7
     try clear hcz16_8
     try clear hcz16_9
     try clear hcz18_0
     try clear hcz18_1
     try clear Jy
     try clear Jx
     try clear Jv
     try clear Ju
     try clear hcz18_2
     try clear hcz18_3
     try clear hcz18_4
     try clear hcz18_5
     try clear hcz18_6
     try clear hcz18_7
     try clear hcz18_8
     try clear hcz18_9
     try clear hfz16_0
     try clear hfz16_1
     try clear Jt
     try clear Js
     try clear Jr
     try clear Jq
     try clear hfz16_2
     try clear hfz16_3
     try clear hfz16_4
     try clear hfz16_5
     try clear hfz16_6
     try clear hfz16_7
     try clear hfz16_8
     try clear hfz16_9
     try clear hfz18_0
     try clear hfz18_1
     try clear Jp
     try clear Jo
     try clear Jn
     try clear Jm
     try clear hfz18_2
     try clear hfz18_3
     try clear hfz18_4
     try clear hfz18_5
     try clear hfz18_6
     try clear hfz18_7
     try clear hfz18_8
     try clear hfz18_9
     try clear hx127_0
     try clear hx127_1
     try clear hx127_10
     try clear hx127_11
     try clear hx127_12
     try clear hx127_13
     try clear hx127_2
     try clear hx127_3
     try clear hx127_4
     try clear hx127_5
     try clear hx127_6
     try clear hx127_7
     try clear hx127_8
     try clear hx127_9
     try clear p127
     try clear q127
     obtain ⟨Jl, J2, rfl, rfl, HA, HK1, J1, HB⟩ := hrel
     cases gk with
     | zero => exact absurd HA.out (by simp [Zt.l0])
     | succ k1 =>
      have H := HA.out
      clear HA
      simp only [Zt.l0] at H
      by_cases c19 : J2 < (J0.length : Int)
      ·rw [if_pos c19] at H
       have c19b0 : decide (J2 < (J0.length : Int)) = true := decide_eq_true c19
       clear c19
       by_cases c20 : 0 ≤ J2
       ·rw [if_pos c20] at H
        have c20b0 : decide (0 ≤ J2) = true := decide_eq_true c20
        clear c20
        by_cases c21 : J2 < (J0.length : Int)
        ·rw [if_pos c21] at H
         have c21b0 : decide (J2 < (J0.length : Int)) = true := decide_eq_true c21
         clear c21
         replace H := Option.bind_eq_some_iff.mp H
         obtain ⟨t131, A220, H⟩ := H
         replace H : (Zt.l0 k1 (mx Jl t131) J0 (J0.length : Int) (wrap64 (J2 + 1))) = some r := H
         have A22 := Zd.mk A220
         clear A220
         obtain ⟨ji23, hji23⟩ : ∃ j_ : Int, (mx Jl t131) = j_ := ⟨_, rfl⟩
         replace H : (Zt.l0 k1 ji23 J0 (J0.length : Int) (wrap64 (J2 + 1))) = some r := by first | (rw [hji23] at H; exact H) | (simp only [hji23] at H ⊢; exact H)
         (try rw [hji23] at A22)
         have hji23_ : (if Jl < t131 then t131 else Jl) = ji23 := hji23
         have H' := Zd.mk H
         clear H
         have p129 : 0 ≤ (J2 : Int) := of_decide_eq_true (by first | (with_reducible assumption) | assumption)
         have q129 : J2 < (J0.length : Int) := of_decide_eq_true (by first | (with_reducible assumption) | assumption)
         obtain ⟨ad129, A129_10, c129_10, A129_13, c129_13, e129, hx129_0, hx129_1, hx129_2, hx129_3, hx129_4, hx129_5, hx129_6, hx129_7, hx129_8, hx129_9, hx129_10, hx129_11, hx129_12, hx129_13, hl129_10, hi129_10, hl129_13, hi129_13⟩ := Jc HR0_13.out J2 p129 q129
         obtain rfl : ad127 = ad129 := (by injection e129)
         replace hx129_0 := zb HB.out hx129_0
         replace hx129_1 := zb HB.out hx129_1
         replace hx129_2 := zb HB.out hx129_2
         replace hx129_3 := zb HB.out hx129_3
         replace hx129_4 := zb HB.out hx129_4
         replace hx129_5 := zb HB.out hx129_5
         replace hx129_6 := zb HB.out hx129_6
         replace hx129_7 := zb HB.out hx129_7
         replace hx129_8 := zb HB.out hx129_8
         replace hx129_9 := zb HB.out hx129_9
         replace hx129_10 := zb HB.out hx129_10
         replace hx129_11 := zb HB.out hx129_11
         replace hx129_12 := zb HB.out hx129_12
         replace hx129_13 := zb HB.out hx129_13
         have HR129_10 := Zd.mk hi129_10
         have HC129_10 := Zd.mk hl129_10
         clear hi129_10 hl129_10
         have HR129_13 := Zd.mk hi129_13
         have HC129_13 := Zd.mk hl129_13
         clear hi129_13 hl129_13
         replace p129 := eq_true p129
         replace q129 := eq_true q129
         go_wp2_with (first | ((with_reducible refine Xd (N := 5) rfl ?_); refine Xe ?hg (N := 5) ?hd (cs := #[.int .i64 0, .int .i64 0, .int .i64 0, .bool false, .int .i64 0, .int .u64 0, .int .u64 0, .int .i64 0, .bool false, .int .i64 0, .slice none 0 0, .int .i64 0, .int .i64 0, .slice none 0 0]) (t := 30) ?hr ?_; (case hd => rfl); (case hg => rfl); (case hr => first | (go_simp; done) | (go_simp; rfl)); intro J9 hg w24 hbox hb; have n0_ := Zd.mk (Zp J1.out hb); have n1_ := Zd.mk (Zj HB.out hb); have n2_ := Zd.mk (hbox); have n3_ := Zd.mk ((by rw [hg]; exact (Zl HB.out) : w.heap.size ≤ J9)); have n4_ := n3_; have n5_ := Zd.mk ((by rw [hg]; exact Nat.ne_of_lt (Kv J1.out) : J3 ≠ J9)); have n6_ := Zd.mk ((by rw [hg]; exact Nat.ne_of_gt (Kv J1.out) : J9 ≠ J3)); clear J1; clear HB; have J1 := n0_; have HB := n1_; have J5 := n2_; have GW130 := n3_; have GE130 := n4_; have NB122_130 := n5_; have NB130_122 := n6_; clear n0_ n1_ n2_ n3_ n4_ n5_ n6_; clear hb hbox hg; have hnb25 := NB130_122.out; have hnc25 := NB122_130.out; have hcz26_0 : w24.cell? ⟨J9, 0, none⟩ = some (.int .i64 0) := (Za J5.out 0).trans rfl; have hcz26_1 : w24.cell? ⟨J9, 1, none⟩ = some (.int .i64 0) := (Za J5.out 1).trans rfl; have hcz26_2 : w24.cell? ⟨J9, 2, none⟩ = some (.int .i64 0) := (Za J5.out 2).trans rfl; have hcz26_3 : w24.cell? ⟨J9, 3, none⟩ = some (.bool false) := (Za J5.out 3).trans rfl; have hcz26_4 : w24.cell? ⟨J9, 4, none⟩ = some (.int .i64 0) := (Za J5.out 4).trans rfl; have hcz26_5 : w24.cell? ⟨J9, 5, none⟩ = some (.int .u64 0) := (Za J5.out 5).trans rfl; have hcz26_6 : w24.cell? ⟨J9, 6, none⟩ = some (.int .u64 0) := (Za J5.out 6).trans rfl; have hcz26_7 : w24.cell? ⟨J9, 7, none⟩ = some (.int .i64 0) := (Za J5.out 7).trans rfl; have hcz26_8 : w24.cell? ⟨J9, 8, none⟩ = some (.bool false) := (Za J5.out 8).trans rfl; have hcz26_9 : w24.cell? ⟨J9, 9, none⟩ = some (.int .i64 0) := (Za J5.out 9).trans rfl; have hcz26_10 : w24.cell? ⟨J9, 10, none⟩ = some (.slice none 0 0) := (Za J5.out 10).trans rfl; have hcz26_11 : w24.cell? ⟨J9, 11, none⟩ = some (.int .i64 0) := (Za J5.out 11).trans rfl; have hcz26_12 : w24.cell? ⟨J9, 12, none⟩ = some (.int .i64 0) := (Za J5.out 12).trans rfl; have hcz26_13 : w24.cell? ⟨J9, 13, none⟩ = some (.slice none 0 0) := (Za J5.out 13).trans rfl; have hfz26_0 := Zb J5.out 0; have hfz26_1 := Zb J5.out 1; have hfz26_2 := Zb J5.out 2; have hfz26_3 := Zb J5.out 3; have hfz26_4 := Zb J5.out 4; have hfz26_5 := Zb J5.out 5; have hfz26_6 := Zb J5.out 6; have hfz26_7 := Zb J5.out 7; have hfz26_8 := Zb J5.out 8; have hfz26_9 := Zb J5.out 9; have hfz26_10 := Zb J5.out 10; have hfz26_11 := Zb J5.out 11; have hfz26_12 := Zb J5.out 12; have hfz26_13 := Zb J5.out 13) | ((with_reducible refine Zx (f := 17) rfl ?_); refine Xz (some 41) rfl rfl Try.func17 (by kernel_rfl) rfl #[.agg #[.int .i64 ((Zc J0 J2).f0), .int .i64 ((Zc J0 J2).f1.f0), .int .i64 ((Zc J0 J2).f1.f1), .bool ((Zc J0 J2).f1.f2), .int .i64 ((Zc J0 J2).f1.f3.f0), .int .u64 ((Zc J0 J2).f1.f3.f1), .int .u64 ((Zc J0 J2).f1.f3.f2), .int .i64 ((Zc J0 J2).f1.f4), .bool ((Zc J0 J2).f1.f5), .int .i64 ((Zc J0 J2).f1.f6), .slice A129_10 ((Zc J0 J2).f1.f7).length c129_10, .int .i64 ((Zc J0 J2).f2), .int .i64 ((Zc J0 J2).f3), .slice A129_13 ((Zc J0 J2).f4).length c129_13]] rfl (by (try simp only [List.map_toArray, List.map_cons, List.map_nil]); first | done | rfl | (simp only [List.length_drop, List.length_take]; rfl)) ?_; (with_reducible refine (ih k1 (by have := HK1.out; omega) ((Zc J0 J2).f0) ((Zc J0 J2).f1.f0) ((Zc J0 J2).f1.f1) ((Zc J0 J2).f1.f2) ((Zc J0 J2).f1.f3.f0) ((Zc J0 J2).f1.f3.f1) ((Zc J0 J2).f1.f3.f2) ((Zc J0 J2).f1.f4) ((Zc J0 J2).f1.f5) ((Zc J0 J2).f1.f6) _ _ ((Zc J0 J2).f1.f7) ((Zc J0 J2).f2) ((Zc J0 J2).f3) _ _ ((Zc J0 J2).f4) t131 _ ?side1 ?side2 ?side3 ?side4 A22.out).mono ?_); (case side1 => exact Kd.Zw HR129_10.out (by repeat (first | (with_reducible first | exact HB.out | apply Xm | apply Xi | apply Xj | refine Xc ?_ GE122.out | refine Xc ?_ GE130.out) | exact HB.out))); (case side2 => exact HC129_10.out); (case side3 => exact Kd.Zw HR129_13.out (by repeat (first | (with_reducible first | exact HB.out | apply Xm | apply Xi | apply Xj | refine Xc ?_ GE122.out | refine Xc ?_ GE130.out) | exact HB.out))); (case side4 => exact HC129_13.out); rintro e w27 ⟨rfl, hb⟩; refine ⟨_, rfl, ?_⟩; have n0_ := Zd.mk (Zp (g := J3) (o := .cells #[.int .i64 J4, .int .i64 Jk, .int .i64 Jj, .bool Jh, .int .i64 Jg, .int .u64 Jf, .int .u64 Je, .int .i64 Jd, .bool Jb, .int .i64 Ja, .slice A0_10 J7.length c0_10, .int .i64 J6, .int .i64 J8, .slice (some ad127) J0.length c0_13] 30 (0, 0)) (by (with_reducible repeat (first | refine Zf ?_ _ | refine Zg ?_ | refine Ze ?_ _)); refine Zm ?_ NB122_130.out _; (with_reducible repeat (first | refine Zf ?_ _ | refine Zg ?_ | refine Ze ?_ _)); refine Zm ?_ NB122_130.out _; (with_reducible repeat (first | refine Zf ?_ _ | refine Zg ?_ | refine Ze ?_ _)); refine Zm ?_ NB122_130.out _; (with_reducible repeat (first | refine Zf ?_ _ | refine Zg ?_ | refine Ze ?_ _)); refine Zm ?_ NB122_130.out _; (with_reducible repeat (first | refine Zf ?_ _ | refine Zg ?_ | refine Ze ?_ _)); refine Zm ?_ NB122_130.out _; (with_reducible repeat (first | refine Zf ?_ _ | refine Zg ?_ | refine Ze ?_ _)); refine Zm ?_ NB122_130.out _; (with_reducible repeat (first | refine Zf ?_ _ | refine Zg ?_ | refine Ze ?_ _)); refine Zm ?_ NB122_130.out _; (with_reducible repeat (first | refine Zf ?_ _ | refine Zg ?_ | refine Ze ?_ _)); refine Zm ?_ NB122_130.out _; (with_reducible repeat (first | refine Zf ?_ _ | refine Zg ?_ | refine Ze ?_ _)); refine Zm ?_ NB122_130.out _; (with_reducible repeat (first | refine Zf ?_ _ | refine Zg ?_ | refine Ze ?_ _)); refine Zm ?_ NB122_130.out _; (with_reducible repeat (first | refine Zf ?_ _ | refine Zg ?_ | refine Ze ?_ _)); refine Zm ?_ NB122_130.out _; (with_reducible repeat (first | refine Zf ?_ _ | refine Zg ?_ | refine Ze ?_ _)); refine Zm ?_ NB122_130.out _; (with_reducible repeat (first | refine Zf ?_ _ | refine Zg ?_ | refine Ze ?_ _)); refine Zm ?_ NB122_130.out _; (with_reducible repeat (first | refine Zf ?_ _ | refine Zg ?_ | refine Ze ?_ _)); refine Zm ?_ NB122_130.out _; (with_reducible repeat (first | refine Zf ?_ _ | refine Zg ?_ | refine Ze ?_ _)); exact J1.out) hb); have n1_ := Zd.mk (Zp (g := J9) (o := .cells #[.int .i64 ((Zc J0 J2).f0), .int .i64 ((Zc J0 J2).f1.f0), .int .i64 ((Zc J0 J2).f1.f1), .bool ((Zc J0 J2).f1.f2), .int .i64 ((Zc J0 J2).f1.f3.f0), .int .u64 ((Zc J0 J2).f1.f3.f1), .int .u64 ((Zc J0 J2).f1.f3.f2), .int .i64 ((Zc J0 J2).f1.f4), .bool ((Zc J0 J2).f1.f5), .int .i64 ((Zc J0 J2).f1.f6), .slice A129_10 ((Zc J0 J2).f1.f7).length c129_10, .int .i64 ((Zc J0 J2).f2), .int .i64 ((Zc J0 J2).f3), .slice A129_13 ((Zc J0 J2).f4).length c129_13] 30 (0, 0)) (by (with_reducible repeat (first | refine Zf ?_ _ | refine Zg ?_ | refine Ze ?_ _)); refine Zk (cs := #[.int .i64 ((Zc J0 J2).f0), .int .i64 ((Zc J0 J2).f1.f0), .int .i64 ((Zc J0 J2).f1.f1), .bool ((Zc J0 J2).f1.f2), .int .i64 ((Zc J0 J2).f1.f3.f0), .int .u64 ((Zc J0 J2).f1.f3.f1), .int .u64 ((Zc J0 J2).f1.f3.f2), .int .i64 ((Zc J0 J2).f1.f4), .bool ((Zc J0 J2).f1.f5), .int .i64 ((Zc J0 J2).f1.f6), .slice A129_10 ((Zc J0 J2).f1.f7).length c129_10, .int .i64 ((Zc J0 J2).f2), .int .i64 ((Zc J0 J2).f3), .slice none 0 0]) ?_ 13 _ rfl; (with_reducible repeat (first | refine Zf ?_ _ | refine Zg ?_ | refine Ze ?_ _)); refine Zk (cs := #[.int .i64 ((Zc J0 J2).f0), .int .i64 ((Zc J0 J2).f1.f0), .int .i64 ((Zc J0 J2).f1.f1), .bool ((Zc J0 J2).f1.f2), .int .i64 ((Zc J0 J2).f1.f3.f0), .int .u64 ((Zc J0 J2).f1.f3.f1), .int .u64 ((Zc J0 J2).f1.f3.f2), .int .i64 ((Zc J0 J2).f1.f4), .bool ((Zc J0 J2).f1.f5), .int .i64 ((Zc J0 J2).f1.f6), .slice A129_10 ((Zc J0 J2).f1.f7).length c129_10, .int .i64 ((Zc J0 J2).f2), .int .i64 0, .slice none 0 0]) ?_ 12 _ rfl; (with_reducible repeat (first | refine Zf ?_ _ | refine Zg ?_ | refine Ze ?_ _)); refine Zk (cs := #[.int .i64 ((Zc J0 J2).f0), .int .i64 ((Zc J0 J2).f1.f0), .int .i64 ((Zc J0 J2).f1.f1), .bool ((Zc J0 J2).f1.f2), .int .i64 ((Zc J0 J2).f1.f3.f0), .int .u64 ((Zc J0 J2).f1.f3.f1), .int .u64 ((Zc J0 J2).f1.f3.f2), .int .i64 ((Zc J0 J2).f1.f4), .bool ((Zc J0 J2).f1.f5), .int .i64 ((Zc J0 J2).f1.f6), .slice A129_10 ((Zc J0 J2).f1.f7).length c129_10, .int .i64 0, .int .i64 0, .slice none 0 0]) ?_ 11 _ rfl; (with_reducible repeat (first | refine Zf ?_ _ | refine Zg ?_ | refine Ze ?_ _)); refine Zk (cs := #[.int .i64 ((Zc J0 J2).f0), .int .i64 ((Zc J0 J2).f1.f0), .int .i64 ((Zc J0 J2).f1.f1), .bool ((Zc J0 J2).f1.f2), .int .i64 ((Zc J0 J2).f1.f3.f0), .int .u64 ((Zc J0 J2).f1.f3.f1), .int .u64 ((Zc J0 J2).f1.f3.f2), .int .i64 ((Zc J0 J2).f1.f4), .bool ((Zc J0 J2).f1.f5), .int .i64 ((Zc J0 J2).f1.f6), .slice none 0 0, .int .i64 0, .int .i64 0, .slice none 0 0]) ?_ 10 _ rfl; (with_reducible repeat (first | refine Zf ?_ _ | refine Zg ?_ | refine Ze ?_ _)); refine Zk (cs := #[.int .i64 ((Zc J0 J2).f0), .int .i64 ((Zc J0 J2).f1.f0), .int .i64 ((Zc J0 J2).f1.f1), .bool ((Zc J0 J2).f1.f2), .int .i64 ((Zc J0 J2).f1.f3.f0), .int .u64 ((Zc J0 J2).f1.f3.f1), .int .u64 ((Zc J0 J2).f1.f3.f2), .int .i64 ((Zc J0 J2).f1.f4), .bool ((Zc J0 J2).f1.f5), .int .i64 0, .slice none 0 0, .int .i64 0, .int .i64 0, .slice none 0 0]) ?_ 9 _ rfl; (with_reducible repeat (first | refine Zf ?_ _ | refine Zg ?_ | refine Ze ?_ _)); refine Zk (cs := #[.int .i64 ((Zc J0 J2).f0), .int .i64 ((Zc J0 J2).f1.f0), .int .i64 ((Zc J0 J2).f1.f1), .bool ((Zc J0 J2).f1.f2), .int .i64 ((Zc J0 J2).f1.f3.f0), .int .u64 ((Zc J0 J2).f1.f3.f1), .int .u64 ((Zc J0 J2).f1.f3.f2), .int .i64 ((Zc J0 J2).f1.f4), .bool false, .int .i64 0, .slice none 0 0, .int .i64 0, .int .i64 0, .slice none 0 0]) ?_ 8 _ rfl; (with_reducible repeat (first | refine Zf ?_ _ | refine Zg ?_ | refine Ze ?_ _)); refine Zk (cs := #[.int .i64 ((Zc J0 J2).f0), .int .i64 ((Zc J0 J2).f1.f0), .int .i64 ((Zc J0 J2).f1.f1), .bool ((Zc J0 J2).f1.f2), .int .i64 ((Zc J0 J2).f1.f3.f0), .int .u64 ((Zc J0 J2).f1.f3.f1), .int .u64 ((Zc J0 J2).f1.f3.f2), .int .i64 0, .bool false, .int .i64 0, .slice none 0 0, .int .i64 0, .int .i64 0, .slice none 0 0]) ?_ 7 _ rfl; (with_reducible repeat (first | refine Zf ?_ _ | refine Zg ?_ | refine Ze ?_ _)); refine Zk (cs := #[.int .i64 ((Zc J0 J2).f0), .int .i64 ((Zc J0 J2).f1.f0), .int .i64 ((Zc J0 J2).f1.f1), .bool ((Zc J0 J2).f1.f2), .int .i64 ((Zc J0 J2).f1.f3.f0), .int .u64 ((Zc J0 J2).f1.f3.f1), .int .u64 0, .int .i64 0, .bool false, .int .i64 0, .slice none 0 0, .int .i64 0, .int .i64 0, .slice none 0 0]) ?_ 6 _ rfl; (with_reducible repeat (first | refine Zf ?_ _ | refine Zg ?_ | refine Ze ?_ _)); refine Zk (cs := #[.int .i64 ((Zc J0 J2).f0), .int .i64 ((Zc J0 J2).f1.f0), .int .i64 ((Zc J0 J2).f1.f1), .bool ((Zc J0 J2).f1.f2), .int .i64 ((Zc J0 J2).f1.f3.f0), .int .u64 0, .int .u64 0, .int .i64 0, .bool false, .int .i64 0, .slice none 0 0, .int .i64 0, .int .i64 0, .slice none 0 0]) ?_ 5 _ rfl; (with_reducible repeat (first | refine Zf ?_ _ | refine Zg ?_ | refine Ze ?_ _)); refine Zk (cs := #[.int .i64 ((Zc J0 J2).f0), .int .i64 ((Zc J0 J2).f1.f0), .int .i64 ((Zc J0 J2).f1.f1), .bool ((Zc J0 J2).f1.f2), .int .i64 0, .int .u64 0, .int .u64 0, .int .i64 0, .bool false, .int .i64 0, .slice none 0 0, .int .i64 0, .int .i64 0, .slice none 0 0]) ?_ 4 _ rfl; (with_reducible repeat (first | refine Zf ?_ _ | refine Zg ?_ | refine Ze ?_ _)); refine Zk (cs := #[.int .i64 ((Zc J0 J2).f0), .int .i64 ((Zc J0 J2).f1.f0), .int .i64 ((Zc J0 J2).f1.f1), .bool false, .int .i64 0, .int .u64 0, .int .u64 0, .int .i64 0, .bool false, .int .i64 0, .slice none 0 0, .int .i64 0, .int .i64 0, .slice none 0 0]) ?_ 3 _ rfl; (with_reducible repeat (first | refine Zf ?_ _ | refine Zg ?_ | refine Ze ?_ _)); refine Zk (cs := #[.int .i64 ((Zc J0 J2).f0), .int .i64 ((Zc J0 J2).f1.f0), .int .i64 0, .bool false, .int .i64 0, .int .u64 0, .int .u64 0, .int .i64 0, .bool false, .int .i64 0, .slice none 0 0, .int .i64 0, .int .i64 0, .slice none 0 0]) ?_ 2 _ rfl; (with_reducible repeat (first | refine Zf ?_ _ | refine Zg ?_ | refine Ze ?_ _)); refine Zk (cs := #[.int .i64 ((Zc J0 J2).f0), .int .i64 0, .int .i64 0, .bool false, .int .i64 0, .int .u64 0, .int .u64 0, .int .i64 0, .bool false, .int .i64 0, .slice none 0 0, .int .i64 0, .int .i64 0, .slice none 0 0]) ?_ 1 _ rfl; (with_reducible repeat (first | refine Zf ?_ _ | refine Zg ?_ | refine Ze ?_ _)); refine Zk (cs := #[.int .i64 0, .int .i64 0, .int .i64 0, .bool false, .int .i64 0, .int .u64 0, .int .u64 0, .int .i64 0, .bool false, .int .i64 0, .slice none 0 0, .int .i64 0, .int .i64 0, .slice none 0 0]) ?_ 0 _ rfl; (with_reducible repeat (first | refine Zf ?_ _ | refine Zg ?_ | refine Ze ?_ _)); exact J5.out) hb); have n2_ := Zd.mk (Zj (by repeat (first | (with_reducible first | exact HB.out | apply Xm | apply Xi | apply Xj | refine Xc ?_ GE122.out | refine Xc ?_ GE130.out) | exact HB.out)) hb); clear J1; clear J5; clear HB; have J1 := n0_; have J5 := n1_; have HB := n2_; clear n0_ n1_ n2_; (try clear hb); (try clear hb2); (try clear hk); (try clear hi)))
         go_roundg k1
         case measure => have := HK1.out; omega
         case rel => exact ⟨(ji23), (wrap64 (J2 + 1)), (by first | rfl | (simp; done) | (simp only [← hji23] <;> (first | rfl | simp)) | (simp [*]; done)), (by first | rfl | (simp; done) | (simp [*]; done)), H', ⟨by have := HK1.out; omega⟩, ⟨J1.out⟩, ⟨HB.out⟩⟩
        ·rw [if_neg c21] at H
         exact absurd H (by simp)
       ·rw [if_neg c20] at H
        exact absurd H (by simp)
      ·rw [if_neg c19] at H
       have c19b0 : decide (J2 < (J0.length : Int)) = false := decide_eq_false c19
       clear c19
       obtain rfl := Option.some.inj H
       go_wp2
       go_ret
       exact ⟨by first | rfl | (simp [errW_none, errW_some] <;> rfl) | (simp [*, errW_none, errW_some] <;> rfl), HB.out⟩
   ·rw [if_neg c13] at H
    exact absurd H (by simp)
  ·rw [if_neg c12] at H
   have c12b0 : (J4 == 2) = false := beq_eq_false_iff_ne.mpr c12
   have c12b1 : (J4 != 2) = true := bne_iff_ne.mpr c12
   by_cases c28 : J4 = 3
   ·rw [if_pos c28] at H
    have c28b0 : (J4 == 3) = true := beq_iff_eq.mpr c28
    have c28b1 : (J4 != 3) = false := bne_eq_false_iff_eq.mpr c28
    clear c28
    by_cases c29 : 0 < (J0.length : Int)
    ·rw [if_pos c29] at H
     have c29b0 : decide (0 < (J0.length : Int)) = true := decide_eq_true c29
     have c29b1 : decide (0 < J0.length) = true := decide_eq_true (by omega)
     clear c29
     replace H := Option.bind_eq_some_iff.mp H
     obtain ⟨t133, A300, H⟩ := H
     replace H : (if 1 < (J0.length : Int) then ((Zt.f k ((Zc J0 1).f0) ((Zc J0 1).f1.f0) ((Zc J0 1).f1.f1) ((Zc J0 1).f1.f2) ((Zc J0 1).f1.f3.f0) ((Zc J0 1).f1.f3.f1) ((Zc J0 1).f1.f3.f2) ((Zc J0 1).f1.f4) ((Zc J0 1).f1.f5) ((Zc J0 1).f1.f6) ((Zc J0 1).f1.f7) ((Zc J0 1).f2) ((Zc J0 1).f3) ((Zc J0 1).f4)).bind fun t135 => (some (mx t133 t135))) else (none)) = some r := H
     have A30 := Zd.mk A300
     clear A300
     by_cases c31 : 1 < (J0.length : Int)
     ·rw [if_pos c31] at H
      have c31b0 : decide (1 < (J0.length : Int)) = true := decide_eq_true c31
      have c31b1 : decide (1 < J0.length) = true := decide_eq_true (by omega)
      clear c31
      replace H := Option.bind_eq_some_iff.mp H
      obtain ⟨t135, A320, H⟩ := H
      replace H : (some (mx t133 t135)) = some r := H
      have A32 := Zd.mk A320
      clear A320
      obtain ⟨ji33, hji33⟩ : ∃ j_ : Int, (mx t133 t135) = j_ := ⟨_, rfl⟩
      replace H : (some ji33) = some r := by first | (rw [hji33] at H; exact H) | (simp only [hji33] at H ⊢; exact H)
      (try rw [hji33] at A30)
      (try rw [hji33] at A32)
      have hji33_ : (if t133 < t135 then t135 else t133) = ji33 := hji33
      obtain rfl := Option.some.inj H
      go_enter Try.func17, Try.ntmps17
      try go_wp2_with (((with_reducible refine Xd (N := 1) rfl ?_); refine Xe ?hg (N := 1) ?hd (cs := #[.int .i64 J4, .int .i64 Jk, .int .i64 Jj, .bool Jh, .int .i64 Jg, .int .u64 Jf, .int .u64 Je, .int .i64 Jd, .bool Jb, .int .i64 Ja, .slice A0_10 J7.length c0_10, .int .i64 J6, .int .i64 J8, .slice A0_13 J0.length c0_13]) (t := 30) ?hr ?_; (case hd => rfl); (case hg => rfl); (case hr => first | (go_simp; done) | (go_simp; rfl)); intro J3 hg w34 hbox hb; have n0_ := Zd.mk (Zj HB.out hb); have n1_ := Zd.mk (hbox); have n2_ := Zd.mk ((by rw [hg]; exact (Zl HB.out) : w.heap.size ≤ J3)); have n3_ := n2_; clear HB; have HB := n0_; have J1 := n1_; have GW122 := n2_; have GE122 := n3_; clear n0_ n1_ n2_ n3_; clear hb hbox hg; have hcz35_0 : w34.cell? ⟨J3, 0, none⟩ = some (.int .i64 J4) := (Za J1.out 0).trans rfl; have hcz35_1 : w34.cell? ⟨J3, 1, none⟩ = some (.int .i64 Jk) := (Za J1.out 1).trans rfl; have hcz35_2 : w34.cell? ⟨J3, 2, none⟩ = some (.int .i64 Jj) := (Za J1.out 2).trans rfl; have hcz35_3 : w34.cell? ⟨J3, 3, none⟩ = some (.bool Jh) := (Za J1.out 3).trans rfl; have hcz35_4 : w34.cell? ⟨J3, 4, none⟩ = some (.int .i64 Jg) := (Za J1.out 4).trans rfl; have hcz35_5 : w34.cell? ⟨J3, 5, none⟩ = some (.int .u64 Jf) := (Za J1.out 5).trans rfl; have hcz35_6 : w34.cell? ⟨J3, 6, none⟩ = some (.int .u64 Je) := (Za J1.out 6).trans rfl; have hcz35_7 : w34.cell? ⟨J3, 7, none⟩ = some (.int .i64 Jd) := (Za J1.out 7).trans rfl; have hcz35_8 : w34.cell? ⟨J3, 8, none⟩ = some (.bool Jb) := (Za J1.out 8).trans rfl; have hcz35_9 : w34.cell? ⟨J3, 9, none⟩ = some (.int .i64 Ja) := (Za J1.out 9).trans rfl; have hcz35_10 : w34.cell? ⟨J3, 10, none⟩ = some (.slice A0_10 J7.length c0_10) := (Za J1.out 10).trans rfl; have hcz35_11 : w34.cell? ⟨J3, 11, none⟩ = some (.int .i64 J6) := (Za J1.out 11).trans rfl; have hcz35_12 : w34.cell? ⟨J3, 12, none⟩ = some (.int .i64 J8) := (Za J1.out 12).trans rfl; have hcz35_13 : w34.cell? ⟨J3, 13, none⟩ = some (.slice A0_13 J0.length c0_13) := (Za J1.out 13).trans rfl; have hfz35_0 := Zb J1.out 0; have hfz35_1 := Zb J1.out 1; have hfz35_2 := Zb J1.out 2; have hfz35_3 := Zb J1.out 3; have hfz35_4 := Zb J1.out 4; have hfz35_5 := Zb J1.out 5; have hfz35_6 := Zb J1.out 6; have hfz35_7 := Zb J1.out 7; have hfz35_8 := Zb J1.out 8; have hfz35_9 := Zb J1.out 9; have hfz35_10 := Zb J1.out 10; have hfz35_11 := Zb J1.out 11; have hfz35_12 := Zb J1.out 12; have hfz35_13 := Zb J1.out 13))
      have n0_ := Zd.mk (Zg J1.out)
      have n1_ := Zd.mk (Xj HB.out)
      clear J1
      clear HB
      have J1 := n0_
      have HB := n1_
      clear n0_ n1_
      have p132 : 0 ≤ (0 : Int) := (by omega)
      have q132 : 0 < (J0.length : Int) := of_decide_eq_true (by first | (with_reducible assumption) | assumption)
      obtain ⟨ad132, A132_10, c132_10, A132_13, c132_13, e132, hx132_0, hx132_1, hx132_2, hx132_3, hx132_4, hx132_5, hx132_6, hx132_7, hx132_8, hx132_9, hx132_10, hx132_11, hx132_12, hx132_13, hl132_10, hi132_10, hl132_13, hi132_13⟩ := Jc HR0_13.out 0 p132 q132
      have hw132_13 := hx132_13
      (try rw [show ((0 : Int)).toNat = 0 from rfl] at hw132_13)
      (try rw [show 0 * 14 = 0 from rfl] at hw132_13)
      (try rw [Addr.add_zero'] at hw132_13)
      have hw132_12 := hx132_12
      (try rw [show ((0 : Int)).toNat = 0 from rfl] at hw132_12)
      (try rw [show 0 * 14 = 0 from rfl] at hw132_12)
      (try rw [Addr.add_zero'] at hw132_12)
      have hw132_11 := hx132_11
      (try rw [show ((0 : Int)).toNat = 0 from rfl] at hw132_11)
      (try rw [show 0 * 14 = 0 from rfl] at hw132_11)
      (try rw [Addr.add_zero'] at hw132_11)
      have hw132_10 := hx132_10
      (try rw [show ((0 : Int)).toNat = 0 from rfl] at hw132_10)
      (try rw [show 0 * 14 = 0 from rfl] at hw132_10)
      (try rw [Addr.add_zero'] at hw132_10)
      have hw132_9 := hx132_9
      (try rw [show ((0 : Int)).toNat = 0 from rfl] at hw132_9)
      (try rw [show 0 * 14 = 0 from rfl] at hw132_9)
      (try rw [Addr.add_zero'] at hw132_9)
      have hw132_8 := hx132_8
      (try rw [show ((0 : Int)).toNat = 0 from rfl] at hw132_8)
      (try rw [show 0 * 14 = 0 from rfl] at hw132_8)
      (try rw [Addr.add_zero'] at hw132_8)
      have hw132_7 := hx132_7
      (try rw [show ((0 : Int)).toNat = 0 from rfl] at hw132_7)
      (try rw [show 0 * 14 = 0 from rfl] at hw132_7)
      (try rw [Addr.add_zero'] at hw132_7)
      have hw132_6 := hx132_6
      (try rw [show ((0 : Int)).toNat = 0 from rfl] at hw132_6)
      (try rw [show 0 * 14 = 0 from rfl] at hw132_6)
      (try rw [Addr.add_zero'] at hw132_6)
      have hw132_5 := hx132_5
      (try rw [show ((0 : Int)).toNat = 0 from rfl] at hw132_5)
      (try rw [show 0 * 14 = 0 from rfl] at hw132_5)
      (try rw [Addr.add_zero'] at hw132_5)
      have hw132_4 := hx132_4
      (try rw [show ((0 : Int)).toNat = 0 from rfl] at hw132_4)
      (try rw [show 0 * 14 = 0 from rfl] at hw132_4)
      (try rw [Addr.add_zero'] at hw132_4)
      have hw132_3 := hx132_3
      (try rw [show ((0 : Int)).toNat = 0 from rfl] at hw132_3)
      (try rw [show 0 * 14 = 0 from rfl] at hw132_3)
      (try rw [Addr.add_zero'] at hw132_3)
      have hw132_2 := hx132_2
      (try rw [show ((0 : Int)).toNat = 0 from rfl] at hw132_2)
      (try rw [show 0 * 14 = 0 from rfl] at hw132_2)
      (try rw [Addr.add_zero'] at hw132_2)
      have hw132_1 := hx132_1
      (try rw [show ((0 : Int)).toNat = 0 from rfl] at hw132_1)
      (try rw [show 0 * 14 = 0 from rfl] at hw132_1)
      (try rw [Addr.add_zero'] at hw132_1)
      have hw132_0 := hx132_0
      (try rw [show ((0 : Int)).toNat = 0 from rfl] at hw132_0)
      (try rw [show 0 * 14 = 0 from rfl] at hw132_0)
      (try rw [Addr.add_zero'] at hw132_0)
      cases e132
      have qi132 : (0 < J0.length) = True := eq_true (by omega)
      (try rw [show ((0 : Int)).toNat = 0 from rfl] at hx132_0)
      (try rw [show 0 * 14 = 0 from rfl] at hx132_0)
      (try rw [Addr.add_zero'] at hx132_0)
      (try rw [show ((0 : Int)).toNat = 0 from rfl] at hx132_1)
      (try rw [show 0 * 14 = 0 from rfl] at hx132_1)
      (try rw [Addr.add_zero'] at hx132_1)
      (try rw [show ((0 : Int)).toNat = 0 from rfl] at hx132_2)
      (try rw [show 0 * 14 = 0 from rfl] at hx132_2)
      (try rw [Addr.add_zero'] at hx132_2)
      (try rw [show ((0 : Int)).toNat = 0 from rfl] at hx132_3)
      (try rw [show 0 * 14 = 0 from rfl] at hx132_3)
      (try rw [Addr.add_zero'] at hx132_3)
      (try rw [show ((0 : Int)).toNat = 0 from rfl] at hx132_4)
      (try rw [show 0 * 14 = 0 from rfl] at hx132_4)
      (try rw [Addr.add_zero'] at hx132_4)
      (try rw [show ((0 : Int)).toNat = 0 from rfl] at hx132_5)
      (try rw [show 0 * 14 = 0 from rfl] at hx132_5)
      (try rw [Addr.add_zero'] at hx132_5)
      (try rw [show ((0 : Int)).toNat = 0 from rfl] at hx132_6)
      (try rw [show 0 * 14 = 0 from rfl] at hx132_6)
      (try rw [Addr.add_zero'] at hx132_6)
      (try rw [show ((0 : Int)).toNat = 0 from rfl] at hx132_7)
      (try rw [show 0 * 14 = 0 from rfl] at hx132_7)
      (try rw [Addr.add_zero'] at hx132_7)
      (try rw [show ((0 : Int)).toNat = 0 from rfl] at hx132_8)
      (try rw [show 0 * 14 = 0 from rfl] at hx132_8)
      (try rw [Addr.add_zero'] at hx132_8)
      (try rw [show ((0 : Int)).toNat = 0 from rfl] at hx132_9)
      (try rw [show 0 * 14 = 0 from rfl] at hx132_9)
      (try rw [Addr.add_zero'] at hx132_9)
      (try rw [show ((0 : Int)).toNat = 0 from rfl] at hx132_10)
      (try rw [show 0 * 14 = 0 from rfl] at hx132_10)
      (try rw [Addr.add_zero'] at hx132_10)
      (try rw [show ((0 : Int)).toNat = 0 from rfl] at hx132_11)
      (try rw [show 0 * 14 = 0 from rfl] at hx132_11)
      (try rw [Addr.add_zero'] at hx132_11)
      (try rw [show ((0 : Int)).toNat = 0 from rfl] at hx132_12)
      (try rw [show 0 * 14 = 0 from rfl] at hx132_12)
      (try rw [Addr.add_zero'] at hx132_12)
      (try rw [show ((0 : Int)).toNat = 0 from rfl] at hx132_13)
      (try rw [show 0 * 14 = 0 from rfl] at hx132_13)
      (try rw [Addr.add_zero'] at hx132_13)
      replace hx132_0 := zb HB.out hx132_0
      replace hx132_1 := zb HB.out hx132_1
      replace hx132_2 := zb HB.out hx132_2
      replace hx132_3 := zb HB.out hx132_3
      replace hx132_4 := zb HB.out hx132_4
      replace hx132_5 := zb HB.out hx132_5
      replace hx132_6 := zb HB.out hx132_6
      replace hx132_7 := zb HB.out hx132_7
      replace hx132_8 := zb HB.out hx132_8
      replace hx132_9 := zb HB.out hx132_9
      replace hx132_10 := zb HB.out hx132_10
      replace hx132_11 := zb HB.out hx132_11
      replace hx132_12 := zb HB.out hx132_12
      replace hx132_13 := zb HB.out hx132_13
      have HR132_10 := Zd.mk hi132_10
      have HC132_10 := Zd.mk hl132_10
      clear hi132_10 hl132_10
      have HR132_13 := Zd.mk hi132_13
      have HC132_13 := Zd.mk hl132_13
      clear hi132_13 hl132_13
      replace p132 := eq_true p132
      replace q132 := eq_true q132
      have p134 : 0 ≤ (1 : Int) := (by omega)
      have q134 : 1 < (J0.length : Int) := of_decide_eq_true (by first | (with_reducible assumption) | assumption)
      obtain ⟨ad134, A134_10, c134_10, A134_13, c134_13, e134, hx134_0, hx134_1, hx134_2, hx134_3, hx134_4, hx134_5, hx134_6, hx134_7, hx134_8, hx134_9, hx134_10, hx134_11, hx134_12, hx134_13, hl134_10, hi134_10, hl134_13, hi134_13⟩ := Jc HR0_13.out 1 p134 q134
      have hw134_13 := hx134_13
      (try rw [show ((1 : Int)).toNat = 1 from rfl] at hw134_13)
      (try rw [show 1 * 14 = 14 from rfl] at hw134_13)
      (try simp only [Nat.reduceMul, Nat.reduceEqDiff, Go.Addr.add, ↓reduceIte] at hw134_13)
      have hw134_12 := hx134_12
      (try rw [show ((1 : Int)).toNat = 1 from rfl] at hw134_12)
      (try rw [show 1 * 14 = 14 from rfl] at hw134_12)
      (try simp only [Nat.reduceMul, Nat.reduceEqDiff, Go.Addr.add, ↓reduceIte] at hw134_12)
      have hw134_11 := hx134_11
      (try rw [show ((1 : Int)).toNat = 1 from rfl] at hw134_11)
      (try rw [show 1 * 14 = 14 from rfl] at hw134_11)
      (try simp only [Nat.reduceMul, Nat.reduceEqDiff, Go.Addr.add, ↓reduceIte] at hw134_11)
      have hw134_10 := hx134_10
      (try rw [show ((1 : Int)).toNat = 1 from rfl] at hw134_10)
      (try rw [show 1 * 14 = 14 from rfl] at hw134_10)
      (try simp only [Nat.reduceMul, Nat.reduceEqDiff, Go.Addr.add, ↓reduceIte] at hw134_10)
      have hw134_9 := hx134_9
      (try rw [show ((1 : Int)).toNat = 1 from rfl] at hw134_9)
      (try rw [show 1 * 14 = 14 from rfl] at hw134_9)
      (try simp only [Nat.reduceMul, Nat.reduceEqDiff, Go.Addr.add, ↓reduceIte] at hw134_9)
      have hw134_8 := hx134_8
      (try rw [show ((1 : Int)).toNat = 1 from rfl] at hw134_8)
      (try rw [show 1 * 14 = 14 from rfl] at hw134_8)
      (try simp only [Nat.reduceMul, Nat.reduceEqDiff, Go.Addr.add, ↓reduceIte] at hw134_8)
      have hw134_7 := hx134_7
      (try rw [show ((1 : Int)).toNat = 1 from rfl] at hw134_7)
      (try rw [show 1 * 14 = 14 from rfl] at hw134_7)
      (try simp only [Nat.reduceMul, Nat.reduceEqDiff, Go.Addr.add, ↓reduceIte] at hw134_7)
      have hw134_6 := hx134_6
      (try rw [show ((1 : Int)).toNat = 1 from rfl] at hw134_6)
      (try rw [show 1 * 14 = 14 from rfl] at hw134_6)
      (try simp only [Nat.reduceMul, Nat.reduceEqDiff, Go.Addr.add, ↓reduceIte] at hw134_6)
      have hw134_5 := hx134_5
      (try rw [show ((1 : Int)).toNat = 1 from rfl] at hw134_5)
      (try rw [show 1 * 14 = 14 from rfl] at hw134_5)
      (try simp only [Nat.reduceMul, Nat.reduceEqDiff, Go.Addr.add, ↓reduceIte] at hw134_5)
      have hw134_4 := hx134_4
      (try rw [show ((1 : Int)).toNat = 1 from rfl] at hw134_4)
      (try rw [show 1 * 14 = 14 from rfl] at hw134_4)
      (try simp only [Nat.reduceMul, Nat.reduceEqDiff, Go.Addr.add, ↓reduceIte] at hw134_4)
      have hw134_3 := hx134_3
      (try rw [show ((1 : Int)).toNat = 1 from rfl] at hw134_3)
      (try rw [show 1 * 14 = 14 from rfl] at hw134_3)
      (try simp only [Nat.reduceMul, Nat.reduceEqDiff, Go.Addr.add, ↓reduceIte] at hw134_3)
      have hw134_2 := hx134_2
      (try rw [show ((1 : Int)).toNat = 1 from rfl] at hw134_2)
      (try rw [show 1 * 14 = 14 from rfl] at hw134_2)
      (try simp only [Nat.reduceMul, Nat.reduceEqDiff, Go.Addr.add, ↓reduceIte] at hw134_2)
      have hw134_1 := hx134_1
      (try rw [show ((1 : Int)).toNat = 1 from rfl] at hw134_1)
      (try rw [show 1 * 14 = 14 from rfl] at hw134_1)
      (try simp only [Nat.reduceMul, Nat.reduceEqDiff, Go.Addr.add, ↓reduceIte] at hw134_1)
      have hw134_0 := hx134_0
      (try rw [show ((1 : Int)).toNat = 1 from rfl] at hw134_0)
      (try rw [show 1 * 14 = 14 from rfl] at hw134_0)
      (try simp only [Nat.reduceMul, Nat.reduceEqDiff, Go.Addr.add, ↓reduceIte] at hw134_0)
      obtain rfl : ad132 = ad134 := (by injection e134)
      (try simp only [show (1 : Int).toNat = 1 from rfl, Nat.reduceMul, Nat.reduceEqDiff, Go.Addr.add, ↓reduceIte] at hx134_0)
      (try simp only [show (1 : Int).toNat = 1 from rfl, Nat.reduceMul, Nat.reduceEqDiff, Go.Addr.add, ↓reduceIte] at hx134_1)
      (try simp only [show (1 : Int).toNat = 1 from rfl, Nat.reduceMul, Nat.reduceEqDiff, Go.Addr.add, ↓reduceIte] at hx134_2)
      (try simp only [show (1 : Int).toNat = 1 from rfl, Nat.reduceMul, Nat.reduceEqDiff, Go.Addr.add, ↓reduceIte] at hx134_3)
      (try simp only [show (1 : Int).toNat = 1 from rfl, Nat.reduceMul, Nat.reduceEqDiff, Go.Addr.add, ↓reduceIte] at hx134_4)
      (try simp only [show (1 : Int).toNat = 1 from rfl, Nat.reduceMul, Nat.reduceEqDiff, Go.Addr.add, ↓reduceIte] at hx134_5)
      (try simp only [show (1 : Int).toNat = 1 from rfl, Nat.reduceMul, Nat.reduceEqDiff, Go.Addr.add, ↓reduceIte] at hx134_6)
      (try simp only [show (1 : Int).toNat = 1 from rfl, Nat.reduceMul, Nat.reduceEqDiff, Go.Addr.add, ↓reduceIte] at hx134_7)
      (try simp only [show (1 : Int).toNat = 1 from rfl, Nat.reduceMul, Nat.reduceEqDiff, Go.Addr.add, ↓reduceIte] at hx134_8)
      (try simp only [show (1 : Int).toNat = 1 from rfl, Nat.reduceMul, Nat.reduceEqDiff, Go.Addr.add, ↓reduceIte] at hx134_9)
      (try simp only [show (1 : Int).toNat = 1 from rfl, Nat.reduceMul, Nat.reduceEqDiff, Go.Addr.add, ↓reduceIte] at hx134_10)
      (try simp only [show (1 : Int).toNat = 1 from rfl, Nat.reduceMul, Nat.reduceEqDiff, Go.Addr.add, ↓reduceIte] at hx134_11)
      (try simp only [show (1 : Int).toNat = 1 from rfl, Nat.reduceMul, Nat.reduceEqDiff, Go.Addr.add, ↓reduceIte] at hx134_12)
      (try simp only [show (1 : Int).toNat = 1 from rfl, Nat.reduceMul, Nat.reduceEqDiff, Go.Addr.add, ↓reduceIte] at hx134_13)
      have qi134 : (1 < J0.length) = True := eq_true (by omega)
      (try rw [show ((1 : Int)).toNat = 1 from rfl] at hx134_0)
      (try rw [show 1 * 14 = 14 from rfl] at hx134_0)
      (try rw [show ((1 : Int)).toNat = 1 from rfl] at hx134_1)
      (try rw [show 1 * 14 = 14 from rfl] at hx134_1)
      (try rw [show ((1 : Int)).toNat = 1 from rfl] at hx134_2)
      (try rw [show 1 * 14 = 14 from rfl] at hx134_2)
      (try rw [show ((1 : Int)).toNat = 1 from rfl] at hx134_3)
      (try rw [show 1 * 14 = 14 from rfl] at hx134_3)
      (try rw [show ((1 : Int)).toNat = 1 from rfl] at hx134_4)
      (try rw [show 1 * 14 = 14 from rfl] at hx134_4)
      (try rw [show ((1 : Int)).toNat = 1 from rfl] at hx134_5)
      (try rw [show 1 * 14 = 14 from rfl] at hx134_5)
      (try rw [show ((1 : Int)).toNat = 1 from rfl] at hx134_6)
      (try rw [show 1 * 14 = 14 from rfl] at hx134_6)
      (try rw [show ((1 : Int)).toNat = 1 from rfl] at hx134_7)
      (try rw [show 1 * 14 = 14 from rfl] at hx134_7)
      (try rw [show ((1 : Int)).toNat = 1 from rfl] at hx134_8)
      (try rw [show 1 * 14 = 14 from rfl] at hx134_8)
      (try rw [show ((1 : Int)).toNat = 1 from rfl] at hx134_9)
      (try rw [show 1 * 14 = 14 from rfl] at hx134_9)
      (try rw [show ((1 : Int)).toNat = 1 from rfl] at hx134_10)
      (try rw [show 1 * 14 = 14 from rfl] at hx134_10)
      (try rw [show ((1 : Int)).toNat = 1 from rfl] at hx134_11)
      (try rw [show 1 * 14 = 14 from rfl] at hx134_11)
      (try rw [show ((1 : Int)).toNat = 1 from rfl] at hx134_12)
      (try rw [show 1 * 14 = 14 from rfl] at hx134_12)
      (try rw [show ((1 : Int)).toNat = 1 from rfl] at hx134_13)
      (try rw [show 1 * 14 = 14 from rfl] at hx134_13)
      replace hx134_0 := zb HB.out hx134_0
      replace hx134_1 := zb HB.out hx134_1
      replace hx134_2 := zb HB.out hx134_2
      replace hx134_3 := zb HB.out hx134_3
      replace hx134_4 := zb HB.out hx134_4
      replace hx134_5 := zb HB.out hx134_5
      replace hx134_6 := zb HB.out hx134_6
      replace hx134_7 := zb HB.out hx134_7
      replace hx134_8 := zb HB.out hx134_8
      replace hx134_9 := zb HB.out hx134_9
      replace hx134_10 := zb HB.out hx134_10
      replace hx134_11 := zb HB.out hx134_11
      replace hx134_12 := zb HB.out hx134_12
      replace hx134_13 := zb HB.out hx134_13
      have HR134_10 := Zd.mk hi134_10
      have HC134_10 := Zd.mk hl134_10
      clear hi134_10 hl134_10
      have HR134_13 := Zd.mk hi134_13
      have HC134_13 := Zd.mk hl134_13
      clear hi134_13 hl134_13
      replace p134 := eq_true p134
      replace q134 := eq_true q134
      refine start_ (n := 12) (S := fun w' => w'.cell? ⟨J3, 0, none⟩ = some (.int .i64 J4) ∧ w'.cell? ⟨J3, 1, none⟩ = some (.int .i64 Jk) ∧ w'.cell? ⟨J3, 2, none⟩ = some (.int .i64 Jj) ∧ w'.cell? ⟨J3, 3, none⟩ = some (.bool Jh) ∧ w'.cell? ⟨J3, 4, none⟩ = some (.int .i64 Jg) ∧ w'.cell? ⟨J3, 5, none⟩ = some (.int .u64 Jf) ∧ w'.cell? ⟨J3, 6, none⟩ = some (.int .u64 Je) ∧ w'.cell? ⟨J3, 7, none⟩ = some (.int .i64 Jd) ∧ w'.cell? ⟨J3, 8, none⟩ = some (.bool Jb) ∧ w'.cell? ⟨J3, 9, none⟩ = some (.int .i64 Ja) ∧ w'.cell? ⟨J3, 10, none⟩ = some (.slice A0_10 J7.length c0_10) ∧ w'.cell? ⟨J3, 11, none⟩ = some (.int .i64 J6) ∧ w'.cell? ⟨J3, 12, none⟩ = some (.int .i64 J8) ∧ w'.cell? ⟨J3, 13, none⟩ = some (.slice (some ad132) J0.length c0_13) ∧ w'.cell? ad132 = some (.int .i64 ((Zc J0 0).f0)) ∧ w'.cell? ⟨ad132.block, ad132.off + 1, none⟩ = some (.int .i64 ((Zc J0 0).f1.f0)) ∧ w'.cell? ⟨ad132.block, ad132.off + 2, none⟩ = some (.int .i64 ((Zc J0 0).f1.f1)) ∧ w'.cell? ⟨ad132.block, ad132.off + 3, none⟩ = some (.bool ((Zc J0 0).f1.f2)) ∧ w'.cell? ⟨ad132.block, ad132.off + 4, none⟩ = some (.int .i64 ((Zc J0 0).f1.f3.f0)) ∧ w'.cell? ⟨ad132.block, ad132.off + 5, none⟩ = some (.int .u64 ((Zc J0 0).f1.f3.f1)) ∧ w'.cell? ⟨ad132.block, ad132.off + 6, none⟩ = some (.int .u64 ((Zc J0 0).f1.f3.f2)) ∧ w'.cell? ⟨ad132.block, ad132.off + 7, none⟩ = some (.int .i64 ((Zc J0 0).f1.f4)) ∧ w'.cell? ⟨ad132.block, ad132.off + 8, none⟩ = some (.bool ((Zc J0 0).f1.f5)) ∧ w'.cell? ⟨ad132.block, ad132.off + 9, none⟩ = some (.int .i64 ((Zc J0 0).f1.f6)) ∧ w'.cell? ⟨ad132.block, ad132.off + 10, none⟩ = some (.slice A132_10 ((Zc J0 0).f1.f7).length c132_10) ∧ w'.cell? ⟨ad132.block, ad132.off + 11, none⟩ = some (.int .i64 ((Zc J0 0).f2)) ∧ w'.cell? ⟨ad132.block, ad132.off + 12, none⟩ = some (.int .i64 ((Zc J0 0).f3)) ∧ w'.cell? ⟨ad132.block, ad132.off + 13, none⟩ = some (.slice A132_13 ((Zc J0 0).f4).length c132_13) ∧ w'.cell? ⟨ad132.block, ad132.off + 14, none⟩ = some (.int .i64 ((Zc J0 1).f0)) ∧ w'.cell? ⟨ad132.block, ad132.off + 14 + 1, none⟩ = some (.int .i64 ((Zc J0 1).f1.f0)) ∧ w'.cell? ⟨ad132.block, ad132.off + 14 + 2, none⟩ = some (.int .i64 ((Zc J0 1).f1.f1)) ∧ w'.cell? ⟨ad132.block, ad132.off + 14 + 3, none⟩ = some (.bool ((Zc J0 1).f1.f2)) ∧ w'.cell? ⟨ad132.block, ad132.off + 14 + 4, none⟩ = some (.int .i64 ((Zc J0 1).f1.f3.f0)) ∧ w'.cell? ⟨ad132.block, ad132.off + 14 + 5, none⟩ = some (.int .u64 ((Zc J0 1).f1.f3.f1)) ∧ w'.cell? ⟨ad132.block, ad132.off + 14 + 6, none⟩ = some (.int .u64 ((Zc J0 1).f1.f3.f2)) ∧ w'.cell? ⟨ad132.block, ad132.off + 14 + 7, none⟩ = some (.int .i64 ((Zc J0 1).f1.f4)) ∧ w'.cell? ⟨ad132.block, ad132.off + 14 + 8, none⟩ = some (.bool ((Zc J0 1).f1.f5)) ∧ w'.cell? ⟨ad132.block, ad132.off + 14 + 9, none⟩ = some (.int .i64 ((Zc J0 1).f1.f6)) ∧ w'.cell? ⟨ad132.block, ad132.off + 14 + 10, none⟩ = some (.slice A134_10 ((Zc J0 1).f1.f7).length c134_10) ∧ w'.cell? ⟨ad132.block, ad132.off + 14 + 11, none⟩ = some (.int .i64 ((Zc J0 1).f2)) ∧ w'.cell? ⟨ad132.block, ad132.off + 14 + 12, none⟩ = some (.int .i64 ((Zc J0 1).f3)) ∧ w'.cell? ⟨ad132.block, ad132.off + 14 + 13, none⟩ = some (.slice A134_13 ((Zc J0 1).f4).length c134_13)) (ds := []) #[false, false, false, false, false, false, false, false, false, false, false, false] (by kernel_rfl) rfl rfl ⟨(Za J1.out 0).trans rfl, (Za J1.out 1).trans rfl, (Za J1.out 2).trans rfl, (Za J1.out 3).trans rfl, (Za J1.out 4).trans rfl, (Za J1.out 5).trans rfl, (Za J1.out 6).trans rfl, (Za J1.out 7).trans rfl, (Za J1.out 8).trans rfl, (Za J1.out 9).trans rfl, (Za J1.out 10).trans rfl, (Za J1.out 11).trans rfl, (Za J1.out 12).trans rfl, (Za J1.out 13).trans rfl, (zb HB.out hw132_0), (zb HB.out hw132_1), (zb HB.out hw132_2), (zb HB.out hw132_3), (zb HB.out hw132_4), (zb HB.out hw132_5), (zb HB.out hw132_6), (zb HB.out hw132_7), (zb HB.out hw132_8), (zb HB.out hw132_9), (zb HB.out hw132_10), (zb HB.out hw132_11), (zb HB.out hw132_12), (zb HB.out hw132_13), (zb HB.out hw134_0), (zb HB.out hw134_1), (zb HB.out hw134_2), (zb HB.out hw134_3), (zb HB.out hw134_4), (zb HB.out hw134_5), (zb HB.out hw134_6), (zb HB.out hw134_7), (zb HB.out hw134_8), (zb HB.out hw134_9), (zb HB.out hw134_10), (zb HB.out hw134_11), (zb HB.out hw134_12), (zb HB.out hw134_13)⟩ (fun hHeld => ?_); refine Ji Zt.tab13 Zt.bits13 (fun HT_ HW_ => ?_)
      generalize w34.drew = w36 at J1 HB HR132_10 HR132_13 HR134_10 HR134_13 hx132_0 hx132_1 hx132_10 hx132_11 hx132_12 hx132_13 hx132_2 hx132_3 hx132_4 hx132_5 hx132_6 hx132_7 hx132_8 hx132_9 hx134_0 hx134_1 hx134_10 hx134_11 hx134_12 hx134_13 hx134_2 hx134_3 hx134_4 hx134_5 hx134_6 hx134_7 hx134_8 hx134_9 hHeld ⊢
      refine Qe (i := 0) (N := some 47) (v := ?_) (a' := ?_) #[true, false, false, false, false, false, false, false, false, false, false, false] rfl rfl (Xu HT_.out (by kernel_rfl)) (fun _ _ _ h => h) (Or.inl ⟨by rfl, ?_⟩) ?_ ?_
      rotate_left
      ·intro w'
       go_simp
       with_reducible rfl
      rotate_left
      ·simp only [Act.put, List.setIfInBounds_toArray, List.set_cons_zero, List.set_cons_succ, Xk]
       rfl
      refine Qe (i := 5) (N := some 52) (v := ?_) (a' := ?_) #[true, false, false, false, false, true, false, false, false, false, false, false] rfl rfl (Xu HT_.out (by kernel_rfl)) (fun _ _ _ h => h) (Or.inl ⟨by rfl, ?_⟩) ?_ ?_
      rotate_left
      ·intro w'
       go_simp
       with_reducible rfl
      rotate_left
      ·simp only [Act.put, List.setIfInBounds_toArray, List.set_cons_zero, List.set_cons_succ, Xk]
       rfl
      refine Vx (i := 1) (N := some 48) (v := ?_) (a' := ?_) #[true, true, false, false, false, true, false, false, false, false, false, false] rfl rfl (Ql HT_.out HW_.out (by kernel_rfl)) (fun _ _ _ h => h) (Or.inl ⟨by rfl, ?_⟩) hHeld ?_ ?_
      rotate_left
      ·rintro w' ⟨s0, s1, s2, s3, s4, s5, s6, s7, s8, s9, s10, s11, s12, s13, s14, s15, s16, s17, s18, s19, s20, s21, s22, s23, s24, s25, s26, s27, s28, s29, s30, s31, s32, s33, s34, s35, s36, s37, s38, s39, s40, s41⟩
       go_simp
       with_reducible rfl
      rotate_left
      ·simp only [Act.put, List.setIfInBounds_toArray, List.set_cons_zero, List.set_cons_succ, Xk]
       rfl
      refine Qe (i := 2) (N := some 49) (v := ?_) (a' := ?_) #[true, true, true, false, false, true, false, false, false, false, false, false] rfl rfl (Xu HT_.out (by kernel_rfl)) (fun _ _ _ h => h) (Or.inl ⟨by rfl, ?_⟩) ?_ ?_
      rotate_left
      ·intro w'
       go_simp
       with_reducible rfl
      rotate_left
      ·simp only [Act.put, List.setIfInBounds_toArray, List.set_cons_zero, List.set_cons_succ, Xk]
       rfl
      refine Vx (i := 3) (N := some 50) (v := ?_) (a' := ?_) #[true, true, true, true, false, true, false, false, false, false, false, false] rfl rfl (Ql HT_.out HW_.out (by kernel_rfl)) (fun _ _ _ h => h) (Or.inl ⟨by rfl, ?_⟩) hHeld ?_ ?_
      rotate_left
      ·rintro w' ⟨s0, s1, s2, s3, s4, s5, s6, s7, s8, s9, s10, s11, s12, s13, s14, s15, s16, s17, s18, s19, s20, s21, s22, s23, s24, s25, s26, s27, s28, s29, s30, s31, s32, s33, s34, s35, s36, s37, s38, s39, s40, s41⟩
       go_simp
       with_reducible rfl
      rotate_left
      ·simp only [Act.put, List.setIfInBounds_toArray, List.set_cons_zero, List.set_cons_succ, Xk]
       rfl
      refine Vx (i := 6) (N := some 53) (v := ?_) (a' := ?_) #[true, true, true, true, false, true, true, false, false, false, false, false] rfl rfl (Ql HT_.out HW_.out (by kernel_rfl)) (fun _ _ _ h => h) (Or.inl ⟨by rfl, ?_⟩) hHeld ?_ ?_
      rotate_left
      ·rintro w' ⟨s0, s1, s2, s3, s4, s5, s6, s7, s8, s9, s10, s11, s12, s13, s14, s15, s16, s17, s18, s19, s20, s21, s22, s23, s24, s25, s26, s27, s28, s29, s30, s31, s32, s33, s34, s35, s36, s37, s38, s39, s40, s41⟩
       go_simp
       with_reducible rfl
      rotate_left
      ·simp only [Act.put, List.setIfInBounds_toArray, List.set_cons_zero, List.set_cons_succ, Xk]
       rfl
      refine Qe (i := 7) (N := some 54) (v := ?_) (a' := ?_) #[true, true, true, true, false, true, true, true, false, false, false, false] rfl rfl (Xu HT_.out (by kernel_rfl)) (fun _ _ _ h => h) (Or.inl ⟨by rfl, ?_⟩) ?_ ?_
      rotate_left
      ·intro w'
       go_simp
       with_reducible rfl
      rotate_left
      ·simp only [Act.put, List.setIfInBounds_toArray, List.set_cons_zero, List.set_cons_succ, Xk]
       rfl
      refine Vx (i := 8) (N := some 55) (v := ?_) (a' := ?_) #[true, true, true, true, false, true, true, true, true, false, false, false] rfl rfl (Ql HT_.out HW_.out (by kernel_rfl)) (fun _ _ _ h => h) (Or.inl ⟨by rfl, ?_⟩) hHeld ?_ ?_
      rotate_left
      ·rintro w' ⟨s0, s1, s2, s3, s4, s5, s6, s7, s8, s9, s10, s11, s12, s13, s14, s15, s16, s17, s18, s19, s20, s21, s22, s23, s24, s25, s26, s27, s28, s29, s30, s31, s32, s33, s34, s35, s36, s37, s38, s39, s40, s41⟩
       go_simp
       with_reducible rfl
      rotate_left
      ·simp only [Act.put, List.setIfInBounds_toArray, List.set_cons_zero, List.set_cons_succ, Xk]
       rfl
      refine one_ (i := 4) (N := some 51) #[true, true, true, true, true, true, true, true, true, false, false, false] rfl rfl (Vt HT_.out (by kernel_rfl)) (by decide) (fun K hK => ?_)
      refine Wp Try.func17 (by kernel_rfl) rfl #[.agg #[.int .i64 ((Zc J0 0).f0), .int .i64 ((Zc J0 0).f1.f0), .int .i64 ((Zc J0 0).f1.f1), .bool ((Zc J0 0).f1.f2), .int .i64 ((Zc J0 0).f1.f3.f0), .int .u64 ((Zc J0 0).f1.f3.f1), .int .u64 ((Zc J0 0).f1.f3.f2), .int .i64 ((Zc J0 0).f1.f4), .bool ((Zc J0 0).f1.f5), .int .i64 ((Zc J0 0).f1.f6), .slice A132_10 ((Zc J0 0).f1.f7).length c132_10, .int .i64 ((Zc J0 0).f2), .int .i64 ((Zc J0 0).f3), .slice A132_13 ((Zc J0 0).f4).length c132_13]] (by rfl) rfl rfl (by (try simp only [List.map_toArray, List.map_cons, List.map_nil]); first | done | rfl | (simp only [List.length_drop, List.length_take]; rfl)) ?_
      with_reducible refine (ih k (by omega) ((Zc J0 0).f0) ((Zc J0 0).f1.f0) ((Zc J0 0).f1.f1) ((Zc J0 0).f1.f2) ((Zc J0 0).f1.f3.f0) ((Zc J0 0).f1.f3.f1) ((Zc J0 0).f1.f3.f2) ((Zc J0 0).f1.f4) ((Zc J0 0).f1.f5) ((Zc J0 0).f1.f6) _ _ ((Zc J0 0).f1.f7) ((Zc J0 0).f2) ((Zc J0 0).f3) _ _ ((Zc J0 0).f4) t133 _ ?side1 ?side2 ?side3 ?side4 A30.out).mono ?_
      (case side1 => exact (Kd.Zw HR132_10.out HB.out))
      (case side2 => exact HC132_10.out)
      (case side3 => exact (Kd.Zw HR132_13.out HB.out))
      (case side4 => exact HC132_13.out)
      rintro e w37 ⟨rfl, hb⟩
      refine ⟨_, rfl, ?_⟩
      have n0_ := Zd.mk (Zp J1.out hb)
      have n1_ := Zd.mk (Zj HB.out hb)
      clear J1
      clear HB
      have J1 := n0_
      have HB := n1_
      clear n0_ n1_
      (try clear hb)
      (try clear hb2)
      (try clear hk)
      (try clear hi)
      refine hK.out _ _ ⟨(Za J1.out 0).trans rfl, (Za J1.out 1).trans rfl, (Za J1.out 2).trans rfl, (Za J1.out 3).trans rfl, (Za J1.out 4).trans rfl, (Za J1.out 5).trans rfl, (Za J1.out 6).trans rfl, (Za J1.out 7).trans rfl, (Za J1.out 8).trans rfl, (Za J1.out 9).trans rfl, (Za J1.out 10).trans rfl, (Za J1.out 11).trans rfl, (Za J1.out 12).trans rfl, (Za J1.out 13).trans rfl, (zb HB.out hw132_0), (zb HB.out hw132_1), (zb HB.out hw132_2), (zb HB.out hw132_3), (zb HB.out hw132_4), (zb HB.out hw132_5), (zb HB.out hw132_6), (zb HB.out hw132_7), (zb HB.out hw132_8), (zb HB.out hw132_9), (zb HB.out hw132_10), (zb HB.out hw132_11), (zb HB.out hw132_12), (zb HB.out hw132_13), (zb HB.out hw134_0), (zb HB.out hw134_1), (zb HB.out hw134_2), (zb HB.out hw134_3), (zb HB.out hw134_4), (zb HB.out hw134_5), (zb HB.out hw134_6), (zb HB.out hw134_7), (zb HB.out hw134_8), (zb HB.out hw134_9), (zb HB.out hw134_10), (zb HB.out hw134_11), (zb HB.out hw134_12), (zb HB.out hw134_13)⟩ (fun hHeld => ?_)
      clear hK K
      refine Jw (a' := ?_) ?_ ?_
      rotate_left
      ·show Act.put _ (some 51) _ = _
       simp only [Act.put, List.setIfInBounds_toArray, List.set_cons_zero, List.set_cons_succ, Xk]
       rfl
      refine one_ (i := 9) (N := some 56) #[true, true, true, true, true, true, true, true, true, true, false, false] rfl rfl (Vt HT_.out (by kernel_rfl)) (by decide) (fun K hK => ?_)
      refine Wp Try.func17 (by kernel_rfl) rfl #[.agg #[.int .i64 ((Zc J0 1).f0), .int .i64 ((Zc J0 1).f1.f0), .int .i64 ((Zc J0 1).f1.f1), .bool ((Zc J0 1).f1.f2), .int .i64 ((Zc J0 1).f1.f3.f0), .int .u64 ((Zc J0 1).f1.f3.f1), .int .u64 ((Zc J0 1).f1.f3.f2), .int .i64 ((Zc J0 1).f1.f4), .bool ((Zc J0 1).f1.f5), .int .i64 ((Zc J0 1).f1.f6), .slice A134_10 ((Zc J0 1).f1.f7).length c134_10, .int .i64 ((Zc J0 1).f2), .int .i64 ((Zc J0 1).f3), .slice A134_13 ((Zc J0 1).f4).length c134_13]] (by rfl) rfl rfl (by (try simp only [List.map_toArray, List.map_cons, List.map_nil]); first | done | rfl | (simp only [List.length_drop, List.length_take]; rfl)) ?_
      with_reducible refine (ih k (by omega) ((Zc J0 1).f0) ((Zc J0 1).f1.f0) ((Zc J0 1).f1.f1) ((Zc J0 1).f1.f2) ((Zc J0 1).f1.f3.f0) ((Zc J0 1).f1.f3.f1) ((Zc J0 1).f1.f3.f2) ((Zc J0 1).f1.f4) ((Zc J0 1).f1.f5) ((Zc J0 1).f1.f6) _ _ ((Zc J0 1).f1.f7) ((Zc J0 1).f2) ((Zc J0 1).f3) _ _ ((Zc J0 1).f4) t135 _ ?side1 ?side2 ?side3 ?side4 A32.out).mono ?_
      (case side1 => exact (Kd.Zw HR134_10.out HB.out))
      (case side2 => exact HC134_10.out)
      (case side3 => exact (Kd.Zw HR134_13.out HB.out))
      (case side4 => exact HC134_13.out)
      rintro e w38 ⟨rfl, hb⟩
      refine ⟨_, rfl, ?_⟩
      have n0_ := Zd.mk (Zp J1.out hb)
      have n1_ := Zd.mk (Zj HB.out hb)
      clear J1
      clear HB
      have J1 := n0_
      have HB := n1_
      clear n0_ n1_
      (try clear hb)
      (try clear hb2)
      (try clear hk)
      (try clear hi)
      refine hK.out _ _ ⟨(Za J1.out 0).trans rfl, (Za J1.out 1).trans rfl, (Za J1.out 2).trans rfl, (Za J1.out 3).trans rfl, (Za J1.out 4).trans rfl, (Za J1.out 5).trans rfl, (Za J1.out 6).trans rfl, (Za J1.out 7).trans rfl, (Za J1.out 8).trans rfl, (Za J1.out 9).trans rfl, (Za J1.out 10).trans rfl, (Za J1.out 11).trans rfl, (Za J1.out 12).trans rfl, (Za J1.out 13).trans rfl, (zb HB.out hw132_0), (zb HB.out hw132_1), (zb HB.out hw132_2), (zb HB.out hw132_3), (zb HB.out hw132_4), (zb HB.out hw132_5), (zb HB.out hw132_6), (zb HB.out hw132_7), (zb HB.out hw132_8), (zb HB.out hw132_9), (zb HB.out hw132_10), (zb HB.out hw132_11), (zb HB.out hw132_12), (zb HB.out hw132_13), (zb HB.out hw134_0), (zb HB.out hw134_1), (zb HB.out hw134_2), (zb HB.out hw134_3), (zb HB.out hw134_4), (zb HB.out hw134_5), (zb HB.out hw134_6), (zb HB.out hw134_7), (zb HB.out hw134_8), (zb HB.out hw134_9), (zb HB.out hw134_10), (zb HB.out hw134_11), (zb HB.out hw134_12), (zb HB.out hw134_13)⟩ (fun hHeld => ?_)
      clear hK K
      refine Jw (a' := ?_) ?_ ?_
      rotate_left
      ·show Act.put _ (some 56) _ = _
       simp only [Act.put, List.setIfInBounds_toArray, List.set_cons_zero, List.set_cons_succ, Xk]
       rfl
      refine Qe (i := 10) (N := some 57) (v := ?_) (a' := ?_) #[true, true, true, true, true, true, true, true, true, true, true, false] rfl rfl (Xu HT_.out (by kernel_rfl)) (fun _ _ _ h => h) (Or.inl ⟨by rfl, ?_⟩) ?_ ?_
      rotate_left
      ·intro w'
       go_simp
       with_reducible rfl
      rotate_left
      ·simp only [Act.put, List.setIfInBounds_toArray, List.set_cons_zero, List.set_cons_succ, Xk]
       rfl
      refine Qe (i := 11) (N := some 2) (v := ?_) (a' := ?_) #[true, true, true, true, true, true, true, true, true, true, true, true] rfl rfl (Xu HT_.out (by kernel_rfl)) (fun _ _ _ h => h) (Or.inl ⟨by rfl, ?_⟩) ?_ ?_
      rotate_left
      ·intro w'
       go_simp
       with_reducible rfl
      rotate_left
      ·simp only [Act.put, List.setIfInBounds_toArray, List.set_cons_zero, List.set_cons_succ, Xk]
       rfl
      refine done_ (done_of HT_.out (by kernel_rfl)) ?_
      try go_wp2
      go_ret
      exact ⟨by first | rfl | (simp [errW_none, errW_some] <;> rfl) | (simp only [← hji33]; first | rfl | (simp [errW_none, errW_some] <;> rfl)) | (simp [*, errW_none, errW_some] <;> rfl), HB.out⟩
     ·rw [if_neg c31] at H
      exact absurd H (by simp)
    ·rw [if_neg c29] at H
     exact absurd H (by simp)
   ·rw [if_neg c28] at H
    have c28b0 : (J4 == 3) = false := beq_eq_false_iff_ne.mpr c28
    have c28b1 : (J4 != 3) = true := bne_iff_ne.mpr c28
    by_cases c39 : J4 = 4
    ·rw [if_pos c39] at H
     have c39b0 : (J4 == 4) = true := beq_iff_eq.mpr c39
     have c39b1 : (J4 != 4) = false := bne_eq_false_iff_eq.mpr c39
     clear c39
     by_cases c40 : 0 < (J0.length : Int)
     ·rw [if_pos c40] at H
      have c40b0 : decide (0 < (J0.length : Int)) = true := decide_eq_true c40
      have c40b1 : decide (0 < J0.length) = true := decide_eq_true (by omega)
      clear c40
      replace H := Option.bind_eq_some_iff.mp H
      obtain ⟨t137, A410, H⟩ := H
      replace H : (some (mn (wrap64 (J6 * t137)) 65)) = some r := H
      have A41 := Zd.mk A410
      clear A410
      obtain ⟨ji42, hji42⟩ : ∃ j_ : Int, (mn (wrap64 (J6 * t137)) 65) = j_ := ⟨_, rfl⟩
      replace H : (some ji42) = some r := by first | (rw [hji42] at H; exact H) | (simp only [hji42] at H ⊢; exact H)
      (try rw [hji42] at A41)
      (try (have hji42h : ji42 ≤ 65 := by (rw [← hji42]; unfold mn; (repeat' split) <;> omega)))
      (try (have hji42g : ji42 ≤ 64 := by omega))
      have hji42_ : (if 65 < (wrap64 (J6 * t137)) then 65 else (wrap64 (J6 * t137))) = ji42 := hji42
      obtain rfl := Option.some.inj H
      go_enter Try.func17, Try.ntmps17
      try go_wp2_with (((with_reducible refine Xd (N := 1) rfl ?_); refine Xe ?hg (N := 1) ?hd (cs := #[.int .i64 J4, .int .i64 Jk, .int .i64 Jj, .bool Jh, .int .i64 Jg, .int .u64 Jf, .int .u64 Je, .int .i64 Jd, .bool Jb, .int .i64 Ja, .slice A0_10 J7.length c0_10, .int .i64 J6, .int .i64 J8, .slice A0_13 J0.length c0_13]) (t := 30) ?hr ?_; (case hd => rfl); (case hg => rfl); (case hr => first | (go_simp; done) | (go_simp; rfl)); intro J3 hg w43 hbox hb; have n0_ := Zd.mk (Zj HB.out hb); have n1_ := Zd.mk (hbox); have n2_ := Zd.mk ((by rw [hg]; exact (Zl HB.out) : w.heap.size ≤ J3)); have n3_ := n2_; clear HB; have HB := n0_; have J1 := n1_; have GW122 := n2_; have GE122 := n3_; clear n0_ n1_ n2_ n3_; clear hb hbox hg; have hcz44_0 : w43.cell? ⟨J3, 0, none⟩ = some (.int .i64 J4) := (Za J1.out 0).trans rfl; have hcz44_1 : w43.cell? ⟨J3, 1, none⟩ = some (.int .i64 Jk) := (Za J1.out 1).trans rfl; have hcz44_2 : w43.cell? ⟨J3, 2, none⟩ = some (.int .i64 Jj) := (Za J1.out 2).trans rfl; have hcz44_3 : w43.cell? ⟨J3, 3, none⟩ = some (.bool Jh) := (Za J1.out 3).trans rfl; have hcz44_4 : w43.cell? ⟨J3, 4, none⟩ = some (.int .i64 Jg) := (Za J1.out 4).trans rfl; have hcz44_5 : w43.cell? ⟨J3, 5, none⟩ = some (.int .u64 Jf) := (Za J1.out 5).trans rfl; have hcz44_6 : w43.cell? ⟨J3, 6, none⟩ = some (.int .u64 Je) := (Za J1.out 6).trans rfl; have hcz44_7 : w43.cell? ⟨J3, 7, none⟩ = some (.int .i64 Jd) := (Za J1.out 7).trans rfl; have hcz44_8 : w43.cell? ⟨J3, 8, none⟩ = some (.bool Jb) := (Za J1.out 8).trans rfl; have hcz44_9 : w43.cell? ⟨J3, 9, none⟩ = some (.int .i64 Ja) := (Za J1.out 9).trans rfl; have hcz44_10 : w43.cell? ⟨J3, 10, none⟩ = some (.slice A0_10 J7.length c0_10) := (Za J1.out 10).trans rfl; have hcz44_11 : w43.cell? ⟨J3, 11, none⟩ = some (.int .i64 J6) := (Za J1.out 11).trans rfl; have hcz44_12 : w43.cell? ⟨J3, 12, none⟩ = some (.int .i64 J8) := (Za J1.out 12).trans rfl; have hcz44_13 : w43.cell? ⟨J3, 13, none⟩ = some (.slice A0_13 J0.length c0_13) := (Za J1.out 13).trans rfl; have hfz44_0 := Zb J1.out 0; have hfz44_1 := Zb J1.out 1; have hfz44_2 := Zb J1.out 2; have hfz44_3 := Zb J1.out 3; have hfz44_4 := Zb J1.out 4; have hfz44_5 := Zb J1.out 5; have hfz44_6 := Zb J1.out 6; have hfz44_7 := Zb J1.out 7; have hfz44_8 := Zb J1.out 8; have hfz44_9 := Zb J1.out 9; have hfz44_10 := Zb J1.out 10; have hfz44_11 := Zb J1.out 11; have hfz44_12 := Zb J1.out 12; have hfz44_13 := Zb J1.out 13))
      have n0_ := Zd.mk (Zg J1.out)
      have n1_ := Zd.mk (Xj HB.out)
      clear J1
      clear HB
      have J1 := n0_
      have HB := n1_
      clear n0_ n1_
      have p136 : 0 ≤ (0 : Int) := (by omega)
      have q136 : 0 < (J0.length : Int) := of_decide_eq_true (by first | (with_reducible assumption) | assumption)
      obtain ⟨ad136, A136_10, c136_10, A136_13, c136_13, e136, hx136_0, hx136_1, hx136_2, hx136_3, hx136_4, hx136_5, hx136_6, hx136_7, hx136_8, hx136_9, hx136_10, hx136_11, hx136_12, hx136_13, hl136_10, hi136_10, hl136_13, hi136_13⟩ := Jc HR0_13.out 0 p136 q136
      have hw136_13 := hx136_13
      (try rw [show ((0 : Int)).toNat = 0 from rfl] at hw136_13)
      (try rw [show 0 * 14 = 0 from rfl] at hw136_13)
      (try rw [Addr.add_zero'] at hw136_13)
      have hw136_12 := hx136_12
      (try rw [show ((0 : Int)).toNat = 0 from rfl] at hw136_12)
      (try rw [show 0 * 14 = 0 from rfl] at hw136_12)
      (try rw [Addr.add_zero'] at hw136_12)
      have hw136_11 := hx136_11
      (try rw [show ((0 : Int)).toNat = 0 from rfl] at hw136_11)
      (try rw [show 0 * 14 = 0 from rfl] at hw136_11)
      (try rw [Addr.add_zero'] at hw136_11)
      have hw136_10 := hx136_10
      (try rw [show ((0 : Int)).toNat = 0 from rfl] at hw136_10)
      (try rw [show 0 * 14 = 0 from rfl] at hw136_10)
      (try rw [Addr.add_zero'] at hw136_10)
      have hw136_9 := hx136_9
      (try rw [show ((0 : Int)).toNat = 0 from rfl] at hw136_9)
      (try rw [show 0 * 14 = 0 from rfl] at hw136_9)
      (try rw [Addr.add_zero'] at hw136_9)
      have hw136_8 := hx136_8
      (try rw [show ((0 : Int)).toNat = 0 from rfl] at hw136_8)
      (try rw [show 0 * 14 = 0 from rfl] at hw136_8)
      (try rw [Addr.add_zero'] at hw136_8)
      have hw136_7 := hx136_7
      (try rw [show ((0 : Int)).toNat = 0 from rfl] at hw136_7)
      (try rw [show 0 * 14 = 0 from rfl] at hw136_7)
      (try rw [Addr.add_zero'] at hw136_7)
      have hw136_6 := hx136_6
      (try rw [show ((0 : Int)).toNat = 0 from rfl] at hw136_6)
      (try rw [show 0 * 14 = 0 from rfl] at hw136_6)
      (try rw [Addr.add_zero'] at hw136_6)
      have hw136_5 := hx136_5
      (try rw [show ((0 : Int)).toNat = 0 from rfl] at hw136_5)
      (try rw [show 0 * 14 = 0 from rfl] at hw136_5)
      (try rw [Addr.add_zero'] at hw136_5)
      have hw136_4 := hx136_4
      (try rw [show ((0 : Int)).toNat = 0 from rfl] at hw136_4)
      (try rw [show 0 * 14 = 0 from rfl] at hw136_4)
      (try rw [Addr.add_zero'] at hw136_4)
      have hw136_3 := hx136_3
      (try rw [show ((0 : Int)).toNat = 0 from rfl] at hw136_3)
      (try rw [show 0 * 14 = 0 from rfl] at hw136_3)
      (try rw [Addr.add_zero'] at hw136_3)
      have hw136_2 := hx136_2
      (try rw [show ((0 : Int)).toNat = 0 from rfl] at hw136_2)
      (try rw [show 0 * 14 = 0 from rfl] at hw136_2)
      (try rw [Addr.add_zero'] at hw136_2)
      have hw136_1 := hx136_1
      (try rw [show ((0 : Int)).toNat = 0 from rfl] at hw136_1)
      (try rw [show 0 * 14 = 0 from rfl] at hw136_1)
      (try rw [Addr.add_zero'] at hw136_1)
      have hw136_0 := hx136_0
      (try rw [show ((0 : Int)).toNat = 0 from rfl] at hw136_0)
      (try rw [show 0 * 14 = 0 from rfl] at hw136_0)
      (try rw [Addr.add_zero'] at hw136_0)
      cases e136
      have qi136 : (0 < J0.length) = True := eq_true (by omega)
      (try rw [show ((0 : Int)).toNat = 0 from rfl] at hx136_0)
      (try rw [show 0 * 14 = 0 from rfl] at hx136_0)
      (try rw [Addr.add_zero'] at hx136_0)
      (try rw [show ((0 : Int)).toNat = 0 from rfl] at hx136_1)
      (try rw [show 0 * 14 = 0 from rfl] at hx136_1)
      (try rw [Addr.add_zero'] at hx136_1)
      (try rw [show ((0 : Int)).toNat = 0 from rfl] at hx136_2)
      (try rw [show 0 * 14 = 0 from rfl] at hx136_2)
      (try rw [Addr.add_zero'] at hx136_2)
      (try rw [show ((0 : Int)).toNat = 0 from rfl] at hx136_3)
      (try rw [show 0 * 14 = 0 from rfl] at hx136_3)
      (try rw [Addr.add_zero'] at hx136_3)
      (try rw [show ((0 : Int)).toNat = 0 from rfl] at hx136_4)
      (try rw [show 0 * 14 = 0 from rfl] at hx136_4)
      (try rw [Addr.add_zero'] at hx136_4)
      (try rw [show ((0 : Int)).toNat = 0 from rfl] at hx136_5)
      (try rw [show 0 * 14 = 0 from rfl] at hx136_5)
      (try rw [Addr.add_zero'] at hx136_5)
      (try rw [show ((0 : Int)).toNat = 0 from rfl] at hx136_6)
      (try rw [show 0 * 14 = 0 from rfl] at hx136_6)
      (try rw [Addr.add_zero'] at hx136_6)
      (try rw [show ((0 : Int)).toNat = 0 from rfl] at hx136_7)
      (try rw [show 0 * 14 = 0 from rfl] at hx136_7)
      (try rw [Addr.add_zero'] at hx136_7)
      (try rw [show ((0 : Int)).toNat = 0 from rfl] at hx136_8)
      (try rw [show 0 * 14 = 0 from rfl] at hx136_8)
      (try rw [Addr.add_zero'] at hx136_8)
      (try rw [show ((0 : Int)).toNat = 0 from rfl] at hx136_9)
      (try rw [show 0 * 14 = 0 from rfl] at hx136_9)
      (try rw [Addr.add_zero'] at hx136_9)
      (try rw [show ((0 : Int)).toNat = 0 from rfl] at hx136_10)
      (try rw [show 0 * 14 = 0 from rfl] at hx136_10)
      (try rw [Addr.add_zero'] at hx136_10)
      (try rw [show ((0 : Int)).toNat = 0 from rfl] at hx136_11)
      (try rw [show 0 * 14 = 0 from rfl] at hx136_11)
      (try rw [Addr.add_zero'] at hx136_11)
      (try rw [show ((0 : Int)).toNat = 0 from rfl] at hx136_12)
      (try rw [show 0 * 14 = 0 from rfl] at hx136_12)
      (try rw [Addr.add_zero'] at hx136_12)
      (try rw [show ((0 : Int)).toNat = 0 from rfl] at hx136_13)
      (try rw [show 0 * 14 = 0 from rfl] at hx136_13)
      (try rw [Addr.add_zero'] at hx136_13)
      replace hx136_0 := zb HB.out hx136_0
      replace hx136_1 := zb HB.out hx136_1
      replace hx136_2 := zb HB.out hx136_2
      replace hx136_3 := zb HB.out hx136_3
      replace hx136_4 := zb HB.out hx136_4
      replace hx136_5 := zb HB.out hx136_5
      replace hx136_6 := zb HB.out hx136_6
      replace hx136_7 := zb HB.out hx136_7
      replace hx136_8 := zb HB.out hx136_8
      replace hx136_9 := zb HB.out hx136_9
      replace hx136_10 := zb HB.out hx136_10
      replace hx136_11 := zb HB.out hx136_11
      replace hx136_12 := zb HB.out hx136_12
      replace hx136_13 := zb HB.out hx136_13
      have HR136_10 := Zd.mk hi136_10
      have HC136_10 := Zd.mk hl136_10
      clear hi136_10 hl136_10
      have HR136_13 := Zd.mk hi136_13
      have HC136_13 := Zd.mk hl136_13
      clear hi136_13 hl136_13
      replace p136 := eq_true p136
      replace q136 := eq_true q136
      refine start_ (n := 10) (S := fun w' => w'.cell? ⟨J3, 0, none⟩ = some (.int .i64 J4) ∧ w'.cell? ⟨J3, 1, none⟩ = some (.int .i64 Jk) ∧ w'.cell? ⟨J3, 2, none⟩ = some (.int .i64 Jj) ∧ w'.cell? ⟨J3, 3, none⟩ = some (.bool Jh) ∧ w'.cell? ⟨J3, 4, none⟩ = some (.int .i64 Jg) ∧ w'.cell? ⟨J3, 5, none⟩ = some (.int .u64 Jf) ∧ w'.cell? ⟨J3, 6, none⟩ = some (.int .u64 Je) ∧ w'.cell? ⟨J3, 7, none⟩ = some (.int .i64 Jd) ∧ w'.cell? ⟨J3, 8, none⟩ = some (.bool Jb) ∧ w'.cell? ⟨J3, 9, none⟩ = some (.int .i64 Ja) ∧ w'.cell? ⟨J3, 10, none⟩ = some (.slice A0_10 J7.length c0_10) ∧ w'.cell? ⟨J3, 11, none⟩ = some (.int .i64 J6) ∧ w'.cell? ⟨J3, 12, none⟩ = some (.int .i64 J8) ∧ w'.cell? ⟨J3, 13, none⟩ = some (.slice (some ad136) J0.length c0_13) ∧ w'.cell? ad136 = some (.int .i64 ((Zc J0 0).f0)) ∧ w'.cell? ⟨ad136.block, ad136.off + 1, none⟩ = some (.int .i64 ((Zc J0 0).f1.f0)) ∧ w'.cell? ⟨ad136.block, ad136.off + 2, none⟩ = some (.int .i64 ((Zc J0 0).f1.f1)) ∧ w'.cell? ⟨ad136.block, ad136.off + 3, none⟩ = some (.bool ((Zc J0 0).f1.f2)) ∧ w'.cell? ⟨ad136.block, ad136.off + 4, none⟩ = some (.int .i64 ((Zc J0 0).f1.f3.f0)) ∧ w'.cell? ⟨ad136.block, ad136.off + 5, none⟩ = some (.int .u64 ((Zc J0 0).f1.f3.f1)) ∧ w'.cell? ⟨ad136.block, ad136.off + 6, none⟩ = some (.int .u64 ((Zc J0 0).f1.f3.f2)) ∧ w'.cell? ⟨ad136.block, ad136.off + 7, none⟩ = some (.int .i64 ((Zc J0 0).f1.f4)) ∧ w'.cell? ⟨ad136.block, ad136.off + 8, none⟩ = some (.bool ((Zc J0 0).f1.f5)) ∧ w'.cell? ⟨ad136.block, ad136.off + 9, none⟩ = some (.int .i64 ((Zc J0 0).f1.f6)) ∧ w'.cell? ⟨ad136.block, ad136.off + 10, none⟩ = some (.slice A136_10 ((Zc J0 0).f1.f7).length c136_10) ∧ w'.cell? ⟨ad136.block, ad136.off + 11, none⟩ = some (.int .i64 ((Zc J0 0).f2)) ∧ w'.cell? ⟨ad136.block, ad136.off + 12, none⟩ = some (.int .i64 ((Zc J0 0).f3)) ∧ w'.cell? ⟨ad136.block, ad136.off + 13, none⟩ = some (.slice A136_13 ((Zc J0 0).f4).length c136_13)) (ds := []) #[false, false, false, false, false, false, false, false, false, false] (by kernel_rfl) rfl rfl ⟨(Za J1.out 0).trans rfl, (Za J1.out 1).trans rfl, (Za J1.out 2).trans rfl, (Za J1.out 3).trans rfl, (Za J1.out 4).trans rfl, (Za J1.out 5).trans rfl, (Za J1.out 6).trans rfl, (Za J1.out 7).trans rfl, (Za J1.out 8).trans rfl, (Za J1.out 9).trans rfl, (Za J1.out 10).trans rfl, (Za J1.out 11).trans rfl, (Za J1.out 12).trans rfl, (Za J1.out 13).trans rfl, (zb HB.out hw136_0), (zb HB.out hw136_1), (zb HB.out hw136_2), (zb HB.out hw136_3), (zb HB.out hw136_4), (zb HB.out hw136_5), (zb HB.out hw136_6), (zb HB.out hw136_7), (zb HB.out hw136_8), (zb HB.out hw136_9), (zb HB.out hw136_10), (zb HB.out hw136_11), (zb HB.out hw136_12), (zb HB.out hw136_13)⟩ (fun hHeld => ?_); refine Ji Zt.tab15 Zt.bits15 (fun HT_ HW_ => ?_)
      generalize w43.drew = w45 at J1 HB HR136_10 HR136_13 hx136_0 hx136_1 hx136_10 hx136_11 hx136_12 hx136_13 hx136_2 hx136_3 hx136_4 hx136_5 hx136_6 hx136_7 hx136_8 hx136_9 hHeld ⊢
      refine Qe (i := 0) (N := some 60) (v := ?_) (a' := ?_) #[true, false, false, false, false, false, false, false, false, false] rfl rfl (Xu HT_.out (by kernel_rfl)) (fun _ _ _ h => h) (Or.inl ⟨by rfl, ?_⟩) ?_ ?_
      rotate_left
      ·intro w'
       go_simp
       with_reducible rfl
      rotate_left
      ·simp only [Act.put, List.setIfInBounds_toArray, List.set_cons_zero, List.set_cons_succ, Xk]
       rfl
      refine Qe (i := 2) (N := some 62) (v := ?_) (a' := ?_) #[true, false, true, false, false, false, false, false, false, false] rfl rfl (Xu HT_.out (by kernel_rfl)) (fun _ _ _ h => h) (Or.inl ⟨by rfl, ?_⟩) ?_ ?_
      rotate_left
      ·intro w'
       go_simp
       with_reducible rfl
      rotate_left
      ·simp only [Act.put, List.setIfInBounds_toArray, List.set_cons_zero, List.set_cons_succ, Xk]
       rfl
      refine Vx (i := 1) (N := some 61) (v := ?_) (a' := ?_) #[true, true, true, false, false, false, false, false, false, false] rfl rfl (Ql HT_.out HW_.out (by kernel_rfl)) (fun _ _ _ h => h) (Or.inl ⟨by rfl, ?_⟩) hHeld ?_ ?_
      rotate_left
      ·rintro w' ⟨s0, s1, s2, s3, s4, s5, s6, s7, s8, s9, s10, s11, s12, s13, s14, s15, s16, s17, s18, s19, s20, s21, s22, s23, s24, s25, s26, s27⟩
       go_simp
       with_reducible rfl
      rotate_left
      ·simp only [Act.put, List.setIfInBounds_toArray, List.set_cons_zero, List.set_cons_succ, Xk]
       rfl
      refine Vx (i := 3) (N := some 63) (v := ?_) (a' := ?_) #[true, true, true, true, false, false, false, false, false, false] rfl rfl (Ql HT_.out HW_.out (by kernel_rfl)) (fun _ _ _ h => h) (Or.inl ⟨by rfl, ?_⟩) hHeld ?_ ?_
      rotate_left
      ·rintro w' ⟨s0, s1, s2, s3, s4, s5, s6, s7, s8, s9, s10, s11, s12, s13, s14, s15, s16, s17, s18, s19, s20, s21, s22, s23, s24, s25, s26, s27⟩
       go_simp
       with_reducible rfl
      rotate_left
      ·simp only [Act.put, List.setIfInBounds_toArray, List.set_cons_zero, List.set_cons_succ, Xk]
       rfl
      refine Qe (i := 4) (N := some 64) (v := ?_) (a' := ?_) #[true, true, true, true, true, false, false, false, false, false] rfl rfl (Xu HT_.out (by kernel_rfl)) (fun _ _ _ h => h) (Or.inl ⟨by rfl, ?_⟩) ?_ ?_
      rotate_left
      ·intro w'
       go_simp
       with_reducible rfl
      rotate_left
      ·simp only [Act.put, List.setIfInBounds_toArray, List.set_cons_zero, List.set_cons_succ, Xk]
       rfl
      refine Vx (i := 5) (N := some 65) (v := ?_) (a' := ?_) #[true, true, true, true, true, true, false, false, false, false] rfl rfl (Ql HT_.out HW_.out (by kernel_rfl)) (fun _ _ _ h => h) (Or.inl ⟨by rfl, ?_⟩) hHeld ?_ ?_
      rotate_left
      ·rintro w' ⟨s0, s1, s2, s3, s4, s5, s6, s7, s8, s9, s10, s11, s12, s13, s14, s15, s16, s17, s18, s19, s20, s21, s22, s23, s24, s25, s26, s27⟩
       go_simp
       with_reducible rfl
      rotate_left
      ·simp only [Act.put, List.setIfInBounds_toArray, List.set_cons_zero, List.set_cons_succ, Xk]
       rfl
      refine one_ (i := 6) (N := some 66) #[true, true, true, true, true, true, true, false, false, false] rfl rfl (Vt HT_.out (by kernel_rfl)) (by decide) (fun K hK => ?_)
      refine Wp Try.func17 (by kernel_rfl) rfl #[.agg #[.int .i64 ((Zc J0 0).f0), .int .i64 ((Zc J0 0).f1.f0), .int .i64 ((Zc J0 0).f1.f1), .bool ((Zc J0 0).f1.f2), .int .i64 ((Zc J0 0).f1.f3.f0), .int .u64 ((Zc J0 0).f1.f3.f1), .int .u64 ((Zc J0 0).f1.f3.f2), .int .i64 ((Zc J0 0).f1.f4), .bool ((Zc J0 0).f1.f5), .int .i64 ((Zc J0 0).f1.f6), .slice A136_10 ((Zc J0 0).f1.f7).length c136_10, .int .i64 ((Zc J0 0).f2), .int .i64 ((Zc J0 0).f3), .slice A136_13 ((Zc J0 0).f4).length c136_13]] (by rfl) rfl rfl (by (try simp only [List.map_toArray, List.map_cons, List.map_nil]); first | done | rfl | (simp only [List.length_drop, List.length_take]; rfl)) ?_
      with_reducible refine (ih k (by omega) ((Zc J0 0).f0) ((Zc J0 0).f1.f0) ((Zc J0 0).f1.f1) ((Zc J0 0).f1.f2) ((Zc J0 0).f1.f3.f0) ((Zc J0 0).f1.f3.f1) ((Zc J0 0).f1.f3.f2) ((Zc J0 0).f1.f4) ((Zc J0 0).f1.f5) ((Zc J0 0).f1.f6) _ _ ((Zc J0 0).f1.f7) ((Zc J0 0).f2) ((Zc J0 0).f3) _ _ ((Zc J0 0).f4) t137 _ ?side1 ?side2 ?side3 ?side4 A41.out).mono ?_
      (case side1 => exact (Kd.Zw HR136_10.out HB.out))
      (case side2 => exact HC136_10.out)
      (case side3 => exact (Kd.Zw HR136_13.out HB.out))
      (case side4 => exact HC136_13.out)
      rintro e w46 ⟨rfl, hb⟩
      refine ⟨_, rfl, ?_⟩
      have n0_ := Zd.mk (Zp J1.out hb)
      have n1_ := Zd.mk (Zj HB.out hb)
      clear J1
      clear HB
      have J1 := n0_
      have HB := n1_
      clear n0_ n1_
      (try clear hb)
      (try clear hb2)
      (try clear hk)
      (try clear hi)
      refine hK.out _ _ ⟨(Za J1.out 0).trans rfl, (Za J1.out 1).trans rfl, (Za J1.out 2).trans rfl, (Za J1.out 3).trans rfl, (Za J1.out 4).trans rfl, (Za J1.out 5).trans rfl, (Za J1.out 6).trans rfl, (Za J1.out 7).trans rfl, (Za J1.out 8).trans rfl, (Za J1.out 9).trans rfl, (Za J1.out 10).trans rfl, (Za J1.out 11).trans rfl, (Za J1.out 12).trans rfl, (Za J1.out 13).trans rfl, (zb HB.out hw136_0), (zb HB.out hw136_1), (zb HB.out hw136_2), (zb HB.out hw136_3), (zb HB.out hw136_4), (zb HB.out hw136_5), (zb HB.out hw136_6), (zb HB.out hw136_7), (zb HB.out hw136_8), (zb HB.out hw136_9), (zb HB.out hw136_10), (zb HB.out hw136_11), (zb HB.out hw136_12), (zb HB.out hw136_13)⟩ (fun hHeld => ?_)
      clear hK K
      refine Jw (a' := ?_) ?_ ?_
      rotate_left
      ·show Act.put _ (some 66) _ = _
       simp only [Act.put, List.setIfInBounds_toArray, List.set_cons_zero, List.set_cons_succ, Xk]
       rfl
      refine Qe (i := 7) (N := some 67) (v := ?_) (a' := ?_) #[true, true, true, true, true, true, true, true, false, false] rfl rfl (Xu HT_.out (by kernel_rfl)) (fun _ _ _ h => h) (Or.inl ⟨by rfl, ?_⟩) ?_ ?_
      rotate_left
      ·intro w'
       go_simp
       with_reducible rfl
      rotate_left
      ·simp only [Act.put, List.setIfInBounds_toArray, List.set_cons_zero, List.set_cons_succ, Xk]
       rfl
      refine Qe (i := 8) (N := some 68) (v := ?_) (a' := ?_) #[true, true, true, true, true, true, true, true, true, false] rfl rfl (Xu HT_.out (by kernel_rfl)) (fun _ _ _ h => h) (Or.inl ⟨by rfl, ?_⟩) ?_ ?_
      rotate_left
      ·intro w'
       go_simp
       with_reducible rfl
      rotate_left
      ·simp only [Act.put, List.setIfInBounds_toArray, List.set_cons_zero, List.set_cons_succ, Xk]
       rfl
      refine Qe (i := 9) (N := some 2) (v := ?_) (a' := ?_) #[true, true, true, true, true, true, true, true, true, true] rfl rfl (Xu HT_.out (by kernel_rfl)) (fun _ _ _ h => h) (Or.inl ⟨by rfl, ?_⟩) ?_ ?_
      rotate_left
      ·intro w'
       go_simp
       with_reducible rfl
      rotate_left
      ·simp only [Act.put, List.setIfInBounds_toArray, List.set_cons_zero, List.set_cons_succ, Xk]
       rfl
      refine done_ (done_of HT_.out (by kernel_rfl)) ?_
      try go_wp2
      go_ret
      exact ⟨by first | rfl | (simp [errW_none, errW_some] <;> rfl) | (simp only [← hji42]; first | rfl | (simp [errW_none, errW_some] <;> rfl)) | (simp [*, errW_none, errW_some] <;> rfl), HB.out⟩
     ·rw [if_neg c40] at H
      exact absurd H (by simp)
    ·rw [if_neg c39] at H
     have c39b0 : (J4 == 4) = false := beq_eq_false_iff_ne.mpr c39
     have c39b1 : (J4 != 4) = true := bne_iff_ne.mpr c39
     obtain rfl := Option.some.inj H
     go_enter Try.func17, Try.ntmps17
     go_wp2_with (((with_reducible refine Xd (N := 1) rfl ?_); refine Xe ?hg (N := 1) ?hd (cs := #[.int .i64 J4, .int .i64 Jk, .int .i64 Jj, .bool Jh, .int .i64 Jg, .int .u64 Jf, .int .u64 Je, .int .i64 Jd, .bool Jb, .int .i64 Ja, .slice A0_10 J7.length c0_10, .int .i64 J6, .int .i64 J8, .slice A0_13 J0.length c0_13]) (t := 30) ?hr ?_; (case hd => rfl); (case hg => rfl); (case hr => first | (go_simp; done) | (go_simp; rfl)); intro J3 hg w47 hbox hb; have n0_ := Zd.mk (Zj HB.out hb); have n1_ := Zd.mk (hbox); have n2_ := Zd.mk ((by rw [hg]; exact (Zl HB.out) : w.heap.size ≤ J3)); have n3_ := n2_; clear HB; have HB := n0_; have J1 := n1_; have GW122 := n2_; have GE122 := n3_; clear n0_ n1_ n2_ n3_; clear hb hbox hg; have hcz48_0 : w47.cell? ⟨J3, 0, none⟩ = some (.int .i64 J4) := (Za J1.out 0).trans rfl; have hcz48_1 : w47.cell? ⟨J3, 1, none⟩ = some (.int .i64 Jk) := (Za J1.out 1).trans rfl; have hcz48_2 : w47.cell? ⟨J3, 2, none⟩ = some (.int .i64 Jj) := (Za J1.out 2).trans rfl; have hcz48_3 : w47.cell? ⟨J3, 3, none⟩ = some (.bool Jh) := (Za J1.out 3).trans rfl; have hcz48_4 : w47.cell? ⟨J3, 4, none⟩ = some (.int .i64 Jg) := (Za J1.out 4).trans rfl; have hcz48_5 : w47.cell? ⟨J3, 5, none⟩ = some (.int .u64 Jf) := (Za J1.out 5).trans rfl; have hcz48_6 : w47.cell? ⟨J3, 6, none⟩ = some (.int .u64 Je) := (Za J1.out 6).trans rfl; have hcz48_7 : w47.cell? ⟨J3, 7, none⟩ = some (.int .i64 Jd) := (Za J1.out 7).trans rfl; have hcz48_8 : w47.cell? ⟨J3, 8, none⟩ = some (.bool Jb) := (Za J1.out 8).trans rfl; have hcz48_9 : w47.cell? ⟨J3, 9, none⟩ = some (.int .i64 Ja) := (Za J1.out 9).trans rfl; have hcz48_10 : w47.cell? ⟨J3, 10, none⟩ = some (.slice A0_10 J7.length c0_10) := (Za J1.out 10).trans rfl; have hcz48_11 : w47.cell? ⟨J3, 11, none⟩ = some (.int .i64 J6) := (Za J1.out 11).trans rfl; have hcz48_12 : w47.cell? ⟨J3, 12, none⟩ = some (.int .i64 J8) := (Za J1.out 12).trans rfl; have hcz48_13 : w47.cell? ⟨J3, 13, none⟩ = some (.slice A0_13 J0.length c0_13) := (Za J1.out 13).trans rfl; have hfz48_0 := Zb J1.out 0; have hfz48_1 := Zb J1.out 1; have hfz48_2 := Zb J1.out 2; have hfz48_3 := Zb J1.out 3; have hfz48_4 := Zb J1.out 4; have hfz48_5 := Zb J1.out 5; have hfz48_6 := Zb J1.out 6; have hfz48_7 := Zb J1.out 7; have hfz48_8 := Zb J1.out 8; have hfz48_9 := Zb J1.out 9; have hfz48_10 := Zb J1.out 10; have hfz48_11 := Zb J1.out 11; have hfz48_12 := Zb J1.out 12; have hfz48_13 := Zb J1.out 13))
     go_ret
     exact ⟨by first | rfl | (simp [errW_none, errW_some] <;> rfl) | (simp [*, errW_none, errW_some] <;> rfl), HB.out⟩
end Go.Proofs.Ytkbkndfonccekaa.PF
