/- Joined by this session's own program out of its texts: PFx2. -/
import Derived.Test.YtkbkndfonccekaaQ1
namespace Go.Proofs.Ytkbkndfonccekaa.PF
open Go.RowKit Go.Proofs.YtkbkndfonccekaaW.PrintWords Go.Proofs.YtkbkndfonccekaaW.PrintLast Go.Proofs.YtkbkndfonccekaaW.PrintMore
attribute [local go_sem] Qn Qp Kq Kt
set_option linter.unusedVariables false
set_option linter.unusedSimpArgs false
mutual
def Zn.l0 : Nat → Int → List (Vd) → Int → Int → Option (Int)
  | 0, _, _, _, _ => none
  | k + 1, x3, x17, x18, x19 => if x19 < x18 then (if 0 ≤ x19 then (if x19 < (x17.length : Int) then ((Zn.f k ((Zc x17 x19).f0) ((Zc x17 x19).f1.f0) ((Zc x17 x19).f1.f1) ((Zc x17 x19).f1.f2) ((Zc x17 x19).f1.f3.f0) ((Zc x17 x19).f1.f3.f1) ((Zc x17 x19).f1.f3.f2) ((Zc x17 x19).f1.f4) ((Zc x17 x19).f1.f5) ((Zc x17 x19).f1.f6) ((Zc x17 x19).f1.f7) ((Zc x17 x19).f2) ((Zc x17 x19).f3) ((Zc x17 x19).f4)).bind fun t108 => (Zn.l0 k (mx x3 t108) x17 x18 (wrap64 (x19 + 1)))) else (none)) else (none)) else (some (mn x3 1000))
def Zn.f : Nat → Int → Int → Int → Bool → Int → Int → Int → Int → Bool → Int → List (Qh) → Int → Int → List (Vd) → Option (Int)
  | 0, _, _, _, _, _, _, _, _, _, _, _, _, _, _ => none
  | k + 1, J6, Jk, Jj, Jh, Jg, Jf, Je, Jd, Jb, Ja, J7, J4, J9, J0 => if J6 = 0 then (some 1) else (if 0 < (J0.length : Int) then ((Zn.f k ((Zc J0 0).f0) ((Zc J0 0).f1.f0) ((Zc J0 0).f1.f1) ((Zc J0 0).f1.f2) ((Zc J0 0).f1.f3.f0) ((Zc J0 0).f1.f3.f1) ((Zc J0 0).f1.f3.f2) ((Zc J0 0).f1.f4) ((Zc J0 0).f1.f5) ((Zc J0 0).f1.f6) ((Zc J0 0).f1.f7) ((Zc J0 0).f2) ((Zc J0 0).f3) ((Zc J0 0).f4)).bind fun t103 => (if J6 = 1 then (if 1 < (J0.length : Int) then ((Zn.f k ((Zc J0 1).f0) ((Zc J0 1).f1.f0) ((Zc J0 1).f1.f1) ((Zc J0 1).f1.f2) ((Zc J0 1).f1.f3.f0) ((Zc J0 1).f1.f3.f1) ((Zc J0 1).f1.f3.f2) ((Zc J0 1).f1.f4) ((Zc J0 1).f1.f5) ((Zc J0 1).f1.f6) ((Zc J0 1).f1.f7) ((Zc J0 1).f2) ((Zc J0 1).f3) ((Zc J0 1).f4)).bind fun t105 => (some (mn (wrap64 (t103 + (wrap64 ((wrap64 (J4 - 1)) + t105)))) 1000))) else (none)) else (if J6 = 4 then (some (mn (wrap64 (t103 * J4)) 1000)) else (Zn.l0 k t103 J0 (J0.length : Int) 0)))) else (none))
end
theorem Zn.mono_l : ∀ k, (∀ y0 y1 y2 y3 y4 y5 y6 y7 y8 y9 y10 y11 y12 y13, Xo (Zn.f k y0 y1 y2 y3 y4 y5 y6 y7 y8 y9 y10 y11 y12 y13) (Zn.f (k + 1) y0 y1 y2 y3 y4 y5 y6 y7 y8 y9 y10 y11 y12 y13)) ∧ (∀ y0 y1 y2 y3, Xo (Zn.l0 k y0 y1 y2 y3) (Zn.l0 (k + 1) y0 y1 y2 y3))
  | 0 => ⟨fun _ _ _ _ _ _ _ _ _ _ _ _ _ _ r h => by simp [Zn.f] at h, fun _ _ _ _ r h => by simp [Zn.l0] at h⟩
  | k + 1 => by
    obtain ⟨ih0, ih1⟩ := Zn.mono_l k
    refine ⟨?_, ?_⟩
    · intro y0 y1 y2 y3 y4 y5 y6 y7 y8 y9 y10 y11 y12 y13
      unfold Zn.f
      repeat' first
      | (with_reducible exact ih0 _ _ _ _ _ _ _ _ _ _ _ _ _ _)
      | (with_reducible exact ih1 _ _ _ _)
      | (with_reducible exact Xo.refl _)
      | (with_reducible exact Xo.none _)
      | (with_reducible refine Xo.ite ?_ ?_)
      | (with_reducible refine Xo.bind ?_ (fun _ => ?_))
      | exact ih0 _ _ _ _ _ _ _ _ _ _ _ _ _ _
      | exact ih1 _ _ _ _
      | exact Xo.none _
      | refine Xo.ite ?_ ?_
      | refine Xo.bind ?_ (fun _ => ?_)
    · intro y0 y1 y2 y3
      unfold Zn.l0
      repeat' first
      | (with_reducible exact ih0 _ _ _ _ _ _ _ _ _ _ _ _ _ _)
      | (with_reducible exact ih1 _ _ _ _)
      | (with_reducible exact Xo.refl _)
      | (with_reducible exact Xo.none _)
      | (with_reducible refine Xo.ite ?_ ?_)
      | (with_reducible refine Xo.bind ?_ (fun _ => ?_))
      | exact ih0 _ _ _ _ _ _ _ _ _ _ _ _ _ _
      | exact ih1 _ _ _ _
      | exact Xo.none _
      | refine Xo.ite ?_ ?_
      | refine Xo.bind ?_ (fun _ => ?_)
def Zn.T11 : Bool × List (List Nat × List Nat) := (true, [([], []), ([], []), ([1], [1]), ([2], [2]), ([], []), ([4], [4]), ([5], [5]), ([6], [6]), ([7], [7]), ([3, 8], [3, 8]), ([0, 9], [0, 9]), ([10, 8, 0, 1, 2, 3, 4, 5, 6, 7, 8, 9, 10], [0, 10])])
def Zn.B11 : List Nat := [0, 0, 2, 6, 0, 16, 48, 112, 240, 510, 1023, 2047]
theorem Zn.tab11 : rtab .any (opsOf Try.f11 11) = Zn.T11 := by kernel_rfl
theorem Zn.bits11 : Wi Zn.T11.2 Zn.B11 = true := by kernel_rfl
set_option maxHeartbeats 8000000 in
set_option maxRecDepth 100000 in
theorem Zn.calls (k : Nat) : ∀ (J6 : Int) (Jk : Int) (Jj : Int) (Jh : Bool) (Jg : Int) (Jf : Int) (Je : Int) (Jd : Int) (Jb : Bool) (Ja : Int) (A0_10 : Option Addr) (c0_10 : Nat) (J7 : List (Qh)) (J4 : Int) (J9 : Int) (A0_13 : Option Addr) (c0_13 : Nat) (J0 : List (Vd)) (r : Int) (w : World) (hr0_10 : Kd.C k27 w A0_10 J7.length J7) (hc0_10 : J7.length ≤ c0_10) (hr0_13 : Kd.C k30 w A0_13 J0.length J0) (hc0_13 : J0.length ≤ c0_13) (h : Zn.f k J6 Jk Jj Jh Jg Jf Je Jd Jb Ja J7 J4 J9 J0 = some r),
 Calls Try.prog 11 #[.agg #[.int .i64 J6, .int .i64 Jk, .int .i64 Jj, .bool Jh, .int .i64 Jg, .int .u64 Jf, .int .u64 Je, .int .i64 Jd, .bool Jb, .int .i64 Ja, .slice A0_10 J7.length c0_10, .int .i64 J4, .int .i64 J9, .slice A0_13 J0.length c0_13]] w fun e w' => e = .returned (.int .i64 r) ∧ Below w.heap.size w w' := by
 induction k using Nat.strongRecOn with
 | _ k ih =>
 intro J6 Jk Jj Jh Jg Jf Je Jd Jb Ja A0_10 c0_10 J7 J4 J9 A0_13 c0_13 J0 r w hr0_10 hc0_10 hr0_13 hc0_13 h
 cases k with
 | zero => exact absurd h (by simp [Zn.f])
 | succ k =>
 simp only [Zn.f] at h
 have hu30 := Try.underlying30
 have HR0_10 := Zd.mk hr0_10
 have HC0_10 := Zd.mk hc0_10
 clear hr0_10 hc0_10
 have HR0_13 := Zd.mk hr0_13
 have HC0_13 := Zd.mk hc0_13
 clear hr0_13 hc0_13
 have HB := Zd.mk (Below.refl w.heap.size w)
 have H : (if J6 = 0 then (some 1) else (if 0 < (J0.length : Int) then ((Zn.f k ((Zc J0 0).f0) ((Zc J0 0).f1.f0) ((Zc J0 0).f1.f1) ((Zc J0 0).f1.f2) ((Zc J0 0).f1.f3.f0) ((Zc J0 0).f1.f3.f1) ((Zc J0 0).f1.f3.f2) ((Zc J0 0).f1.f4) ((Zc J0 0).f1.f5) ((Zc J0 0).f1.f6) ((Zc J0 0).f1.f7) ((Zc J0 0).f2) ((Zc J0 0).f3) ((Zc J0 0).f4)).bind fun t103 => (if J6 = 1 then (if 1 < (J0.length : Int) then ((Zn.f k ((Zc J0 1).f0) ((Zc J0 1).f1.f0) ((Zc J0 1).f1.f1) ((Zc J0 1).f1.f2) ((Zc J0 1).f1.f3.f0) ((Zc J0 1).f1.f3.f1) ((Zc J0 1).f1.f3.f2) ((Zc J0 1).f1.f4) ((Zc J0 1).f1.f5) ((Zc J0 1).f1.f6) ((Zc J0 1).f1.f7) ((Zc J0 1).f2) ((Zc J0 1).f3) ((Zc J0 1).f4)).bind fun t105 => (some (mn (wrap64 (t103 + (wrap64 ((wrap64 (J4 - 1)) + t105)))) 1000))) else (none)) else (if J6 = 4 then (some (mn (wrap64 (t103 * J4)) 1000)) else (Zn.l0 k t103 J0 (J0.length : Int) 0)))) else (none))) = some r := h
 clear h
 by_cases c2 : J6 = 0
 ·rw [if_pos c2] at H
  have c2b0 : (J6 == 0) = true := beq_iff_eq.mpr c2
  have c2b1 : (J6 != 0) = false := bne_eq_false_iff_eq.mpr c2
  clear c2
  obtain rfl := Option.some.inj H
  go_enter Try.func11, Try.ntmps11
  go_wp2_with (((with_reducible refine Xd (N := 1) rfl ?_); refine Xe ?hg (N := 1) ?hd (cs := #[.int .i64 J6, .int .i64 Jk, .int .i64 Jj, .bool Jh, .int .i64 Jg, .int .u64 Jf, .int .u64 Je, .int .i64 Jd, .bool Jb, .int .i64 Ja, .slice A0_10 J7.length c0_10, .int .i64 J4, .int .i64 J9, .slice A0_13 J0.length c0_13]) (t := 30) ?hr ?_; (case hd => rfl); (case hg => rfl); (case hr => first | (go_simp; done) | (go_simp; rfl)); intro J3 hg w3 hbox hb; have n0_ := Zd.mk (Zj HB.out hb); have n1_ := Zd.mk (hbox); have n2_ := Zd.mk ((by rw [hg]; exact (Zl HB.out) : w.heap.size ≤ J3)); have n3_ := n2_; clear HB; have HB := n0_; have J1 := n1_; have GW101 := n2_; have GE101 := n3_; clear n0_ n1_ n2_ n3_; clear hb hbox hg; have hcz4_0 : w3.cell? ⟨J3, 0, none⟩ = some (.int .i64 J6) := (Za J1.out 0).trans rfl; have hcz4_1 : w3.cell? ⟨J3, 1, none⟩ = some (.int .i64 Jk) := (Za J1.out 1).trans rfl; have hcz4_2 : w3.cell? ⟨J3, 2, none⟩ = some (.int .i64 Jj) := (Za J1.out 2).trans rfl; have hcz4_3 : w3.cell? ⟨J3, 3, none⟩ = some (.bool Jh) := (Za J1.out 3).trans rfl; have hcz4_4 : w3.cell? ⟨J3, 4, none⟩ = some (.int .i64 Jg) := (Za J1.out 4).trans rfl; have hcz4_5 : w3.cell? ⟨J3, 5, none⟩ = some (.int .u64 Jf) := (Za J1.out 5).trans rfl; have hcz4_6 : w3.cell? ⟨J3, 6, none⟩ = some (.int .u64 Je) := (Za J1.out 6).trans rfl; have hcz4_7 : w3.cell? ⟨J3, 7, none⟩ = some (.int .i64 Jd) := (Za J1.out 7).trans rfl; have hcz4_8 : w3.cell? ⟨J3, 8, none⟩ = some (.bool Jb) := (Za J1.out 8).trans rfl; have hcz4_9 : w3.cell? ⟨J3, 9, none⟩ = some (.int .i64 Ja) := (Za J1.out 9).trans rfl; have hcz4_10 : w3.cell? ⟨J3, 10, none⟩ = some (.slice A0_10 J7.length c0_10) := (Za J1.out 10).trans rfl; have hcz4_11 : w3.cell? ⟨J3, 11, none⟩ = some (.int .i64 J4) := (Za J1.out 11).trans rfl; have hcz4_12 : w3.cell? ⟨J3, 12, none⟩ = some (.int .i64 J9) := (Za J1.out 12).trans rfl; have hcz4_13 : w3.cell? ⟨J3, 13, none⟩ = some (.slice A0_13 J0.length c0_13) := (Za J1.out 13).trans rfl; have hfz4_0 := Zb J1.out 0; have hfz4_1 := Zb J1.out 1; have hfz4_2 := Zb J1.out 2; have hfz4_3 := Zb J1.out 3; have hfz4_4 := Zb J1.out 4; have hfz4_5 := Zb J1.out 5; have hfz4_6 := Zb J1.out 6; have hfz4_7 := Zb J1.out 7; have hfz4_8 := Zb J1.out 8; have hfz4_9 := Zb J1.out 9; have hfz4_10 := Zb J1.out 10; have hfz4_11 := Zb J1.out 11; have hfz4_12 := Zb J1.out 12; have hfz4_13 := Zb J1.out 13))
  go_ret
  exact ⟨by first | rfl | (simp [errW_none, errW_some] <;> rfl) | (simp [*, errW_none, errW_some] <;> rfl), HB.out⟩
 ·rw [if_neg c2] at H
  have c2b0 : (J6 == 0) = false := beq_eq_false_iff_ne.mpr c2
  have c2b1 : (J6 != 0) = true := bne_iff_ne.mpr c2
  by_cases c5 : 0 < (J0.length : Int)
  ·rw [if_pos c5] at H
   have c5b0 : decide (0 < (J0.length : Int)) = true := decide_eq_true c5
   have c5b1 : decide (0 < J0.length) = true := decide_eq_true (by omega)
   clear c5
   replace H := Option.bind_eq_some_iff.mp H
   obtain ⟨t103, A60, H⟩ := H
   replace H : (if J6 = 1 then (if 1 < (J0.length : Int) then ((Zn.f k ((Zc J0 1).f0) ((Zc J0 1).f1.f0) ((Zc J0 1).f1.f1) ((Zc J0 1).f1.f2) ((Zc J0 1).f1.f3.f0) ((Zc J0 1).f1.f3.f1) ((Zc J0 1).f1.f3.f2) ((Zc J0 1).f1.f4) ((Zc J0 1).f1.f5) ((Zc J0 1).f1.f6) ((Zc J0 1).f1.f7) ((Zc J0 1).f2) ((Zc J0 1).f3) ((Zc J0 1).f4)).bind fun t105 => (some (mn (wrap64 (t103 + (wrap64 ((wrap64 (J4 - 1)) + t105)))) 1000))) else (none)) else (if J6 = 4 then (some (mn (wrap64 (t103 * J4)) 1000)) else (Zn.l0 k t103 J0 (J0.length : Int) 0))) = some r := H
   have A6 := Zd.mk A60
   clear A60
   by_cases c7 : J6 = 1
   ·rw [if_pos c7] at H
    have c7b0 : (J6 == 1) = true := beq_iff_eq.mpr c7
    have c7b1 : (J6 != 1) = false := bne_eq_false_iff_eq.mpr c7
    clear c7
    by_cases c8 : 1 < (J0.length : Int)
    ·rw [if_pos c8] at H
     have c8b0 : decide (1 < (J0.length : Int)) = true := decide_eq_true c8
     have c8b1 : decide (1 < J0.length) = true := decide_eq_true (by omega)
     clear c8
     replace H := Option.bind_eq_some_iff.mp H
     obtain ⟨t105, A90, H⟩ := H
     replace H : (some (mn (wrap64 (t103 + (wrap64 ((wrap64 (J4 - 1)) + t105)))) 1000)) = some r := H
     have A9 := Zd.mk A90
     clear A90
     obtain ⟨ji10, hji10⟩ : ∃ j_ : Int, (mn (wrap64 (t103 + (wrap64 ((wrap64 (J4 - 1)) + t105)))) 1000) = j_ := ⟨_, rfl⟩
     replace H : (some ji10) = some r := by first | (rw [hji10] at H; exact H) | (simp only [hji10] at H ⊢; exact H)
     (try rw [hji10] at A6)
     (try rw [hji10] at A9)
     (try (have hji10h : ji10 ≤ 1000 := by (rw [← hji10]; unfold mn; (repeat' split) <;> omega)))
     (try (have hji10g : ji10 ≤ 64 := by omega))
     have hji10_ : (if 1000 < (wrap64 (t103 + (wrap64 ((wrap64 (J4 - 1)) + t105)))) then 1000 else (wrap64 (t103 + (wrap64 ((wrap64 (J4 - 1)) + t105))))) = ji10 := hji10
     obtain rfl := Option.some.inj H
     go_enter Try.func11, Try.ntmps11
     try go_wp2_with (first | ((with_reducible refine Xd (N := 1) rfl ?_); refine Xe ?hg (N := 1) ?hd (cs := #[.int .i64 J6, .int .i64 Jk, .int .i64 Jj, .bool Jh, .int .i64 Jg, .int .u64 Jf, .int .u64 Je, .int .i64 Jd, .bool Jb, .int .i64 Ja, .slice A0_10 J7.length c0_10, .int .i64 J4, .int .i64 J9, .slice A0_13 J0.length c0_13]) (t := 30) ?hr ?_; (case hd => rfl); (case hg => rfl); (case hr => first | (go_simp; done) | (go_simp; rfl)); intro J3 hg w11 hbox hb; have n0_ := Zd.mk (Zj HB.out hb); have n1_ := Zd.mk (hbox); have n2_ := Zd.mk ((by rw [hg]; exact (Zl HB.out) : w.heap.size ≤ J3)); have n3_ := n2_; clear HB; have HB := n0_; have J1 := n1_; have GW101 := n2_; have GE101 := n3_; clear n0_ n1_ n2_ n3_; clear hb hbox hg; have hcz12_0 : w11.cell? ⟨J3, 0, none⟩ = some (.int .i64 J6) := (Za J1.out 0).trans rfl; have hcz12_1 : w11.cell? ⟨J3, 1, none⟩ = some (.int .i64 Jk) := (Za J1.out 1).trans rfl; have hcz12_2 : w11.cell? ⟨J3, 2, none⟩ = some (.int .i64 Jj) := (Za J1.out 2).trans rfl; have hcz12_3 : w11.cell? ⟨J3, 3, none⟩ = some (.bool Jh) := (Za J1.out 3).trans rfl; have hcz12_4 : w11.cell? ⟨J3, 4, none⟩ = some (.int .i64 Jg) := (Za J1.out 4).trans rfl; have hcz12_5 : w11.cell? ⟨J3, 5, none⟩ = some (.int .u64 Jf) := (Za J1.out 5).trans rfl; have hcz12_6 : w11.cell? ⟨J3, 6, none⟩ = some (.int .u64 Je) := (Za J1.out 6).trans rfl; have hcz12_7 : w11.cell? ⟨J3, 7, none⟩ = some (.int .i64 Jd) := (Za J1.out 7).trans rfl; have hcz12_8 : w11.cell? ⟨J3, 8, none⟩ = some (.bool Jb) := (Za J1.out 8).trans rfl; have hcz12_9 : w11.cell? ⟨J3, 9, none⟩ = some (.int .i64 Ja) := (Za J1.out 9).trans rfl; have hcz12_10 : w11.cell? ⟨J3, 10, none⟩ = some (.slice A0_10 J7.length c0_10) := (Za J1.out 10).trans rfl; have hcz12_11 : w11.cell? ⟨J3, 11, none⟩ = some (.int .i64 J4) := (Za J1.out 11).trans rfl; have hcz12_12 : w11.cell? ⟨J3, 12, none⟩ = some (.int .i64 J9) := (Za J1.out 12).trans rfl; have hcz12_13 : w11.cell? ⟨J3, 13, none⟩ = some (.slice A0_13 J0.length c0_13) := (Za J1.out 13).trans rfl; have hfz12_0 := Zb J1.out 0; have hfz12_1 := Zb J1.out 1; have hfz12_2 := Zb J1.out 2; have hfz12_3 := Zb J1.out 3; have hfz12_4 := Zb J1.out 4; have hfz12_5 := Zb J1.out 5; have hfz12_6 := Zb J1.out 6; have hfz12_7 := Zb J1.out 7; have hfz12_8 := Zb J1.out 8; have hfz12_9 := Zb J1.out 9; have hfz12_10 := Zb J1.out 10; have hfz12_11 := Zb J1.out 11; have hfz12_12 := Zb J1.out 12; have hfz12_13 := Zb J1.out 13; have p102 : 0 ≤ (0 : Int) := (by omega); have q102 : 0 < (J0.length : Int) := of_decide_eq_true (by first | (with_reducible assumption) | assumption); obtain ⟨ad102, A102_10, c102_10, A102_13, c102_13, e102, hx102_0, hx102_1, hx102_2, hx102_3, hx102_4, hx102_5, hx102_6, hx102_7, hx102_8, hx102_9, hx102_10, hx102_11, hx102_12, hx102_13, hl102_10, hi102_10, hl102_13, hi102_13⟩ := Jc HR0_13.out 0 p102 q102; cases e102; have qi102 : (0 < J0.length) = True := eq_true (by omega); (try rw [show ((0 : Int)).toNat = 0 from rfl] at hx102_0); (try rw [show 0 * 14 = 0 from rfl] at hx102_0); (try rw [Addr.add_zero'] at hx102_0); (try rw [show ((0 : Int)).toNat = 0 from rfl] at hx102_1); (try rw [show 0 * 14 = 0 from rfl] at hx102_1); (try rw [Addr.add_zero'] at hx102_1); (try rw [show ((0 : Int)).toNat = 0 from rfl] at hx102_2); (try rw [show 0 * 14 = 0 from rfl] at hx102_2); (try rw [Addr.add_zero'] at hx102_2); (try rw [show ((0 : Int)).toNat = 0 from rfl] at hx102_3); (try rw [show 0 * 14 = 0 from rfl] at hx102_3); (try rw [Addr.add_zero'] at hx102_3); (try rw [show ((0 : Int)).toNat = 0 from rfl] at hx102_4); (try rw [show 0 * 14 = 0 from rfl] at hx102_4); (try rw [Addr.add_zero'] at hx102_4); (try rw [show ((0 : Int)).toNat = 0 from rfl] at hx102_5); (try rw [show 0 * 14 = 0 from rfl] at hx102_5); (try rw [Addr.add_zero'] at hx102_5); (try rw [show ((0 : Int)).toNat = 0 from rfl] at hx102_6); (try rw [show 0 * 14 = 0 from rfl] at hx102_6); (try rw [Addr.add_zero'] at hx102_6); (try rw [show ((0 : Int)).toNat = 0 from rfl] at hx102_7); (try rw [show 0 * 14 = 0 from rfl] at hx102_7); (try rw [Addr.add_zero'] at hx102_7); (try rw [show ((0 : Int)).toNat = 0 from rfl] at hx102_8); (try rw [show 0 * 14 = 0 from rfl] at hx102_8); (try rw [Addr.add_zero'] at hx102_8); (try rw [show ((0 : Int)).toNat = 0 from rfl] at hx102_9); (try rw [show 0 * 14 = 0 from rfl] at hx102_9); (try rw [Addr.add_zero'] at hx102_9); (try rw [show ((0 : Int)).toNat = 0 from rfl] at hx102_10); (try rw [show 0 * 14 = 0 from rfl] at hx102_10); (try rw [Addr.add_zero'] at hx102_10); (try rw [show ((0 : Int)).toNat = 0 from rfl] at hx102_11); (try rw [show 0 * 14 = 0 from rfl] at hx102_11); (try rw [Addr.add_zero'] at hx102_11); (try rw [show ((0 : Int)).toNat = 0 from rfl] at hx102_12); (try rw [show 0 * 14 = 0 from rfl] at hx102_12); (try rw [Addr.add_zero'] at hx102_12); (try rw [show ((0 : Int)).toNat = 0 from rfl] at hx102_13); (try rw [show 0 * 14 = 0 from rfl] at hx102_13); (try rw [Addr.add_zero'] at hx102_13); replace hx102_0 := zb HB.out hx102_0; replace hx102_1 := zb HB.out hx102_1; replace hx102_2 := zb HB.out hx102_2; replace hx102_3 := zb HB.out hx102_3; replace hx102_4 := zb HB.out hx102_4; replace hx102_5 := zb HB.out hx102_5; replace hx102_6 := zb HB.out hx102_6; replace hx102_7 := zb HB.out hx102_7; replace hx102_8 := zb HB.out hx102_8; replace hx102_9 := zb HB.out hx102_9; replace hx102_10 := zb HB.out hx102_10; replace hx102_11 := zb HB.out hx102_11; replace hx102_12 := zb HB.out hx102_12; replace hx102_13 := zb HB.out hx102_13; have HR102_10 := Zd.mk hi102_10; have HC102_10 := Zd.mk hl102_10; clear hi102_10 hl102_10; have HR102_13 := Zd.mk hi102_13; have HC102_13 := Zd.mk hl102_13; clear hi102_13 hl102_13; replace p102 := eq_true p102; replace q102 := eq_true q102) | ((with_reducible refine Zx (f := 11) rfl ?_); refine Xz (some 13) rfl rfl Try.func11 (by kernel_rfl) rfl #[.agg #[.int .i64 ((Zc J0 0).f0), .int .i64 ((Zc J0 0).f1.f0), .int .i64 ((Zc J0 0).f1.f1), .bool ((Zc J0 0).f1.f2), .int .i64 ((Zc J0 0).f1.f3.f0), .int .u64 ((Zc J0 0).f1.f3.f1), .int .u64 ((Zc J0 0).f1.f3.f2), .int .i64 ((Zc J0 0).f1.f4), .bool ((Zc J0 0).f1.f5), .int .i64 ((Zc J0 0).f1.f6), .slice A102_10 ((Zc J0 0).f1.f7).length c102_10, .int .i64 ((Zc J0 0).f2), .int .i64 ((Zc J0 0).f3), .slice A102_13 ((Zc J0 0).f4).length c102_13]] rfl (by (try simp only [List.map_toArray, List.map_cons, List.map_nil]); first | done | rfl | (simp only [List.length_drop, List.length_take]; rfl)) ?_; (with_reducible refine (ih k (by omega) ((Zc J0 0).f0) ((Zc J0 0).f1.f0) ((Zc J0 0).f1.f1) ((Zc J0 0).f1.f2) ((Zc J0 0).f1.f3.f0) ((Zc J0 0).f1.f3.f1) ((Zc J0 0).f1.f3.f2) ((Zc J0 0).f1.f4) ((Zc J0 0).f1.f5) ((Zc J0 0).f1.f6) _ _ ((Zc J0 0).f1.f7) ((Zc J0 0).f2) ((Zc J0 0).f3) _ _ ((Zc J0 0).f4) t103 _ ?side1 ?side2 ?side3 ?side4 A6.out).mono ?_); (case side1 => exact (Kd.Zw HR102_10.out HB.out)); (case side2 => exact HC102_10.out); (case side3 => exact (Kd.Zw HR102_13.out HB.out)); (case side4 => exact HC102_13.out); rintro e w13 ⟨rfl, hb⟩; refine ⟨_, rfl, ?_⟩; have n0_ := Zd.mk (Zp J1.out hb); have n1_ := Zd.mk (Zj HB.out hb); clear J1; clear HB; have J1 := n0_; have HB := n1_; clear n0_ n1_; (try clear hb); (try clear hb2); (try clear hk); (try clear hi); have hcz14_0 : w13.cell? ⟨J3, 0, none⟩ = some (.int .i64 J6) := (Za J1.out 0).trans rfl; have hcz14_1 : w13.cell? ⟨J3, 1, none⟩ = some (.int .i64 Jk) := (Za J1.out 1).trans rfl; have hcz14_2 : w13.cell? ⟨J3, 2, none⟩ = some (.int .i64 Jj) := (Za J1.out 2).trans rfl; have hcz14_3 : w13.cell? ⟨J3, 3, none⟩ = some (.bool Jh) := (Za J1.out 3).trans rfl; have hcz14_4 : w13.cell? ⟨J3, 4, none⟩ = some (.int .i64 Jg) := (Za J1.out 4).trans rfl; have hcz14_5 : w13.cell? ⟨J3, 5, none⟩ = some (.int .u64 Jf) := (Za J1.out 5).trans rfl; have hcz14_6 : w13.cell? ⟨J3, 6, none⟩ = some (.int .u64 Je) := (Za J1.out 6).trans rfl; have hcz14_7 : w13.cell? ⟨J3, 7, none⟩ = some (.int .i64 Jd) := (Za J1.out 7).trans rfl; have hcz14_8 : w13.cell? ⟨J3, 8, none⟩ = some (.bool Jb) := (Za J1.out 8).trans rfl; have hcz14_9 : w13.cell? ⟨J3, 9, none⟩ = some (.int .i64 Ja) := (Za J1.out 9).trans rfl; have hcz14_10 : w13.cell? ⟨J3, 10, none⟩ = some (.slice A0_10 J7.length c0_10) := (Za J1.out 10).trans rfl; have hcz14_11 : w13.cell? ⟨J3, 11, none⟩ = some (.int .i64 J4) := (Za J1.out 11).trans rfl; have hcz14_12 : w13.cell? ⟨J3, 12, none⟩ = some (.int .i64 J9) := (Za J1.out 12).trans rfl; have hcz14_13 : w13.cell? ⟨J3, 13, none⟩ = some (.slice (some ad102) J0.length c0_13) := (Za J1.out 13).trans rfl; have hfz14_0 := Zb J1.out 0; have hfz14_1 := Zb J1.out 1; have hfz14_2 := Zb J1.out 2; have hfz14_3 := Zb J1.out 3; have hfz14_4 := Zb J1.out 4; have hfz14_5 := Zb J1.out 5; have hfz14_6 := Zb J1.out 6; have hfz14_7 := Zb J1.out 7; have hfz14_8 := Zb J1.out 8; have hfz14_9 := Zb J1.out 9; have hfz14_10 := Zb J1.out 10; have hfz14_11 := Zb J1.out 11; have hfz14_12 := Zb J1.out 12; have hfz14_13 := Zb J1.out 13))
     have n0_ := Zd.mk (Zg J1.out)
     have n1_ := Zd.mk (Xj HB.out)
     clear J1
     clear HB
     have J1 := n0_
     have HB := n1_
     clear n0_ n1_
     have p104 : 0 ≤ (1 : Int) := (by omega)
     have q104 : 1 < (J0.length : Int) := of_decide_eq_true (by first | (with_reducible assumption) | assumption)
     obtain ⟨ad104, A104_10, c104_10, A104_13, c104_13, e104, hx104_0, hx104_1, hx104_2, hx104_3, hx104_4, hx104_5, hx104_6, hx104_7, hx104_8, hx104_9, hx104_10, hx104_11, hx104_12, hx104_13, hl104_10, hi104_10, hl104_13, hi104_13⟩ := Jc HR0_13.out 1 p104 q104
     have hw104_13 := hx104_13
     (try rw [show ((1 : Int)).toNat = 1 from rfl] at hw104_13)
     (try rw [show 1 * 14 = 14 from rfl] at hw104_13)
     (try simp only [Nat.reduceMul, Nat.reduceEqDiff, Go.Addr.add, ↓reduceIte] at hw104_13)
     have hw104_12 := hx104_12
     (try rw [show ((1 : Int)).toNat = 1 from rfl] at hw104_12)
     (try rw [show 1 * 14 = 14 from rfl] at hw104_12)
     (try simp only [Nat.reduceMul, Nat.reduceEqDiff, Go.Addr.add, ↓reduceIte] at hw104_12)
     have hw104_11 := hx104_11
     (try rw [show ((1 : Int)).toNat = 1 from rfl] at hw104_11)
     (try rw [show 1 * 14 = 14 from rfl] at hw104_11)
     (try simp only [Nat.reduceMul, Nat.reduceEqDiff, Go.Addr.add, ↓reduceIte] at hw104_11)
     have hw104_10 := hx104_10
     (try rw [show ((1 : Int)).toNat = 1 from rfl] at hw104_10)
     (try rw [show 1 * 14 = 14 from rfl] at hw104_10)
     (try simp only [Nat.reduceMul, Nat.reduceEqDiff, Go.Addr.add, ↓reduceIte] at hw104_10)
     have hw104_9 := hx104_9
     (try rw [show ((1 : Int)).toNat = 1 from rfl] at hw104_9)
     (try rw [show 1 * 14 = 14 from rfl] at hw104_9)
     (try simp only [Nat.reduceMul, Nat.reduceEqDiff, Go.Addr.add, ↓reduceIte] at hw104_9)
     have hw104_8 := hx104_8
     (try rw [show ((1 : Int)).toNat = 1 from rfl] at hw104_8)
     (try rw [show 1 * 14 = 14 from rfl] at hw104_8)
     (try simp only [Nat.reduceMul, Nat.reduceEqDiff, Go.Addr.add, ↓reduceIte] at hw104_8)
     have hw104_7 := hx104_7
     (try rw [show ((1 : Int)).toNat = 1 from rfl] at hw104_7)
     (try rw [show 1 * 14 = 14 from rfl] at hw104_7)
     (try simp only [Nat.reduceMul, Nat.reduceEqDiff, Go.Addr.add, ↓reduceIte] at hw104_7)
     have hw104_6 := hx104_6
     (try rw [show ((1 : Int)).toNat = 1 from rfl] at hw104_6)
     (try rw [show 1 * 14 = 14 from rfl] at hw104_6)
     (try simp only [Nat.reduceMul, Nat.reduceEqDiff, Go.Addr.add, ↓reduceIte] at hw104_6)
     have hw104_5 := hx104_5
     (try rw [show ((1 : Int)).toNat = 1 from rfl] at hw104_5)
     (try rw [show 1 * 14 = 14 from rfl] at hw104_5)
     (try simp only [Nat.reduceMul, Nat.reduceEqDiff, Go.Addr.add, ↓reduceIte] at hw104_5)
     have hw104_4 := hx104_4
     (try rw [show ((1 : Int)).toNat = 1 from rfl] at hw104_4)
     (try rw [show 1 * 14 = 14 from rfl] at hw104_4)
     (try simp only [Nat.reduceMul, Nat.reduceEqDiff, Go.Addr.add, ↓reduceIte] at hw104_4)
     have hw104_3 := hx104_3
     (try rw [show ((1 : Int)).toNat = 1 from rfl] at hw104_3)
     (try rw [show 1 * 14 = 14 from rfl] at hw104_3)
     (try simp only [Nat.reduceMul, Nat.reduceEqDiff, Go.Addr.add, ↓reduceIte] at hw104_3)
     have hw104_2 := hx104_2
     (try rw [show ((1 : Int)).toNat = 1 from rfl] at hw104_2)
     (try rw [show 1 * 14 = 14 from rfl] at hw104_2)
     (try simp only [Nat.reduceMul, Nat.reduceEqDiff, Go.Addr.add, ↓reduceIte] at hw104_2)
     have hw104_1 := hx104_1
     (try rw [show ((1 : Int)).toNat = 1 from rfl] at hw104_1)
     (try rw [show 1 * 14 = 14 from rfl] at hw104_1)
     (try simp only [Nat.reduceMul, Nat.reduceEqDiff, Go.Addr.add, ↓reduceIte] at hw104_1)
     have hw104_0 := hx104_0
     (try rw [show ((1 : Int)).toNat = 1 from rfl] at hw104_0)
     (try rw [show 1 * 14 = 14 from rfl] at hw104_0)
     (try simp only [Nat.reduceMul, Nat.reduceEqDiff, Go.Addr.add, ↓reduceIte] at hw104_0)
     obtain rfl : ad102 = ad104 := (by injection e104)
     (try simp only [show (1 : Int).toNat = 1 from rfl, Nat.reduceMul, Nat.reduceEqDiff, Go.Addr.add, ↓reduceIte] at hx104_0)
     (try simp only [show (1 : Int).toNat = 1 from rfl, Nat.reduceMul, Nat.reduceEqDiff, Go.Addr.add, ↓reduceIte] at hx104_1)
     (try simp only [show (1 : Int).toNat = 1 from rfl, Nat.reduceMul, Nat.reduceEqDiff, Go.Addr.add, ↓reduceIte] at hx104_2)
     (try simp only [show (1 : Int).toNat = 1 from rfl, Nat.reduceMul, Nat.reduceEqDiff, Go.Addr.add, ↓reduceIte] at hx104_3)
     (try simp only [show (1 : Int).toNat = 1 from rfl, Nat.reduceMul, Nat.reduceEqDiff, Go.Addr.add, ↓reduceIte] at hx104_4)
     (try simp only [show (1 : Int).toNat = 1 from rfl, Nat.reduceMul, Nat.reduceEqDiff, Go.Addr.add, ↓reduceIte] at hx104_5)
     (try simp only [show (1 : Int).toNat = 1 from rfl, Nat.reduceMul, Nat.reduceEqDiff, Go.Addr.add, ↓reduceIte] at hx104_6)
     (try simp only [show (1 : Int).toNat = 1 from rfl, Nat.reduceMul, Nat.reduceEqDiff, Go.Addr.add, ↓reduceIte] at hx104_7)
     (try simp only [show (1 : Int).toNat = 1 from rfl, Nat.reduceMul, Nat.reduceEqDiff, Go.Addr.add, ↓reduceIte] at hx104_8)
     (try simp only [show (1 : Int).toNat = 1 from rfl, Nat.reduceMul, Nat.reduceEqDiff, Go.Addr.add, ↓reduceIte] at hx104_9)
     (try simp only [show (1 : Int).toNat = 1 from rfl, Nat.reduceMul, Nat.reduceEqDiff, Go.Addr.add, ↓reduceIte] at hx104_10)
     (try simp only [show (1 : Int).toNat = 1 from rfl, Nat.reduceMul, Nat.reduceEqDiff, Go.Addr.add, ↓reduceIte] at hx104_11)
     (try simp only [show (1 : Int).toNat = 1 from rfl, Nat.reduceMul, Nat.reduceEqDiff, Go.Addr.add, ↓reduceIte] at hx104_12)
     (try simp only [show (1 : Int).toNat = 1 from rfl, Nat.reduceMul, Nat.reduceEqDiff, Go.Addr.add, ↓reduceIte] at hx104_13)
     have qi104 : (1 < J0.length) = True := eq_true (by omega)
     (try rw [show ((1 : Int)).toNat = 1 from rfl] at hx104_0)
     (try rw [show 1 * 14 = 14 from rfl] at hx104_0)
     (try rw [show ((1 : Int)).toNat = 1 from rfl] at hx104_1)
     (try rw [show 1 * 14 = 14 from rfl] at hx104_1)
     (try rw [show ((1 : Int)).toNat = 1 from rfl] at hx104_2)
     (try rw [show 1 * 14 = 14 from rfl] at hx104_2)
     (try rw [show ((1 : Int)).toNat = 1 from rfl] at hx104_3)
     (try rw [show 1 * 14 = 14 from rfl] at hx104_3)
     (try rw [show ((1 : Int)).toNat = 1 from rfl] at hx104_4)
     (try rw [show 1 * 14 = 14 from rfl] at hx104_4)
     (try rw [show ((1 : Int)).toNat = 1 from rfl] at hx104_5)
     (try rw [show 1 * 14 = 14 from rfl] at hx104_5)
     (try rw [show ((1 : Int)).toNat = 1 from rfl] at hx104_6)
     (try rw [show 1 * 14 = 14 from rfl] at hx104_6)
     (try rw [show ((1 : Int)).toNat = 1 from rfl] at hx104_7)
     (try rw [show 1 * 14 = 14 from rfl] at hx104_7)
     (try rw [show ((1 : Int)).toNat = 1 from rfl] at hx104_8)
     (try rw [show 1 * 14 = 14 from rfl] at hx104_8)
     (try rw [show ((1 : Int)).toNat = 1 from rfl] at hx104_9)
     (try rw [show 1 * 14 = 14 from rfl] at hx104_9)
     (try rw [show ((1 : Int)).toNat = 1 from rfl] at hx104_10)
     (try rw [show 1 * 14 = 14 from rfl] at hx104_10)
     (try rw [show ((1 : Int)).toNat = 1 from rfl] at hx104_11)
     (try rw [show 1 * 14 = 14 from rfl] at hx104_11)
     (try rw [show ((1 : Int)).toNat = 1 from rfl] at hx104_12)
     (try rw [show 1 * 14 = 14 from rfl] at hx104_12)
     (try rw [show ((1 : Int)).toNat = 1 from rfl] at hx104_13)
     (try rw [show 1 * 14 = 14 from rfl] at hx104_13)
     replace hx104_0 := zb HB.out hx104_0
     replace hx104_1 := zb HB.out hx104_1
     replace hx104_2 := zb HB.out hx104_2
     replace hx104_3 := zb HB.out hx104_3
     replace hx104_4 := zb HB.out hx104_4
     replace hx104_5 := zb HB.out hx104_5
     replace hx104_6 := zb HB.out hx104_6
     replace hx104_7 := zb HB.out hx104_7
     replace hx104_8 := zb HB.out hx104_8
     replace hx104_9 := zb HB.out hx104_9
     replace hx104_10 := zb HB.out hx104_10
     replace hx104_11 := zb HB.out hx104_11
     replace hx104_12 := zb HB.out hx104_12
     replace hx104_13 := zb HB.out hx104_13
     have HR104_10 := Zd.mk hi104_10
     have HC104_10 := Zd.mk hl104_10
     clear hi104_10 hl104_10
     have HR104_13 := Zd.mk hi104_13
     have HC104_13 := Zd.mk hl104_13
     clear hi104_13 hl104_13
     replace p104 := eq_true p104
     replace q104 := eq_true q104
     refine start_ (n := 12) (S := fun w' => w'.cell? ⟨J3, 0, none⟩ = some (.int .i64 J6) ∧ w'.cell? ⟨J3, 1, none⟩ = some (.int .i64 Jk) ∧ w'.cell? ⟨J3, 2, none⟩ = some (.int .i64 Jj) ∧ w'.cell? ⟨J3, 3, none⟩ = some (.bool Jh) ∧ w'.cell? ⟨J3, 4, none⟩ = some (.int .i64 Jg) ∧ w'.cell? ⟨J3, 5, none⟩ = some (.int .u64 Jf) ∧ w'.cell? ⟨J3, 6, none⟩ = some (.int .u64 Je) ∧ w'.cell? ⟨J3, 7, none⟩ = some (.int .i64 Jd) ∧ w'.cell? ⟨J3, 8, none⟩ = some (.bool Jb) ∧ w'.cell? ⟨J3, 9, none⟩ = some (.int .i64 Ja) ∧ w'.cell? ⟨J3, 10, none⟩ = some (.slice A0_10 J7.length c0_10) ∧ w'.cell? ⟨J3, 11, none⟩ = some (.int .i64 J4) ∧ w'.cell? ⟨J3, 12, none⟩ = some (.int .i64 J9) ∧ w'.cell? ⟨J3, 13, none⟩ = some (.slice (some ad102) J0.length c0_13) ∧ w'.cell? ⟨ad102.block, ad102.off + 14, none⟩ = some (.int .i64 ((Zc J0 1).f0)) ∧ w'.cell? ⟨ad102.block, ad102.off + 14 + 1, none⟩ = some (.int .i64 ((Zc J0 1).f1.f0)) ∧ w'.cell? ⟨ad102.block, ad102.off + 14 + 2, none⟩ = some (.int .i64 ((Zc J0 1).f1.f1)) ∧ w'.cell? ⟨ad102.block, ad102.off + 14 + 3, none⟩ = some (.bool ((Zc J0 1).f1.f2)) ∧ w'.cell? ⟨ad102.block, ad102.off + 14 + 4, none⟩ = some (.int .i64 ((Zc J0 1).f1.f3.f0)) ∧ w'.cell? ⟨ad102.block, ad102.off + 14 + 5, none⟩ = some (.int .u64 ((Zc J0 1).f1.f3.f1)) ∧ w'.cell? ⟨ad102.block, ad102.off + 14 + 6, none⟩ = some (.int .u64 ((Zc J0 1).f1.f3.f2)) ∧ w'.cell? ⟨ad102.block, ad102.off + 14 + 7, none⟩ = some (.int .i64 ((Zc J0 1).f1.f4)) ∧ w'.cell? ⟨ad102.block, ad102.off + 14 + 8, none⟩ = some (.bool ((Zc J0 1).f1.f5)) ∧ w'.cell? ⟨ad102.block, ad102.off + 14 + 9, none⟩ = some (.int .i64 ((Zc J0 1).f1.f6)) ∧ w'.cell? ⟨ad102.block, ad102.off + 14 + 10, none⟩ = some (.slice A104_10 ((Zc J0 1).f1.f7).length c104_10) ∧ w'.cell? ⟨ad102.block, ad102.off + 14 + 11, none⟩ = some (.int .i64 ((Zc J0 1).f2)) ∧ w'.cell? ⟨ad102.block, ad102.off + 14 + 12, none⟩ = some (.int .i64 ((Zc J0 1).f3)) ∧ w'.cell? ⟨ad102.block, ad102.off + 14 + 13, none⟩ = some (.slice A104_13 ((Zc J0 1).f4).length c104_13)) (ds := []) #[false, false, false, false, false, false, false, false, false, false, false, false] (by kernel_rfl) rfl rfl ⟨(Za J1.out 0).trans rfl, (Za J1.out 1).trans rfl, (Za J1.out 2).trans rfl, (Za J1.out 3).trans rfl, (Za J1.out 4).trans rfl, (Za J1.out 5).trans rfl, (Za J1.out 6).trans rfl, (Za J1.out 7).trans rfl, (Za J1.out 8).trans rfl, (Za J1.out 9).trans rfl, (Za J1.out 10).trans rfl, (Za J1.out 11).trans rfl, (Za J1.out 12).trans rfl, (Za J1.out 13).trans rfl, (zb HB.out hw104_0), (zb HB.out hw104_1), (zb HB.out hw104_2), (zb HB.out hw104_3), (zb HB.out hw104_4), (zb HB.out hw104_5), (zb HB.out hw104_6), (zb HB.out hw104_7), (zb HB.out hw104_8), (zb HB.out hw104_9), (zb HB.out hw104_10), (zb HB.out hw104_11), (zb HB.out hw104_12), (zb HB.out hw104_13)⟩ (fun hHeld => ?_); refine Ji Zn.tab11 Zn.bits11 (fun HT_ HW_ => ?_)
     generalize w13.drew = w15 at J1 HB HR104_10 HR104_13 hx104_0 hx104_1 hx104_10 hx104_11 hx104_12 hx104_13 hx104_2 hx104_3 hx104_4 hx104_5 hx104_6 hx104_7 hx104_8 hx104_9 hHeld ⊢
     refine Qe (i := 0) (N := some 30) (v := ?_) (a' := ?_) #[true, false, false, false, false, false, false, false, false, false, false, false] rfl rfl (Xu HT_.out (by kernel_rfl)) (fun _ _ _ h => h) (Or.inl ⟨by rfl, ?_⟩) ?_ ?_
     rotate_left
     ·intro w'
      go_simp
      with_reducible rfl
     rotate_left
     ·simp only [Act.put, List.setIfInBounds_toArray, List.set_cons_zero, List.set_cons_succ, Xk]
      rfl
     refine Qe (i := 1) (N := some 31) (v := ?_) (a' := ?_) #[true, true, false, false, false, false, false, false, false, false, false, false] rfl rfl (Xu HT_.out (by kernel_rfl)) (fun _ _ _ h => h) (Or.inl ⟨by rfl, ?_⟩) ?_ ?_
     rotate_left
     ·intro w'
      go_simp
      with_reducible rfl
     rotate_left
     ·simp only [Act.put, List.setIfInBounds_toArray, List.set_cons_zero, List.set_cons_succ, Xk]
      rfl
     refine Qe (i := 4) (N := some 34) (v := ?_) (a' := ?_) #[true, true, false, false, true, false, false, false, false, false, false, false] rfl rfl (Xu HT_.out (by kernel_rfl)) (fun _ _ _ h => h) (Or.inl ⟨by rfl, ?_⟩) ?_ ?_
     rotate_left
     ·intro w'
      go_simp
      with_reducible rfl
     rotate_left
     ·simp only [Act.put, List.setIfInBounds_toArray, List.set_cons_zero, List.set_cons_succ, Xk]
      rfl
     refine Vx (i := 2) (N := some 32) (v := ?_) (a' := ?_) #[true, true, true, false, true, false, false, false, false, false, false, false] rfl rfl (Ql HT_.out HW_.out (by kernel_rfl)) (fun _ _ _ h => h) (Or.inl ⟨by rfl, ?_⟩) hHeld ?_ ?_
     rotate_left
     ·rintro w' ⟨s0, s1, s2, s3, s4, s5, s6, s7, s8, s9, s10, s11, s12, s13, s14, s15, s16, s17, s18, s19, s20, s21, s22, s23, s24, s25, s26, s27⟩
      go_simp
      with_reducible rfl
     rotate_left
     ·simp only [Act.put, List.setIfInBounds_toArray, List.set_cons_zero, List.set_cons_succ, Xk]
      rfl
     refine Qe (i := 3) (N := some 33) (v := ?_) (a' := ?_) #[true, true, true, true, true, false, false, false, false, false, false, false] rfl rfl (Xu HT_.out (by kernel_rfl)) (fun _ _ _ h => h) (Or.inl ⟨by rfl, ?_⟩) ?_ ?_
     rotate_left
     ·intro w'
      go_simp
      with_reducible rfl
     rotate_left
     ·simp only [Act.put, List.setIfInBounds_toArray, List.set_cons_zero, List.set_cons_succ, Xk]
      rfl
     refine Vx (i := 5) (N := some 35) (v := ?_) (a' := ?_) #[true, true, true, true, true, true, false, false, false, false, false, false] rfl rfl (Ql HT_.out HW_.out (by kernel_rfl)) (fun _ _ _ h => h) (Or.inl ⟨by rfl, ?_⟩) hHeld ?_ ?_
     rotate_left
     ·rintro w' ⟨s0, s1, s2, s3, s4, s5, s6, s7, s8, s9, s10, s11, s12, s13, s14, s15, s16, s17, s18, s19, s20, s21, s22, s23, s24, s25, s26, s27⟩
      go_simp
      with_reducible rfl
     rotate_left
     ·simp only [Act.put, List.setIfInBounds_toArray, List.set_cons_zero, List.set_cons_succ, Xk]
      rfl
     refine Qe (i := 6) (N := some 36) (v := ?_) (a' := ?_) #[true, true, true, true, true, true, true, false, false, false, false, false] rfl rfl (Xu HT_.out (by kernel_rfl)) (fun _ _ _ h => h) (Or.inl ⟨by rfl, ?_⟩) ?_ ?_
     rotate_left
     ·intro w'
      go_simp
      with_reducible rfl
     rotate_left
     ·simp only [Act.put, List.setIfInBounds_toArray, List.set_cons_zero, List.set_cons_succ, Xk]
      rfl
     refine Vx (i := 7) (N := some 37) (v := ?_) (a' := ?_) #[true, true, true, true, true, true, true, true, false, false, false, false] rfl rfl (Ql HT_.out HW_.out (by kernel_rfl)) (fun _ _ _ h => h) (Or.inl ⟨by rfl, ?_⟩) hHeld ?_ ?_
     rotate_left
     ·rintro w' ⟨s0, s1, s2, s3, s4, s5, s6, s7, s8, s9, s10, s11, s12, s13, s14, s15, s16, s17, s18, s19, s20, s21, s22, s23, s24, s25, s26, s27⟩
      go_simp
      with_reducible rfl
     rotate_left
     ·simp only [Act.put, List.setIfInBounds_toArray, List.set_cons_zero, List.set_cons_succ, Xk]
      rfl
     refine one_ (i := 8) (N := some 38) #[true, true, true, true, true, true, true, true, true, false, false, false] rfl rfl (Vt HT_.out (by kernel_rfl)) (by decide) (fun K hK => ?_)
     refine Wp Try.func11 (by kernel_rfl) rfl #[.agg #[.int .i64 ((Zc J0 1).f0), .int .i64 ((Zc J0 1).f1.f0), .int .i64 ((Zc J0 1).f1.f1), .bool ((Zc J0 1).f1.f2), .int .i64 ((Zc J0 1).f1.f3.f0), .int .u64 ((Zc J0 1).f1.f3.f1), .int .u64 ((Zc J0 1).f1.f3.f2), .int .i64 ((Zc J0 1).f1.f4), .bool ((Zc J0 1).f1.f5), .int .i64 ((Zc J0 1).f1.f6), .slice A104_10 ((Zc J0 1).f1.f7).length c104_10, .int .i64 ((Zc J0 1).f2), .int .i64 ((Zc J0 1).f3), .slice A104_13 ((Zc J0 1).f4).length c104_13]] (by rfl) rfl rfl (by (try simp only [List.map_toArray, List.map_cons, List.map_nil]); first | done | rfl | (simp only [List.length_drop, List.length_take]; rfl)) ?_
     with_reducible refine (ih k (by omega) ((Zc J0 1).f0) ((Zc J0 1).f1.f0) ((Zc J0 1).f1.f1) ((Zc J0 1).f1.f2) ((Zc J0 1).f1.f3.f0) ((Zc J0 1).f1.f3.f1) ((Zc J0 1).f1.f3.f2) ((Zc J0 1).f1.f4) ((Zc J0 1).f1.f5) ((Zc J0 1).f1.f6) _ _ ((Zc J0 1).f1.f7) ((Zc J0 1).f2) ((Zc J0 1).f3) _ _ ((Zc J0 1).f4) t105 _ ?side1 ?side2 ?side3 ?side4 A9.out).mono ?_
     (case side1 => exact (Kd.Zw HR104_10.out HB.out))
     (case side2 => exact HC104_10.out)
     (case side3 => exact (Kd.Zw HR104_13.out HB.out))
     (case side4 => exact HC104_13.out)
     rintro e w16 ⟨rfl, hb⟩
     refine ⟨_, rfl, ?_⟩
     have n0_ := Zd.mk (Zp J1.out hb)
     have n1_ := Zd.mk (Zj HB.out hb)
     clear J1
     clear HB
     have J1 := n0_
     have HB := n1_
     clear n0_ n1_
     (try clear hb)
     (try clear hb2)
     (try clear hk)
     (try clear hi)
     refine hK.out _ _ ⟨(Za J1.out 0).trans rfl, (Za J1.out 1).trans rfl, (Za J1.out 2).trans rfl, (Za J1.out 3).trans rfl, (Za J1.out 4).trans rfl, (Za J1.out 5).trans rfl, (Za J1.out 6).trans rfl, (Za J1.out 7).trans rfl, (Za J1.out 8).trans rfl, (Za J1.out 9).trans rfl, (Za J1.out 10).trans rfl, (Za J1.out 11).trans rfl, (Za J1.out 12).trans rfl, (Za J1.out 13).trans rfl, (zb HB.out hw104_0), (zb HB.out hw104_1), (zb HB.out hw104_2), (zb HB.out hw104_3), (zb HB.out hw104_4), (zb HB.out hw104_5), (zb HB.out hw104_6), (zb HB.out hw104_7), (zb HB.out hw104_8), (zb HB.out hw104_9), (zb HB.out hw104_10), (zb HB.out hw104_11), (zb HB.out hw104_12), (zb HB.out hw104_13)⟩ (fun hHeld => ?_)
     clear hK K
     refine Jw (a' := ?_) ?_ ?_
     rotate_left
     ·show Act.put _ (some 38) _ = _
      simp only [Act.put, List.setIfInBounds_toArray, List.set_cons_zero, List.set_cons_succ, Xk]
      rfl
     refine Qe (i := 9) (N := some 39) (v := ?_) (a' := ?_) #[true, true, true, true, true, true, true, true, true, true, false, false] rfl rfl (Xu HT_.out (by kernel_rfl)) (fun _ _ _ h => h) (Or.inl ⟨by rfl, ?_⟩) ?_ ?_
     rotate_left
     ·intro w'
      go_simp
      with_reducible rfl
     rotate_left
     ·simp only [Act.put, List.setIfInBounds_toArray, List.set_cons_zero, List.set_cons_succ, Xk]
      rfl
     refine Qe (i := 10) (N := some 40) (v := ?_) (a' := ?_) #[true, true, true, true, true, true, true, true, true, true, true, false] rfl rfl (Xu HT_.out (by kernel_rfl)) (fun _ _ _ h => h) (Or.inl ⟨by rfl, ?_⟩) ?_ ?_
     rotate_left
     ·intro w'
      go_simp
      with_reducible rfl
     rotate_left
     ·simp only [Act.put, List.setIfInBounds_toArray, List.set_cons_zero, List.set_cons_succ, Xk]
      rfl
     refine Qe (i := 11) (N := some 3) (v := ?_) (a' := ?_) #[true, true, true, true, true, true, true, true, true, true, true, true] rfl rfl (Xu HT_.out (by kernel_rfl)) (fun _ _ _ h => h) (Or.inl ⟨by rfl, ?_⟩) ?_ ?_
     rotate_left
     ·intro w'
      go_simp
      with_reducible rfl
     rotate_left
     ·simp only [Act.put, List.setIfInBounds_toArray, List.set_cons_zero, List.set_cons_succ, Xk]
      rfl
     refine done_ (done_of HT_.out (by kernel_rfl)) ?_
     try go_wp2
     go_ret
     exact ⟨by first | rfl | (simp [errW_none, errW_some] <;> rfl) | (simp only [← hji10]; first | rfl | (simp [errW_none, errW_some] <;> rfl)) | (simp [*, errW_none, errW_some] <;> rfl), HB.out⟩
    ·rw [if_neg c8] at H
     exact absurd H (by simp)
   ·rw [if_neg c7] at H
    have c7b0 : (J6 == 1) = false := beq_eq_false_iff_ne.mpr c7
    have c7b1 : (J6 != 1) = true := bne_iff_ne.mpr c7
    by_cases c17 : J6 = 4
    ·rw [if_pos c17] at H
     have c17b0 : (J6 == 4) = true := beq_iff_eq.mpr c17
     have c17b1 : (J6 != 4) = false := bne_eq_false_iff_eq.mpr c17
     clear c17
     obtain ⟨ji18, hji18⟩ : ∃ j_ : Int, (mn (wrap64 (t103 * J4)) 1000) = j_ := ⟨_, rfl⟩
     replace H : (some ji18) = some r := by first | (rw [hji18] at H; exact H) | (simp only [hji18] at H ⊢; exact H)
     (try rw [hji18] at A6)
     (try (have hji18h : ji18 ≤ 1000 := by (rw [← hji18]; unfold mn; (repeat' split) <;> omega)))
     (try (have hji18g : ji18 ≤ 64 := by omega))
     have hji18_ : (if 1000 < (wrap64 (t103 * J4)) then 1000 else (wrap64 (t103 * J4))) = ji18 := hji18
     obtain rfl := Option.some.inj H
     go_enter Try.func11, Try.ntmps11
     go_wp2_with (first | ((with_reducible refine Xd (N := 1) rfl ?_); refine Xe ?hg (N := 1) ?hd (cs := #[.int .i64 J6, .int .i64 Jk, .int .i64 Jj, .bool Jh, .int .i64 Jg, .int .u64 Jf, .int .u64 Je, .int .i64 Jd, .bool Jb, .int .i64 Ja, .slice A0_10 J7.length c0_10, .int .i64 J4, .int .i64 J9, .slice A0_13 J0.length c0_13]) (t := 30) ?hr ?_; (case hd => rfl); (case hg => rfl); (case hr => first | (go_simp; done) | (go_simp; rfl)); intro J3 hg w19 hbox hb; have n0_ := Zd.mk (Zj HB.out hb); have n1_ := Zd.mk (hbox); have n2_ := Zd.mk ((by rw [hg]; exact (Zl HB.out) : w.heap.size ≤ J3)); have n3_ := n2_; clear HB; have HB := n0_; have J1 := n1_; have GW101 := n2_; have GE101 := n3_; clear n0_ n1_ n2_ n3_; clear hb hbox hg; have hcz20_0 : w19.cell? ⟨J3, 0, none⟩ = some (.int .i64 J6) := (Za J1.out 0).trans rfl; have hcz20_1 : w19.cell? ⟨J3, 1, none⟩ = some (.int .i64 Jk) := (Za J1.out 1).trans rfl; have hcz20_2 : w19.cell? ⟨J3, 2, none⟩ = some (.int .i64 Jj) := (Za J1.out 2).trans rfl; have hcz20_3 : w19.cell? ⟨J3, 3, none⟩ = some (.bool Jh) := (Za J1.out 3).trans rfl; have hcz20_4 : w19.cell? ⟨J3, 4, none⟩ = some (.int .i64 Jg) := (Za J1.out 4).trans rfl; have hcz20_5 : w19.cell? ⟨J3, 5, none⟩ = some (.int .u64 Jf) := (Za J1.out 5).trans rfl; have hcz20_6 : w19.cell? ⟨J3, 6, none⟩ = some (.int .u64 Je) := (Za J1.out 6).trans rfl; have hcz20_7 : w19.cell? ⟨J3, 7, none⟩ = some (.int .i64 Jd) := (Za J1.out 7).trans rfl; have hcz20_8 : w19.cell? ⟨J3, 8, none⟩ = some (.bool Jb) := (Za J1.out 8).trans rfl; have hcz20_9 : w19.cell? ⟨J3, 9, none⟩ = some (.int .i64 Ja) := (Za J1.out 9).trans rfl; have hcz20_10 : w19.cell? ⟨J3, 10, none⟩ = some (.slice A0_10 J7.length c0_10) := (Za J1.out 10).trans rfl; have hcz20_11 : w19.cell? ⟨J3, 11, none⟩ = some (.int .i64 J4) := (Za J1.out 11).trans rfl; have hcz20_12 : w19.cell? ⟨J3, 12, none⟩ = some (.int .i64 J9) := (Za J1.out 12).trans rfl; have hcz20_13 : w19.cell? ⟨J3, 13, none⟩ = some (.slice A0_13 J0.length c0_13) := (Za J1.out 13).trans rfl; have hfz20_0 := Zb J1.out 0; have hfz20_1 := Zb J1.out 1; have hfz20_2 := Zb J1.out 2; have hfz20_3 := Zb J1.out 3; have hfz20_4 := Zb J1.out 4; have hfz20_5 := Zb J1.out 5; have hfz20_6 := Zb J1.out 6; have hfz20_7 := Zb J1.out 7; have hfz20_8 := Zb J1.out 8; have hfz20_9 := Zb J1.out 9; have hfz20_10 := Zb J1.out 10; have hfz20_11 := Zb J1.out 11; have hfz20_12 := Zb J1.out 12; have hfz20_13 := Zb J1.out 13; have p102 : 0 ≤ (0 : Int) := (by omega); have q102 : 0 < (J0.length : Int) := of_decide_eq_true (by first | (with_reducible assumption) | assumption); obtain ⟨ad102, A102_10, c102_10, A102_13, c102_13, e102, hx102_0, hx102_1, hx102_2, hx102_3, hx102_4, hx102_5, hx102_6, hx102_7, hx102_8, hx102_9, hx102_10, hx102_11, hx102_12, hx102_13, hl102_10, hi102_10, hl102_13, hi102_13⟩ := Jc HR0_13.out 0 p102 q102; cases e102; have qi102 : (0 < J0.length) = True := eq_true (by omega); (try rw [show ((0 : Int)).toNat = 0 from rfl] at hx102_0); (try rw [show 0 * 14 = 0 from rfl] at hx102_0); (try rw [Addr.add_zero'] at hx102_0); (try rw [show ((0 : Int)).toNat = 0 from rfl] at hx102_1); (try rw [show 0 * 14 = 0 from rfl] at hx102_1); (try rw [Addr.add_zero'] at hx102_1); (try rw [show ((0 : Int)).toNat = 0 from rfl] at hx102_2); (try rw [show 0 * 14 = 0 from rfl] at hx102_2); (try rw [Addr.add_zero'] at hx102_2); (try rw [show ((0 : Int)).toNat = 0 from rfl] at hx102_3); (try rw [show 0 * 14 = 0 from rfl] at hx102_3); (try rw [Addr.add_zero'] at hx102_3); (try rw [show ((0 : Int)).toNat = 0 from rfl] at hx102_4); (try rw [show 0 * 14 = 0 from rfl] at hx102_4); (try rw [Addr.add_zero'] at hx102_4); (try rw [show ((0 : Int)).toNat = 0 from rfl] at hx102_5); (try rw [show 0 * 14 = 0 from rfl] at hx102_5); (try rw [Addr.add_zero'] at hx102_5); (try rw [show ((0 : Int)).toNat = 0 from rfl] at hx102_6); (try rw [show 0 * 14 = 0 from rfl] at hx102_6); (try rw [Addr.add_zero'] at hx102_6); (try rw [show ((0 : Int)).toNat = 0 from rfl] at hx102_7); (try rw [show 0 * 14 = 0 from rfl] at hx102_7); (try rw [Addr.add_zero'] at hx102_7); (try rw [show ((0 : Int)).toNat = 0 from rfl] at hx102_8); (try rw [show 0 * 14 = 0 from rfl] at hx102_8); (try rw [Addr.add_zero'] at hx102_8); (try rw [show ((0 : Int)).toNat = 0 from rfl] at hx102_9); (try rw [show 0 * 14 = 0 from rfl] at hx102_9); (try rw [Addr.add_zero'] at hx102_9); (try rw [show ((0 : Int)).toNat = 0 from rfl] at hx102_10); (try rw [show 0 * 14 = 0 from rfl] at hx102_10); (try rw [Addr.add_zero'] at hx102_10); (try rw [show ((0 : Int)).toNat = 0 from rfl] at hx102_11); (try rw [show 0 * 14 = 0 from rfl] at hx102_11); (try rw [Addr.add_zero'] at hx102_11); (try rw [show ((0 : Int)).toNat = 0 from rfl] at hx102_12); (try rw [show 0 * 14 = 0 from rfl] at hx102_12); (try rw [Addr.add_zero'] at hx102_12); (try rw [show ((0 : Int)).toNat = 0 from rfl] at hx102_13); (try rw [show 0 * 14 = 0 from rfl] at hx102_13); (try rw [Addr.add_zero'] at hx102_13); replace hx102_0 := zb HB.out hx102_0; replace hx102_1 := zb HB.out hx102_1; replace hx102_2 := zb HB.out hx102_2; replace hx102_3 := zb HB.out hx102_3; replace hx102_4 := zb HB.out hx102_4; replace hx102_5 := zb HB.out hx102_5; replace hx102_6 := zb HB.out hx102_6; replace hx102_7 := zb HB.out hx102_7; replace hx102_8 := zb HB.out hx102_8; replace hx102_9 := zb HB.out hx102_9; replace hx102_10 := zb HB.out hx102_10; replace hx102_11 := zb HB.out hx102_11; replace hx102_12 := zb HB.out hx102_12; replace hx102_13 := zb HB.out hx102_13; have HR102_10 := Zd.mk hi102_10; have HC102_10 := Zd.mk hl102_10; clear hi102_10 hl102_10; have HR102_13 := Zd.mk hi102_13; have HC102_13 := Zd.mk hl102_13; clear hi102_13 hl102_13; replace p102 := eq_true p102; replace q102 := eq_true q102) | ((with_reducible refine Zx (f := 11) rfl ?_); refine Xz (some 13) rfl rfl Try.func11 (by kernel_rfl) rfl #[.agg #[.int .i64 ((Zc J0 0).f0), .int .i64 ((Zc J0 0).f1.f0), .int .i64 ((Zc J0 0).f1.f1), .bool ((Zc J0 0).f1.f2), .int .i64 ((Zc J0 0).f1.f3.f0), .int .u64 ((Zc J0 0).f1.f3.f1), .int .u64 ((Zc J0 0).f1.f3.f2), .int .i64 ((Zc J0 0).f1.f4), .bool ((Zc J0 0).f1.f5), .int .i64 ((Zc J0 0).f1.f6), .slice A102_10 ((Zc J0 0).f1.f7).length c102_10, .int .i64 ((Zc J0 0).f2), .int .i64 ((Zc J0 0).f3), .slice A102_13 ((Zc J0 0).f4).length c102_13]] rfl (by (try simp only [List.map_toArray, List.map_cons, List.map_nil]); first | done | rfl | (simp only [List.length_drop, List.length_take]; rfl)) ?_; (with_reducible refine (ih k (by omega) ((Zc J0 0).f0) ((Zc J0 0).f1.f0) ((Zc J0 0).f1.f1) ((Zc J0 0).f1.f2) ((Zc J0 0).f1.f3.f0) ((Zc J0 0).f1.f3.f1) ((Zc J0 0).f1.f3.f2) ((Zc J0 0).f1.f4) ((Zc J0 0).f1.f5) ((Zc J0 0).f1.f6) _ _ ((Zc J0 0).f1.f7) ((Zc J0 0).f2) ((Zc J0 0).f3) _ _ ((Zc J0 0).f4) t103 _ ?side1 ?side2 ?side3 ?side4 A6.out).mono ?_); (case side1 => exact (Kd.Zw HR102_10.out HB.out)); (case side2 => exact HC102_10.out); (case side3 => exact (Kd.Zw HR102_13.out HB.out)); (case side4 => exact HC102_13.out); rintro e w21 ⟨rfl, hb⟩; refine ⟨_, rfl, ?_⟩; have n0_ := Zd.mk (Zp J1.out hb); have n1_ := Zd.mk (Zj HB.out hb); clear J1; clear HB; have J1 := n0_; have HB := n1_; clear n0_ n1_; (try clear hb); (try clear hb2); (try clear hk); (try clear hi); have hcz22_0 : w21.cell? ⟨J3, 0, none⟩ = some (.int .i64 J6) := (Za J1.out 0).trans rfl; have hcz22_1 : w21.cell? ⟨J3, 1, none⟩ = some (.int .i64 Jk) := (Za J1.out 1).trans rfl; have hcz22_2 : w21.cell? ⟨J3, 2, none⟩ = some (.int .i64 Jj) := (Za J1.out 2).trans rfl; have hcz22_3 : w21.cell? ⟨J3, 3, none⟩ = some (.bool Jh) := (Za J1.out 3).trans rfl; have hcz22_4 : w21.cell? ⟨J3, 4, none⟩ = some (.int .i64 Jg) := (Za J1.out 4).trans rfl; have hcz22_5 : w21.cell? ⟨J3, 5, none⟩ = some (.int .u64 Jf) := (Za J1.out 5).trans rfl; have hcz22_6 : w21.cell? ⟨J3, 6, none⟩ = some (.int .u64 Je) := (Za J1.out 6).trans rfl; have hcz22_7 : w21.cell? ⟨J3, 7, none⟩ = some (.int .i64 Jd) := (Za J1.out 7).trans rfl; have hcz22_8 : w21.cell? ⟨J3, 8, none⟩ = some (.bool Jb) := (Za J1.out 8).trans rfl; have hcz22_9 : w21.cell? ⟨J3, 9, none⟩ = some (.int .i64 Ja) := (Za J1.out 9).trans rfl; have hcz22_10 : w21.cell? ⟨J3, 10, none⟩ = some (.slice A0_10 J7.length c0_10) := (Za J1.out 10).trans rfl; have hcz22_11 : w21.cell? ⟨J3, 11, none⟩ = some (.int .i64 J4) := (Za J1.out 11).trans rfl; have hcz22_12 : w21.cell? ⟨J3, 12, none⟩ = some (.int .i64 J9) := (Za J1.out 12).trans rfl; have hcz22_13 : w21.cell? ⟨J3, 13, none⟩ = some (.slice (some ad102) J0.length c0_13) := (Za J1.out 13).trans rfl; have hfz22_0 := Zb J1.out 0; have hfz22_1 := Zb J1.out 1; have hfz22_2 := Zb J1.out 2; have hfz22_3 := Zb J1.out 3; have hfz22_4 := Zb J1.out 4; have hfz22_5 := Zb J1.out 5; have hfz22_6 := Zb J1.out 6; have hfz22_7 := Zb J1.out 7; have hfz22_8 := Zb J1.out 8; have hfz22_9 := Zb J1.out 9; have hfz22_10 := Zb J1.out 10; have hfz22_11 := Zb J1.out 11; have hfz22_12 := Zb J1.out 12; have hfz22_13 := Zb J1.out 13))
     go_ret
     exact ⟨by first | rfl | (simp [errW_none, errW_some] <;> rfl) | (simp only [← hji18]; first | rfl | (simp [errW_none, errW_some] <;> rfl)) | (simp [*, errW_none, errW_some] <;> rfl), HB.out⟩
    ·rw [if_neg c17] at H
     have c17b0 : (J6 == 4) = false := beq_eq_false_iff_ne.mpr c17
     have c17b1 : (J6 != 4) = true := bne_iff_ne.mpr c17
     have H' := Zd.mk H
     clear H
     go_enter Try.func11, Try.ntmps11
     go_wp2_with (first | ((with_reducible refine Xd (N := 1) rfl ?_); refine Xe ?hg (N := 1) ?hd (cs := #[.int .i64 J6, .int .i64 Jk, .int .i64 Jj, .bool Jh, .int .i64 Jg, .int .u64 Jf, .int .u64 Je, .int .i64 Jd, .bool Jb, .int .i64 Ja, .slice A0_10 J7.length c0_10, .int .i64 J4, .int .i64 J9, .slice A0_13 J0.length c0_13]) (t := 30) ?hr ?_; (case hd => rfl); (case hg => rfl); (case hr => first | (go_simp; done) | (go_simp; rfl)); intro J3 hg w23 hbox hb; have n0_ := Zd.mk (Zj HB.out hb); have n1_ := Zd.mk (hbox); have n2_ := Zd.mk ((by rw [hg]; exact (Zl HB.out) : w.heap.size ≤ J3)); have n3_ := n2_; clear HB; have HB := n0_; have J1 := n1_; have GW101 := n2_; have GE101 := n3_; clear n0_ n1_ n2_ n3_; clear hb hbox hg; have hcz24_0 : w23.cell? ⟨J3, 0, none⟩ = some (.int .i64 J6) := (Za J1.out 0).trans rfl; have hcz24_1 : w23.cell? ⟨J3, 1, none⟩ = some (.int .i64 Jk) := (Za J1.out 1).trans rfl; have hcz24_2 : w23.cell? ⟨J3, 2, none⟩ = some (.int .i64 Jj) := (Za J1.out 2).trans rfl; have hcz24_3 : w23.cell? ⟨J3, 3, none⟩ = some (.bool Jh) := (Za J1.out 3).trans rfl; have hcz24_4 : w23.cell? ⟨J3, 4, none⟩ = some (.int .i64 Jg) := (Za J1.out 4).trans rfl; have hcz24_5 : w23.cell? ⟨J3, 5, none⟩ = some (.int .u64 Jf) := (Za J1.out 5).trans rfl; have hcz24_6 : w23.cell? ⟨J3, 6, none⟩ = some (.int .u64 Je) := (Za J1.out 6).trans rfl; have hcz24_7 : w23.cell? ⟨J3, 7, none⟩ = some (.int .i64 Jd) := (Za J1.out 7).trans rfl; have hcz24_8 : w23.cell? ⟨J3, 8, none⟩ = some (.bool Jb) := (Za J1.out 8).trans rfl; have hcz24_9 : w23.cell? ⟨J3, 9, none⟩ = some (.int .i64 Ja) := (Za J1.out 9).trans rfl; have JC : w23.cell? ⟨J3, 10, none⟩ = some (.slice A0_10 J7.length c0_10) := (Za J1.out 10).trans rfl; have JB : w23.cell? ⟨J3, 11, none⟩ = some (.int .i64 J4) := (Za J1.out 11).trans rfl; have JA : w23.cell? ⟨J3, 12, none⟩ = some (.int .i64 J9) := (Za J1.out 12).trans rfl; have Jz : w23.cell? ⟨J3, 13, none⟩ = some (.slice A0_13 J0.length c0_13) := (Za J1.out 13).trans rfl; have hfz24_0 := Zb J1.out 0; have hfz24_1 := Zb J1.out 1; have hfz24_2 := Zb J1.out 2; have hfz24_3 := Zb J1.out 3; have hfz24_4 := Zb J1.out 4; have hfz24_5 := Zb J1.out 5; have hfz24_6 := Zb J1.out 6; have hfz24_7 := Zb J1.out 7; have hfz24_8 := Zb J1.out 8; have hfz24_9 := Zb J1.out 9; have Jt := Zb J1.out 10; have Js := Zb J1.out 11; have Jr := Zb J1.out 12; have Jq := Zb J1.out 13; have p102 : 0 ≤ (0 : Int) := (by omega); have q102 : 0 < (J0.length : Int) := of_decide_eq_true (by first | (with_reducible assumption) | assumption); obtain ⟨ad102, A102_10, c102_10, A102_13, c102_13, e102, hx102_0, hx102_1, hx102_2, hx102_3, hx102_4, hx102_5, hx102_6, hx102_7, hx102_8, hx102_9, hx102_10, hx102_11, hx102_12, hx102_13, hl102_10, hi102_10, hl102_13, hi102_13⟩ := Jc HR0_13.out 0 p102 q102; cases e102; have qi102 : (0 < J0.length) = True := eq_true (by omega); (try rw [show ((0 : Int)).toNat = 0 from rfl] at hx102_0); (try rw [show 0 * 14 = 0 from rfl] at hx102_0); (try rw [Addr.add_zero'] at hx102_0); (try rw [show ((0 : Int)).toNat = 0 from rfl] at hx102_1); (try rw [show 0 * 14 = 0 from rfl] at hx102_1); (try rw [Addr.add_zero'] at hx102_1); (try rw [show ((0 : Int)).toNat = 0 from rfl] at hx102_2); (try rw [show 0 * 14 = 0 from rfl] at hx102_2); (try rw [Addr.add_zero'] at hx102_2); (try rw [show ((0 : Int)).toNat = 0 from rfl] at hx102_3); (try rw [show 0 * 14 = 0 from rfl] at hx102_3); (try rw [Addr.add_zero'] at hx102_3); (try rw [show ((0 : Int)).toNat = 0 from rfl] at hx102_4); (try rw [show 0 * 14 = 0 from rfl] at hx102_4); (try rw [Addr.add_zero'] at hx102_4); (try rw [show ((0 : Int)).toNat = 0 from rfl] at hx102_5); (try rw [show 0 * 14 = 0 from rfl] at hx102_5); (try rw [Addr.add_zero'] at hx102_5); (try rw [show ((0 : Int)).toNat = 0 from rfl] at hx102_6); (try rw [show 0 * 14 = 0 from rfl] at hx102_6); (try rw [Addr.add_zero'] at hx102_6); (try rw [show ((0 : Int)).toNat = 0 from rfl] at hx102_7); (try rw [show 0 * 14 = 0 from rfl] at hx102_7); (try rw [Addr.add_zero'] at hx102_7); (try rw [show ((0 : Int)).toNat = 0 from rfl] at hx102_8); (try rw [show 0 * 14 = 0 from rfl] at hx102_8); (try rw [Addr.add_zero'] at hx102_8); (try rw [show ((0 : Int)).toNat = 0 from rfl] at hx102_9); (try rw [show 0 * 14 = 0 from rfl] at hx102_9); (try rw [Addr.add_zero'] at hx102_9); (try rw [show ((0 : Int)).toNat = 0 from rfl] at hx102_10); (try rw [show 0 * 14 = 0 from rfl] at hx102_10); (try rw [Addr.add_zero'] at hx102_10); (try rw [show ((0 : Int)).toNat = 0 from rfl] at hx102_11); (try rw [show 0 * 14 = 0 from rfl] at hx102_11); (try rw [Addr.add_zero'] at hx102_11); (try rw [show ((0 : Int)).toNat = 0 from rfl] at hx102_12); (try rw [show 0 * 14 = 0 from rfl] at hx102_12); (try rw [Addr.add_zero'] at hx102_12); (try rw [show ((0 : Int)).toNat = 0 from rfl] at hx102_13); (try rw [show 0 * 14 = 0 from rfl] at hx102_13); (try rw [Addr.add_zero'] at hx102_13); replace hx102_0 := zb HB.out hx102_0; replace hx102_1 := zb HB.out hx102_1; replace hx102_2 := zb HB.out hx102_2; replace hx102_3 := zb HB.out hx102_3; replace hx102_4 := zb HB.out hx102_4; replace hx102_5 := zb HB.out hx102_5; replace hx102_6 := zb HB.out hx102_6; replace hx102_7 := zb HB.out hx102_7; replace hx102_8 := zb HB.out hx102_8; replace hx102_9 := zb HB.out hx102_9; replace hx102_10 := zb HB.out hx102_10; replace hx102_11 := zb HB.out hx102_11; replace hx102_12 := zb HB.out hx102_12; replace hx102_13 := zb HB.out hx102_13; have HR102_10 := Zd.mk hi102_10; have HC102_10 := Zd.mk hl102_10; clear hi102_10 hl102_10; have HR102_13 := Zd.mk hi102_13; have HC102_13 := Zd.mk hl102_13; clear hi102_13 hl102_13; replace p102 := eq_true p102; replace q102 := eq_true q102) | ((with_reducible refine Zx (f := 11) rfl ?_); refine Xz (some 13) rfl rfl Try.func11 (by kernel_rfl) rfl #[.agg #[.int .i64 ((Zc J0 0).f0), .int .i64 ((Zc J0 0).f1.f0), .int .i64 ((Zc J0 0).f1.f1), .bool ((Zc J0 0).f1.f2), .int .i64 ((Zc J0 0).f1.f3.f0), .int .u64 ((Zc J0 0).f1.f3.f1), .int .u64 ((Zc J0 0).f1.f3.f2), .int .i64 ((Zc J0 0).f1.f4), .bool ((Zc J0 0).f1.f5), .int .i64 ((Zc J0 0).f1.f6), .slice A102_10 ((Zc J0 0).f1.f7).length c102_10, .int .i64 ((Zc J0 0).f2), .int .i64 ((Zc J0 0).f3), .slice A102_13 ((Zc J0 0).f4).length c102_13]] rfl (by (try simp only [List.map_toArray, List.map_cons, List.map_nil]); first | done | rfl | (simp only [List.length_drop, List.length_take]; rfl)) ?_; (with_reducible refine (ih k (by omega) ((Zc J0 0).f0) ((Zc J0 0).f1.f0) ((Zc J0 0).f1.f1) ((Zc J0 0).f1.f2) ((Zc J0 0).f1.f3.f0) ((Zc J0 0).f1.f3.f1) ((Zc J0 0).f1.f3.f2) ((Zc J0 0).f1.f4) ((Zc J0 0).f1.f5) ((Zc J0 0).f1.f6) _ _ ((Zc J0 0).f1.f7) ((Zc J0 0).f2) ((Zc J0 0).f3) _ _ ((Zc J0 0).f4) t103 _ ?side1 ?side2 ?side3 ?side4 A6.out).mono ?_); (case side1 => exact (Kd.Zw HR102_10.out HB.out)); (case side2 => exact HC102_10.out); (case side3 => exact (Kd.Zw HR102_13.out HB.out)); (case side4 => exact HC102_13.out); rintro e w25 ⟨rfl, hb⟩; refine ⟨_, rfl, ?_⟩; have n0_ := Zd.mk (Zp J1.out hb); have n1_ := Zd.mk (Zj HB.out hb); clear J1; clear HB; have J1 := n0_; have HB := n1_; clear n0_ n1_; (try clear hb); (try clear hb2); (try clear hk); (try clear hi); have hcz26_0 : w25.cell? ⟨J3, 0, none⟩ = some (.int .i64 J6) := (Za J1.out 0).trans rfl; have hcz26_1 : w25.cell? ⟨J3, 1, none⟩ = some (.int .i64 Jk) := (Za J1.out 1).trans rfl; have hcz26_2 : w25.cell? ⟨J3, 2, none⟩ = some (.int .i64 Jj) := (Za J1.out 2).trans rfl; have hcz26_3 : w25.cell? ⟨J3, 3, none⟩ = some (.bool Jh) := (Za J1.out 3).trans rfl; have hcz26_4 : w25.cell? ⟨J3, 4, none⟩ = some (.int .i64 Jg) := (Za J1.out 4).trans rfl; have hcz26_5 : w25.cell? ⟨J3, 5, none⟩ = some (.int .u64 Jf) := (Za J1.out 5).trans rfl; have hcz26_6 : w25.cell? ⟨J3, 6, none⟩ = some (.int .u64 Je) := (Za J1.out 6).trans rfl; have hcz26_7 : w25.cell? ⟨J3, 7, none⟩ = some (.int .i64 Jd) := (Za J1.out 7).trans rfl; have hcz26_8 : w25.cell? ⟨J3, 8, none⟩ = some (.bool Jb) := (Za J1.out 8).trans rfl; have hcz26_9 : w25.cell? ⟨J3, 9, none⟩ = some (.int .i64 Ja) := (Za J1.out 9).trans rfl; have Jy : w25.cell? ⟨J3, 10, none⟩ = some (.slice A0_10 J7.length c0_10) := (Za J1.out 10).trans rfl; have Jx : w25.cell? ⟨J3, 11, none⟩ = some (.int .i64 J4) := (Za J1.out 11).trans rfl; have Jv : w25.cell? ⟨J3, 12, none⟩ = some (.int .i64 J9) := (Za J1.out 12).trans rfl; have Ju : w25.cell? ⟨J3, 13, none⟩ = some (.slice (some ad102) J0.length c0_13) := (Za J1.out 13).trans rfl; have hfz26_0 := Zb J1.out 0; have hfz26_1 := Zb J1.out 1; have hfz26_2 := Zb J1.out 2; have hfz26_3 := Zb J1.out 3; have hfz26_4 := Zb J1.out 4; have hfz26_5 := Zb J1.out 5; have hfz26_6 := Zb J1.out 6; have hfz26_7 := Zb J1.out 7; have hfz26_8 := Zb J1.out 8; have hfz26_9 := Zb J1.out 9; have Jp := Zb J1.out 10; have Jo := Zb J1.out 11; have Jn := Zb J1.out 12; have Jm := Zb J1.out 13))
     go_loopg [3, 19] k (fun kq v3 v19 w' => ∃ (Jl : Int) (J2 : Int), v3 = .int .i64 Jl ∧ v19 = .int .i64 J2 ∧ Zd (Zn.l0 kq Jl J0 (J0.length : Int) J2 = some r) ∧ Zd (kq ≤ k) ∧ Zd (w'.heap[J3]? = some (.cells #[.int .i64 J6, .int .i64 Jk, .int .i64 Jj, .bool Jh, .int .i64 Jg, .int .u64 Jf, .int .u64 Je, .int .i64 Jd, .bool Jb, .int .i64 Ja, (.slice A0_10 J7.length c0_10), .int .i64 J4, .int .i64 J9, (.slice (some ad102) J0.length c0_13)] 30 (0, 0))) ∧ Zd (Below w.heap.size w w'))
     case atStart => exact ⟨(t103), (0), (by first | rfl | (simp; done) | (simp [*]; done)), (by first | rfl | (simp; done) | (simp [*]; done)), H', ⟨Nat.le_refl _⟩, ⟨J1.out⟩, ⟨HB.out⟩⟩
     case round =>
      clear H'
      try clear c2
      try clear c2b0
      try clear c2b1
      try clear c5b0
      try clear c5b1
      try clear c7
      try clear c7b0
      try clear c7b1
      try clear c17
      try clear c17b0
      try clear c17b1
      try clear hcz24_0
      try clear hcz24_1
      try clear JC
      try clear JB
      try clear JA
      try clear Jz
      try clear hcz24_2
      try clear hcz24_3
      try clear hcz24_4
      try clear hcz24_5
      try clear hcz24_6
      try clear hcz24_7
      try clear hcz24_8
      try clear hcz24_9
      try clear hcz26_0
      try clear hcz26_1
      try clear Jy
      try clear Jx
      try clear Jv
      try clear Ju
      try clear hcz26_2
      try clear hcz26_3
      try clear hcz26_4
      try clear hcz26_5
      try clear hcz26_6
      try clear hcz26_7
      try clear hcz26_8
      try clear hcz26_9
      try clear hfz24_0
      try clear hfz24_1
      try clear Jt
      try clear Js
      try clear Jr
      try clear Jq
      try clear hfz24_2
      try clear hfz24_3
      try clear hfz24_4
      try clear hfz24_5
      try clear hfz24_6
      try clear hfz24_7
      try clear hfz24_8
      try clear hfz24_9
      try clear hfz26_0
      try clear hfz26_1
      try clear Jp
      try clear Jo
      try clear Jn
      try clear Jm
      try clear hfz26_2
      try clear hfz26_3
      try clear hfz26_4
      try clear hfz26_5
      try clear hfz26_6
      try clear hfz26_7
      try clear hfz26_8
      try clear hfz26_9
      try clear hx102_0
      try clear hx102_1
      try clear hx102_10
      try clear hx102_11
      try clear hx102_12
      try clear hx102_13
      try clear hx102_2
      try clear hx102_3
      try clear hx102_4
      try clear hx102_5
      try clear hx102_6
      try clear hx102_7
      try clear hx102_8
      try clear hx102_9
      try clear p102
      try clear q102
      obtain ⟨Jl, J2, rfl, rfl, HA, HK1, J1, HB⟩ := hrel
      cases gk with
      | zero => exact absurd HA.out (by simp [Zn.l0])
      | succ k1 =>
       have H := HA.out
       clear HA
       simp only [Zn.l0] at H
       by_cases c27 : J2 < (J0.length : Int)
       ·rw [if_pos c27] at H
        have c27b0 : decide (J2 < (J0.length : Int)) = true := decide_eq_true c27
        clear c27
        by_cases c28 : 0 ≤ J2
        ·rw [if_pos c28] at H
         have c28b0 : decide (0 ≤ J2) = true := decide_eq_true c28
         clear c28
         by_cases c29 : J2 < (J0.length : Int)
         ·rw [if_pos c29] at H
          have c29b0 : decide (J2 < (J0.length : Int)) = true := decide_eq_true c29
          clear c29
          replace H := Option.bind_eq_some_iff.mp H
          obtain ⟨t108, A300, H⟩ := H
          replace H : (Zn.l0 k1 (mx Jl t108) J0 (J0.length : Int) (wrap64 (J2 + 1))) = some r := H
          have A30 := Zd.mk A300
          clear A300
          obtain ⟨ji31, hji31⟩ : ∃ j_ : Int, (mx Jl t108) = j_ := ⟨_, rfl⟩
          replace H : (Zn.l0 k1 ji31 J0 (J0.length : Int) (wrap64 (J2 + 1))) = some r := by first | (rw [hji31] at H; exact H) | (simp only [hji31] at H ⊢; exact H)
          (try rw [hji31] at A30)
          have hji31_ : (if Jl < t108 then t108 else Jl) = ji31 := hji31
          have H' := Zd.mk H
          clear H
          have p106 : 0 ≤ (J2 : Int) := of_decide_eq_true (by first | (with_reducible assumption) | assumption)
          have q106 : J2 < (J0.length : Int) := of_decide_eq_true (by first | (with_reducible assumption) | assumption)
          obtain ⟨ad106, A106_10, c106_10, A106_13, c106_13, e106, hx106_0, hx106_1, hx106_2, hx106_3, hx106_4, hx106_5, hx106_6, hx106_7, hx106_8, hx106_9, hx106_10, hx106_11, hx106_12, hx106_13, hl106_10, hi106_10, hl106_13, hi106_13⟩ := Jc HR0_13.out J2 p106 q106
          obtain rfl : ad102 = ad106 := (by injection e106)
          replace hx106_0 := zb HB.out hx106_0
          replace hx106_1 := zb HB.out hx106_1
          replace hx106_2 := zb HB.out hx106_2
          replace hx106_3 := zb HB.out hx106_3
          replace hx106_4 := zb HB.out hx106_4
          replace hx106_5 := zb HB.out hx106_5
          replace hx106_6 := zb HB.out hx106_6
          replace hx106_7 := zb HB.out hx106_7
          replace hx106_8 := zb HB.out hx106_8
          replace hx106_9 := zb HB.out hx106_9
          replace hx106_10 := zb HB.out hx106_10
          replace hx106_11 := zb HB.out hx106_11
          replace hx106_12 := zb HB.out hx106_12
          replace hx106_13 := zb HB.out hx106_13
          have HR106_10 := Zd.mk hi106_10
          have HC106_10 := Zd.mk hl106_10
          clear hi106_10 hl106_10
          have HR106_13 := Zd.mk hi106_13
          have HC106_13 := Zd.mk hl106_13
          clear hi106_13 hl106_13
          replace p106 := eq_true p106
          replace q106 := eq_true q106
          go_wp2_with (first | ((with_reducible refine Xd (N := 5) rfl ?_); refine Xe ?hg (N := 5) ?hd (cs := #[.int .i64 0, .int .i64 0, .int .i64 0, .bool false, .int .i64 0, .int .u64 0, .int .u64 0, .int .i64 0, .bool false, .int .i64 0, .slice none 0 0, .int .i64 0, .int .i64 0, .slice none 0 0]) (t := 30) ?hr ?_; (case hd => rfl); (case hg => rfl); (case hr => first | (go_simp; done) | (go_simp; rfl)); intro J8 hg w32 hbox hb; have n0_ := Zd.mk (Zp J1.out hb); have n1_ := Zd.mk (Zj HB.out hb); have n2_ := Zd.mk (hbox); have n3_ := Zd.mk ((by rw [hg]; exact (Zl HB.out) : w.heap.size ≤ J8)); have n4_ := n3_; have n5_ := Zd.mk ((by rw [hg]; exact Nat.ne_of_lt (Kv J1.out) : J3 ≠ J8)); have n6_ := Zd.mk ((by rw [hg]; exact Nat.ne_of_gt (Kv J1.out) : J8 ≠ J3)); clear J1; clear HB; have J1 := n0_; have HB := n1_; have J5 := n2_; have GW107 := n3_; have GE107 := n4_; have NB101_107 := n5_; have NB107_101 := n6_; clear n0_ n1_ n2_ n3_ n4_ n5_ n6_; clear hb hbox hg; have hnb33 := NB107_101.out; have hnc33 := NB101_107.out; have hcz34_0 : w32.cell? ⟨J8, 0, none⟩ = some (.int .i64 0) := (Za J5.out 0).trans rfl; have hcz34_1 : w32.cell? ⟨J8, 1, none⟩ = some (.int .i64 0) := (Za J5.out 1).trans rfl; have hcz34_2 : w32.cell? ⟨J8, 2, none⟩ = some (.int .i64 0) := (Za J5.out 2).trans rfl; have hcz34_3 : w32.cell? ⟨J8, 3, none⟩ = some (.bool false) := (Za J5.out 3).trans rfl; have hcz34_4 : w32.cell? ⟨J8, 4, none⟩ = some (.int .i64 0) := (Za J5.out 4).trans rfl; have hcz34_5 : w32.cell? ⟨J8, 5, none⟩ = some (.int .u64 0) := (Za J5.out 5).trans rfl; have hcz34_6 : w32.cell? ⟨J8, 6, none⟩ = some (.int .u64 0) := (Za J5.out 6).trans rfl; have hcz34_7 : w32.cell? ⟨J8, 7, none⟩ = some (.int .i64 0) := (Za J5.out 7).trans rfl; have hcz34_8 : w32.cell? ⟨J8, 8, none⟩ = some (.bool false) := (Za J5.out 8).trans rfl; have hcz34_9 : w32.cell? ⟨J8, 9, none⟩ = some (.int .i64 0) := (Za J5.out 9).trans rfl; have hcz34_10 : w32.cell? ⟨J8, 10, none⟩ = some (.slice none 0 0) := (Za J5.out 10).trans rfl; have hcz34_11 : w32.cell? ⟨J8, 11, none⟩ = some (.int .i64 0) := (Za J5.out 11).trans rfl; have hcz34_12 : w32.cell? ⟨J8, 12, none⟩ = some (.int .i64 0) := (Za J5.out 12).trans rfl; have hcz34_13 : w32.cell? ⟨J8, 13, none⟩ = some (.slice none 0 0) := (Za J5.out 13).trans rfl; have hfz34_0 := Zb J5.out 0; have hfz34_1 := Zb J5.out 1; have hfz34_2 := Zb J5.out 2; have hfz34_3 := Zb J5.out 3; have hfz34_4 := Zb J5.out 4; have hfz34_5 := Zb J5.out 5; have hfz34_6 := Zb J5.out 6; have hfz34_7 := Zb J5.out 7; have hfz34_8 := Zb J5.out 8; have hfz34_9 := Zb J5.out 9; have hfz34_10 := Zb J5.out 10; have hfz34_11 := Zb J5.out 11; have hfz34_12 := Zb J5.out 12; have hfz34_13 := Zb J5.out 13) | ((with_reducible refine Zx (f := 11) rfl ?_); refine Xz (some 25) rfl rfl Try.func11 (by kernel_rfl) rfl #[.agg #[.int .i64 ((Zc J0 J2).f0), .int .i64 ((Zc J0 J2).f1.f0), .int .i64 ((Zc J0 J2).f1.f1), .bool ((Zc J0 J2).f1.f2), .int .i64 ((Zc J0 J2).f1.f3.f0), .int .u64 ((Zc J0 J2).f1.f3.f1), .int .u64 ((Zc J0 J2).f1.f3.f2), .int .i64 ((Zc J0 J2).f1.f4), .bool ((Zc J0 J2).f1.f5), .int .i64 ((Zc J0 J2).f1.f6), .slice A106_10 ((Zc J0 J2).f1.f7).length c106_10, .int .i64 ((Zc J0 J2).f2), .int .i64 ((Zc J0 J2).f3), .slice A106_13 ((Zc J0 J2).f4).length c106_13]] rfl (by (try simp only [List.map_toArray, List.map_cons, List.map_nil]); first | done | rfl | (simp only [List.length_drop, List.length_take]; rfl)) ?_; (with_reducible refine (ih k1 (by have := HK1.out; omega) ((Zc J0 J2).f0) ((Zc J0 J2).f1.f0) ((Zc J0 J2).f1.f1) ((Zc J0 J2).f1.f2) ((Zc J0 J2).f1.f3.f0) ((Zc J0 J2).f1.f3.f1) ((Zc J0 J2).f1.f3.f2) ((Zc J0 J2).f1.f4) ((Zc J0 J2).f1.f5) ((Zc J0 J2).f1.f6) _ _ ((Zc J0 J2).f1.f7) ((Zc J0 J2).f2) ((Zc J0 J2).f3) _ _ ((Zc J0 J2).f4) t108 _ ?side1 ?side2 ?side3 ?side4 A30.out).mono ?_); (case side1 => exact Kd.Zw HR106_10.out (by repeat (first | (with_reducible first | exact HB.out | apply Xm | apply Xi | apply Xj | refine Xc ?_ GE101.out | refine Xc ?_ GE107.out) | exact HB.out))); (case side2 => exact HC106_10.out); (case side3 => exact Kd.Zw HR106_13.out (by repeat (first | (with_reducible first | exact HB.out | apply Xm | apply Xi | apply Xj | refine Xc ?_ GE101.out | refine Xc ?_ GE107.out) | exact HB.out))); (case side4 => exact HC106_13.out); rintro e w35 ⟨rfl, hb⟩; refine ⟨_, rfl, ?_⟩; have n0_ := Zd.mk (Zp (g := J3) (o := .cells #[.int .i64 J6, .int .i64 Jk, .int .i64 Jj, .bool Jh, .int .i64 Jg, .int .u64 Jf, .int .u64 Je, .int .i64 Jd, .bool Jb, .int .i64 Ja, .slice A0_10 J7.length c0_10, .int .i64 J4, .int .i64 J9, .slice (some ad102) J0.length c0_13] 30 (0, 0)) (by (with_reducible repeat (first | refine Zf ?_ _ | refine Zg ?_ | refine Ze ?_ _)); refine Zm ?_ NB101_107.out _; (with_reducible repeat (first | refine Zf ?_ _ | refine Zg ?_ | refine Ze ?_ _)); refine Zm ?_ NB101_107.out _; (with_reducible repeat (first | refine Zf ?_ _ | refine Zg ?_ | refine Ze ?_ _)); refine Zm ?_ NB101_107.out _; (with_reducible repeat (first | refine Zf ?_ _ | refine Zg ?_ | refine Ze ?_ _)); refine Zm ?_ NB101_107.out _; (with_reducible repeat (first | refine Zf ?_ _ | refine Zg ?_ | refine Ze ?_ _)); refine Zm ?_ NB101_107.out _; (with_reducible repeat (first | refine Zf ?_ _ | refine Zg ?_ | refine Ze ?_ _)); refine Zm ?_ NB101_107.out _; (with_reducible repeat (first | refine Zf ?_ _ | refine Zg ?_ | refine Ze ?_ _)); refine Zm ?_ NB101_107.out _; (with_reducible repeat (first | refine Zf ?_ _ | refine Zg ?_ | refine Ze ?_ _)); refine Zm ?_ NB101_107.out _; (with_reducible repeat (first | refine Zf ?_ _ | refine Zg ?_ | refine Ze ?_ _)); refine Zm ?_ NB101_107.out _; (with_reducible repeat (first | refine Zf ?_ _ | refine Zg ?_ | refine Ze ?_ _)); refine Zm ?_ NB101_107.out _; (with_reducible repeat (first | refine Zf ?_ _ | refine Zg ?_ | refine Ze ?_ _)); refine Zm ?_ NB101_107.out _; (with_reducible repeat (first | refine Zf ?_ _ | refine Zg ?_ | refine Ze ?_ _)); refine Zm ?_ NB101_107.out _; (with_reducible repeat (first | refine Zf ?_ _ | refine Zg ?_ | refine Ze ?_ _)); refine Zm ?_ NB101_107.out _; (with_reducible repeat (first | refine Zf ?_ _ | refine Zg ?_ | refine Ze ?_ _)); refine Zm ?_ NB101_107.out _; (with_reducible repeat (first | refine Zf ?_ _ | refine Zg ?_ | refine Ze ?_ _)); exact J1.out) hb); have n1_ := Zd.mk (Zp (g := J8) (o := .cells #[.int .i64 ((Zc J0 J2).f0), .int .i64 ((Zc J0 J2).f1.f0), .int .i64 ((Zc J0 J2).f1.f1), .bool ((Zc J0 J2).f1.f2), .int .i64 ((Zc J0 J2).f1.f3.f0), .int .u64 ((Zc J0 J2).f1.f3.f1), .int .u64 ((Zc J0 J2).f1.f3.f2), .int .i64 ((Zc J0 J2).f1.f4), .bool ((Zc J0 J2).f1.f5), .int .i64 ((Zc J0 J2).f1.f6), .slice A106_10 ((Zc J0 J2).f1.f7).length c106_10, .int .i64 ((Zc J0 J2).f2), .int .i64 ((Zc J0 J2).f3), .slice A106_13 ((Zc J0 J2).f4).length c106_13] 30 (0, 0)) (by (with_reducible repeat (first | refine Zf ?_ _ | refine Zg ?_ | refine Ze ?_ _)); refine Zk (cs := #[.int .i64 ((Zc J0 J2).f0), .int .i64 ((Zc J0 J2).f1.f0), .int .i64 ((Zc J0 J2).f1.f1), .bool ((Zc J0 J2).f1.f2), .int .i64 ((Zc J0 J2).f1.f3.f0), .int .u64 ((Zc J0 J2).f1.f3.f1), .int .u64 ((Zc J0 J2).f1.f3.f2), .int .i64 ((Zc J0 J2).f1.f4), .bool ((Zc J0 J2).f1.f5), .int .i64 ((Zc J0 J2).f1.f6), .slice A106_10 ((Zc J0 J2).f1.f7).length c106_10, .int .i64 ((Zc J0 J2).f2), .int .i64 ((Zc J0 J2).f3), .slice none 0 0]) ?_ 13 _ rfl; (with_reducible repeat (first | refine Zf ?_ _ | refine Zg ?_ | refine Ze ?_ _)); refine Zk (cs := #[.int .i64 ((Zc J0 J2).f0), .int .i64 ((Zc J0 J2).f1.f0), .int .i64 ((Zc J0 J2).f1.f1), .bool ((Zc J0 J2).f1.f2), .int .i64 ((Zc J0 J2).f1.f3.f0), .int .u64 ((Zc J0 J2).f1.f3.f1), .int .u64 ((Zc J0 J2).f1.f3.f2), .int .i64 ((Zc J0 J2).f1.f4), .bool ((Zc J0 J2).f1.f5), .int .i64 ((Zc J0 J2).f1.f6), .slice A106_10 ((Zc J0 J2).f1.f7).length c106_10, .int .i64 ((Zc J0 J2).f2), .int .i64 0, .slice none 0 0]) ?_ 12 _ rfl; (with_reducible repeat (first | refine Zf ?_ _ | refine Zg ?_ | refine Ze ?_ _)); refine Zk (cs := #[.int .i64 ((Zc J0 J2).f0), .int .i64 ((Zc J0 J2).f1.f0), .int .i64 ((Zc J0 J2).f1.f1), .bool ((Zc J0 J2).f1.f2), .int .i64 ((Zc J0 J2).f1.f3.f0), .int .u64 ((Zc J0 J2).f1.f3.f1), .int .u64 ((Zc J0 J2).f1.f3.f2), .int .i64 ((Zc J0 J2).f1.f4), .bool ((Zc J0 J2).f1.f5), .int .i64 ((Zc J0 J2).f1.f6), .slice A106_10 ((Zc J0 J2).f1.f7).length c106_10, .int .i64 0, .int .i64 0, .slice none 0 0]) ?_ 11 _ rfl; (with_reducible repeat (first | refine Zf ?_ _ | refine Zg ?_ | refine Ze ?_ _)); refine Zk (cs := #[.int .i64 ((Zc J0 J2).f0), .int .i64 ((Zc J0 J2).f1.f0), .int .i64 ((Zc J0 J2).f1.f1), .bool ((Zc J0 J2).f1.f2), .int .i64 ((Zc J0 J2).f1.f3.f0), .int .u64 ((Zc J0 J2).f1.f3.f1), .int .u64 ((Zc J0 J2).f1.f3.f2), .int .i64 ((Zc J0 J2).f1.f4), .bool ((Zc J0 J2).f1.f5), .int .i64 ((Zc J0 J2).f1.f6), .slice none 0 0, .int .i64 0, .int .i64 0, .slice none 0 0]) ?_ 10 _ rfl; (with_reducible repeat (first | refine Zf ?_ _ | refine Zg ?_ | refine Ze ?_ _)); refine Zk (cs := #[.int .i64 ((Zc J0 J2).f0), .int .i64 ((Zc J0 J2).f1.f0), .int .i64 ((Zc J0 J2).f1.f1), .bool ((Zc J0 J2).f1.f2), .int .i64 ((Zc J0 J2).f1.f3.f0), .int .u64 ((Zc J0 J2).f1.f3.f1), .int .u64 ((Zc J0 J2).f1.f3.f2), .int .i64 ((Zc J0 J2).f1.f4), .bool ((Zc J0 J2).f1.f5), .int .i64 0, .slice none 0 0, .int .i64 0, .int .i64 0, .slice none 0 0]) ?_ 9 _ rfl; (with_reducible repeat (first | refine Zf ?_ _ | refine Zg ?_ | refine Ze ?_ _)); refine Zk (cs := #[.int .i64 ((Zc J0 J2).f0), .int .i64 ((Zc J0 J2).f1.f0), .int .i64 ((Zc J0 J2).f1.f1), .bool ((Zc J0 J2).f1.f2), .int .i64 ((Zc J0 J2).f1.f3.f0), .int .u64 ((Zc J0 J2).f1.f3.f1), .int .u64 ((Zc J0 J2).f1.f3.f2), .int .i64 ((Zc J0 J2).f1.f4), .bool false, .int .i64 0, .slice none 0 0, .int .i64 0, .int .i64 0, .slice none 0 0]) ?_ 8 _ rfl; (with_reducible repeat (first | refine Zf ?_ _ | refine Zg ?_ | refine Ze ?_ _)); refine Zk (cs := #[.int .i64 ((Zc J0 J2).f0), .int .i64 ((Zc J0 J2).f1.f0), .int .i64 ((Zc J0 J2).f1.f1), .bool ((Zc J0 J2).f1.f2), .int .i64 ((Zc J0 J2).f1.f3.f0), .int .u64 ((Zc J0 J2).f1.f3.f1), .int .u64 ((Zc J0 J2).f1.f3.f2), .int .i64 0, .bool false, .int .i64 0, .slice none 0 0, .int .i64 0, .int .i64 0, .slice none 0 0]) ?_ 7 _ rfl; (with_reducible repeat (first | refine Zf ?_ _ | refine Zg ?_ | refine Ze ?_ _)); refine Zk (cs := #[.int .i64 ((Zc J0 J2).f0), .int .i64 ((Zc J0 J2).f1.f0), .int .i64 ((Zc J0 J2).f1.f1), .bool ((Zc J0 J2).f1.f2), .int .i64 ((Zc J0 J2).f1.f3.f0), .int .u64 ((Zc J0 J2).f1.f3.f1), .int .u64 0, .int .i64 0, .bool false, .int .i64 0, .slice none 0 0, .int .i64 0, .int .i64 0, .slice none 0 0]) ?_ 6 _ rfl; (with_reducible repeat (first | refine Zf ?_ _ | refine Zg ?_ | refine Ze ?_ _)); refine Zk (cs := #[.int .i64 ((Zc J0 J2).f0), .int .i64 ((Zc J0 J2).f1.f0), .int .i64 ((Zc J0 J2).f1.f1), .bool ((Zc J0 J2).f1.f2), .int .i64 ((Zc J0 J2).f1.f3.f0), .int .u64 0, .int .u64 0, .int .i64 0, .bool false, .int .i64 0, .slice none 0 0, .int .i64 0, .int .i64 0, .slice none 0 0]) ?_ 5 _ rfl; (with_reducible repeat (first | refine Zf ?_ _ | refine Zg ?_ | refine Ze ?_ _)); refine Zk (cs := #[.int .i64 ((Zc J0 J2).f0), .int .i64 ((Zc J0 J2).f1.f0), .int .i64 ((Zc J0 J2).f1.f1), .bool ((Zc J0 J2).f1.f2), .int .i64 0, .int .u64 0, .int .u64 0, .int .i64 0, .bool false, .int .i64 0, .slice none 0 0, .int .i64 0, .int .i64 0, .slice none 0 0]) ?_ 4 _ rfl; (with_reducible repeat (first | refine Zf ?_ _ | refine Zg ?_ | refine Ze ?_ _)); refine Zk (cs := #[.int .i64 ((Zc J0 J2).f0), .int .i64 ((Zc J0 J2).f1.f0), .int .i64 ((Zc J0 J2).f1.f1), .bool false, .int .i64 0, .int .u64 0, .int .u64 0, .int .i64 0, .bool false, .int .i64 0, .slice none 0 0, .int .i64 0, .int .i64 0, .slice none 0 0]) ?_ 3 _ rfl; (with_reducible repeat (first | refine Zf ?_ _ | refine Zg ?_ | refine Ze ?_ _)); refine Zk (cs := #[.int .i64 ((Zc J0 J2).f0), .int .i64 ((Zc J0 J2).f1.f0), .int .i64 0, .bool false, .int .i64 0, .int .u64 0, .int .u64 0, .int .i64 0, .bool false, .int .i64 0, .slice none 0 0, .int .i64 0, .int .i64 0, .slice none 0 0]) ?_ 2 _ rfl; (with_reducible repeat (first | refine Zf ?_ _ | refine Zg ?_ | refine Ze ?_ _)); refine Zk (cs := #[.int .i64 ((Zc J0 J2).f0), .int .i64 0, .int .i64 0, .bool false, .int .i64 0, .int .u64 0, .int .u64 0, .int .i64 0, .bool false, .int .i64 0, .slice none 0 0, .int .i64 0, .int .i64 0, .slice none 0 0]) ?_ 1 _ rfl; (with_reducible repeat (first | refine Zf ?_ _ | refine Zg ?_ | refine Ze ?_ _)); refine Zk (cs := #[.int .i64 0, .int .i64 0, .int .i64 0, .bool false, .int .i64 0, .int .u64 0, .int .u64 0, .int .i64 0, .bool false, .int .i64 0, .slice none 0 0, .int .i64 0, .int .i64 0, .slice none 0 0]) ?_ 0 _ rfl; (with_reducible repeat (first | refine Zf ?_ _ | refine Zg ?_ | refine Ze ?_ _)); exact J5.out) hb); have n2_ := Zd.mk (Zj (by repeat (first | (with_reducible first | exact HB.out | apply Xm | apply Xi | apply Xj | refine Xc ?_ GE101.out | refine Xc ?_ GE107.out) | exact HB.out)) hb); clear J1; clear J5; clear HB; have J1 := n0_; have J5 := n1_; have HB := n2_; clear n0_ n1_ n2_; (try clear hb); (try clear hb2); (try clear hk); (try clear hi)))
          go_roundg k1
          case measure => have := HK1.out; omega
          case rel => exact ⟨(ji31), (wrap64 (J2 + 1)), (by first | rfl | (simp; done) | (simp only [← hji31] <;> (first | rfl | simp)) | (simp [*]; done)), (by first | rfl | (simp; done) | (simp [*]; done)), H', ⟨by have := HK1.out; omega⟩, ⟨J1.out⟩, ⟨HB.out⟩⟩
         ·rw [if_neg c29] at H
          exact absurd H (by simp)
        ·rw [if_neg c28] at H
         exact absurd H (by simp)
       ·rw [if_neg c27] at H
        have c27b0 : decide (J2 < (J0.length : Int)) = false := decide_eq_false c27
        clear c27
        obtain ⟨ji36, hji36⟩ : ∃ j_ : Int, (mn Jl 1000) = j_ := ⟨_, rfl⟩
        replace H : (some ji36) = some r := by first | (rw [hji36] at H; exact H) | (simp only [hji36] at H ⊢; exact H)
        have hji36_ : (if 1000 < Jl then 1000 else Jl) = ji36 := hji36
        obtain rfl := Option.some.inj H
        go_wp2
        go_ret
        exact ⟨by first | rfl | (simp [errW_none, errW_some] <;> rfl) | (simp only [← hji36]; first | rfl | (simp [errW_none, errW_some] <;> rfl)) | (simp [*, errW_none, errW_some] <;> rfl), HB.out⟩
  ·rw [if_neg c5] at H
   exact absurd H (by simp)
end Go.Proofs.Ytkbkndfonccekaa.PF
