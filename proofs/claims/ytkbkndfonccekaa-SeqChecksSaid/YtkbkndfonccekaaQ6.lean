/- Joined by this session's own program out of its texts: PFx25 Spans PFx10 PFx11. -/
import Derived.Test.YtkbkndfonccekaaQ1
import Derived.Test.YtkbkndfonccekaaQ2
import Derived.Test.YtkbkndfonccekaaQ3
import Derived.Test.YtkbkndfonccekaaQ4
import Derived.Test.YtkbkndfonccekaaQ5
namespace Go.Proofs.Ytkbkndfonccekaa.PF
open Go.RowKit Go.Proofs.YtkbkndfonccekaaW.PrintWords Go.Proofs.YtkbkndfonccekaaW.PrintLast Go.Proofs.YtkbkndfonccekaaW.PrintMore
attribute [local go_sem] Qn Qp Kq Kt
set_option linter.unusedVariables false
set_option linter.unusedSimpArgs false
mutual
def Zy.l0 : Nat → List (Qh) → List (Vd) → Int → Int → Option ((List (Qh)))
  | 0, _, _, _, _ => none
  | k + 1, x3, x13, x14, x15 => if x15 < x14 then (if 0 ≤ x15 then (if x15 < (x13.length : Int) then ((Zy.f k ((Zc x13 x15).f0) ((Zc x13 x15).f1.f0) ((Zc x13 x15).f1.f1) ((Zc x13 x15).f1.f2) ((Zc x13 x15).f1.f3.f0) ((Zc x13 x15).f1.f3.f1) ((Zc x13 x15).f1.f3.f2) ((Zc x13 x15).f1.f4) ((Zc x13 x15).f1.f5) ((Zc x13 x15).f1.f6) ((Zc x13 x15).f1.f7) ((Zc x13 x15).f2) ((Zc x13 x15).f3) ((Zc x13 x15).f4)).bind fun t367 => (if x3.length + t367.length < 1466015503701 then (Zy.l0 k (x3 ++ t367) x13 x14 (wrap64 (x15 + 1))) else (none))) else (none)) else (none)) else (some x3)
def Zy.f : Nat → Int → Int → Int → Bool → Int → Int → Int → Int → Bool → Int → List (Qh) → Int → Int → List (Vd) → Option ((List (Qh)))
  | 0, _, _, _, _, _, _, _, _, _, _, _, _, _, _ => none
  | k + 1, Jq, Jp, Jn, Jk, Jj, Ji, Jg, Jf, Je, Jd, J4, J8, J7, J0 => if Jq = 0 then (some (([(⟨Jp, Jn, Jk, (⟨Jj, Ji, Jg⟩ : S24), Jf, Je, Jd, J4⟩ : Qh)] : List (Qh)))) else (Zy.l0 k ([] : List (Qh)) J0 (J0.length : Int) 0)
end
theorem Zy.mono_l : ∀ k, (∀ y0 y1 y2 y3 y4 y5 y6 y7 y8 y9 y10 y11 y12 y13, Xo (Zy.f k y0 y1 y2 y3 y4 y5 y6 y7 y8 y9 y10 y11 y12 y13) (Zy.f (k + 1) y0 y1 y2 y3 y4 y5 y6 y7 y8 y9 y10 y11 y12 y13)) ∧ (∀ y0 y1 y2 y3, Xo (Zy.l0 k y0 y1 y2 y3) (Zy.l0 (k + 1) y0 y1 y2 y3))
  | 0 => ⟨fun _ _ _ _ _ _ _ _ _ _ _ _ _ _ r h => by simp [Zy.f] at h, fun _ _ _ _ r h => by simp [Zy.l0] at h⟩
  | k + 1 => by
    obtain ⟨ih0, ih1⟩ := Zy.mono_l k
    refine ⟨?_, ?_⟩
    · intro y0 y1 y2 y3 y4 y5 y6 y7 y8 y9 y10 y11 y12 y13
      unfold Zy.f
      repeat' first
      | (with_reducible exact ih0 _ _ _ _ _ _ _ _ _ _ _ _ _ _)
      | (with_reducible exact ih1 _ _ _ _)
      | (with_reducible exact Xo.refl _)
      | (with_reducible exact Xo.none _)
      | (with_reducible refine Xo.ite ?_ ?_)
      | (with_reducible refine Xo.bind ?_ (fun _ => ?_))
      | exact ih0 _ _ _ _ _ _ _ _ _ _ _ _ _ _
      | exact ih1 _ _ _ _
      | exact Xo.none _
      | refine Xo.ite ?_ ?_
      | refine Xo.bind ?_ (fun _ => ?_)
    · intro y0 y1 y2 y3
      unfold Zy.l0
      repeat' first
      | (with_reducible exact ih0 _ _ _ _ _ _ _ _ _ _ _ _ _ _)
      | (with_reducible exact ih1 _ _ _ _)
      | (with_reducible exact Xo.refl _)
      | (with_reducible exact Xo.none _)
      | (with_reducible refine Xo.ite ?_ ?_)
      | (with_reducible refine Xo.bind ?_ (fun _ => ?_))
      | exact ih0 _ _ _ _ _ _ _ _ _ _ _ _ _ _
      | exact ih1 _ _ _ _
      | exact Xo.none _
      | refine Xo.ite ?_ ?_
      | refine Xo.bind ?_ (fun _ => ?_)
set_option maxHeartbeats 8000000 in
set_option maxRecDepth 100000 in
theorem Zy.calls (k : Nat) : ∀ (Jq : Int) (Jp : Int) (Jn : Int) (Jk : Bool) (Jj : Int) (Ji : Int) (Jg : Int) (Jf : Int) (Je : Bool) (Jd : Int) (P0_10_ : Nat → Prop) (A0_10 : Option Addr) (c0_10 : Nat) (J4 : List (Qh)) (J8 : Int) (J7 : Int) (P0_13_ : Nat → Prop) (A0_13 : Option Addr) (c0_13 : Nat) (J0 : List (Vd)) (r : List (Qh)) (w : World) (hs0_10 : Kd.V k27 27 w w.heap.size (fun k_ => P0_10_ k_) (.slice A0_10 J4.length c0_10) J4) (hs0_13 : Kd.V k30 30 w w.heap.size (fun k_ => P0_13_ k_) (.slice A0_13 J0.length c0_13) J0) (h : Zy.f k Jq Jp Jn Jk Jj Ji Jg Jf Je Jd J4 J8 J7 J0 = some r),
 Calls Try.prog 13 #[.agg #[.int .i64 Jq, .int .i64 Jp, .int .i64 Jn, .bool Jk, .int .i64 Jj, .int .u64 Ji, .int .u64 Jg, .int .i64 Jf, .bool Je, .int .i64 Jd, .slice A0_10 J4.length c0_10, .int .i64 J8, .int .i64 J7, .slice A0_13 J0.length c0_13]] w fun e w' => ∃ v0_ : Value, e = .returned (v0_) ∧ Kd.N k27 27 w' w.heap.size (fun k_ => ((P0_10_ k_ ∨ P0_13_ k_) ∨ w.heap.size ≤ k_)) v0_ r ∧ Below w.heap.size w w' := by
 induction k using Nat.strongRecOn with
 | _ k ih =>
 intro Jq Jp Jn Jk Jj Ji Jg Jf Je Jd P0_10_ A0_10 c0_10 J4 J8 J7 P0_13_ A0_13 c0_13 J0 r w hs0_10 hs0_13 h
 cases k with
 | zero => exact absurd h (by simp [Zy.f])
 | succ k =>
 simp only [Zy.f] at h
 have hu30 := Try.underlying30
 have hu27 := Try.underlying27
 have HO0_10 := Zd.mk (show Kd.V k27 27 w w.heap.size (fun k_ => ((P0_10_ k_ ∨ P0_13_ k_) ∨ w.heap.size ≤ k_)) (.slice A0_10 J4.length c0_10) J4 from Kd.Xa hs0_10 (fun k_ hk => .inl (.inl hk)))
 have HO0_13 := Zd.mk (show Kd.V k30 30 w w.heap.size (fun k_ => ((P0_10_ k_ ∨ P0_13_ k_) ∨ w.heap.size ≤ k_)) (.slice A0_13 J0.length c0_13) J0 from Kd.Xa hs0_13 (fun k_ hk => .inl (.inr hk)))
 have HB := Zd.mk (Below.refl w.heap.size w)
 have H : (if Jq = 0 then (some (([(⟨Jp, Jn, Jk, (⟨Jj, Ji, Jg⟩ : S24), Jf, Je, Jd, J4⟩ : Qh)] : List (Qh)))) else (Zy.l0 k ([] : List (Qh)) J0 (J0.length : Int) 0)) = some r := h
 clear h
 by_cases c2 : Jq = 0
 ·rw [if_pos c2] at H
  have c2b0 : (Jq == 0) = true := beq_iff_eq.mpr c2
  have c2b1 : (Jq != 0) = false := bne_eq_false_iff_eq.mpr c2
  clear c2
  obtain ⟨y362, hy362⟩ : ∃ y_ : List (Qh), y_ = (([(⟨Jp, Jn, Jk, (⟨Jj, Ji, Jg⟩ : S24), Jf, Je, Jd, J4⟩ : Qh)] : List (Qh))) := ⟨_, rfl⟩
  replace H : (some y362) = some r := by first | (rw [hy362]; with_reducible exact H) | (have H2_ := (Option.bind_some _ _).symm.trans H; rw [hy362]; with_reducible exact H2_) | (have H2_ := (Option.bind_some _ _).symm.trans H; with_reducible exact H2_) | with_reducible exact H | (rw [hy362]; exact H) | exact H
  have Ny362 := Zd.mk hy362
  clear hy362
  obtain rfl := Option.some.inj H
  go_enter Try.func13, Try.ntmps13
  go_wp2_with (first | ((with_reducible refine Xd (N := 1) rfl ?_); refine Xe ?hg (N := 1) ?hd (cs := #[.int .i64 Jq, .int .i64 Jp, .int .i64 Jn, .bool Jk, .int .i64 Jj, .int .u64 Ji, .int .u64 Jg, .int .i64 Jf, .bool Je, .int .i64 Jd, .slice A0_10 J4.length c0_10, .int .i64 J8, .int .i64 J7, .slice A0_13 J0.length c0_13]) (t := 30) ?hr ?_; (case hd => rfl); (case hg => rfl); (case hr => first | (go_simp; done) | (go_simp; rfl)); intro Jb hg w3 hbox hb; have n0_ := Zd.mk (Kd.Xl (Kd.Xx HO0_10.out Jb (Nat.le_of_eq hg.symm)) hb); have n1_ := Zd.mk (Kd.Xl (Kd.Xx HO0_13.out Jb (Nat.le_of_eq hg.symm)) hb); have n2_ := Zd.mk (Zj HB.out hb); have n3_ := Zd.mk (hbox); have n4_ := Zd.mk ((by rw [hg]; exact (Zl HB.out) : w.heap.size ≤ Jb)); have n5_ := n4_; clear HO0_10; clear HO0_13; clear HB; have HO0_10 := n0_; have HO0_13 := n1_; have HB := n2_; have J6 := n3_; have GW361 := n4_; have GE361 := n5_; clear n0_ n1_ n2_ n3_ n4_ n5_; clear hb hbox hg; have hcz4_0 : w3.cell? ⟨Jb, 0, none⟩ = some (.int .i64 Jq) := (Za J6.out 0).trans rfl; have hcz4_1 : w3.cell? ⟨Jb, 1, none⟩ = some (.int .i64 Jp) := (Za J6.out 1).trans rfl; have hcz4_2 : w3.cell? ⟨Jb, 2, none⟩ = some (.int .i64 Jn) := (Za J6.out 2).trans rfl; have hcz4_3 : w3.cell? ⟨Jb, 3, none⟩ = some (.bool Jk) := (Za J6.out 3).trans rfl; have hcz4_4 : w3.cell? ⟨Jb, 4, none⟩ = some (.int .i64 Jj) := (Za J6.out 4).trans rfl; have hcz4_5 : w3.cell? ⟨Jb, 5, none⟩ = some (.int .u64 Ji) := (Za J6.out 5).trans rfl; have hcz4_6 : w3.cell? ⟨Jb, 6, none⟩ = some (.int .u64 Jg) := (Za J6.out 6).trans rfl; have hcz4_7 : w3.cell? ⟨Jb, 7, none⟩ = some (.int .i64 Jf) := (Za J6.out 7).trans rfl; have hcz4_8 : w3.cell? ⟨Jb, 8, none⟩ = some (.bool Je) := (Za J6.out 8).trans rfl; have hcz4_9 : w3.cell? ⟨Jb, 9, none⟩ = some (.int .i64 Jd) := (Za J6.out 9).trans rfl; have hcz4_10 : w3.cell? ⟨Jb, 10, none⟩ = some (.slice A0_10 J4.length c0_10) := (Za J6.out 10).trans rfl; have hcz4_11 : w3.cell? ⟨Jb, 11, none⟩ = some (.int .i64 J8) := (Za J6.out 11).trans rfl; have hcz4_12 : w3.cell? ⟨Jb, 12, none⟩ = some (.int .i64 J7) := (Za J6.out 12).trans rfl; have hcz4_13 : w3.cell? ⟨Jb, 13, none⟩ = some (.slice A0_13 J0.length c0_13) := (Za J6.out 13).trans rfl; have hfz4_0 := Zb J6.out 0; have hfz4_1 := Zb J6.out 1; have hfz4_2 := Zb J6.out 2; have hfz4_3 := Zb J6.out 3; have hfz4_4 := Zb J6.out 4; have hfz4_5 := Zb J6.out 5; have hfz4_6 := Zb J6.out 6; have hfz4_7 := Zb J6.out 7; have hfz4_8 := Zb J6.out 8; have hfz4_9 := Zb J6.out 9; have hfz4_10 := Zb J6.out 10; have hfz4_11 := Zb J6.out 11; have hfz4_12 := Zb J6.out 12; have hfz4_13 := Zb J6.out 13) | ((with_reducible refine Xd (N := 11) rfl ?_); refine Kd.N_lit k27 _ 27 ?hg (N' := 11) ?hd (xs := ([(⟨Jp, Jn, Jk, (⟨Jj, Ji, Jg⟩ : S24), Jf, Je, Jd, J4⟩ : Qh)] : List (Qh))) (inner := [.int .i64 Jp, .int .i64 Jn, .bool Jk, .int .i64 Jj, .int .u64 Ji, .int .u64 Jg, .int .i64 Jf, .bool Je, .int .i64 Jd, .slice A0_10 J4.length c0_10]) (ok := (fun k_ => ((P0_10_ k_ ∨ P0_13_ k_) ∨ w.heap.size ≤ k_) ∧ k_ ≠ Jb)) (okp := (fun k_ => ((P0_10_ k_ ∨ P0_13_ k_) ∨ w.heap.size ≤ k_) ∧ k_ ≠ Jb)) ?hr ?hp (fun _ hk => hk) ((show ∀ k_, w3.heap.size ≤ k_ → (fun k_ => ((P0_10_ k_ ∨ P0_13_ k_) ∨ w.heap.size ≤ k_) ∧ k_ ≠ Jb) k_ from fun k_ hk => ⟨(.inr (Nat.le_trans (Zl HB.out) hk)), Kd.Kw J6.out k_ hk⟩) _ (Nat.le_refl _)) (Below.refl _ _) (Nat.le_refl _) (by simp) ?_; (case hd => rfl); (case hg => rfl); (case hr => first | (go_simp; done) | (go_simp; rfl)); (case hp => exact (Ku.c10 (show Kd.FK k27 _ _ (⟨Jp, Jn, Jk, (⟨Jj, Ji, Jg⟩ : S24), Jf, Je, Jd, J4⟩ : Qh) [.int .i64 Jp, .int .i64 Jn, .bool Jk, .int .i64 Jj, .int .u64 Ji, .int .u64 Jg, .int .i64 Jf, .bool Je, .int .i64 Jd, .slice A0_10 J4.length c0_10] from (k27_mkF _ _ (⟨Jp, Jn, Jk, (⟨Jj, Ji, Jg⟩ : S24), Jf, Je, Jd, J4⟩ : Qh) (Kd.Xw (Kd.Xa (ok' := (fun k_ => ((P0_10_ k_ ∨ P0_13_ k_) ∨ w.heap.size ≤ k_) ∧ k_ ≠ Jb)) HO0_10.out (fun k_ hk => ⟨hk.1, hk.2⟩))).2.1 (Kd.V_F (Kd.Xa (ok' := (fun k_ => ((P0_10_ k_ ∨ P0_13_ k_) ∨ w.heap.size ≤ k_) ∧ k_ ≠ Jb)) HO0_10.out (fun k_ hk => ⟨hk.1, hk.2⟩))))) (Ku.none _ _))); intro v363 w5 ho6 hb hg_ hnew_; clear hg_ hnew_; (first | rw [← Ny362.out] at ho6 | (simp only [Int.reduceToNat] at ho6; rw [← Ny362.out] at ho6)); have n0_ := Zd.mk (Kd.Qy HO0_10.out (Kd.Qr ho6) hb); have n1_ := Zd.mk (Kd.Qy HO0_13.out (Kd.Qr ho6) hb); have n2_ := Zd.mk (Kd.Vb ho6 (Zl HB.out)); have n3_ := Zd.mk (Zp J6.out hb); have n4_ := Zd.mk (Zj HB.out hb); clear HO0_10; clear HO0_13; clear J6; clear HB; have HO0_10 := n0_; have HO0_13 := n1_; have HO364 := n2_; have J6 := n3_; have HB := n4_; clear n0_ n1_ n2_ n3_ n4_; clear hb ho6))
  go_ret
  exact ⟨_, by first | rfl | (simp [errW_none, errW_some] <;> rfl) | (simp [*, errW_none, errW_some] <;> rfl), by (with_reducible repeat (first | apply Kd.N_alloc | apply Kd.N_drewN | apply Kd.Vg)); exact Kd.Xq HO364.out (fun _ hk => hk.1), HB.out⟩
 ·rw [if_neg c2] at H
  have c2b0 : (Jq == 0) = false := beq_eq_false_iff_ne.mpr c2
  have c2b1 : (Jq != 0) = true := bne_iff_ne.mpr c2
  have H' := Zd.mk H
  clear H
  go_enter Try.func13, Try.ntmps13
  go_wp2_with (((with_reducible refine Xd (N := 1) rfl ?_); refine Xe ?hg (N := 1) ?hd (cs := #[.int .i64 Jq, .int .i64 Jp, .int .i64 Jn, .bool Jk, .int .i64 Jj, .int .u64 Ji, .int .u64 Jg, .int .i64 Jf, .bool Je, .int .i64 Jd, .slice A0_10 J4.length c0_10, .int .i64 J8, .int .i64 J7, .slice A0_13 J0.length c0_13]) (t := 30) ?hr ?_; (case hd => rfl); (case hg => rfl); (case hr => first | (go_simp; done) | (go_simp; rfl)); intro Jb hg w7 hbox hb; have n0_ := Zd.mk (Kd.Xl (Kd.Xx HO0_10.out Jb (Nat.le_of_eq hg.symm)) hb); have n1_ := Zd.mk (Kd.Xl (Kd.Xx HO0_13.out Jb (Nat.le_of_eq hg.symm)) hb); have n2_ := Zd.mk (Zj HB.out hb); have n3_ := Zd.mk (hbox); have n4_ := Zd.mk ((by rw [hg]; exact (Zl HB.out) : w.heap.size ≤ Jb)); have n5_ := n4_; clear HO0_10; clear HO0_13; clear HB; have HO0_10 := n0_; have HO0_13 := n1_; have HB := n2_; have J6 := n3_; have GW361 := n4_; have GE361 := n5_; clear n0_ n1_ n2_ n3_ n4_ n5_; clear hb hbox hg; have Mk : w7.cell? ⟨Jb, 0, none⟩ = some (.int .i64 Jq) := (Za J6.out 0).trans rfl; have Mj : w7.cell? ⟨Jb, 1, none⟩ = some (.int .i64 Jp) := (Za J6.out 1).trans rfl; have Mi : w7.cell? ⟨Jb, 2, none⟩ = some (.int .i64 Jn) := (Za J6.out 2).trans rfl; have Mh : w7.cell? ⟨Jb, 3, none⟩ = some (.bool Jk) := (Za J6.out 3).trans rfl; have Mg : w7.cell? ⟨Jb, 4, none⟩ = some (.int .i64 Jj) := (Za J6.out 4).trans rfl; have Mf : w7.cell? ⟨Jb, 5, none⟩ = some (.int .u64 Ji) := (Za J6.out 5).trans rfl; have Me : w7.cell? ⟨Jb, 6, none⟩ = some (.int .u64 Jg) := (Za J6.out 6).trans rfl; have Md : w7.cell? ⟨Jb, 7, none⟩ = some (.int .i64 Jf) := (Za J6.out 7).trans rfl; have Mc : w7.cell? ⟨Jb, 8, none⟩ = some (.bool Je) := (Za J6.out 8).trans rfl; have Mb : w7.cell? ⟨Jb, 9, none⟩ = some (.int .i64 Jd) := (Za J6.out 9).trans rfl; have JS : w7.cell? ⟨Jb, 10, none⟩ = some (.slice A0_10 J4.length c0_10) := (Za J6.out 10).trans rfl; have JR : w7.cell? ⟨Jb, 11, none⟩ = some (.int .i64 J8) := (Za J6.out 11).trans rfl; have JQ : w7.cell? ⟨Jb, 12, none⟩ = some (.int .i64 J7) := (Za J6.out 12).trans rfl; have JP : w7.cell? ⟨Jb, 13, none⟩ = some (.slice A0_13 J0.length c0_13) := (Za J6.out 13).trans rfl; have M2 := Zb J6.out 0; have M1 := Zb J6.out 1; have M0 := Zb J6.out 2; have JZ := Zb J6.out 3; have JY := Zb J6.out 4; have JX := Zb J6.out 5; have JW := Zb J6.out 6; have JV := Zb J6.out 7; have JU := Zb J6.out 8; have JT := Zb J6.out 9; have JO := Zb J6.out 10; have JN := Zb J6.out 11; have JM := Zb J6.out 12; have JL := Zb J6.out 13))
  go_loopg [3, 15] k (fun kq v3 v15 w' => ∃ (Ju : List (Qh)) (J1 : Int), v15 = .int .i64 J1 ∧ Zd (Zy.l0 kq Ju J0 (J0.length : Int) J1 = some r) ∧ Zd (kq ≤ k) ∧ Zd (Kd.N k27 27 w' w.heap.size (fun k_ => ((P0_10_ k_ ∨ P0_13_ k_) ∨ w.heap.size ≤ k_) ∧ k_ ≠ Jb) v3 Ju) ∧ Zd (Kd.V k30 30 w' w.heap.size (fun k_ => ((P0_10_ k_ ∨ P0_13_ k_) ∨ w.heap.size ≤ k_) ∧ some k_ ≠ (v3 : Value).ownBlock ∧ k_ ≠ Jb) (.slice A0_13 J0.length c0_13) J0) ∧ Zd (Kd.V k27 27 w' w.heap.size (fun k_ => ((P0_10_ k_ ∨ P0_13_ k_) ∨ w.heap.size ≤ k_) ∧ some k_ ≠ (v3 : Value).ownBlock ∧ k_ ≠ Jb) (.slice A0_10 J4.length c0_10) J4) ∧ Zd (Kd.V k30 30 w' w.heap.size (fun k_ => ((P0_10_ k_ ∨ P0_13_ k_) ∨ w.heap.size ≤ k_) ∧ some k_ ≠ (v3 : Value).ownBlock ∧ k_ ≠ Jb) (.slice A0_13 J0.length c0_13) J0) ∧ Zd (w'.heap[Jb]? = some (.cells #[.int .i64 Jq, .int .i64 Jp, .int .i64 Jn, .bool Jk, .int .i64 Jj, .int .u64 Ji, .int .u64 Jg, .int .i64 Jf, .bool Je, .int .i64 Jd, (.slice A0_10 J4.length c0_10), .int .i64 J8, .int .i64 J7, (.slice A0_13 J0.length c0_13)] 30 (0, 0))) ∧ Zd (Below w.heap.size w w'))
  case atStart => exact ⟨(([] : List (Qh))), (0), (by first | rfl | (simp; done) | (simp [*]; done)), H', ⟨Nat.le_refl _⟩, ⟨by first | exact Kd.R_nil _ _ _ _ _ | exact Kd.N_nil _ _ _ _ _ | exact Kd.V_nil _ _ _ _ _ | exact Kd.Q_nil _ _ _ _ _ | exact Kd.S_nil _ _ _ _ _⟩, ⟨by (with_reducible repeat (first | apply Kd.V_alloc | apply Kd.V_drewN | apply Kd.Xp)); exact Kd.Xa HO0_13.out (fun _ hk => ⟨hk.1, ⟨(by simp [Value.ownBlock]), hk.2⟩⟩)⟩, ⟨by (with_reducible repeat (first | apply Kd.V_alloc | apply Kd.V_drewN | apply Kd.Xp)); exact Kd.Xa HO0_10.out (fun _ hk => ⟨hk.1, ⟨(by simp [Value.ownBlock]), hk.2⟩⟩)⟩, ⟨by (with_reducible repeat (first | apply Kd.V_alloc | apply Kd.V_drewN | apply Kd.Xp)); exact Kd.Xa HO0_13.out (fun _ hk => ⟨hk.1, ⟨(by simp [Value.ownBlock]), hk.2⟩⟩)⟩, ⟨J6.out⟩, ⟨HB.out⟩⟩
  case round =>
   clear H'
   try clear c2
   try clear c2b0
   try clear c2b1
   try clear Mk
   try clear Mj
   try clear JS
   try clear JR
   try clear JQ
   try clear JP
   try clear Mi
   try clear Mh
   try clear Mg
   try clear Mf
   try clear Me
   try clear Md
   try clear Mc
   try clear Mb
   try clear M2
   try clear M1
   try clear JO
   try clear JN
   try clear JM
   try clear JL
   try clear M0
   try clear JZ
   try clear JY
   try clear JX
   try clear JW
   try clear JV
   try clear JU
   try clear JT
   obtain ⟨Ju, J1, rfl, HA, HK1, HO_3, HO_13, HO_362010, HO_362013, J6, HB⟩ := hrel
   cases gk with
   | zero => exact absurd HA.out (by simp [Zy.l0])
   | succ k1 =>
    have H := HA.out
    clear HA
    simp only [Zy.l0] at H
    by_cases c9 : J1 < (J0.length : Int)
    ·rw [if_pos c9] at H
     have c9b0 : decide (J1 < (J0.length : Int)) = true := decide_eq_true c9
     clear c9
     by_cases c10 : 0 ≤ J1
     ·rw [if_pos c10] at H
      have c10b0 : decide (0 ≤ J1) = true := decide_eq_true c10
      clear c10
      by_cases c11 : J1 < (J0.length : Int)
      ·rw [if_pos c11] at H
       have c11b0 : decide (J1 < (J0.length : Int)) = true := decide_eq_true c11
       clear c11
       replace H := Option.bind_eq_some_iff.mp H
       obtain ⟨t367, A120, H⟩ := H
       replace H : (if Ju.length + t367.length < 1466015503701 then (Zy.l0 k1 (Ju ++ t367) J0 (J0.length : Int) (wrap64 (J1 + 1))) else (none)) = some r := H
       have A12 := Zd.mk A120
       clear A120
       by_cases c13 : Ju.length + t367.length < 1466015503701
       ·rw [if_pos c13] at H
        have LMc13 := Zd.mk c13
        clear c13
        obtain ⟨y370, hy370⟩ : ∃ y_ : List (Qh), y_ = (Ju ++ t367) := ⟨_, rfl⟩
        replace H : (Zy.l0 k1 y370 J0 (J0.length : Int) (wrap64 (J1 + 1))) = some r := by first | (rw [hy370]; with_reducible exact H) | (have H2_ := (Option.bind_some _ _).symm.trans H; rw [hy370]; with_reducible exact H2_) | (have H2_ := (Option.bind_some _ _).symm.trans H; with_reducible exact H2_) | with_reducible exact H | (rw [hy370]; exact H) | exact H
        have Ny370 := Zd.mk hy370
        clear hy370
        have H' := Zd.mk H
        clear H
        have p365 : 0 ≤ (J1 : Int) := of_decide_eq_true (by first | (with_reducible assumption) | assumption)
        have q365 : J1 < (J0.length : Int) := of_decide_eq_true (by first | (with_reducible assumption) | assumption)
        obtain ⟨ad365, A365_10, c365_10, A365_13, c365_13, e365, hx365_0, hx365_1, hx365_2, hx365_3, hx365_4, hx365_5, hx365_6, hx365_7, hx365_8, hx365_9, hx365_10, hx365_11, hx365_12, hx365_13, hl365_10, hi365_10, hl365_13, hi365_13⟩ := Jc (Kd.Xw HO_13.out).2.2 J1 p365 q365
        cases e365
        obtain ⟨ce365, hce365, hMe365, hcc365⟩ := Kd.V_get HO_13.out z30 J1 p365 (by first | exact q365 | exact of_decide_eq_true (by first | (with_reducible assumption) | assumption) | (have e_ := (Kd.Xw HO_13.out).1; omega))
        obtain ⟨ua365_10, uc365_10, ua365_13, uc365_13, rfl, ul365_10, ge365_10, ul365_13, ge365_13⟩ := k30_openF hMe365
        have hv365_10 := hcc365 10 _ rfl
        rw [Qc _ _ 10 (by omega)] at hv365_10
        replace hv365_10 := Option.some.inj (hv365_10.symm.trans hx365_10)
        injection hv365_10 with hva_ hvn_ hvc_
        rw [hva_] at ge365_10
        rw [hvc_] at ul365_10
        have HL365_10 := Zd.mk (show Kd.V k27 27 _ w.heap.size _ _ ((Zc J0 J1).f1.f7) from Kd.Wj ul365_10 ge365_10)
        clear hva_ hvn_ hvc_ ge365_10 ul365_10
        have hv365_13 := hcc365 13 _ rfl
        rw [Qc _ _ 13 (by omega)] at hv365_13
        replace hv365_13 := Option.some.inj (hv365_13.symm.trans hx365_13)
        injection hv365_13 with hva_ hvn_ hvc_
        rw [hva_] at ge365_13
        rw [hvc_] at ul365_13
        have HL365_13 := Zd.mk (show Kd.V k30 30 _ w.heap.size _ _ ((Zc J0 J1).f4) from Kd.Wj ul365_13 ge365_13)
        clear hva_ hvn_ hvc_ ge365_13 ul365_13
        clear hcc365 hce365
        have HR365_10 := Zd.mk hi365_10
        have HC365_10 := Zd.mk hl365_10
        clear hi365_10 hl365_10
        have HR365_13 := Zd.mk hi365_13
        have HC365_13 := Zd.mk hl365_13
        clear hi365_13 hl365_13
        replace p365 := eq_true p365
        replace q365 := eq_true q365
        go_wp2_with (first | ((with_reducible refine Xd (N := 5) rfl ?_); refine Xe ?hg (N := 5) ?hd (cs := #[.int .i64 0, .int .i64 0, .int .i64 0, .bool false, .int .i64 0, .int .u64 0, .int .u64 0, .int .i64 0, .bool false, .int .i64 0, .slice none 0 0, .int .i64 0, .int .i64 0, .slice none 0 0]) (t := 30) ?hr ?_; (case hd => rfl); (case hg => rfl); (case hr => first | (go_simp; done) | (go_simp; rfl)); intro J2 hg w14 hbox hb; have n0_ := Zd.mk (Kd.Kr (Kd.N_elderB HO_3.out J2 (Nat.le_of_eq hg.symm)) hb); have n1_ := Zd.mk (Kd.Xl (Kd.Xx HO_13.out J2 (Nat.le_of_eq hg.symm)) hb); have n2_ := Zd.mk (Kd.Xl (Kd.Xx HO_362010.out J2 (Nat.le_of_eq hg.symm)) hb); have n3_ := Zd.mk (Kd.Xl (Kd.Xx HO_362013.out J2 (Nat.le_of_eq hg.symm)) hb); have n4_ := Zd.mk (Kd.Xl (Kd.Xx HL365_10.out J2 (Nat.le_of_eq hg.symm)) hb); have n5_ := Zd.mk (Kd.Xl (Kd.Xx HL365_13.out J2 (Nat.le_of_eq hg.symm)) hb); have n6_ := Zd.mk (Zp J6.out hb); have n7_ := Zd.mk (Kd.Zw (by repeat (first | (with_reducible exact HR365_10.out) | (with_reducible refine Kd.C_alloc ?_ _) | (with_reducible refine Kd.C_drewN ?_ _) | (with_reducible refine Kd.C_drew ?_) | exact HR365_10.out)) hb); have n8_ := Zd.mk (Kd.Zw (by repeat (first | (with_reducible exact HR365_13.out) | (with_reducible refine Kd.C_alloc ?_ _) | (with_reducible refine Kd.C_drewN ?_ _) | (with_reducible refine Kd.C_drew ?_) | exact HR365_13.out)) hb); have n9_ := Zd.mk (Zj HB.out hb); have n10_ := Zd.mk (hbox); have n11_ := Zd.mk ((by rw [hg]; exact (Zl HB.out) : w.heap.size ≤ J2)); have n12_ := n11_; have n13_ := Zd.mk ((by rw [hg]; exact Nat.ne_of_lt (Kv J6.out) : Jb ≠ J2)); have n14_ := Zd.mk ((by rw [hg]; exact Nat.ne_of_gt (Kv J6.out) : J2 ≠ Jb)); clear HO_3; clear HO_13; clear HO_362010; clear HO_362013; clear HL365_10; clear HL365_13; clear J6; clear HR365_10; clear HR365_13; clear HB; have HO_3 := n0_; have HO_13 := n1_; have HO_362010 := n2_; have HO_362013 := n3_; have HL365_10 := n4_; have HL365_13 := n5_; have J6 := n6_; have HR365_10 := n7_; have HR365_13 := n8_; have HB := n9_; have J9 := n10_; have GW366 := n11_; have GE366 := n12_; have NB361_366 := n13_; have NB366_361 := n14_; clear n0_ n1_ n2_ n3_ n4_ n5_ n6_ n7_ n8_ n9_ n10_ n11_ n12_ n13_ n14_; clear hb hbox hg; have hnb15 := NB366_361.out; have hnc15 := NB361_366.out; have hcz16_0 : w14.cell? ⟨J2, 0, none⟩ = some (.int .i64 0) := (Za J9.out 0).trans rfl; have hcz16_1 : w14.cell? ⟨J2, 1, none⟩ = some (.int .i64 0) := (Za J9.out 1).trans rfl; have hcz16_2 : w14.cell? ⟨J2, 2, none⟩ = some (.int .i64 0) := (Za J9.out 2).trans rfl; have hcz16_3 : w14.cell? ⟨J2, 3, none⟩ = some (.bool false) := (Za J9.out 3).trans rfl; have hcz16_4 : w14.cell? ⟨J2, 4, none⟩ = some (.int .i64 0) := (Za J9.out 4).trans rfl; have hcz16_5 : w14.cell? ⟨J2, 5, none⟩ = some (.int .u64 0) := (Za J9.out 5).trans rfl; have hcz16_6 : w14.cell? ⟨J2, 6, none⟩ = some (.int .u64 0) := (Za J9.out 6).trans rfl; have hcz16_7 : w14.cell? ⟨J2, 7, none⟩ = some (.int .i64 0) := (Za J9.out 7).trans rfl; have hcz16_8 : w14.cell? ⟨J2, 8, none⟩ = some (.bool false) := (Za J9.out 8).trans rfl; have hcz16_9 : w14.cell? ⟨J2, 9, none⟩ = some (.int .i64 0) := (Za J9.out 9).trans rfl; have Ms : w14.cell? ⟨J2, 10, none⟩ = some (.slice none 0 0) := (Za J9.out 10).trans rfl; have Mr : w14.cell? ⟨J2, 11, none⟩ = some (.int .i64 0) := (Za J9.out 11).trans rfl; have Mq : w14.cell? ⟨J2, 12, none⟩ = some (.int .i64 0) := (Za J9.out 12).trans rfl; have Mp : w14.cell? ⟨J2, 13, none⟩ = some (.slice none 0 0) := (Za J9.out 13).trans rfl; have hfz16_0 := Zb J9.out 0; have hfz16_1 := Zb J9.out 1; have hfz16_2 := Zb J9.out 2; have hfz16_3 := Zb J9.out 3; have hfz16_4 := Zb J9.out 4; have hfz16_5 := Zb J9.out 5; have hfz16_6 := Zb J9.out 6; have hfz16_7 := Zb J9.out 7; have hfz16_8 := Zb J9.out 8; have hfz16_9 := Zb J9.out 9; have Ma := Zb J9.out 10; have M9 := Zb J9.out 11; have M8 := Zb J9.out 12; have M7 := Zb J9.out 13) | ((with_reducible refine Wl (t := 30) (p := 5) rfl ?_); refine Jr (t := 30) (p := 5) (v := ?vo_w17) (w1 := ((((((((((((((w14.setCell ⟨J2, 0, none⟩ (.int .i64 ((Zc J0 J1).f0))).setCell ⟨J2, 1, none⟩ (.int .i64 ((Zc J0 J1).f1.f0))).setCell ⟨J2, 2, none⟩ (.int .i64 ((Zc J0 J1).f1.f1))).setCell ⟨J2, 3, none⟩ (.bool ((Zc J0 J1).f1.f2))).setCell ⟨J2, 4, none⟩ (.int .i64 ((Zc J0 J1).f1.f3.f0))).setCell ⟨J2, 5, none⟩ (.int .u64 ((Zc J0 J1).f1.f3.f1))).setCell ⟨J2, 6, none⟩ (.int .u64 ((Zc J0 J1).f1.f3.f2))).setCell ⟨J2, 7, none⟩ (.int .i64 ((Zc J0 J1).f1.f4))).setCell ⟨J2, 8, none⟩ (.bool ((Zc J0 J1).f1.f5))).setCell ⟨J2, 9, none⟩ (.int .i64 ((Zc J0 J1).f1.f6))).setCell ⟨J2, 10, none⟩ (.slice A365_10 ((Zc J0 J1).f1.f7).length c365_10)).setCell ⟨J2, 11, none⟩ (.int .i64 ((Zc J0 J1).f2))).setCell ⟨J2, 12, none⟩ (.int .i64 ((Zc J0 J1).f3))).setCell ⟨J2, 13, none⟩ (.slice A365_13 ((Zc J0 J1).f4).length c365_13))) ?hg ?ho ?hn ?hr ?_; (case ho => rfl); (case hg => rfl); (case hn => rfl); (case hr => first | (go_simp; done) | (go_simp; rfl)); intro w17 hw; have n0_ : Zd (Kd.N k27 27 w17 w.heap.size (fun k_ => ((P0_10_ k_ ∨ P0_13_ k_) ∨ w.heap.size ≤ k_) ∧ k_ ≠ Jb ∧ k_ ≠ J2) u3 Ju) := ⟨(by rw [hw]; exact (by (with_reducible repeat (first | apply Kd.N_alloc | apply Kd.N_drewN | apply Kd.Vg)); exact Kd.Xq (Kd.Xn (p := ⟨J2, 13, none⟩) (Kd.Xn (p := ⟨J2, 12, none⟩) (Kd.Xn (p := ⟨J2, 11, none⟩) (Kd.Xn (p := ⟨J2, 10, none⟩) (Kd.Xn (p := ⟨J2, 9, none⟩) (Kd.Xn (p := ⟨J2, 8, none⟩) (Kd.Xn (p := ⟨J2, 7, none⟩) (Kd.Xn (p := ⟨J2, 6, none⟩) (Kd.Xn (p := ⟨J2, 5, none⟩) (Kd.Xn (p := ⟨J2, 4, none⟩) (Kd.Xn (p := ⟨J2, 3, none⟩) (Kd.Xn (p := ⟨J2, 2, none⟩) (Kd.Xn (p := ⟨J2, 1, none⟩) (Kd.Xn (p := ⟨J2, 0, none⟩) (Kd.Xq HO_3.out (fun k_ hk => (⟨hk, hk.2⟩ : _ ∧ k_ ≠ J2))) (fun _ hk => hk.2) (.int .i64 ((Zc J0 J1).f0))) (fun _ hk => hk.2) (.int .i64 ((Zc J0 J1).f1.f0))) (fun _ hk => hk.2) (.int .i64 ((Zc J0 J1).f1.f1))) (fun _ hk => hk.2) (.bool ((Zc J0 J1).f1.f2))) (fun _ hk => hk.2) (.int .i64 ((Zc J0 J1).f1.f3.f0))) (fun _ hk => hk.2) (.int .u64 ((Zc J0 J1).f1.f3.f1))) (fun _ hk => hk.2) (.int .u64 ((Zc J0 J1).f1.f3.f2))) (fun _ hk => hk.2) (.int .i64 ((Zc J0 J1).f1.f4))) (fun _ hk => hk.2) (.bool ((Zc J0 J1).f1.f5))) (fun _ hk => hk.2) (.int .i64 ((Zc J0 J1).f1.f6))) (fun _ hk => hk.2) (.slice A365_10 ((Zc J0 J1).f1.f7).length c365_10)) (fun _ hk => hk.2) (.int .i64 ((Zc J0 J1).f2))) (fun _ hk => hk.2) (.int .i64 ((Zc J0 J1).f3))) (fun _ hk => hk.2) (.slice A365_13 ((Zc J0 J1).f4).length c365_13)) (fun _ hk => ⟨hk.1.1.1, ⟨hk.1.1.2, hk.1.2⟩⟩)))⟩; have n1_ : Zd (Kd.V k30 30 w17 w.heap.size (fun k_ => ((P0_10_ k_ ∨ P0_13_ k_) ∨ w.heap.size ≤ k_) ∧ some k_ ≠ (u3 : Value).ownBlock ∧ k_ ≠ Jb ∧ k_ ≠ J2) (.slice (some ad365) J0.length c0_13) J0) := ⟨(by rw [hw]; exact (by (with_reducible repeat (first | apply Kd.V_alloc | apply Kd.V_drewN | apply Kd.Xp)); exact Kd.Xa (Kd.Zi (p := ⟨J2, 13, none⟩) (Kd.Zi (p := ⟨J2, 12, none⟩) (Kd.Zi (p := ⟨J2, 11, none⟩) (Kd.Zi (p := ⟨J2, 10, none⟩) (Kd.Zi (p := ⟨J2, 9, none⟩) (Kd.Zi (p := ⟨J2, 8, none⟩) (Kd.Zi (p := ⟨J2, 7, none⟩) (Kd.Zi (p := ⟨J2, 6, none⟩) (Kd.Zi (p := ⟨J2, 5, none⟩) (Kd.Zi (p := ⟨J2, 4, none⟩) (Kd.Zi (p := ⟨J2, 3, none⟩) (Kd.Zi (p := ⟨J2, 2, none⟩) (Kd.Zi (p := ⟨J2, 1, none⟩) (Kd.Zi (p := ⟨J2, 0, none⟩) (Kd.Xa HO_13.out (fun k_ hk => (⟨hk, hk.2⟩ : _ ∧ k_ ≠ J2))) (fun _ hk => hk.2) (.int .i64 ((Zc J0 J1).f0))) (fun _ hk => hk.2) (.int .i64 ((Zc J0 J1).f1.f0))) (fun _ hk => hk.2) (.int .i64 ((Zc J0 J1).f1.f1))) (fun _ hk => hk.2) (.bool ((Zc J0 J1).f1.f2))) (fun _ hk => hk.2) (.int .i64 ((Zc J0 J1).f1.f3.f0))) (fun _ hk => hk.2) (.int .u64 ((Zc J0 J1).f1.f3.f1))) (fun _ hk => hk.2) (.int .u64 ((Zc J0 J1).f1.f3.f2))) (fun _ hk => hk.2) (.int .i64 ((Zc J0 J1).f1.f4))) (fun _ hk => hk.2) (.bool ((Zc J0 J1).f1.f5))) (fun _ hk => hk.2) (.int .i64 ((Zc J0 J1).f1.f6))) (fun _ hk => hk.2) (.slice A365_10 ((Zc J0 J1).f1.f7).length c365_10)) (fun _ hk => hk.2) (.int .i64 ((Zc J0 J1).f2))) (fun _ hk => hk.2) (.int .i64 ((Zc J0 J1).f3))) (fun _ hk => hk.2) (.slice A365_13 ((Zc J0 J1).f4).length c365_13)) (fun _ hk => ⟨hk.1.1.1, ⟨hk.1.1.2.1, ⟨hk.1.1.2.2, hk.1.2⟩⟩⟩)))⟩; have n2_ : Zd (Kd.V k27 27 w17 w.heap.size (fun k_ => ((P0_10_ k_ ∨ P0_13_ k_) ∨ w.heap.size ≤ k_) ∧ some k_ ≠ (u3 : Value).ownBlock ∧ k_ ≠ Jb ∧ k_ ≠ J2) (.slice A0_10 J4.length c0_10) J4) := ⟨(by rw [hw]; exact (by (with_reducible repeat (first | apply Kd.V_alloc | apply Kd.V_drewN | apply Kd.Xp)); exact Kd.Xa (Kd.Zi (p := ⟨J2, 13, none⟩) (Kd.Zi (p := ⟨J2, 12, none⟩) (Kd.Zi (p := ⟨J2, 11, none⟩) (Kd.Zi (p := ⟨J2, 10, none⟩) (Kd.Zi (p := ⟨J2, 9, none⟩) (Kd.Zi (p := ⟨J2, 8, none⟩) (Kd.Zi (p := ⟨J2, 7, none⟩) (Kd.Zi (p := ⟨J2, 6, none⟩) (Kd.Zi (p := ⟨J2, 5, none⟩) (Kd.Zi (p := ⟨J2, 4, none⟩) (Kd.Zi (p := ⟨J2, 3, none⟩) (Kd.Zi (p := ⟨J2, 2, none⟩) (Kd.Zi (p := ⟨J2, 1, none⟩) (Kd.Zi (p := ⟨J2, 0, none⟩) (Kd.Xa HO_362010.out (fun k_ hk => (⟨hk, hk.2⟩ : _ ∧ k_ ≠ J2))) (fun _ hk => hk.2) (.int .i64 ((Zc J0 J1).f0))) (fun _ hk => hk.2) (.int .i64 ((Zc J0 J1).f1.f0))) (fun _ hk => hk.2) (.int .i64 ((Zc J0 J1).f1.f1))) (fun _ hk => hk.2) (.bool ((Zc J0 J1).f1.f2))) (fun _ hk => hk.2) (.int .i64 ((Zc J0 J1).f1.f3.f0))) (fun _ hk => hk.2) (.int .u64 ((Zc J0 J1).f1.f3.f1))) (fun _ hk => hk.2) (.int .u64 ((Zc J0 J1).f1.f3.f2))) (fun _ hk => hk.2) (.int .i64 ((Zc J0 J1).f1.f4))) (fun _ hk => hk.2) (.bool ((Zc J0 J1).f1.f5))) (fun _ hk => hk.2) (.int .i64 ((Zc J0 J1).f1.f6))) (fun _ hk => hk.2) (.slice A365_10 ((Zc J0 J1).f1.f7).length c365_10)) (fun _ hk => hk.2) (.int .i64 ((Zc J0 J1).f2))) (fun _ hk => hk.2) (.int .i64 ((Zc J0 J1).f3))) (fun _ hk => hk.2) (.slice A365_13 ((Zc J0 J1).f4).length c365_13)) (fun _ hk => ⟨hk.1.1.1, ⟨hk.1.1.2.1, ⟨hk.1.1.2.2, hk.1.2⟩⟩⟩)))⟩; have n3_ : Zd (Kd.V k30 30 w17 w.heap.size (fun k_ => ((P0_10_ k_ ∨ P0_13_ k_) ∨ w.heap.size ≤ k_) ∧ some k_ ≠ (u3 : Value).ownBlock ∧ k_ ≠ Jb ∧ k_ ≠ J2) (.slice (some ad365) J0.length c0_13) J0) := ⟨(by rw [hw]; exact (by (with_reducible repeat (first | apply Kd.V_alloc | apply Kd.V_drewN | apply Kd.Xp)); exact Kd.Xa (Kd.Zi (p := ⟨J2, 13, none⟩) (Kd.Zi (p := ⟨J2, 12, none⟩) (Kd.Zi (p := ⟨J2, 11, none⟩) (Kd.Zi (p := ⟨J2, 10, none⟩) (Kd.Zi (p := ⟨J2, 9, none⟩) (Kd.Zi (p := ⟨J2, 8, none⟩) (Kd.Zi (p := ⟨J2, 7, none⟩) (Kd.Zi (p := ⟨J2, 6, none⟩) (Kd.Zi (p := ⟨J2, 5, none⟩) (Kd.Zi (p := ⟨J2, 4, none⟩) (Kd.Zi (p := ⟨J2, 3, none⟩) (Kd.Zi (p := ⟨J2, 2, none⟩) (Kd.Zi (p := ⟨J2, 1, none⟩) (Kd.Zi (p := ⟨J2, 0, none⟩) (Kd.Xa HO_362013.out (fun k_ hk => (⟨hk, hk.2⟩ : _ ∧ k_ ≠ J2))) (fun _ hk => hk.2) (.int .i64 ((Zc J0 J1).f0))) (fun _ hk => hk.2) (.int .i64 ((Zc J0 J1).f1.f0))) (fun _ hk => hk.2) (.int .i64 ((Zc J0 J1).f1.f1))) (fun _ hk => hk.2) (.bool ((Zc J0 J1).f1.f2))) (fun _ hk => hk.2) (.int .i64 ((Zc J0 J1).f1.f3.f0))) (fun _ hk => hk.2) (.int .u64 ((Zc J0 J1).f1.f3.f1))) (fun _ hk => hk.2) (.int .u64 ((Zc J0 J1).f1.f3.f2))) (fun _ hk => hk.2) (.int .i64 ((Zc J0 J1).f1.f4))) (fun _ hk => hk.2) (.bool ((Zc J0 J1).f1.f5))) (fun _ hk => hk.2) (.int .i64 ((Zc J0 J1).f1.f6))) (fun _ hk => hk.2) (.slice A365_10 ((Zc J0 J1).f1.f7).length c365_10)) (fun _ hk => hk.2) (.int .i64 ((Zc J0 J1).f2))) (fun _ hk => hk.2) (.int .i64 ((Zc J0 J1).f3))) (fun _ hk => hk.2) (.slice A365_13 ((Zc J0 J1).f4).length c365_13)) (fun _ hk => ⟨hk.1.1.1, ⟨hk.1.1.2.1, ⟨hk.1.1.2.2, hk.1.2⟩⟩⟩)))⟩; have n4_ : Zd (Kd.V k27 27 w17 w.heap.size (fun k_ => ((P0_10_ k_ ∨ P0_13_ k_) ∨ w.heap.size ≤ k_) ∧ some k_ ≠ (u3 : Value).ownBlock ∧ k_ ≠ Jb ∧ k_ ≠ J2) (.slice A365_10 ((Zc J0 J1).f1.f7).length c365_10) ((Zc J0 J1).f1.f7)) := ⟨(by rw [hw]; exact (by (with_reducible repeat (first | apply Kd.V_alloc | apply Kd.V_drewN | apply Kd.Xp)); exact Kd.Xa (Kd.Zi (p := ⟨J2, 13, none⟩) (Kd.Zi (p := ⟨J2, 12, none⟩) (Kd.Zi (p := ⟨J2, 11, none⟩) (Kd.Zi (p := ⟨J2, 10, none⟩) (Kd.Zi (p := ⟨J2, 9, none⟩) (Kd.Zi (p := ⟨J2, 8, none⟩) (Kd.Zi (p := ⟨J2, 7, none⟩) (Kd.Zi (p := ⟨J2, 6, none⟩) (Kd.Zi (p := ⟨J2, 5, none⟩) (Kd.Zi (p := ⟨J2, 4, none⟩) (Kd.Zi (p := ⟨J2, 3, none⟩) (Kd.Zi (p := ⟨J2, 2, none⟩) (Kd.Zi (p := ⟨J2, 1, none⟩) (Kd.Zi (p := ⟨J2, 0, none⟩) (Kd.Xa HL365_10.out (fun k_ hk => (⟨hk, hk.2⟩ : _ ∧ k_ ≠ J2))) (fun _ hk => hk.2) (.int .i64 ((Zc J0 J1).f0))) (fun _ hk => hk.2) (.int .i64 ((Zc J0 J1).f1.f0))) (fun _ hk => hk.2) (.int .i64 ((Zc J0 J1).f1.f1))) (fun _ hk => hk.2) (.bool ((Zc J0 J1).f1.f2))) (fun _ hk => hk.2) (.int .i64 ((Zc J0 J1).f1.f3.f0))) (fun _ hk => hk.2) (.int .u64 ((Zc J0 J1).f1.f3.f1))) (fun _ hk => hk.2) (.int .u64 ((Zc J0 J1).f1.f3.f2))) (fun _ hk => hk.2) (.int .i64 ((Zc J0 J1).f1.f4))) (fun _ hk => hk.2) (.bool ((Zc J0 J1).f1.f5))) (fun _ hk => hk.2) (.int .i64 ((Zc J0 J1).f1.f6))) (fun _ hk => hk.2) (.slice A365_10 ((Zc J0 J1).f1.f7).length c365_10)) (fun _ hk => hk.2) (.int .i64 ((Zc J0 J1).f2))) (fun _ hk => hk.2) (.int .i64 ((Zc J0 J1).f3))) (fun _ hk => hk.2) (.slice A365_13 ((Zc J0 J1).f4).length c365_13)) (fun _ hk => ⟨hk.1.1.1, ⟨hk.1.1.2.1, ⟨hk.1.1.2.2, hk.1.2⟩⟩⟩)))⟩; have n5_ : Zd (Kd.V k30 30 w17 w.heap.size (fun k_ => ((P0_10_ k_ ∨ P0_13_ k_) ∨ w.heap.size ≤ k_) ∧ some k_ ≠ (u3 : Value).ownBlock ∧ k_ ≠ Jb ∧ k_ ≠ J2) (.slice A365_13 ((Zc J0 J1).f4).length c365_13) ((Zc J0 J1).f4)) := ⟨(by rw [hw]; exact (by (with_reducible repeat (first | apply Kd.V_alloc | apply Kd.V_drewN | apply Kd.Xp)); exact Kd.Xa (Kd.Zi (p := ⟨J2, 13, none⟩) (Kd.Zi (p := ⟨J2, 12, none⟩) (Kd.Zi (p := ⟨J2, 11, none⟩) (Kd.Zi (p := ⟨J2, 10, none⟩) (Kd.Zi (p := ⟨J2, 9, none⟩) (Kd.Zi (p := ⟨J2, 8, none⟩) (Kd.Zi (p := ⟨J2, 7, none⟩) (Kd.Zi (p := ⟨J2, 6, none⟩) (Kd.Zi (p := ⟨J2, 5, none⟩) (Kd.Zi (p := ⟨J2, 4, none⟩) (Kd.Zi (p := ⟨J2, 3, none⟩) (Kd.Zi (p := ⟨J2, 2, none⟩) (Kd.Zi (p := ⟨J2, 1, none⟩) (Kd.Zi (p := ⟨J2, 0, none⟩) (Kd.Xa HL365_13.out (fun k_ hk => (⟨hk, hk.2⟩ : _ ∧ k_ ≠ J2))) (fun _ hk => hk.2) (.int .i64 ((Zc J0 J1).f0))) (fun _ hk => hk.2) (.int .i64 ((Zc J0 J1).f1.f0))) (fun _ hk => hk.2) (.int .i64 ((Zc J0 J1).f1.f1))) (fun _ hk => hk.2) (.bool ((Zc J0 J1).f1.f2))) (fun _ hk => hk.2) (.int .i64 ((Zc J0 J1).f1.f3.f0))) (fun _ hk => hk.2) (.int .u64 ((Zc J0 J1).f1.f3.f1))) (fun _ hk => hk.2) (.int .u64 ((Zc J0 J1).f1.f3.f2))) (fun _ hk => hk.2) (.int .i64 ((Zc J0 J1).f1.f4))) (fun _ hk => hk.2) (.bool ((Zc J0 J1).f1.f5))) (fun _ hk => hk.2) (.int .i64 ((Zc J0 J1).f1.f6))) (fun _ hk => hk.2) (.slice A365_10 ((Zc J0 J1).f1.f7).length c365_10)) (fun _ hk => hk.2) (.int .i64 ((Zc J0 J1).f2))) (fun _ hk => hk.2) (.int .i64 ((Zc J0 J1).f3))) (fun _ hk => hk.2) (.slice A365_13 ((Zc J0 J1).f4).length c365_13)) (fun _ hk => ⟨hk.1.1.1, ⟨hk.1.1.2.1, ⟨hk.1.1.2.2, hk.1.2⟩⟩⟩)))⟩; have n6_ : Zd (w17.heap[Jb]? = some (.cells #[.int .i64 Jq, .int .i64 Jp, .int .i64 Jn, .bool Jk, .int .i64 Jj, .int .u64 Ji, .int .u64 Jg, .int .i64 Jf, .bool Je, .int .i64 Jd, .slice A0_10 J4.length c0_10, .int .i64 J8, .int .i64 J7, .slice (some ad365) J0.length c0_13] 30 (0, 0))) := ⟨(by rw [hw]; exact (by (with_reducible repeat (first | refine Zf ?_ _ | refine Zg ?_ | refine Ze ?_ _)); refine Zm ?_ NB361_366.out _; (with_reducible repeat (first | refine Zf ?_ _ | refine Zg ?_ | refine Ze ?_ _)); refine Zm ?_ NB361_366.out _; (with_reducible repeat (first | refine Zf ?_ _ | refine Zg ?_ | refine Ze ?_ _)); refine Zm ?_ NB361_366.out _; (with_reducible repeat (first | refine Zf ?_ _ | refine Zg ?_ | refine Ze ?_ _)); refine Zm ?_ NB361_366.out _; (with_reducible repeat (first | refine Zf ?_ _ | refine Zg ?_ | refine Ze ?_ _)); refine Zm ?_ NB361_366.out _; (with_reducible repeat (first | refine Zf ?_ _ | refine Zg ?_ | refine Ze ?_ _)); refine Zm ?_ NB361_366.out _; (with_reducible repeat (first | refine Zf ?_ _ | refine Zg ?_ | refine Ze ?_ _)); refine Zm ?_ NB361_366.out _; (with_reducible repeat (first | refine Zf ?_ _ | refine Zg ?_ | refine Ze ?_ _)); refine Zm ?_ NB361_366.out _; (with_reducible repeat (first | refine Zf ?_ _ | refine Zg ?_ | refine Ze ?_ _)); refine Zm ?_ NB361_366.out _; (with_reducible repeat (first | refine Zf ?_ _ | refine Zg ?_ | refine Ze ?_ _)); refine Zm ?_ NB361_366.out _; (with_reducible repeat (first | refine Zf ?_ _ | refine Zg ?_ | refine Ze ?_ _)); refine Zm ?_ NB361_366.out _; (with_reducible repeat (first | refine Zf ?_ _ | refine Zg ?_ | refine Ze ?_ _)); refine Zm ?_ NB361_366.out _; (with_reducible repeat (first | refine Zf ?_ _ | refine Zg ?_ | refine Ze ?_ _)); refine Zm ?_ NB361_366.out _; (with_reducible repeat (first | refine Zf ?_ _ | refine Zg ?_ | refine Ze ?_ _)); refine Zm ?_ NB361_366.out _; (with_reducible repeat (first | refine Zf ?_ _ | refine Zg ?_ | refine Ze ?_ _)); exact J6.out))⟩; have n7_ : Zd (w17.heap[J2]? = some (.cells #[.int .i64 ((Zc J0 J1).f0), .int .i64 ((Zc J0 J1).f1.f0), .int .i64 ((Zc J0 J1).f1.f1), .bool ((Zc J0 J1).f1.f2), .int .i64 ((Zc J0 J1).f1.f3.f0), .int .u64 ((Zc J0 J1).f1.f3.f1), .int .u64 ((Zc J0 J1).f1.f3.f2), .int .i64 ((Zc J0 J1).f1.f4), .bool ((Zc J0 J1).f1.f5), .int .i64 ((Zc J0 J1).f1.f6), .slice A365_10 ((Zc J0 J1).f1.f7).length c365_10, .int .i64 ((Zc J0 J1).f2), .int .i64 ((Zc J0 J1).f3), .slice A365_13 ((Zc J0 J1).f4).length c365_13] 30 (0, 0))) := ⟨(by rw [hw]; exact (by (with_reducible repeat (first | refine Zf ?_ _ | refine Zg ?_ | refine Ze ?_ _)); refine Zk (cs := #[.int .i64 ((Zc J0 J1).f0), .int .i64 ((Zc J0 J1).f1.f0), .int .i64 ((Zc J0 J1).f1.f1), .bool ((Zc J0 J1).f1.f2), .int .i64 ((Zc J0 J1).f1.f3.f0), .int .u64 ((Zc J0 J1).f1.f3.f1), .int .u64 ((Zc J0 J1).f1.f3.f2), .int .i64 ((Zc J0 J1).f1.f4), .bool ((Zc J0 J1).f1.f5), .int .i64 ((Zc J0 J1).f1.f6), .slice A365_10 ((Zc J0 J1).f1.f7).length c365_10, .int .i64 ((Zc J0 J1).f2), .int .i64 ((Zc J0 J1).f3), .slice none 0 0]) ?_ 13 _ rfl; (with_reducible repeat (first | refine Zf ?_ _ | refine Zg ?_ | refine Ze ?_ _)); refine Zk (cs := #[.int .i64 ((Zc J0 J1).f0), .int .i64 ((Zc J0 J1).f1.f0), .int .i64 ((Zc J0 J1).f1.f1), .bool ((Zc J0 J1).f1.f2), .int .i64 ((Zc J0 J1).f1.f3.f0), .int .u64 ((Zc J0 J1).f1.f3.f1), .int .u64 ((Zc J0 J1).f1.f3.f2), .int .i64 ((Zc J0 J1).f1.f4), .bool ((Zc J0 J1).f1.f5), .int .i64 ((Zc J0 J1).f1.f6), .slice A365_10 ((Zc J0 J1).f1.f7).length c365_10, .int .i64 ((Zc J0 J1).f2), .int .i64 0, .slice none 0 0]) ?_ 12 _ rfl; (with_reducible repeat (first | refine Zf ?_ _ | refine Zg ?_ | refine Ze ?_ _)); refine Zk (cs := #[.int .i64 ((Zc J0 J1).f0), .int .i64 ((Zc J0 J1).f1.f0), .int .i64 ((Zc J0 J1).f1.f1), .bool ((Zc J0 J1).f1.f2), .int .i64 ((Zc J0 J1).f1.f3.f0), .int .u64 ((Zc J0 J1).f1.f3.f1), .int .u64 ((Zc J0 J1).f1.f3.f2), .int .i64 ((Zc J0 J1).f1.f4), .bool ((Zc J0 J1).f1.f5), .int .i64 ((Zc J0 J1).f1.f6), .slice A365_10 ((Zc J0 J1).f1.f7).length c365_10, .int .i64 0, .int .i64 0, .slice none 0 0]) ?_ 11 _ rfl; (with_reducible repeat (first | refine Zf ?_ _ | refine Zg ?_ | refine Ze ?_ _)); refine Zk (cs := #[.int .i64 ((Zc J0 J1).f0), .int .i64 ((Zc J0 J1).f1.f0), .int .i64 ((Zc J0 J1).f1.f1), .bool ((Zc J0 J1).f1.f2), .int .i64 ((Zc J0 J1).f1.f3.f0), .int .u64 ((Zc J0 J1).f1.f3.f1), .int .u64 ((Zc J0 J1).f1.f3.f2), .int .i64 ((Zc J0 J1).f1.f4), .bool ((Zc J0 J1).f1.f5), .int .i64 ((Zc J0 J1).f1.f6), .slice none 0 0, .int .i64 0, .int .i64 0, .slice none 0 0]) ?_ 10 _ rfl; (with_reducible repeat (first | refine Zf ?_ _ | refine Zg ?_ | refine Ze ?_ _)); refine Zk (cs := #[.int .i64 ((Zc J0 J1).f0), .int .i64 ((Zc J0 J1).f1.f0), .int .i64 ((Zc J0 J1).f1.f1), .bool ((Zc J0 J1).f1.f2), .int .i64 ((Zc J0 J1).f1.f3.f0), .int .u64 ((Zc J0 J1).f1.f3.f1), .int .u64 ((Zc J0 J1).f1.f3.f2), .int .i64 ((Zc J0 J1).f1.f4), .bool ((Zc J0 J1).f1.f5), .int .i64 0, .slice none 0 0, .int .i64 0, .int .i64 0, .slice none 0 0]) ?_ 9 _ rfl; (with_reducible repeat (first | refine Zf ?_ _ | refine Zg ?_ | refine Ze ?_ _)); refine Zk (cs := #[.int .i64 ((Zc J0 J1).f0), .int .i64 ((Zc J0 J1).f1.f0), .int .i64 ((Zc J0 J1).f1.f1), .bool ((Zc J0 J1).f1.f2), .int .i64 ((Zc J0 J1).f1.f3.f0), .int .u64 ((Zc J0 J1).f1.f3.f1), .int .u64 ((Zc J0 J1).f1.f3.f2), .int .i64 ((Zc J0 J1).f1.f4), .bool false, .int .i64 0, .slice none 0 0, .int .i64 0, .int .i64 0, .slice none 0 0]) ?_ 8 _ rfl; (with_reducible repeat (first | refine Zf ?_ _ | refine Zg ?_ | refine Ze ?_ _)); refine Zk (cs := #[.int .i64 ((Zc J0 J1).f0), .int .i64 ((Zc J0 J1).f1.f0), .int .i64 ((Zc J0 J1).f1.f1), .bool ((Zc J0 J1).f1.f2), .int .i64 ((Zc J0 J1).f1.f3.f0), .int .u64 ((Zc J0 J1).f1.f3.f1), .int .u64 ((Zc J0 J1).f1.f3.f2), .int .i64 0, .bool false, .int .i64 0, .slice none 0 0, .int .i64 0, .int .i64 0, .slice none 0 0]) ?_ 7 _ rfl; (with_reducible repeat (first | refine Zf ?_ _ | refine Zg ?_ | refine Ze ?_ _)); refine Zk (cs := #[.int .i64 ((Zc J0 J1).f0), .int .i64 ((Zc J0 J1).f1.f0), .int .i64 ((Zc J0 J1).f1.f1), .bool ((Zc J0 J1).f1.f2), .int .i64 ((Zc J0 J1).f1.f3.f0), .int .u64 ((Zc J0 J1).f1.f3.f1), .int .u64 0, .int .i64 0, .bool false, .int .i64 0, .slice none 0 0, .int .i64 0, .int .i64 0, .slice none 0 0]) ?_ 6 _ rfl; (with_reducible repeat (first | refine Zf ?_ _ | refine Zg ?_ | refine Ze ?_ _)); refine Zk (cs := #[.int .i64 ((Zc J0 J1).f0), .int .i64 ((Zc J0 J1).f1.f0), .int .i64 ((Zc J0 J1).f1.f1), .bool ((Zc J0 J1).f1.f2), .int .i64 ((Zc J0 J1).f1.f3.f0), .int .u64 0, .int .u64 0, .int .i64 0, .bool false, .int .i64 0, .slice none 0 0, .int .i64 0, .int .i64 0, .slice none 0 0]) ?_ 5 _ rfl; (with_reducible repeat (first | refine Zf ?_ _ | refine Zg ?_ | refine Ze ?_ _)); refine Zk (cs := #[.int .i64 ((Zc J0 J1).f0), .int .i64 ((Zc J0 J1).f1.f0), .int .i64 ((Zc J0 J1).f1.f1), .bool ((Zc J0 J1).f1.f2), .int .i64 0, .int .u64 0, .int .u64 0, .int .i64 0, .bool false, .int .i64 0, .slice none 0 0, .int .i64 0, .int .i64 0, .slice none 0 0]) ?_ 4 _ rfl; (with_reducible repeat (first | refine Zf ?_ _ | refine Zg ?_ | refine Ze ?_ _)); refine Zk (cs := #[.int .i64 ((Zc J0 J1).f0), .int .i64 ((Zc J0 J1).f1.f0), .int .i64 ((Zc J0 J1).f1.f1), .bool false, .int .i64 0, .int .u64 0, .int .u64 0, .int .i64 0, .bool false, .int .i64 0, .slice none 0 0, .int .i64 0, .int .i64 0, .slice none 0 0]) ?_ 3 _ rfl; (with_reducible repeat (first | refine Zf ?_ _ | refine Zg ?_ | refine Ze ?_ _)); refine Zk (cs := #[.int .i64 ((Zc J0 J1).f0), .int .i64 ((Zc J0 J1).f1.f0), .int .i64 0, .bool false, .int .i64 0, .int .u64 0, .int .u64 0, .int .i64 0, .bool false, .int .i64 0, .slice none 0 0, .int .i64 0, .int .i64 0, .slice none 0 0]) ?_ 2 _ rfl; (with_reducible repeat (first | refine Zf ?_ _ | refine Zg ?_ | refine Ze ?_ _)); refine Zk (cs := #[.int .i64 ((Zc J0 J1).f0), .int .i64 0, .int .i64 0, .bool false, .int .i64 0, .int .u64 0, .int .u64 0, .int .i64 0, .bool false, .int .i64 0, .slice none 0 0, .int .i64 0, .int .i64 0, .slice none 0 0]) ?_ 1 _ rfl; (with_reducible repeat (first | refine Zf ?_ _ | refine Zg ?_ | refine Ze ?_ _)); refine Zk (cs := #[.int .i64 0, .int .i64 0, .int .i64 0, .bool false, .int .i64 0, .int .u64 0, .int .u64 0, .int .i64 0, .bool false, .int .i64 0, .slice none 0 0, .int .i64 0, .int .i64 0, .slice none 0 0]) ?_ 0 _ rfl; (with_reducible repeat (first | refine Zf ?_ _ | refine Zg ?_ | refine Ze ?_ _)); exact J9.out))⟩; have n8_ : Zd (Below w.heap.size w w17) := ⟨(by rw [hw]; exact (by repeat (first | (with_reducible first | exact HB.out | apply Xm | apply Xi | apply Xj | refine Xc ?_ GE361.out | refine Xc ?_ GE366.out) | exact HB.out)))⟩; clear hw; clear HO_3; clear HO_13; clear HO_362010; clear HO_362013; clear HL365_10; clear HL365_13; clear J6; clear J9; clear HB; have HO_3 := n0_; have HO_13 := n1_; have HO_362010 := n2_; have HO_362013 := n3_; have HL365_10 := n4_; have HL365_13 := n5_; have J6 := n6_; have J9 := n7_; have HB := n8_; clear n0_ n1_ n2_ n3_ n4_ n5_ n6_ n7_ n8_; have hcz18_0 : w17.cell? ⟨J2, 0, none⟩ = some (.int .i64 ((Zc J0 J1).f0)) := (Za J9.out 0).trans rfl; have hcz18_1 : w17.cell? ⟨J2, 1, none⟩ = some (.int .i64 ((Zc J0 J1).f1.f0)) := (Za J9.out 1).trans rfl; have hcz18_2 : w17.cell? ⟨J2, 2, none⟩ = some (.int .i64 ((Zc J0 J1).f1.f1)) := (Za J9.out 2).trans rfl; have hcz18_3 : w17.cell? ⟨J2, 3, none⟩ = some (.bool ((Zc J0 J1).f1.f2)) := (Za J9.out 3).trans rfl; have hcz18_4 : w17.cell? ⟨J2, 4, none⟩ = some (.int .i64 ((Zc J0 J1).f1.f3.f0)) := (Za J9.out 4).trans rfl; have hcz18_5 : w17.cell? ⟨J2, 5, none⟩ = some (.int .u64 ((Zc J0 J1).f1.f3.f1)) := (Za J9.out 5).trans rfl; have hcz18_6 : w17.cell? ⟨J2, 6, none⟩ = some (.int .u64 ((Zc J0 J1).f1.f3.f2)) := (Za J9.out 6).trans rfl; have hcz18_7 : w17.cell? ⟨J2, 7, none⟩ = some (.int .i64 ((Zc J0 J1).f1.f4)) := (Za J9.out 7).trans rfl; have hcz18_8 : w17.cell? ⟨J2, 8, none⟩ = some (.bool ((Zc J0 J1).f1.f5)) := (Za J9.out 8).trans rfl; have hcz18_9 : w17.cell? ⟨J2, 9, none⟩ = some (.int .i64 ((Zc J0 J1).f1.f6)) := (Za J9.out 9).trans rfl; have Mo : w17.cell? ⟨J2, 10, none⟩ = some (.slice A365_10 ((Zc J0 J1).f1.f7).length c365_10) := (Za J9.out 10).trans rfl; have Mn : w17.cell? ⟨J2, 11, none⟩ = some (.int .i64 ((Zc J0 J1).f2)) := (Za J9.out 11).trans rfl; have Mm : w17.cell? ⟨J2, 12, none⟩ = some (.int .i64 ((Zc J0 J1).f3)) := (Za J9.out 12).trans rfl; have Ml : w17.cell? ⟨J2, 13, none⟩ = some (.slice A365_13 ((Zc J0 J1).f4).length c365_13) := (Za J9.out 13).trans rfl; have hfz18_0 := Zb J9.out 0; have hfz18_1 := Zb J9.out 1; have hfz18_2 := Zb J9.out 2; have hfz18_3 := Zb J9.out 3; have hfz18_4 := Zb J9.out 4; have hfz18_5 := Zb J9.out 5; have hfz18_6 := Zb J9.out 6; have hfz18_7 := Zb J9.out 7; have hfz18_8 := Zb J9.out 8; have hfz18_9 := Zb J9.out 9; have M6 := Zb J9.out 10; have M5 := Zb J9.out 11; have M4 := Zb J9.out 12; have M3 := Zb J9.out 13) | ((with_reducible refine Zx (f := 13) rfl ?_); refine Xz (some 21) rfl rfl Try.func13 (by kernel_rfl) rfl #[.agg #[.int .i64 ((Zc J0 J1).f0), .int .i64 ((Zc J0 J1).f1.f0), .int .i64 ((Zc J0 J1).f1.f1), .bool ((Zc J0 J1).f1.f2), .int .i64 ((Zc J0 J1).f1.f3.f0), .int .u64 ((Zc J0 J1).f1.f3.f1), .int .u64 ((Zc J0 J1).f1.f3.f2), .int .i64 ((Zc J0 J1).f1.f4), .bool ((Zc J0 J1).f1.f5), .int .i64 ((Zc J0 J1).f1.f6), .slice A365_10 ((Zc J0 J1).f1.f7).length c365_10, .int .i64 ((Zc J0 J1).f2), .int .i64 ((Zc J0 J1).f3), .slice A365_13 ((Zc J0 J1).f4).length c365_13]] rfl (by (try simp only [List.map_toArray, List.map_cons, List.map_nil]); first | done | rfl | (simp only [List.length_drop, List.length_take]; rfl)) ?_; (with_reducible refine (ih k1 (by have := HK1.out; omega) ((Zc J0 J1).f0) ((Zc J0 J1).f1.f0) ((Zc J0 J1).f1.f1) ((Zc J0 J1).f1.f2) ((Zc J0 J1).f1.f3.f0) ((Zc J0 J1).f1.f3.f1) ((Zc J0 J1).f1.f3.f2) ((Zc J0 J1).f1.f4) ((Zc J0 J1).f1.f5) ((Zc J0 J1).f1.f6) (fun k_ => (((P0_10_ k_ ∨ P0_13_ k_) ∨ w.heap.size ≤ k_) ∧ (some k_ ≠ (u3 : Value).ownBlock ∧ (k_ ≠ Jb ∧ k_ ≠ J2)))) _ _ ((Zc J0 J1).f1.f7) ((Zc J0 J1).f2) ((Zc J0 J1).f3) (fun k_ => (((P0_10_ k_ ∨ P0_13_ k_) ∨ w.heap.size ≤ k_) ∧ (some k_ ≠ (u3 : Value).ownBlock ∧ (k_ ≠ Jb ∧ k_ ≠ J2)))) _ _ ((Zc J0 J1).f4) t367 _ ?side1 ?side2 A12.out).mono ?_); (case side1 => exact HL365_10.out); (case side2 => exact HL365_13.out); rintro e w19 ⟨v368, rfl, ho0, hb⟩; refine ⟨_, rfl, ?_⟩; have n0_ := Zd.mk (Kd.Qs HO_3.out (Kd.Qr ho0) hb); have n1_ := Zd.mk (Kd.Qy HO_13.out (Kd.Qr ho0) hb); have n2_ := Zd.mk (Kd.Qy HO_362010.out (Kd.Qr ho0) hb); have n3_ := Zd.mk (Kd.Qy HO_362013.out (Kd.Qr ho0) hb); have n4_ := Zd.mk (Kd.Qy HL365_10.out (Kd.Qr ho0) hb); have n5_ := Zd.mk (Kd.Qy HL365_13.out (Kd.Qr ho0) hb); have n6_ := Zd.mk (Kd.Vb (Kd.Xq (ok' := fun k_ => ((P0_10_ k_ ∨ P0_13_ k_) ∨ w.heap.size ≤ k_) ∧ some k_ ≠ (u3 : Value).ownBlock ∧ k_ ≠ Jb ∧ k_ ≠ J2) ho0 (fun k_ hk_ => ⟨Or.elim hk_ (fun hs_ => Or.elim hs_ (fun hs_ => hs_.1) (fun hs_ => hs_.1)) (fun hn_ => (.inr (Nat.le_trans (Zl HB.out) hn_))), Or.elim hk_ (fun hs_ => Or.elim hs_ (fun hs_ => hs_.2.1) (fun hs_ => hs_.2.1)) (fun hn_ => (Kd.Vu (Kd.N_lt HO_3.out) k_ hn_)), Or.elim hk_ (fun hs_ => Or.elim hs_ (fun hs_ => hs_.2.2.1) (fun hs_ => hs_.2.2.1)) (fun hn_ => (Kd.Kw J6.out k_ hn_)), Or.elim hk_ (fun hs_ => Or.elim hs_ (fun hs_ => hs_.2.2.2) (fun hs_ => hs_.2.2.2)) (fun hn_ => (Kd.Kw J9.out k_ hn_))⟩)) (Zl HB.out)); have n7_ := Zd.mk (Zp J6.out hb); have n8_ := HR365_10; have n9_ := HR365_13; have n10_ := Zd.mk (Zp J9.out hb); have n11_ := Zd.mk (Zj HB.out hb); clear HO_3; clear HO_13; clear HO_362010; clear HO_362013; clear HL365_10; clear HL365_13; clear J6; clear HR365_10; clear HR365_13; clear J9; clear HB; have HO_3 := n0_; have HO_13 := n1_; have HO_362010 := n2_; have HO_362013 := n3_; have HL365_10 := n4_; have HL365_13 := n5_; have HO369 := n6_; have J6 := n7_; have HR365_10 := n8_; have HR365_13 := n9_; have J9 := n10_; have HB := n11_; clear n0_ n1_ n2_ n3_ n4_ n5_ n6_ n7_ n8_ n9_ n10_ n11_; (try clear hb); (try clear hb2); (try clear hk); (try clear hi); (try clear ho0); obtain ⟨Ao21, co21, eo21⟩ := Kd.Va HO369.out; subst eo21) | ((with_reducible refine gate_builtin (b := .append) (xs := #[.tmp 19, .tmp 21]) rfl ?_); at_builtin; refine Kd.N_append_rows k27 (w0 := w) w.heap.size rfl (.tmp 19) (.tmp 21) 25 27 (.agg #[(.int .i64 0), (.int .i64 0), (.bool false), (.int .i64 0), (.int .u64 0), (.int .u64 0), (.int .i64 0), (.bool false), (.int .i64 0), (.slice none 0 0)]) 96 rfl Try.underlying25 info27 rfl (by decide) (by omega) u3 Ju t367 _ _ _ (fun k_ => ((P0_10_ k_ ∨ P0_13_ k_) ∨ w.heap.size ≤ k_) ∧ k_ ≠ Jb ∧ k_ ≠ J2) (fun k_ => ((fun k_ => ((P0_10_ k_ ∨ P0_13_ k_) ∨ w.heap.size ≤ k_) ∧ k_ ≠ Jb ∧ k_ ≠ J2)) k_ ∧ some k_ ≠ (u3 : Value).ownBlock) rfl rfl ?aO ?aR (fun _ hk => hk) ?aF ?aB ?aS ?aL ?_; (case aR => exact (by skip; exact Kd.N_F (Kd.Xq (ok' := (fun k_ => ((fun k_ => ((P0_10_ k_ ∨ P0_13_ k_) ∨ w.heap.size ≤ k_) ∧ k_ ≠ Jb ∧ k_ ≠ J2)) k_ ∧ some k_ ≠ (u3 : Value).ownBlock)) HO369.out (fun k_ hk => ⟨⟨hk.1, ⟨hk.2.2.1, hk.2.2.2⟩⟩, hk.2.1⟩)))); (case aB => exact HB.out); (case aF => exact (fun k_ hk => ⟨(.inr (Nat.le_trans (Zl HB.out) hk)), Kd.Kw J6.out k_ hk, Kd.Kw J9.out k_ hk⟩)); (case aO => exact (by (with_reducible repeat (first | apply Kd.N_alloc | apply Kd.N_drewN | apply Kd.Vg)); exact Kd.Xq HO_3.out (fun _ hk => ⟨hk.1.1, ⟨hk.1.2.1, hk.1.2.2⟩⟩))); (case aS => exact (Zl HB.out)); (case aL => have := LMc13.out; omega); intro v371 w20 ho hb hg hat; rw [← Ny370.out] at ho; have n0_ := Zd.mk (Kd.Vz (ok := (fun k_ => ((P0_10_ k_ ∨ P0_13_ k_) ∨ w.heap.size ≤ k_) ∧ some k_ ≠ (.slice Ao21 t367.length co21 : Value).ownBlock ∧ k_ ≠ Jb ∧ k_ ≠ J2)) (by (with_reducible repeat (first | apply Kd.V_alloc | apply Kd.V_drewN | apply Kd.Xp)); exact Kd.Xa HO_13.out (fun _ hk => ⟨⟨hk.1.1, ⟨hk.2, ⟨hk.1.2.2.1, hk.1.2.2.2⟩⟩⟩, hk.1.2.1⟩)) hg hat); have n1_ := Zd.mk (Kd.Vz (ok := (fun k_ => ((P0_10_ k_ ∨ P0_13_ k_) ∨ w.heap.size ≤ k_) ∧ some k_ ≠ (.slice Ao21 t367.length co21 : Value).ownBlock ∧ k_ ≠ Jb ∧ k_ ≠ J2)) (by (with_reducible repeat (first | apply Kd.V_alloc | apply Kd.V_drewN | apply Kd.Xp)); exact Kd.Xa HO_362010.out (fun _ hk => ⟨⟨hk.1.1, ⟨hk.2, ⟨hk.1.2.2.1, hk.1.2.2.2⟩⟩⟩, hk.1.2.1⟩)) hg hat); have n2_ := Zd.mk (Kd.Vz (ok := (fun k_ => ((P0_10_ k_ ∨ P0_13_ k_) ∨ w.heap.size ≤ k_) ∧ some k_ ≠ (.slice Ao21 t367.length co21 : Value).ownBlock ∧ k_ ≠ Jb ∧ k_ ≠ J2)) (by (with_reducible repeat (first | apply Kd.V_alloc | apply Kd.V_drewN | apply Kd.Xp)); exact Kd.Xa HO_362013.out (fun _ hk => ⟨⟨hk.1.1, ⟨hk.2, ⟨hk.1.2.2.1, hk.1.2.2.2⟩⟩⟩, hk.1.2.1⟩)) hg hat); have n3_ := Zd.mk (Ja J6.out hg (Kd.N_ne HO_3.out J6.out (by decide))); have n4_ := Zd.mk (Kd.Vz (ok := (fun k_ => ((P0_10_ k_ ∨ P0_13_ k_) ∨ w.heap.size ≤ k_) ∧ some k_ ≠ (.slice Ao21 t367.length co21 : Value).ownBlock ∧ k_ ≠ Jb ∧ k_ ≠ J2)) (by (with_reducible repeat (first | apply Kd.V_alloc | apply Kd.V_drewN | apply Kd.Xp)); exact Kd.Xa HL365_10.out (fun _ hk => ⟨⟨hk.1.1, ⟨hk.2, ⟨hk.1.2.2.1, hk.1.2.2.2⟩⟩⟩, hk.1.2.1⟩)) hg hat); have n5_ := Zd.mk (Kd.Vz (ok := (fun k_ => ((P0_10_ k_ ∨ P0_13_ k_) ∨ w.heap.size ≤ k_) ∧ some k_ ≠ (.slice Ao21 t367.length co21 : Value).ownBlock ∧ k_ ≠ Jb ∧ k_ ≠ J2)) (by (with_reducible repeat (first | apply Kd.V_alloc | apply Kd.V_drewN | apply Kd.Xp)); exact Kd.Xa HL365_13.out (fun _ hk => ⟨⟨hk.1.1, ⟨hk.2, ⟨hk.1.2.2.1, hk.1.2.2.2⟩⟩⟩, hk.1.2.1⟩)) hg hat); have n6_ := Zd.mk (Ja J9.out hg (Kd.N_ne HO_3.out J9.out (by decide))); have n7_ := Zd.mk (Kd.N_afterv (ok := (fun k_ => ((P0_10_ k_ ∨ P0_13_ k_) ∨ w.heap.size ≤ k_) ∧ k_ ≠ Jb ∧ k_ ≠ J2)) (by (with_reducible repeat (first | apply Kd.N_alloc | apply Kd.N_drewN | apply Kd.Vg)); exact Kd.Xq HO369.out (fun _ hk => ⟨⟨hk.1, ⟨hk.2.2.1, hk.2.2.2⟩⟩, hk.2.1⟩)) hg hat); have n8_ := Zd.mk (hb); have n9_ := Zd.mk (ho); clear HO_13; clear HO_362010; clear HO_362013; clear J6; clear HL365_10; clear HL365_13; clear J9; clear HO369; clear HB; clear HO_3; have HO_13 := n0_; have HO_362010 := n1_; have HO_362013 := n2_; have J6 := n3_; have HL365_10 := n4_; have HL365_13 := n5_; have J9 := n6_; have HO369 := n7_; have HB := n8_; have HO372 := n9_; clear n0_ n1_ n2_ n3_ n4_ n5_ n6_ n7_ n8_ n9_; clear ho hb hg hat))
        go_roundg k1
        case measure => have := HK1.out; omega
        case rel => exact ⟨(y370), (wrap64 (J1 + 1)), (by first | rfl | (simp; done) | (simp [*]; done)), H', ⟨by have := HK1.out; omega⟩, ⟨by (with_reducible repeat (first | apply Kd.N_alloc | apply Kd.N_drewN | apply Kd.Vg)); exact Kd.Xq HO372.out (fun _ hk => ⟨hk.1, hk.2.1⟩)⟩, ⟨by (with_reducible repeat (first | apply Kd.V_alloc | apply Kd.V_drewN | apply Kd.Xp)); exact Kd.Xa HO_13.out (fun _ hk => ⟨hk.1.1, ⟨hk.2, hk.1.2.2.1⟩⟩)⟩, ⟨by (with_reducible repeat (first | apply Kd.V_alloc | apply Kd.V_drewN | apply Kd.Xp)); exact Kd.Xa HO_362010.out (fun _ hk => ⟨hk.1.1, ⟨hk.2, hk.1.2.2.1⟩⟩)⟩, ⟨by (with_reducible repeat (first | apply Kd.V_alloc | apply Kd.V_drewN | apply Kd.Xp)); exact Kd.Xa HO_362013.out (fun _ hk => ⟨hk.1.1, ⟨hk.2, hk.1.2.2.1⟩⟩)⟩, ⟨J6.out⟩, ⟨HB.out⟩⟩
       ·rw [if_neg c13] at H
        exact absurd H (by simp)
      ·rw [if_neg c11] at H
       exact absurd H (by simp)
     ·rw [if_neg c10] at H
      exact absurd H (by simp)
    ·rw [if_neg c9] at H
     have c9b0 : decide (J1 < (J0.length : Int)) = false := decide_eq_false c9
     clear c9
     obtain rfl := Option.some.inj H
     go_wp2
     go_ret
     exact ⟨_, by first | rfl | (simp [errW_none, errW_some] <;> rfl) | (simp [*, errW_none, errW_some] <;> rfl), by (with_reducible repeat (first | apply Kd.N_alloc | apply Kd.N_drewN | apply Kd.Vg)); exact Kd.Xq HO_3.out (fun _ hk => hk.1), HB.out⟩
end Go.Proofs.Ytkbkndfonccekaa.PF
namespace Go.Proofs.Ytkbkndfonccekaa
open Go.RowKit Go.Proofs.YtkbkndfonccekaaW.PrintWords Go.Proofs.Ytkbkndfonccekaa.PF
set_option maxRecDepth 100000
theorem mn_eq (a b : Int) : mn a b = min a b := by
  unfold mn
  split <;> omega
theorem firstE_zero {g : Vp → Option Int} : ∀ {l : List Vp}, Jv g l = some 0 → ∀ x ∈ l, g x = some 0
  | t :: r, h, x, hx => by
    rw [Jv] at h
    obtain ⟨v, hv, h⟩ := Option.bind_eq_some_iff.1 h
    split at h
    · rename_i h0
      rcases List.mem_cons.1 hx with rfl | hx
      · rw [hv, h0]
      · exact firstE_zero h x hx
    · rename_i h0
      exact absurd (Option.some.inj h) h0
theorem valid_node {d : Nat} {t : Vp} (h : Qx (d + 1) t = some 0) : (∀ x ∈ t.f4, Qx d x = some 0) ∧
    ((t.f0 = 0 ∧ t.f4 = []) ∨ (t.f0 = 1 ∧ (∃ a b, t.f4 = [a, b]) ∧ 0 ≤ t.f2 ∧ t.f2 ≤ 16) ∨ (t.f0 = 2 ∧ ∃ a r, t.f4 = a :: r) ∨ (t.f0 = 3 ∧ ∃ a b, t.f4 = [a, b]) ∨ (t.f0 = 4 ∧ (∃ a, t.f4 = [a]) ∧ 1 ≤ t.f2 ∧ t.f2 ≤ 16)) := by
  rw [Qx] at h
  split at h
  case isFalse => cases h
  split at h
  case isFalse =>
    rename_i h0
    exact absurd (Option.some.inj h) h0
  rename_i hE
  refine ⟨firstE_zero h, ?_⟩
  clear h
  obtain ⟨op, e, lo, hi, kids⟩ := t
  simp only
  by_cases hop : op < 0 ∨ 4 < op
  · unfold Jh at hE
    rw [if_pos hop] at hE
    cases hE
  unfold Jh at hE
  rw [if_neg hop] at hE
  simp only at hE
  split at hE
  · cases hE
  rename_i h1
  split at hE
  · cases hE
  rename_i h2
  have hk : (kids.length : Int) = kidsN op kids.length := by
    by_cases hc : (kids.length : Int) = kidsN op kids.length
    · exact hc
    · exact absurd (.inl hc) h1
  have hrg : ranged op = true → 0 ≤ lo ∧ lo ≤ 16 ∧ (op = 4 → 1 ≤ lo) := fun hr => by
    have := fun hh => h2 ⟨hr, hh⟩
    refine ⟨?_, ?_, ?_⟩
    · by_cases hc : lo < 0
      · exact absurd (.inl hc) this
      · omega
    · by_cases hc : 16 < lo
      · exact absurd (.inr (.inl hc)) this
      · omega
    · intro h4
      by_cases hc : lo < 1
      · exact absurd (.inr (.inr (.inr (.inr ⟨h4, hc⟩)))) this
      · omega
  have h3 : op = 0 ∨ op = 1 ∨ op = 2 ∨ op = 3 ∨ op = 4 := by omega
  clear h1 h2 hE hop
  rcases h3 with rfl | rfl | rfl | rfl | rfl
  · left
    have : kids.length = 0 := by unfold kidsN at hk; simpa using hk
    exact ⟨rfl, List.length_eq_zero_iff.1 this⟩
  · right; left
    have : kids.length = 2 := by unfold kidsN at hk; simp at hk; omega
    have hh := hrg rfl
    match kids, this with
    | [a, b], _ => exact ⟨rfl, ⟨a, b, rfl⟩, hh.1, hh.2.1⟩
  · right; right; left
    have : 2 ≤ kids.length := by unfold kidsN at hk; simp at hk; omega
    match kids, this with
    | a :: r, _ => exact ⟨rfl, a, r, rfl⟩
  · right; right; right; left
    have : kids.length = 2 := by unfold kidsN at hk; simp at hk; omega
    match kids, this with
    | [a, b], _ => exact ⟨rfl, a, b, rfl⟩
  · right; right; right; right
    have : kids.length = 1 := by unfold kidsN at hk; simp at hk; omega
    have hh := hrg rfl
    match kids, this with
    | [a], _ => exact ⟨rfl, ⟨a, rfl⟩, hh.2.2 rfl, hh.2.1⟩
def kid (t : Vp) (i : Nat) : Vp := Zc t.f4 (i : Int)
def Qu : Nat → Vp → Int
  | 0, _ => 1
  | d + 1, t => if t.f0 = 1 then Qu d (kid t 0) + t.f2 + Qu d (kid t 1) - 1 else if t.f0 = 2 then t.f4.foldl (fun a x => max a (Qu d x)) (Qu d (kid t 0)) else if t.f0 = 3 then max (Qu d (kid t 0)) (Qu d (kid t 1)) else if t.f0 = 4 then min (t.f2 * Qu d (kid t 0)) 65 else 1
def Vl : Nat → Vp → Int
  | 0, _ => 1
  | d + 1, t => if t.f0 = 0 then 1 else if t.f0 = 1 then min (Vl d (kid t 0) + (t.f2 - 1 + Vl d (kid t 1))) 1000 else if t.f0 = 4 then min (Vl d (kid t 0) * t.f2) 1000 else min (t.f4.foldl (fun a x => max a (Vl d x)) (Vl d (kid t 0))) 1000
def bnd : Nat → Int
  | 0 => 100
  | d + 1 => 3 * bnd d
theorem bnd_ge : ∀ d, 100 ≤ bnd d
  | 0 => by rw [bnd]; omega
  | d + 1 => by have := bnd_ge d; rw [bnd]; omega
def Rel (B s l : Int) : Prop := 1 ≤ s ∧ s ≤ B ∧ 1 ≤ l ∧ l ≤ 1000 ∧ (s ≤ 64 → l = s) ∧ (64 < s → 64 < l)
theorem rel_fold {B : Int} {f g : Vp → Int} : ∀ (l : List Vp) (a b : Int), Rel B a b → (∀ x ∈ l, Rel B (f x) (g x)) → Rel B (l.foldl (fun a x => max a (f x)) a) (l.foldl (fun a x => max a (g x)) b)
  | [], _, _, h, _ => h
  | x :: r, a, b, h, hx => by
    simp only [List.foldl_cons]
    have h1 := hx x List.mem_cons_self
    refine rel_fold r _ _ ?_ (fun y hy => hx y (List.mem_cons_of_mem _ hy))
    unfold Rel at h h1 ⊢
    omega
theorem Jo : ∀ (d : Nat) (t : Vp), Qx d t = some 0 → Rel (bnd d) (Qu d t) (Vl d t)
  | 0, _, h => by cases h
  | d + 1, t, h => by
    obtain ⟨hk, hn⟩ := valid_node h
    have hB := bnd_ge d
    have hB1 : bnd (d + 1) = 3 * bnd d := rfl
    rcases hn with ⟨h0, _⟩ | ⟨h0, ⟨a, b, hab⟩, g1, g2⟩ | ⟨h0, a, r, hab⟩ | ⟨h0, a, b, hab⟩ | ⟨h0, ⟨a, hab⟩, g1, g2⟩
    · rw [Qu, Vl, h0]
      simp only [if_true]
      unfold Rel
      rw [if_neg (by decide), if_neg (by decide), if_neg (by decide), if_neg (by decide)]
      omega
    · have ha := Jo d a (hk a (by rw [hab]; simp))
      have hb := Jo d b (hk b (by rw [hab]; simp))
      have k0 : kid t 0 = a := by unfold kid; exact Jl (by rw [hab]; rfl)
      have k1 : kid t 1 = b := by unfold kid; exact Jl (by rw [hab]; rfl)
      rw [Qu, Vl, if_pos h0, if_neg (by omega), if_pos h0, k0, k1]
      unfold Rel at ha hb ⊢
      omega
    · have ha := Jo d a (hk a (by rw [hab]; simp))
      have k0 : kid t 0 = a := by unfold kid; exact Jl (by rw [hab]; rfl)
      rw [Qu, Vl, if_neg (by omega), if_pos h0, if_neg (by omega), if_neg (by omega), if_neg (by omega), k0]
      have := rel_fold (f := Qu d) (g := Vl d) t.f4 _ _ ha (fun x hx => Jo d x (hk x hx))
      unfold Rel at this ⊢
      omega
    · have ha := Jo d a (hk a (by rw [hab]; simp))
      have hb := Jo d b (hk b (by rw [hab]; simp))
      have k0 : kid t 0 = a := by unfold kid; exact Jl (by rw [hab]; rfl)
      have k1 : kid t 1 = b := by unfold kid; exact Jl (by rw [hab]; rfl)
      rw [Qu, Vl, if_neg (by omega), if_neg (by omega), if_pos h0, if_neg (by omega), if_neg (by omega), if_neg (by omega), k0, k1, hab]
      simp only [List.foldl_cons, List.foldl_nil]
      unfold Rel at ha hb ⊢
      omega
    · have ha := Jo d a (hk a (by rw [hab]; simp))
      have k0 : kid t 0 = a := by unfold kid; exact Jl (by rw [hab]; rfl)
      rw [Qu, Vl, if_neg (by omega), if_neg (by omega), if_neg (by omega), if_pos h0, if_neg (by omega), if_neg (by omega), if_pos h0, k0]
      obtain ⟨s1, s2, l1, l2, e1, e2⟩ := ha
      have hc := Int.mul_comm (Vl d a) t.f2
      have p1 : Qu d a ≤ t.f2 * Qu d a := by
        have := Int.mul_le_mul_of_nonneg_right g1 (show 0 ≤ Qu d a by omega)
        omega
      have p2 : Vl d a ≤ t.f2 * Vl d a := by
        have := Int.mul_le_mul_of_nonneg_right g1 (show 0 ≤ Vl d a by omega)
        omega
      unfold Rel
      rw [hc]
      by_cases hs : Qu d a ≤ 64
      · rw [e1 hs]
        omega
      · have := e2 (by omega)
        omega
def min1000 (x : Int) : Int := min x 1000
theorem Wn (k : Nat) (t : Vp) : Xo (Vm (Zt.f k) t) (Vm (Zt.f (k + 1)) t) := (Zt.mono_l k).1 _ _ _ _ _ _ _ _ _ _ _ _ _ _
theorem span_loop (g : Vp → Int) (kids : List Vp) (hk : kids.length ≤ 48) : ∀ (rest : List Vp) (i : Nat), kids.drop i = rest → (∀ x ∈ rest, ∃ k, Vm (Zt.f k) x = some (g x)) → ∀ a : Int, ∃ k, Zt.l0 k a kids kids.length i = some (id (rest.foldl (fun a x => max a (g x)) a))
  | [], i, hr, _, a => by
    have hi := drop_nil hr
    refine ⟨1, ?_⟩
    rw [Zt.l0, if_neg (by omega)]
    first | rfl | (rw [mn_eq]; rfl)
  | x :: r, i, hr, H, a => by
    obtain ⟨hi, hx, hr'⟩ := Jm hr
    obtain ⟨k0, hk0⟩ := H x List.mem_cons_self
    obtain ⟨k1, hk1⟩ := span_loop g kids hk r (i + 1) hr' (fun y hy => H y (List.mem_cons_of_mem _ hy)) (max a (g x))
    have hw : wrap64 ((i : Int) + 1) = ((i + 1 : Nat) : Int) := by rw [Vf (by omega) (by omega)]; rfl
    have hi1 : (i : Int) < (kids.length : Int) := Int.ofNat_lt.2 hi
    refine ⟨max k0 k1 + 1, ?_⟩
    have h0 := upM (f := fun k => Vm (Zt.f k) x) (fun k => Wn k x) hk0 (Nat.le_max_left k0 k1)
    simp only [Vm] at h0
    rw [Zt.l0, if_pos hi1, if_pos (Int.natCast_nonneg i), if_pos hi1, Jl hx, h0]
    show Zt.l0 (max k0 k1) (mx a (g x)) kids kids.length (wrap64 ((i : Int) + 1)) = _
    rw [hw, mx_eq]
    exact upM (f := fun k => Zt.l0 k (max a (g x)) kids kids.length ((i + 1 : Nat) : Int)) (fun k => (Zt.mono_l k).2 _ _ _ _) hk1 (Nat.le_max_right _ _)
theorem long_mono (k : Nat) (t : Vp) : Xo (Vm (Zn.f k) t) (Vm (Zn.f (k + 1)) t) := (Zn.mono_l k).1 _ _ _ _ _ _ _ _ _ _ _ _ _ _
theorem long_loop (g : Vp → Int) (kids : List Vp) (hk : kids.length ≤ 48) : ∀ (rest : List Vp) (i : Nat), kids.drop i = rest → (∀ x ∈ rest, ∃ k, Vm (Zn.f k) x = some (g x)) → ∀ a : Int, ∃ k, Zn.l0 k a kids kids.length i = some (min1000 (rest.foldl (fun a x => max a (g x)) a))
  | [], i, hr, _, a => by
    have hi := drop_nil hr
    refine ⟨1, ?_⟩
    rw [Zn.l0, if_neg (by omega)]
    first | rfl | (rw [mn_eq]; rfl)
  | x :: r, i, hr, H, a => by
    obtain ⟨hi, hx, hr'⟩ := Jm hr
    obtain ⟨k0, hk0⟩ := H x List.mem_cons_self
    obtain ⟨k1, hk1⟩ := long_loop g kids hk r (i + 1) hr' (fun y hy => H y (List.mem_cons_of_mem _ hy)) (max a (g x))
    have hw : wrap64 ((i : Int) + 1) = ((i + 1 : Nat) : Int) := by rw [Vf (by omega) (by omega)]; rfl
    have hi1 : (i : Int) < (kids.length : Int) := Int.ofNat_lt.2 hi
    refine ⟨max k0 k1 + 1, ?_⟩
    have h0 := upM (f := fun k => Vm (Zn.f k) x) (fun k => long_mono k x) hk0 (Nat.le_max_left k0 k1)
    simp only [Vm] at h0
    rw [Zn.l0, if_pos hi1, if_pos (Int.natCast_nonneg i), if_pos hi1, Jl hx, h0]
    show Zn.l0 (max k0 k1) (mx a (g x)) kids kids.length (wrap64 ((i : Int) + 1)) = _
    rw [hw, mx_eq]
    exact upM (f := fun k => Zn.l0 k (max a (g x)) kids kids.length ((i + 1 : Nat) : Int)) (fun k => (Zn.mono_l k).2 _ _ _ _) hk1 (Nat.le_max_right _ _)
theorem span_ex : ∀ (d : Nat) (t : Vp), d ≤ 10 → Sm d t → Qx d t = some 0 → ∃ k, Vm (Zt.f k) t = some (Qu d t)
  | 0, _, _, h, _ => h.elim
  | d + 1, t, hd, hs, h => by
    obtain ⟨hk, hn⟩ := valid_node h
    have IH := fun x (hx : x ∈ t.f4) => span_ex d x (by omega) (hs.2 x hx) (hk x hx)
    have hR := fun x (hx : x ∈ t.f4) => Jo d x (hk x hx)
    have hB : bnd d ≤ 5904900 := by
      have : ∀ n, n ≤ 9 → bnd n ≤ 1968300 := fun n hn => by
        rcases (show n = 0 ∨ n = 1 ∨ n = 2 ∨ n = 3 ∨ n = 4 ∨ n = 5 ∨ n = 6 ∨ n = 7 ∨ n = 8 ∨ n = 9 by omega) with rfl | rfl | rfl | rfl | rfl | rfl | rfl | rfl | rfl | rfl <;> decide
      have := this d (by omega)
      omega
    have h0k : kid t 0 = Zc t.f4 0 := rfl
    have h1k : kid t 1 = Zc t.f4 1 := rfl
    simp only [Vm]
    rcases hn with ⟨h0, _⟩ | ⟨h0, ⟨a, b, hab⟩, g1, g2⟩ | ⟨h0, a, r, hab⟩ | ⟨h0, a, b, hab⟩ | ⟨h0, ⟨a, hab⟩, g1, g2⟩
    · refine ⟨1, ?_⟩
      have n1 : ¬ t.f0 = 1 := by omega
      have n2 : ¬ t.f0 = 2 := by omega
      have n3 : ¬ t.f0 = 3 := by omega
      have n4 : ¬ t.f0 = 4 := by omega
      rw [Zt.f, Qu, if_neg n1, if_neg n1, if_neg n2, if_neg n2, if_neg n3, if_neg n3, if_neg n4, if_neg n4]
    · have hma : a ∈ t.f4 := by rw [hab]; simp
      have hmb : b ∈ t.f4 := by rw [hab]; simp
      have k0 : kid t 0 = a := by unfold kid; exact Jl (by rw [hab]; rfl)
      have k1 : kid t 1 = b := by unfold kid; exact Jl (by rw [hab]; rfl)
      obtain ⟨ka, ha⟩ := IH a hma
      obtain ⟨kb, hb⟩ := IH b hmb
      have ra := hR a hma
      have rb := hR b hmb
      have h0 := h0
      have ha' := upM (f := fun k => Vm (Zt.f k) a) (fun k => Wn k a) ha (Nat.le_max_left ka kb)
      have hb' := upM (f := fun k => Vm (Zt.f k) b) (fun k => Wn k b) hb (Nat.le_max_right ka kb)
      simp only [Vm] at ha' hb'
      refine ⟨max ka kb + 1, ?_⟩
      have hl : (t.f4.length : Int) = 2 := by rw [hab]; rfl
      have hp : 0 < (t.f4.length : Int) := by omega
      rw [Zt.f, Qu, if_pos h0, if_pos h0, if_pos hp, ← h0k, ← h1k, k0, k1, ha']
      show (if 1 < (t.f4.length : Int) then _ else _) = _
      rw [if_pos (by omega), hb']
      show some (wrap64 (wrap64 (wrap64 (Qu d a + t.f2) + Qu d b) - 1)) = _
      unfold Rel at ra rb
      obtain ⟨r1, r2, _⟩ := ra
      obtain ⟨r3, r4, _⟩ := rb
      have w1 : wrap64 (Qu d a + t.f2) = Qu d a + t.f2 := Vf (by omega) (by omega)
      rw [w1]
      clear w1
      have w2 : wrap64 (Qu d a + t.f2 + Qu d b) = Qu d a + t.f2 + Qu d b := Vf (by omega) (by omega)
      rw [w2]
      clear w2
      rw [Vf (by omega) (by omega)]
    · have hma : a ∈ t.f4 := by rw [hab]; simp
      have k0 : kid t 0 = a := by unfold kid; exact Jl (by rw [hab]; rfl)
      obtain ⟨ka, ha⟩ := IH a hma
      obtain ⟨kl, hl⟩ := span_loop (Qu d) t.f4 hs.1 t.f4 0 rfl IH (Qu d a)
      have ha' := upM (f := fun k => Vm (Zt.f k) a) (fun k => Wn k a) ha (Nat.le_max_left ka kl)
      have hl' := upM (f := fun k => Zt.l0 k (Qu d a) t.f4 t.f4.length ((0 : Nat) : Int)) (fun k => (Zt.mono_l k).2 _ _ _ _) hl (Nat.le_max_right ka kl)
      simp only [Vm] at ha'
      have hn : 0 < t.f4.length := by rw [hab]; simp
      refine ⟨max ka kl + 1, ?_⟩
      have hp : 0 < (t.f4.length : Int) := by omega
      have n1 : ¬ t.f0 = 1 := by omega
      rw [Zt.f, Qu, if_neg n1, if_neg n1, if_pos h0, if_pos h0, if_pos hp, ← h0k, k0, ha']
      exact hl'
    · have hma : a ∈ t.f4 := by rw [hab]; simp
      have hmb : b ∈ t.f4 := by rw [hab]; simp
      have k0 : kid t 0 = a := by unfold kid; exact Jl (by rw [hab]; rfl)
      have k1 : kid t 1 = b := by unfold kid; exact Jl (by rw [hab]; rfl)
      obtain ⟨ka, ha⟩ := IH a hma
      obtain ⟨kb, hb⟩ := IH b hmb
      have ha' := upM (f := fun k => Vm (Zt.f k) a) (fun k => Wn k a) ha (Nat.le_max_left ka kb)
      have hb' := upM (f := fun k => Vm (Zt.f k) b) (fun k => Wn k b) hb (Nat.le_max_right ka kb)
      simp only [Vm] at ha' hb'
      refine ⟨max ka kb + 1, ?_⟩
      have hl : (t.f4.length : Int) = 2 := by rw [hab]; rfl
      have hp : 0 < (t.f4.length : Int) := by omega
      have n1 : ¬ t.f0 = 1 := by omega
      have n2 : ¬ t.f0 = 2 := by omega
      rw [Zt.f, Qu, if_neg n1, if_neg n1, if_neg n2, if_neg n2, if_pos h0, if_pos h0, if_pos hp, ← h0k, ← h1k, k0, k1, ha']
      show (if 1 < (t.f4.length : Int) then _ else _) = _
      rw [if_pos (by omega), hb']
      show some (mx (Qu d a) (Qu d b)) = _
      rw [mx_eq]
    · have hma : a ∈ t.f4 := by rw [hab]; simp
      have k0 : kid t 0 = a := by unfold kid; exact Jl (by rw [hab]; rfl)
      obtain ⟨ka, ha⟩ := IH a hma
      have ra := hR a hma
      simp only [Vm] at ha
      refine ⟨ka + 1, ?_⟩
      have hl : (t.f4.length : Int) = 1 := by rw [hab]; rfl
      have hp : 0 < (t.f4.length : Int) := by omega
      have n1 : ¬ t.f0 = 1 := by omega
      have n2 : ¬ t.f0 = 2 := by omega
      have n3 : ¬ t.f0 = 3 := by omega
      rw [Zt.f, Qu, if_neg n1, if_neg n1, if_neg n2, if_neg n2, if_neg n3, if_neg n3, if_pos h0, if_pos h0, if_pos hp, ← h0k, k0, ha]
      show some (mn (wrap64 (t.f2 * Qu d a)) 65) = _
      obtain ⟨r1, r2, _⟩ := ra
      have p1 : t.f2 * Qu d a ≤ 16 * Qu d a := Int.mul_le_mul_of_nonneg_right g2 (by omega)
      have p2 : 1 * Qu d a ≤ t.f2 * Qu d a := Int.mul_le_mul_of_nonneg_right g1 (by omega)
      rw [Vf (by omega) (by omega), mn_eq]
theorem long_ex : ∀ (d : Nat) (t : Vp), d ≤ 10 → Sm d t → Qx d t = some 0 → ∃ k, Vm (Zn.f k) t = some (Vl d t)
  | 0, _, _, h, _ => h.elim
  | d + 1, t, hd, hs, h => by
    obtain ⟨hk, hn⟩ := valid_node h
    have IH := fun x (hx : x ∈ t.f4) => long_ex d x (by omega) (hs.2 x hx) (hk x hx)
    have hR := fun x (hx : x ∈ t.f4) => Jo d x (hk x hx)
    have h0k : kid t 0 = Zc t.f4 0 := rfl
    have h1k : kid t 1 = Zc t.f4 1 := rfl
    have loop : t.f0 ≠ 0 → t.f0 ≠ 1 → t.f0 ≠ 4 → ∀ a, a ∈ t.f4 → kid t 0 = a → ∃ k, Zn.f k t.f0 t.f1.f0 t.f1.f1 t.f1.f2 t.f1.f3.f0 t.f1.f3.f1 t.f1.f3.f2 t.f1.f4 t.f1.f5 t.f1.f6 t.f1.f7 t.f2 t.f3 t.f4 = some (Vl (d + 1) t) := fun n0 n1 n4 a hma k0 => by
      obtain ⟨ka, ha⟩ := IH a hma
      obtain ⟨kl, hl⟩ := long_loop (Vl d) t.f4 hs.1 t.f4 0 rfl IH (Vl d a)
      have ha' := upM (f := fun k => Vm (Zn.f k) a) (fun k => long_mono k a) ha (Nat.le_max_left ka kl)
      have hl' := upM (f := fun k => Zn.l0 k (Vl d a) t.f4 t.f4.length ((0 : Nat) : Int)) (fun k => (Zn.mono_l k).2 _ _ _ _) hl (Nat.le_max_right ka kl)
      simp only [Vm] at ha'
      have hn : 0 < t.f4.length := List.length_pos_of_mem hma
      refine ⟨max ka kl + 1, ?_⟩
      have hp : 0 < (t.f4.length : Int) := by omega
      rw [Zn.f, Vl, if_neg n0, if_neg n0, if_pos hp, if_neg n1, if_neg n4, ← h0k, k0, ha']
      show (if t.f0 = 1 then _ else _) = _
      rw [if_neg n1, if_neg n4]
      exact hl'
    simp only [Vm]
    rcases hn with ⟨h0, _⟩ | ⟨h0, ⟨a, b, hab⟩, g1, g2⟩ | ⟨h0, a, r, hab⟩ | ⟨h0, a, b, hab⟩ | ⟨h0, ⟨a, hab⟩, g1, g2⟩
    · refine ⟨1, ?_⟩
      rw [Zn.f, Vl, if_pos h0, if_pos h0]
    · have hma : a ∈ t.f4 := by rw [hab]; simp
      have hmb : b ∈ t.f4 := by rw [hab]; simp
      have k0 : kid t 0 = a := by unfold kid; exact Jl (by rw [hab]; rfl)
      have k1 : kid t 1 = b := by unfold kid; exact Jl (by rw [hab]; rfl)
      obtain ⟨ka, ha⟩ := IH a hma
      obtain ⟨kb, hb⟩ := IH b hmb
      have ra := hR a hma
      have rb := hR b hmb
      have ha' := upM (f := fun k => Vm (Zn.f k) a) (fun k => long_mono k a) ha (Nat.le_max_left ka kb)
      have hb' := upM (f := fun k => Vm (Zn.f k) b) (fun k => long_mono k b) hb (Nat.le_max_right ka kb)
      simp only [Vm] at ha' hb'
      refine ⟨max ka kb + 1, ?_⟩
      have hl : (t.f4.length : Int) = 2 := by rw [hab]; rfl
      have hp : 0 < (t.f4.length : Int) := by omega
      have n0 : ¬ t.f0 = 0 := by omega
      rw [Zn.f, Vl, if_neg n0, if_neg n0, if_pos hp, if_pos h0, ← h0k, ← h1k, k0, k1, ha']
      show (if t.f0 = 1 then _ else _) = _
      rw [if_pos h0, if_pos (by omega), hb']
      show some (mn (wrap64 (Vl d a + wrap64 (wrap64 (t.f2 - 1) + Vl d b))) 1000) = _
      obtain ⟨_, _, r1, r2, _⟩ := ra
      obtain ⟨_, _, r3, r4, _⟩ := rb
      have w1 : wrap64 (t.f2 - 1) = t.f2 - 1 := Vf (by omega) (by omega)
      rw [w1]
      clear w1
      have w2 : wrap64 (t.f2 - 1 + Vl d b) = t.f2 - 1 + Vl d b := Vf (by omega) (by omega)
      rw [w2]
      clear w2
      rw [Vf (by omega) (by omega), mn_eq]
    · exact loop (by omega) (by omega) (by omega) a (by rw [hab]; simp) (by unfold kid; exact Jl (by rw [hab]; rfl))
    · exact loop (by omega) (by omega) (by omega) a (by rw [hab]; simp) (by unfold kid; exact Jl (by rw [hab]; rfl))
    · have hma : a ∈ t.f4 := by rw [hab]; simp
      have k0 : kid t 0 = a := by unfold kid; exact Jl (by rw [hab]; rfl)
      obtain ⟨ka, ha⟩ := IH a hma
      have ra := hR a hma
      simp only [Vm] at ha
      refine ⟨ka + 1, ?_⟩
      have hl : (t.f4.length : Int) = 1 := by rw [hab]; rfl
      have hp : 0 < (t.f4.length : Int) := by omega
      have n0 : ¬ t.f0 = 0 := by omega
      have n1 : ¬ t.f0 = 1 := by omega
      rw [Zn.f, Vl, if_neg n0, if_neg n0, if_pos hp, if_neg n1, if_pos h0, ← h0k, k0, ha]
      show (if t.f0 = 1 then _ else if t.f0 = 4 then some (mn (wrap64 (Vl d a * t.f2)) 1000) else _) = _
      obtain ⟨_, _, r1, r2, _⟩ := ra
      have hc := Int.mul_comm (Vl d a) t.f2
      have p1 : t.f2 * Vl d a ≤ 16 * Vl d a := Int.mul_le_mul_of_nonneg_right g2 (by omega)
      have p2 : 1 * Vl d a ≤ t.f2 * Vl d a := Int.mul_le_mul_of_nonneg_right g1 (by omega)
      rw [if_neg (by omega), if_pos h0, hc, Vf (by omega) (by omega), mn_eq]
end Go.Proofs.Ytkbkndfonccekaa
namespace Go.Proofs.Ytkbkndfonccekaa.PF
open Go.RowKit Go.Proofs.YtkbkndfonccekaaW.PrintWords Go.Proofs.YtkbkndfonccekaaW.PrintLast Go.Proofs.YtkbkndfonccekaaW.PrintMore
attribute [local go_sem] Qn Qp Kq Kt
set_option linter.unusedVariables false
set_option linter.unusedSimpArgs false
def Qv.f (k : Nat) (Jq : Int) (Jp : Int) (Jn : Int) (Jk : Bool) (Jj : Int) (Ji : Int) (Jg : Int) (Jf : Int) (Je : Bool) (Jd : Int) (J4 : List (Qh)) (J8 : Int) (J7 : Int) (J0 : List (Vd)) : Option (Int) := Qx k ⟨Jq, ⟨Jp, Jn, Jk, ⟨Jj, Ji, Jg⟩, Jf, Je, Jd, J4⟩, J8, J7, J0⟩
theorem Qv.mono : ∀ Jq Jp Jn Jk Jj Ji Jg Jf Je Jd J4 J8 J7 J0 k, Xo (Qv.f k Jq Jp Jn Jk Jj Ji Jg Jf Je Jd J4 J8 J7 J0) (Qv.f (k + 1) Jq Jp Jn Jk Jj Ji Jg Jf Je Jd J4 J8 J7 J0) := fun _ _ _ _ _ _ _ _ _ _ _ _ _ _ k => formedF_le k _
theorem Qv.calls (k : Nat) (Jq : Int) (Jp : Int) (Jn : Int) (Jk : Bool) (Jj : Int) (Ji : Int) (Jg : Int) (Jf : Int) (Je : Bool) (Jd : Int) (A0_10 : Option Addr) (c0_10 : Nat) (J4 : List (Qh)) (J8 : Int) (J7 : Int) (A0_13 : Option Addr) (c0_13 : Nat) (J0 : List (Vd)) (r : Int) (w : World) (hr0_10 : Kd.C k27 w A0_10 J4.length J4) (hc0_10 : J4.length ≤ c0_10) (hr0_13 : Kd.C k30 w A0_13 J0.length J0) (hc0_13 : J0.length ≤ c0_13) (h : Qv.f k Jq Jp Jn Jk Jj Ji Jg Jf Je Jd J4 J8 J7 J0 = some r) :
 Calls Try.prog 24 #[.agg #[.int .i64 Jq, .int .i64 Jp, .int .i64 Jn, .bool Jk, .int .i64 Jj, .int .u64 Ji, .int .u64 Jg, .int .i64 Jf, .bool Je, .int .i64 Jd, .slice A0_10 J4.length c0_10, .int .i64 J8, .int .i64 J7, .slice A0_13 J0.length c0_13]] w fun e w' => e = .returned (.int .i64 r) ∧ Below w.heap.size w w' := by
 exact (formed_all k _ A0_10 c0_10 A0_13 c0_13 w r hr0_10 hc0_10 hr0_13 h).mono fun e w' ⟨he, hw⟩ => ⟨he, hw.below⟩
end Go.Proofs.Ytkbkndfonccekaa.PF
namespace Go.Proofs.Ytkbkndfonccekaa.PF
open Go.RowKit Go.Proofs.YtkbkndfonccekaaW.PrintWords Go.Proofs.YtkbkndfonccekaaW.PrintLast Go.Proofs.YtkbkndfonccekaaW.PrintMore
attribute [local go_sem] Qn Qp Kq Kt
set_option linter.unusedVariables false
set_option linter.unusedSimpArgs false
def Zz.j0 : Nat → Bool → Int → Int → Int → Bool → Int → Int → Int → Int → Bool → Int → List (Qh) → Int → Int → List (Vd) → Option (Int)
  | 0, _, _, _, _, _, _, _, _, _, _, _, _, _, _, _ => none
  | k + 1, x22, JK, JJ, JI, JH, JG, JF, JE, JD, JC, JB, JA, Jz, Jy, Jx => if x22 = true then (some 3) else ((Qv.f k JK JJ JI JH JG JF JE JD JC JB JA Jz Jy Jx).bind fun t149 => (if t149 = 0 then ((Zt.f k JK JJ JI JH JG JF JE JD JC JB JA Jz Jy Jx).bind fun t150 => (if t150 > 64 then (some 3) else (some 0))) else (some t149)))
def Zz.f (k : Nat) (Jq : Int) (Jp : Int) (Jn : Int) (Jk : Bool) (Jj : Int) (Ji : Int) (Jg : Int) (Jf : Int) (Je : Bool) (Jd : Int) (J4 : List (Qh)) (J8 : Int) (J7 : Int) (J0 : List (Vd)) : Option (Int) := (Xh.f k Jq Jp Jn Jk Jj Ji Jg Jf Je Jd J4 J8 J7 J0 1).bind fun bt146 => (if bt146.1 > 48 then (Zz.j0 k true Jq Jp Jn Jk Jj Ji Jg Jf Je Jd J4 J8 J7 J0) else (if bt146.2.1 > 10 then (Zz.j0 k true Jq Jp Jn Jk Jj Ji Jg Jf Je Jd J4 J8 J7 J0) else (Zz.j0 k (decide (bt146.2.2 > 12)) Jq Jp Jn Jk Jj Ji Jg Jf Je Jd J4 J8 J7 J0)))
theorem Zz.mono_l : ∀ k, (∀ y0 y1 y2 y3 y4 y5 y6 y7 y8 y9 y10 y11 y12 y13 y14, Xo (Zz.j0 k y0 y1 y2 y3 y4 y5 y6 y7 y8 y9 y10 y11 y12 y13 y14) (Zz.j0 (k + 1) y0 y1 y2 y3 y4 y5 y6 y7 y8 y9 y10 y11 y12 y13 y14))
  | 0 => fun _ _ _ _ _ _ _ _ _ _ _ _ _ _ _ r h => by simp [Zz.j0] at h
  | k + 1 => by
    have ih0 := Zz.mono_l k
    · intro y0 y1 y2 y3 y4 y5 y6 y7 y8 y9 y10 y11 y12 y13 y14
      unfold Zz.j0
      repeat' first
      | (with_reducible exact ih0 _ _ _ _ _ _ _ _ _ _ _ _ _ _ _)
      | (with_reducible exact Qv.mono _ _ _ _ _ _ _ _ _ _ _ _ _ _ _)
      | (with_reducible exact Xh.mono _ _ _ _ _ _ _ _ _ _ _ _ _ _ _ _)
      | (with_reducible exact Zt.mono _ _ _ _ _ _ _ _ _ _ _ _ _ _ _)
      | (with_reducible exact Xo.refl _)
      | (with_reducible exact Xo.none _)
      | (with_reducible refine Xo.ite ?_ ?_)
      | (with_reducible refine Xo.bind ?_ (fun _ => ?_))
      | exact ih0 _ _ _ _ _ _ _ _ _ _ _ _ _ _ _
      | exact Qv.mono _ _ _ _ _ _ _ _ _ _ _ _ _ _ _
      | exact Xh.mono _ _ _ _ _ _ _ _ _ _ _ _ _ _ _ _
      | exact Zt.mono _ _ _ _ _ _ _ _ _ _ _ _ _ _ _
      | exact Xo.none _
      | refine Xo.ite ?_ ?_
      | refine Xo.bind ?_ (fun _ => ?_)
theorem Zz.mono : ∀ a0 a1 a2 a3 a4 a5 a6 a7 a8 a9 a10 a11 a12 a13 k, Xo (Zz.f k a0 a1 a2 a3 a4 a5 a6 a7 a8 a9 a10 a11 a12 a13) (Zz.f (k + 1) a0 a1 a2 a3 a4 a5 a6 a7 a8 a9 a10 a11 a12 a13) := by
  intro a0 a1 a2 a3 a4 a5 a6 a7 a8 a9 a10 a11 a12 a13 k
  have ih0 := Zz.mono_l k
  unfold Zz.f
  repeat' first
      | (with_reducible exact ih0 _ _ _ _ _ _ _ _ _ _ _ _ _ _ _)
      | (with_reducible exact Qv.mono _ _ _ _ _ _ _ _ _ _ _ _ _ _ _)
      | (with_reducible exact Xh.mono _ _ _ _ _ _ _ _ _ _ _ _ _ _ _ _)
      | (with_reducible exact Zt.mono _ _ _ _ _ _ _ _ _ _ _ _ _ _ _)
      | (with_reducible exact Xo.refl _)
      | (with_reducible exact Xo.none _)
      | (with_reducible refine Xo.ite ?_ ?_)
      | (with_reducible refine Xo.bind ?_ (fun _ => ?_))
      | exact ih0 _ _ _ _ _ _ _ _ _ _ _ _ _ _ _
      | exact Qv.mono _ _ _ _ _ _ _ _ _ _ _ _ _ _ _
      | exact Xh.mono _ _ _ _ _ _ _ _ _ _ _ _ _ _ _ _
      | exact Zt.mono _ _ _ _ _ _ _ _ _ _ _ _ _ _ _
      | exact Xo.none _
      | refine Xo.ite ?_ ?_
      | refine Xo.bind ?_ (fun _ => ?_)
set_option maxHeartbeats 8000000 in
set_option maxRecDepth 100000 in
theorem Zz.calls (k : Nat) (Jq : Int) (Jp : Int) (Jn : Int) (Jk : Bool) (Jj : Int) (Ji : Int) (Jg : Int) (Jf : Int) (Je : Bool) (Jd : Int) (A0_10 : Option Addr) (c0_10 : Nat) (J4 : List (Qh)) (J8 : Int) (J7 : Int) (A0_13 : Option Addr) (c0_13 : Nat) (J0 : List (Vd)) (r : Int) (w : World) (hr0_10 : Kd.C k27 w A0_10 J4.length J4) (hc0_10 : J4.length ≤ c0_10) (hr0_13 : Kd.C k30 w A0_13 J0.length J0) (hc0_13 : J0.length ≤ c0_13) (h : Zz.f k Jq Jp Jn Jk Jj Ji Jg Jf Je Jd J4 J8 J7 J0 = some r) :
 Calls Try.prog 8 #[.agg #[.int .i64 Jq, .int .i64 Jp, .int .i64 Jn, .bool Jk, .int .i64 Jj, .int .u64 Ji, .int .u64 Jg, .int .i64 Jf, .bool Je, .int .i64 Jd, .slice A0_10 J4.length c0_10, .int .i64 J8, .int .i64 J7, .slice A0_13 J0.length c0_13]] w fun e w' => e = .returned (.int .i64 r) ∧ Below w.heap.size w w' := by
 have hu30 := Try.underlying30
 have HR0_10 := Zd.mk hr0_10
 have HC0_10 := Zd.mk hc0_10
 clear hr0_10 hc0_10
 have HR0_13 := Zd.mk hr0_13
 have HC0_13 := Zd.mk hc0_13
 clear hr0_13 hc0_13
 have HB := Zd.mk (Below.refl w.heap.size w)
 have H : ((Xh.f k Jq Jp Jn Jk Jj Ji Jg Jf Je Jd J4 J8 J7 J0 1).bind fun bt146 => (if bt146.1 > 48 then (Zz.j0 k true Jq Jp Jn Jk Jj Ji Jg Jf Je Jd J4 J8 J7 J0) else (if bt146.2.1 > 10 then (Zz.j0 k true Jq Jp Jn Jk Jj Ji Jg Jf Je Jd J4 J8 J7 J0) else (Zz.j0 k (decide (bt146.2.2 > 12)) Jq Jp Jn Jk Jj Ji Jg Jf Je Jd J4 J8 J7 J0)))) = some r := h
 clear h
 replace H := Option.bind_eq_some_iff.mp H
 obtain ⟨⟨t146, t147, t148⟩, A20, H⟩ := H
 replace H : (if t146 > 48 then (Zz.j0 k true Jq Jp Jn Jk Jj Ji Jg Jf Je Jd J4 J8 J7 J0) else (if t147 > 10 then (Zz.j0 k true Jq Jp Jn Jk Jj Ji Jg Jf Je Jd J4 J8 J7 J0) else (Zz.j0 k (decide (t148 > 12)) Jq Jp Jn Jk Jj Ji Jg Jf Je Jd J4 J8 J7 J0))) = some r := H
 have A2 := Zd.mk A20
 clear A20
 have HC3 := Zd.mk H
 clear H
 go_enter Try.func8, Try.ntmps8
 go_upto_region 2 with (first | ((with_reducible refine Xd (N := 1) rfl ?_); refine Xe ?hg (N := 1) ?hd (cs := #[.int .i64 Jq, .int .i64 Jp, .int .i64 Jn, .bool Jk, .int .i64 Jj, .int .u64 Ji, .int .u64 Jg, .int .i64 Jf, .bool Je, .int .i64 Jd, .slice A0_10 J4.length c0_10, .int .i64 J8, .int .i64 J7, .slice A0_13 J0.length c0_13]) (t := 30) ?hr ?_; (case hd => rfl); (case hg => rfl); (case hr => first | (go_simp; done) | (go_simp; rfl)); intro Jt hg w4 hbox hb; have n0_ := Zd.mk (Zj HB.out hb); have n1_ := Zd.mk (hbox); have n2_ := Zd.mk ((by rw [hg]; exact (Zl HB.out) : w.heap.size ≤ Jt)); have n3_ := n2_; clear HB; have HB := n0_; have J3 := n1_; have GW145 := n2_; have GE145 := n3_; clear n0_ n1_ n2_ n3_; clear hb hbox hg; have hcz5_0 : w4.cell? ⟨Jt, 0, none⟩ = some (.int .i64 Jq) := (Za J3.out 0).trans rfl; have hcz5_1 : w4.cell? ⟨Jt, 1, none⟩ = some (.int .i64 Jp) := (Za J3.out 1).trans rfl; have hcz5_2 : w4.cell? ⟨Jt, 2, none⟩ = some (.int .i64 Jn) := (Za J3.out 2).trans rfl; have hcz5_3 : w4.cell? ⟨Jt, 3, none⟩ = some (.bool Jk) := (Za J3.out 3).trans rfl; have hcz5_4 : w4.cell? ⟨Jt, 4, none⟩ = some (.int .i64 Jj) := (Za J3.out 4).trans rfl; have hcz5_5 : w4.cell? ⟨Jt, 5, none⟩ = some (.int .u64 Ji) := (Za J3.out 5).trans rfl; have hcz5_6 : w4.cell? ⟨Jt, 6, none⟩ = some (.int .u64 Jg) := (Za J3.out 6).trans rfl; have hcz5_7 : w4.cell? ⟨Jt, 7, none⟩ = some (.int .i64 Jf) := (Za J3.out 7).trans rfl; have hcz5_8 : w4.cell? ⟨Jt, 8, none⟩ = some (.bool Je) := (Za J3.out 8).trans rfl; have hcz5_9 : w4.cell? ⟨Jt, 9, none⟩ = some (.int .i64 Jd) := (Za J3.out 9).trans rfl; have hcz5_10 : w4.cell? ⟨Jt, 10, none⟩ = some (.slice A0_10 J4.length c0_10) := (Za J3.out 10).trans rfl; have hcz5_11 : w4.cell? ⟨Jt, 11, none⟩ = some (.int .i64 J8) := (Za J3.out 11).trans rfl; have hcz5_12 : w4.cell? ⟨Jt, 12, none⟩ = some (.int .i64 J7) := (Za J3.out 12).trans rfl; have hcz5_13 : w4.cell? ⟨Jt, 13, none⟩ = some (.slice A0_13 J0.length c0_13) := (Za J3.out 13).trans rfl; have hfz5_0 := Zb J3.out 0; have hfz5_1 := Zb J3.out 1; have hfz5_2 := Zb J3.out 2; have hfz5_3 := Zb J3.out 3; have hfz5_4 := Zb J3.out 4; have hfz5_5 := Zb J3.out 5; have hfz5_6 := Zb J3.out 6; have hfz5_7 := Zb J3.out 7; have hfz5_8 := Zb J3.out 8; have hfz5_9 := Zb J3.out 9; have hfz5_10 := Zb J3.out 10; have hfz5_11 := Zb J3.out 11; have hfz5_12 := Zb J3.out 12; have hfz5_13 := Zb J3.out 13) | ((with_reducible refine Zx (f := 23) rfl ?_); refine Xz (some 9) rfl rfl Try.func23 (by kernel_rfl) rfl #[.agg #[.int .i64 Jq, .int .i64 Jp, .int .i64 Jn, .bool Jk, .int .i64 Jj, .int .u64 Ji, .int .u64 Jg, .int .i64 Jf, .bool Je, .int .i64 Jd, .slice A0_10 J4.length c0_10, .int .i64 J8, .int .i64 J7, .slice A0_13 J0.length c0_13], .int .i64 1] rfl (by (try simp only [List.map_toArray, List.map_cons, List.map_nil]); first | done | rfl | (simp only [List.length_drop, List.length_take]; rfl)) ?_; (with_reducible refine (Xh.calls k Jq Jp Jn Jk Jj Ji Jg Jf Je Jd _ _ J4 J8 J7 _ _ J0 1 t146 t147 t148 _ ?side1 ?side2 ?side3 ?side4 A2.out).mono ?_); (case side1 => exact (Kd.Zw HR0_10.out HB.out)); (case side2 => exact HC0_10.out); (case side3 => exact (Kd.Zw HR0_13.out HB.out)); (case side4 => exact HC0_13.out); rintro e w6 ⟨rfl, hb⟩; refine ⟨_, rfl, ?_⟩; have n0_ := Zd.mk (Zp J3.out hb); have n1_ := Zd.mk (Zj HB.out hb); clear J3; clear HB; have J3 := n0_; have HB := n1_; clear n0_ n1_; (try clear hb); (try clear hb2); (try clear hk); (try clear hi)))
 (try simp only [Act.put, List.setIfInBounds_toArray, List.set_cons_zero, List.set_cons_succ])
 go_cut [22] (fun v22 wc => ∃ (kq : Nat) (Jw : Bool), v22 = .bool Jw ∧ Zd (Zz.j0 kq Jw Jq Jp Jn Jk Jj Ji Jg Jf Je Jd J4 J8 J7 J0 = some r) ∧ Zd (kq ≤ k) ∧ Zd (wc.heap[Jt]? = some (.cells #[.int .i64 Jq, .int .i64 Jp, .int .i64 Jn, .bool Jk, .int .i64 Jj, .int .u64 Ji, .int .u64 Jg, .int .i64 Jf, .bool Je, .int .i64 Jd, (.slice A0_10 J4.length c0_10), .int .i64 J8, .int .i64 J7, (.slice A0_13 J0.length c0_13)] 30 (0, 0))) ∧ Zd (Below w.heap.size w wc))
 case first =>
  have H := HC3.out
  clear HC3
  by_cases c7 : t146 > 48
  ·rw [if_pos c7] at H
   have c7b0 : decide (48 < t146) = true := decide_eq_true c7
   clear c7
   (first | rw [c7b0] | (simp only [Xk]; rw [c7b0]) | skip)
   have H' := Zd.mk H
   clear H
   go_wp2
   go_meet
   case rel => exact ⟨_, (true), (by first | rfl | (simp; done) | (simp [*]; done)), H', ⟨by first | omega | exact Nat.le_refl _⟩, ⟨J3.out⟩, ⟨HB.out⟩⟩
  ·rw [if_neg c7] at H
   have c7b0 : decide (48 < t146) = false := decide_eq_false c7
   clear c7
   (first | rw [c7b0] | (simp only [Xk]; rw [c7b0]) | skip)
   by_cases c8 : t147 > 10
   ·rw [if_pos c8] at H
    have c8b0 : decide (10 < t147) = true := decide_eq_true c8
    clear c8
    have H' := Zd.mk H
    clear H
    go_wp2
    go_meet
    case rel => exact ⟨_, (true), (by first | rfl | (simp; done) | (simp [*]; done)), H', ⟨by first | omega | exact Nat.le_refl _⟩, ⟨J3.out⟩, ⟨HB.out⟩⟩
   ·rw [if_neg c8] at H
    have c8b0 : decide (10 < t147) = false := decide_eq_false c8
    clear c8
    have H' := Zd.mk H
    clear H
    go_wp2
    go_meet
    case rel => exact ⟨_, (decide (t148 > 12)), (by first | rfl | (simp; done) | (simp [*]; done)), H', ⟨by first | omega | exact Nat.le_refl _⟩, ⟨J3.out⟩, ⟨HB.out⟩⟩
 case rest =>
  clear HC3
  try clear hcz5_0
  try clear hcz5_1
  try clear hcz5_10
  try clear hcz5_11
  try clear hcz5_12
  try clear hcz5_13
  try clear hcz5_2
  try clear hcz5_3
  try clear hcz5_4
  try clear hcz5_5
  try clear hcz5_6
  try clear hcz5_7
  try clear hcz5_8
  try clear hcz5_9
  try clear hfz5_0
  try clear hfz5_1
  try clear hfz5_10
  try clear hfz5_11
  try clear hfz5_12
  try clear hfz5_13
  try clear hfz5_2
  try clear hfz5_3
  try clear hfz5_4
  try clear hfz5_5
  try clear hfz5_6
  try clear hfz5_7
  try clear hfz5_8
  try clear hfz5_9
  obtain ⟨kq, Jw, rfl, HA, HJ2, J3, HB⟩ := hcut
  cases kq with
  | zero => exact absurd HA.out (by simp [Zz.j0])
  | succ kj2 =>
   have H := HA.out
   clear HA
   simp only [Zz.j0] at H
   by_cases c9 : Jw = true
   ·subst c9
    have H1 : (some 3) = some r := by rw [if_pos rfl] at H; exact H
    clear H
    have H := H1
    clear H1
    obtain rfl := Option.some.inj H
    go_wp2
    go_ret
    exact ⟨by first | rfl | (simp [errW_none, errW_some] <;> rfl) | (simp [*, errW_none, errW_some] <;> rfl), HB.out⟩
   ·replace c9 := Bool.eq_false_iff.mpr c9
    subst c9
    have H1 : ((Qv.f kj2 Jq Jp Jn Jk Jj Ji Jg Jf Je Jd J4 J8 J7 J0).bind fun t149 => (if t149 = 0 then ((Zt.f kj2 Jq Jp Jn Jk Jj Ji Jg Jf Je Jd J4 J8 J7 J0).bind fun t150 => (if t150 > 64 then (some 3) else (some 0))) else (some t149))) = some r := by rw [if_neg (show ¬ (false = true) by decide)] at H; exact H
    clear H
    have H := H1
    clear H1
    replace H := Option.bind_eq_some_iff.mp H
    obtain ⟨t149, A100, H⟩ := H
    replace H : (if t149 = 0 then ((Zt.f kj2 Jq Jp Jn Jk Jj Ji Jg Jf Je Jd J4 J8 J7 J0).bind fun t150 => (if t150 > 64 then (some 3) else (some 0))) else (some t149)) = some r := H
    have A10 := Zd.mk A100
    clear A100
    by_cases c11 : t149 = 0
    ·rw [if_pos c11] at H
     have c11b0 : (t149 == 0) = true := beq_iff_eq.mpr c11
     have c11b1 : (t149 != 0) = false := bne_eq_false_iff_eq.mpr c11
     clear c11
     replace H := Option.bind_eq_some_iff.mp H
     obtain ⟨t150, A120, H⟩ := H
     replace H : (if t150 > 64 then (some 3) else (some 0)) = some r := H
     have A12 := Zd.mk A120
     clear A120
     by_cases c13 : t150 > 64
     ·rw [if_pos c13] at H
      have c13b0 : decide (64 < t150) = true := decide_eq_true c13
      clear c13
      obtain rfl := Option.some.inj H
      obtain ⟨hcz14_0, hcz14_1, hcz14_2, hcz14_3, hcz14_4, hcz14_5, hcz14_6, hcz14_7, hcz14_8, hcz14_9, hcz14_10, hcz14_11, hcz14_12, hcz14_13⟩ := zc14 J3.out
      obtain ⟨hfz14_0, hfz14_1, hfz14_2, hfz14_3, hfz14_4, hfz14_5, hfz14_6, hfz14_7, hfz14_8, hfz14_9, hfz14_10, hfz14_11, hfz14_12, hfz14_13⟩ := zf14 J3.out
      go_wp2_with (first | ((with_reducible refine Zx (f := 24) rfl ?_); refine Xz (some 24) rfl rfl Try.func24 (by kernel_rfl) rfl #[.agg #[.int .i64 Jq, .int .i64 Jp, .int .i64 Jn, .bool Jk, .int .i64 Jj, .int .u64 Ji, .int .u64 Jg, .int .i64 Jf, .bool Je, .int .i64 Jd, .slice A0_10 J4.length c0_10, .int .i64 J8, .int .i64 J7, .slice A0_13 J0.length c0_13]] rfl (by (try simp only [List.map_toArray, List.map_cons, List.map_nil]); first | done | rfl | (simp only [List.length_drop, List.length_take]; rfl)) ?_; (with_reducible refine (Qv.calls kj2 Jq Jp Jn Jk Jj Ji Jg Jf Je Jd _ _ J4 J8 J7 _ _ J0 t149 _ ?side1 ?side2 ?side3 ?side4 A10.out).mono ?_); (case side1 => exact (Kd.Zw HR0_10.out HB.out)); (case side2 => exact HC0_10.out); (case side3 => exact (Kd.Zw HR0_13.out HB.out)); (case side4 => exact HC0_13.out); rintro e w15 ⟨rfl, hb⟩; refine ⟨_, rfl, ?_⟩; have n0_ := Zd.mk (Zp J3.out hb); have n1_ := Zd.mk (Zj HB.out hb); clear J3; clear HB; have J3 := n0_; have HB := n1_; clear n0_ n1_; (try clear hb); (try clear hb2); (try clear hk); (try clear hi); have hcz16_0 : w15.cell? ⟨Jt, 0, none⟩ = some (.int .i64 Jq) := (Za J3.out 0).trans rfl; have hcz16_1 : w15.cell? ⟨Jt, 1, none⟩ = some (.int .i64 Jp) := (Za J3.out 1).trans rfl; have hcz16_2 : w15.cell? ⟨Jt, 2, none⟩ = some (.int .i64 Jn) := (Za J3.out 2).trans rfl; have hcz16_3 : w15.cell? ⟨Jt, 3, none⟩ = some (.bool Jk) := (Za J3.out 3).trans rfl; have hcz16_4 : w15.cell? ⟨Jt, 4, none⟩ = some (.int .i64 Jj) := (Za J3.out 4).trans rfl; have hcz16_5 : w15.cell? ⟨Jt, 5, none⟩ = some (.int .u64 Ji) := (Za J3.out 5).trans rfl; have hcz16_6 : w15.cell? ⟨Jt, 6, none⟩ = some (.int .u64 Jg) := (Za J3.out 6).trans rfl; have hcz16_7 : w15.cell? ⟨Jt, 7, none⟩ = some (.int .i64 Jf) := (Za J3.out 7).trans rfl; have hcz16_8 : w15.cell? ⟨Jt, 8, none⟩ = some (.bool Je) := (Za J3.out 8).trans rfl; have hcz16_9 : w15.cell? ⟨Jt, 9, none⟩ = some (.int .i64 Jd) := (Za J3.out 9).trans rfl; have Ms : w15.cell? ⟨Jt, 10, none⟩ = some (.slice A0_10 J4.length c0_10) := (Za J3.out 10).trans rfl; have Mr : w15.cell? ⟨Jt, 11, none⟩ = some (.int .i64 J8) := (Za J3.out 11).trans rfl; have Mq : w15.cell? ⟨Jt, 12, none⟩ = some (.int .i64 J7) := (Za J3.out 12).trans rfl; have Mp : w15.cell? ⟨Jt, 13, none⟩ = some (.slice A0_13 J0.length c0_13) := (Za J3.out 13).trans rfl; have hfz16_0 := Zb J3.out 0; have hfz16_1 := Zb J3.out 1; have hfz16_2 := Zb J3.out 2; have hfz16_3 := Zb J3.out 3; have hfz16_4 := Zb J3.out 4; have hfz16_5 := Zb J3.out 5; have hfz16_6 := Zb J3.out 6; have hfz16_7 := Zb J3.out 7; have hfz16_8 := Zb J3.out 8; have hfz16_9 := Zb J3.out 9; have Ma := Zb J3.out 10; have M9 := Zb J3.out 11; have M8 := Zb J3.out 12; have M7 := Zb J3.out 13) | ((with_reducible refine Zx (f := 17) rfl ?_); refine Xz (some 29) rfl rfl Try.func17 (by kernel_rfl) rfl #[.agg #[.int .i64 Jq, .int .i64 Jp, .int .i64 Jn, .bool Jk, .int .i64 Jj, .int .u64 Ji, .int .u64 Jg, .int .i64 Jf, .bool Je, .int .i64 Jd, .slice A0_10 J4.length c0_10, .int .i64 J8, .int .i64 J7, .slice A0_13 J0.length c0_13]] rfl (by (try simp only [List.map_toArray, List.map_cons, List.map_nil]); first | done | rfl | (simp only [List.length_drop, List.length_take]; rfl)) ?_; (with_reducible refine (Zt.calls kj2 Jq Jp Jn Jk Jj Ji Jg Jf Je Jd _ _ J4 J8 J7 _ _ J0 t150 _ ?side1 ?side2 ?side3 ?side4 A12.out).mono ?_); (case side1 => exact (Kd.Zw HR0_10.out HB.out)); (case side2 => exact HC0_10.out); (case side3 => exact (Kd.Zw HR0_13.out HB.out)); (case side4 => exact HC0_13.out); rintro e w17 ⟨rfl, hb⟩; refine ⟨_, rfl, ?_⟩; have n0_ := Zd.mk (Zp J3.out hb); have n1_ := Zd.mk (Zj HB.out hb); clear J3; clear HB; have J3 := n0_; have HB := n1_; clear n0_ n1_; (try clear hb); (try clear hb2); (try clear hk); (try clear hi)))
      go_ret
      exact ⟨by first | rfl | (simp [errW_none, errW_some] <;> rfl) | (simp [*, errW_none, errW_some] <;> rfl), HB.out⟩
     ·rw [if_neg c13] at H
      have c13b0 : decide (64 < t150) = false := decide_eq_false c13
      clear c13
      obtain rfl := Option.some.inj H
      obtain ⟨hcz18_0, hcz18_1, hcz18_2, hcz18_3, hcz18_4, hcz18_5, hcz18_6, hcz18_7, hcz18_8, hcz18_9, Mo, Mn, Mm, Ml⟩ := zc14 J3.out
      obtain ⟨hfz18_0, hfz18_1, hfz18_2, hfz18_3, hfz18_4, hfz18_5, hfz18_6, hfz18_7, hfz18_8, hfz18_9, M6, M5, M4, M3⟩ := zf14 J3.out
      go_wp2_with (first | ((with_reducible refine Zx (f := 24) rfl ?_); refine Xz (some 24) rfl rfl Try.func24 (by kernel_rfl) rfl #[.agg #[.int .i64 Jq, .int .i64 Jp, .int .i64 Jn, .bool Jk, .int .i64 Jj, .int .u64 Ji, .int .u64 Jg, .int .i64 Jf, .bool Je, .int .i64 Jd, .slice A0_10 J4.length c0_10, .int .i64 J8, .int .i64 J7, .slice A0_13 J0.length c0_13]] rfl (by (try simp only [List.map_toArray, List.map_cons, List.map_nil]); first | done | rfl | (simp only [List.length_drop, List.length_take]; rfl)) ?_; (with_reducible refine (Qv.calls kj2 Jq Jp Jn Jk Jj Ji Jg Jf Je Jd _ _ J4 J8 J7 _ _ J0 t149 _ ?side1 ?side2 ?side3 ?side4 A10.out).mono ?_); (case side1 => exact (Kd.Zw HR0_10.out HB.out)); (case side2 => exact HC0_10.out); (case side3 => exact (Kd.Zw HR0_13.out HB.out)); (case side4 => exact HC0_13.out); rintro e w19 ⟨rfl, hb⟩; refine ⟨_, rfl, ?_⟩; have n0_ := Zd.mk (Zp J3.out hb); have n1_ := Zd.mk (Zj HB.out hb); clear J3; clear HB; have J3 := n0_; have HB := n1_; clear n0_ n1_; (try clear hb); (try clear hb2); (try clear hk); (try clear hi); have hcz20_0 : w19.cell? ⟨Jt, 0, none⟩ = some (.int .i64 Jq) := (Za J3.out 0).trans rfl; have hcz20_1 : w19.cell? ⟨Jt, 1, none⟩ = some (.int .i64 Jp) := (Za J3.out 1).trans rfl; have hcz20_2 : w19.cell? ⟨Jt, 2, none⟩ = some (.int .i64 Jn) := (Za J3.out 2).trans rfl; have hcz20_3 : w19.cell? ⟨Jt, 3, none⟩ = some (.bool Jk) := (Za J3.out 3).trans rfl; have hcz20_4 : w19.cell? ⟨Jt, 4, none⟩ = some (.int .i64 Jj) := (Za J3.out 4).trans rfl; have hcz20_5 : w19.cell? ⟨Jt, 5, none⟩ = some (.int .u64 Ji) := (Za J3.out 5).trans rfl; have hcz20_6 : w19.cell? ⟨Jt, 6, none⟩ = some (.int .u64 Jg) := (Za J3.out 6).trans rfl; have hcz20_7 : w19.cell? ⟨Jt, 7, none⟩ = some (.int .i64 Jf) := (Za J3.out 7).trans rfl; have hcz20_8 : w19.cell? ⟨Jt, 8, none⟩ = some (.bool Je) := (Za J3.out 8).trans rfl; have hcz20_9 : w19.cell? ⟨Jt, 9, none⟩ = some (.int .i64 Jd) := (Za J3.out 9).trans rfl; have hcz20_10 : w19.cell? ⟨Jt, 10, none⟩ = some (.slice A0_10 J4.length c0_10) := (Za J3.out 10).trans rfl; have hcz20_11 : w19.cell? ⟨Jt, 11, none⟩ = some (.int .i64 J8) := (Za J3.out 11).trans rfl; have hcz20_12 : w19.cell? ⟨Jt, 12, none⟩ = some (.int .i64 J7) := (Za J3.out 12).trans rfl; have hcz20_13 : w19.cell? ⟨Jt, 13, none⟩ = some (.slice A0_13 J0.length c0_13) := (Za J3.out 13).trans rfl; have hfz20_0 := Zb J3.out 0; have hfz20_1 := Zb J3.out 1; have hfz20_2 := Zb J3.out 2; have hfz20_3 := Zb J3.out 3; have hfz20_4 := Zb J3.out 4; have hfz20_5 := Zb J3.out 5; have hfz20_6 := Zb J3.out 6; have hfz20_7 := Zb J3.out 7; have hfz20_8 := Zb J3.out 8; have hfz20_9 := Zb J3.out 9; have hfz20_10 := Zb J3.out 10; have hfz20_11 := Zb J3.out 11; have hfz20_12 := Zb J3.out 12; have hfz20_13 := Zb J3.out 13) | ((with_reducible refine Zx (f := 17) rfl ?_); refine Xz (some 29) rfl rfl Try.func17 (by kernel_rfl) rfl #[.agg #[.int .i64 Jq, .int .i64 Jp, .int .i64 Jn, .bool Jk, .int .i64 Jj, .int .u64 Ji, .int .u64 Jg, .int .i64 Jf, .bool Je, .int .i64 Jd, .slice A0_10 J4.length c0_10, .int .i64 J8, .int .i64 J7, .slice A0_13 J0.length c0_13]] rfl (by (try simp only [List.map_toArray, List.map_cons, List.map_nil]); first | done | rfl | (simp only [List.length_drop, List.length_take]; rfl)) ?_; (with_reducible refine (Zt.calls kj2 Jq Jp Jn Jk Jj Ji Jg Jf Je Jd _ _ J4 J8 J7 _ _ J0 t150 _ ?side1 ?side2 ?side3 ?side4 A12.out).mono ?_); (case side1 => exact (Kd.Zw HR0_10.out HB.out)); (case side2 => exact HC0_10.out); (case side3 => exact (Kd.Zw HR0_13.out HB.out)); (case side4 => exact HC0_13.out); rintro e w21 ⟨rfl, hb⟩; refine ⟨_, rfl, ?_⟩; have n0_ := Zd.mk (Zp J3.out hb); have n1_ := Zd.mk (Zj HB.out hb); clear J3; clear HB; have J3 := n0_; have HB := n1_; clear n0_ n1_; (try clear hb); (try clear hb2); (try clear hk); (try clear hi)))
      go_ret
      exact ⟨by first | rfl | (simp [errW_none, errW_some] <;> rfl) | (simp [*, errW_none, errW_some] <;> rfl), HB.out⟩
    ·rw [if_neg c11] at H
     have c11b0 : (t149 == 0) = false := beq_eq_false_iff_ne.mpr c11
     have c11b1 : (t149 != 0) = true := bne_iff_ne.mpr c11
     obtain rfl := Option.some.inj H
     obtain ⟨hcz22_0, hcz22_1, hcz22_2, hcz22_3, hcz22_4, hcz22_5, hcz22_6, hcz22_7, hcz22_8, hcz22_9, hcz22_10, hcz22_11, hcz22_12, hcz22_13⟩ := zc14 J3.out
     obtain ⟨hfz22_0, hfz22_1, hfz22_2, hfz22_3, hfz22_4, hfz22_5, hfz22_6, hfz22_7, hfz22_8, hfz22_9, hfz22_10, hfz22_11, hfz22_12, hfz22_13⟩ := zf14 J3.out
     go_wp2_with (((with_reducible refine Zx (f := 24) rfl ?_); refine Xz (some 24) rfl rfl Try.func24 (by kernel_rfl) rfl #[.agg #[.int .i64 Jq, .int .i64 Jp, .int .i64 Jn, .bool Jk, .int .i64 Jj, .int .u64 Ji, .int .u64 Jg, .int .i64 Jf, .bool Je, .int .i64 Jd, .slice A0_10 J4.length c0_10, .int .i64 J8, .int .i64 J7, .slice A0_13 J0.length c0_13]] rfl (by (try simp only [List.map_toArray, List.map_cons, List.map_nil]); first | done | rfl | (simp only [List.length_drop, List.length_take]; rfl)) ?_; (with_reducible refine (Qv.calls kj2 Jq Jp Jn Jk Jj Ji Jg Jf Je Jd _ _ J4 J8 J7 _ _ J0 t149 _ ?side1 ?side2 ?side3 ?side4 A10.out).mono ?_); (case side1 => exact (Kd.Zw HR0_10.out HB.out)); (case side2 => exact HC0_10.out); (case side3 => exact (Kd.Zw HR0_13.out HB.out)); (case side4 => exact HC0_13.out); rintro e w23 ⟨rfl, hb⟩; refine ⟨_, rfl, ?_⟩; have n0_ := Zd.mk (Zp J3.out hb); have n1_ := Zd.mk (Zj HB.out hb); clear J3; clear HB; have J3 := n0_; have HB := n1_; clear n0_ n1_; (try clear hb); (try clear hb2); (try clear hk); (try clear hi)))
     go_ret
     exact ⟨by first | rfl | (simp [errW_none, errW_some] <;> rfl) | (simp [*, errW_none, errW_some] <;> rfl), HB.out⟩
def Qo.f (k : Nat) (Jq : Int) (Jp : Int) (Jn : Int) (Jk : Bool) (Jj : Int) (Ji : Int) (Jg : Int) (Jf : Int) (Je : Bool) (Jd : Int) (J4 : List (Qh)) (J8 : Int) (J7 : Int) (J0 : List (Vd)) : Option (Int × Int) := (Zz.f k Jq Jp Jn Jk Jj Ji Jg Jf Je Jd J4 J8 J7 J0).bind fun t152 => (if t152 = 0 then ((Zt.f k Jq Jp Jn Jk Jj Ji Jg Jf Je Jd J4 J8 J7 J0).bind fun t153 => (some (t153, 0))) else (some (0, t152)))
theorem Qo.mono : ∀ a0 a1 a2 a3 a4 a5 a6 a7 a8 a9 a10 a11 a12 a13 k, Xo (Qo.f k a0 a1 a2 a3 a4 a5 a6 a7 a8 a9 a10 a11 a12 a13) (Qo.f (k + 1) a0 a1 a2 a3 a4 a5 a6 a7 a8 a9 a10 a11 a12 a13) := by
  intro a0 a1 a2 a3 a4 a5 a6 a7 a8 a9 a10 a11 a12 a13 k
  unfold Qo.f
  repeat' first
      | (with_reducible exact Zz.mono _ _ _ _ _ _ _ _ _ _ _ _ _ _ _)
      | (with_reducible exact Zt.mono _ _ _ _ _ _ _ _ _ _ _ _ _ _ _)
      | (with_reducible exact Xo.refl _)
      | (with_reducible exact Xo.none _)
      | (with_reducible refine Xo.ite ?_ ?_)
      | (with_reducible refine Xo.bind ?_ (fun _ => ?_))
      | exact Zz.mono _ _ _ _ _ _ _ _ _ _ _ _ _ _ _
      | exact Zt.mono _ _ _ _ _ _ _ _ _ _ _ _ _ _ _
      | exact Xo.none _
      | refine Xo.ite ?_ ?_
      | refine Xo.bind ?_ (fun _ => ?_)
set_option maxHeartbeats 8000000 in
set_option maxRecDepth 100000 in
theorem Qo.calls (k : Nat) (Jq : Int) (Jp : Int) (Jn : Int) (Jk : Bool) (Jj : Int) (Ji : Int) (Jg : Int) (Jf : Int) (Je : Bool) (Jd : Int) (A0_10 : Option Addr) (c0_10 : Nat) (J4 : List (Qh)) (J8 : Int) (J7 : Int) (A0_13 : Option Addr) (c0_13 : Nat) (J0 : List (Vd)) (r1 : Int) (r2 : Int) (w : World) (hr0_10 : Kd.C k27 w A0_10 J4.length J4) (hc0_10 : J4.length ≤ c0_10) (hr0_13 : Kd.C k30 w A0_13 J0.length J0) (hc0_13 : J0.length ≤ c0_13) (h : Qo.f k Jq Jp Jn Jk Jj Ji Jg Jf Je Jd J4 J8 J7 J0 = some (r1, r2)) :
 Calls Try.prog 5 #[.agg #[.int .i64 Jq, .int .i64 Jp, .int .i64 Jn, .bool Jk, .int .i64 Jj, .int .u64 Ji, .int .u64 Jg, .int .i64 Jf, .bool Je, .int .i64 Jd, .slice A0_10 J4.length c0_10, .int .i64 J8, .int .i64 J7, .slice A0_13 J0.length c0_13]] w fun e w' => e = .returned (.tuple #[.int .i64 r1, .int .i64 r2]) ∧ Below w.heap.size w w' := by
 have hu30 := Try.underlying30
 have HR0_10 := Zd.mk hr0_10
 have HC0_10 := Zd.mk hc0_10
 clear hr0_10 hc0_10
 have HR0_13 := Zd.mk hr0_13
 have HC0_13 := Zd.mk hc0_13
 clear hr0_13 hc0_13
 have HB := Zd.mk (Below.refl w.heap.size w)
 have H : ((Zz.f k Jq Jp Jn Jk Jj Ji Jg Jf Je Jd J4 J8 J7 J0).bind fun t152 => (if t152 = 0 then ((Zt.f k Jq Jp Jn Jk Jj Ji Jg Jf Je Jd J4 J8 J7 J0).bind fun t153 => (some (t153, 0))) else (some (0, t152)))) = some (r1, r2) := h
 clear h
 replace H := Option.bind_eq_some_iff.mp H
 obtain ⟨t152, A20, H⟩ := H
 replace H : (if t152 = 0 then ((Zt.f k Jq Jp Jn Jk Jj Ji Jg Jf Je Jd J4 J8 J7 J0).bind fun t153 => (some (t153, 0))) else (some (0, t152))) = some (r1, r2) := H
 have A2 := Zd.mk A20
 clear A20
 by_cases c3 : t152 = 0
 ·rw [if_pos c3] at H
  have c3b0 : (t152 == 0) = true := beq_iff_eq.mpr c3
  have c3b1 : (t152 != 0) = false := bne_eq_false_iff_eq.mpr c3
  clear c3
  replace H := Option.bind_eq_some_iff.mp H
  obtain ⟨t153, A40, H⟩ := H
  replace H : (some (t153, 0)) = some (r1, r2) := H
  have A4 := Zd.mk A40
  clear A40
  simp only [Option.some.injEq, Prod.mk.injEq] at H
  obtain ⟨rfl, rfl⟩ := H
  go_enter Try.func5, Try.ntmps5
  go_wp2_with (first | ((with_reducible refine Xd (N := 1) rfl ?_); refine Xe ?hg (N := 1) ?hd (cs := #[.int .i64 Jq, .int .i64 Jp, .int .i64 Jn, .bool Jk, .int .i64 Jj, .int .u64 Ji, .int .u64 Jg, .int .i64 Jf, .bool Je, .int .i64 Jd, .slice A0_10 J4.length c0_10, .int .i64 J8, .int .i64 J7, .slice A0_13 J0.length c0_13]) (t := 30) ?hr ?_; (case hd => rfl); (case hg => rfl); (case hr => first | (go_simp; done) | (go_simp; rfl)); intro Js hg w5 hbox hb; have n0_ := Zd.mk (Zj HB.out hb); have n1_ := Zd.mk (hbox); have n2_ := Zd.mk ((by rw [hg]; exact (Zl HB.out) : w.heap.size ≤ Js)); have n3_ := n2_; clear HB; have HB := n0_; have J5 := n1_; have GW151 := n2_; have GE151 := n3_; clear n0_ n1_ n2_ n3_; clear hb hbox hg; have hcz6_0 : w5.cell? ⟨Js, 0, none⟩ = some (.int .i64 Jq) := (Za J5.out 0).trans rfl; have hcz6_1 : w5.cell? ⟨Js, 1, none⟩ = some (.int .i64 Jp) := (Za J5.out 1).trans rfl; have hcz6_2 : w5.cell? ⟨Js, 2, none⟩ = some (.int .i64 Jn) := (Za J5.out 2).trans rfl; have hcz6_3 : w5.cell? ⟨Js, 3, none⟩ = some (.bool Jk) := (Za J5.out 3).trans rfl; have hcz6_4 : w5.cell? ⟨Js, 4, none⟩ = some (.int .i64 Jj) := (Za J5.out 4).trans rfl; have hcz6_5 : w5.cell? ⟨Js, 5, none⟩ = some (.int .u64 Ji) := (Za J5.out 5).trans rfl; have hcz6_6 : w5.cell? ⟨Js, 6, none⟩ = some (.int .u64 Jg) := (Za J5.out 6).trans rfl; have hcz6_7 : w5.cell? ⟨Js, 7, none⟩ = some (.int .i64 Jf) := (Za J5.out 7).trans rfl; have hcz6_8 : w5.cell? ⟨Js, 8, none⟩ = some (.bool Je) := (Za J5.out 8).trans rfl; have hcz6_9 : w5.cell? ⟨Js, 9, none⟩ = some (.int .i64 Jd) := (Za J5.out 9).trans rfl; have hcz6_10 : w5.cell? ⟨Js, 10, none⟩ = some (.slice A0_10 J4.length c0_10) := (Za J5.out 10).trans rfl; have hcz6_11 : w5.cell? ⟨Js, 11, none⟩ = some (.int .i64 J8) := (Za J5.out 11).trans rfl; have hcz6_12 : w5.cell? ⟨Js, 12, none⟩ = some (.int .i64 J7) := (Za J5.out 12).trans rfl; have hcz6_13 : w5.cell? ⟨Js, 13, none⟩ = some (.slice A0_13 J0.length c0_13) := (Za J5.out 13).trans rfl; have hfz6_0 := Zb J5.out 0; have hfz6_1 := Zb J5.out 1; have hfz6_2 := Zb J5.out 2; have hfz6_3 := Zb J5.out 3; have hfz6_4 := Zb J5.out 4; have hfz6_5 := Zb J5.out 5; have hfz6_6 := Zb J5.out 6; have hfz6_7 := Zb J5.out 7; have hfz6_8 := Zb J5.out 8; have hfz6_9 := Zb J5.out 9; have hfz6_10 := Zb J5.out 10; have hfz6_11 := Zb J5.out 11; have hfz6_12 := Zb J5.out 12; have hfz6_13 := Zb J5.out 13) | ((with_reducible refine Zx (f := 8) rfl ?_); refine Xz (some 6) rfl rfl Try.func8 (by kernel_rfl) rfl #[.agg #[.int .i64 Jq, .int .i64 Jp, .int .i64 Jn, .bool Jk, .int .i64 Jj, .int .u64 Ji, .int .u64 Jg, .int .i64 Jf, .bool Je, .int .i64 Jd, .slice A0_10 J4.length c0_10, .int .i64 J8, .int .i64 J7, .slice A0_13 J0.length c0_13]] rfl (by (try simp only [List.map_toArray, List.map_cons, List.map_nil]); first | done | rfl | (simp only [List.length_drop, List.length_take]; rfl)) ?_; (with_reducible refine (Zz.calls k Jq Jp Jn Jk Jj Ji Jg Jf Je Jd _ _ J4 J8 J7 _ _ J0 t152 _ ?side1 ?side2 ?side3 ?side4 A2.out).mono ?_); (case side1 => exact (Kd.Zw HR0_10.out HB.out)); (case side2 => exact HC0_10.out); (case side3 => exact (Kd.Zw HR0_13.out HB.out)); (case side4 => exact HC0_13.out); rintro e w7 ⟨rfl, hb⟩; refine ⟨_, rfl, ?_⟩; have n0_ := Zd.mk (Zp J5.out hb); have n1_ := Zd.mk (Zj HB.out hb); clear J5; clear HB; have J5 := n0_; have HB := n1_; clear n0_ n1_; (try clear hb); (try clear hb2); (try clear hk); (try clear hi); have Mk : w7.cell? ⟨Js, 0, none⟩ = some (.int .i64 Jq) := (Za J5.out 0).trans rfl; have Mj : w7.cell? ⟨Js, 1, none⟩ = some (.int .i64 Jp) := (Za J5.out 1).trans rfl; have Mi : w7.cell? ⟨Js, 2, none⟩ = some (.int .i64 Jn) := (Za J5.out 2).trans rfl; have Mh : w7.cell? ⟨Js, 3, none⟩ = some (.bool Jk) := (Za J5.out 3).trans rfl; have Mg : w7.cell? ⟨Js, 4, none⟩ = some (.int .i64 Jj) := (Za J5.out 4).trans rfl; have Mf : w7.cell? ⟨Js, 5, none⟩ = some (.int .u64 Ji) := (Za J5.out 5).trans rfl; have Me : w7.cell? ⟨Js, 6, none⟩ = some (.int .u64 Jg) := (Za J5.out 6).trans rfl; have Md : w7.cell? ⟨Js, 7, none⟩ = some (.int .i64 Jf) := (Za J5.out 7).trans rfl; have Mc : w7.cell? ⟨Js, 8, none⟩ = some (.bool Je) := (Za J5.out 8).trans rfl; have Mb : w7.cell? ⟨Js, 9, none⟩ = some (.int .i64 Jd) := (Za J5.out 9).trans rfl; have JS : w7.cell? ⟨Js, 10, none⟩ = some (.slice A0_10 J4.length c0_10) := (Za J5.out 10).trans rfl; have JR : w7.cell? ⟨Js, 11, none⟩ = some (.int .i64 J8) := (Za J5.out 11).trans rfl; have JQ : w7.cell? ⟨Js, 12, none⟩ = some (.int .i64 J7) := (Za J5.out 12).trans rfl; have JP : w7.cell? ⟨Js, 13, none⟩ = some (.slice A0_13 J0.length c0_13) := (Za J5.out 13).trans rfl; have M2 := Zb J5.out 0; have M1 := Zb J5.out 1; have M0 := Zb J5.out 2; have JZ := Zb J5.out 3; have JY := Zb J5.out 4; have JX := Zb J5.out 5; have JW := Zb J5.out 6; have JV := Zb J5.out 7; have JU := Zb J5.out 8; have JT := Zb J5.out 9; have JO := Zb J5.out 10; have JN := Zb J5.out 11; have JM := Zb J5.out 12; have JL := Zb J5.out 13) | ((with_reducible refine Zx (f := 17) rfl ?_); refine Xz (some 11) rfl rfl Try.func17 (by kernel_rfl) rfl #[.agg #[.int .i64 Jq, .int .i64 Jp, .int .i64 Jn, .bool Jk, .int .i64 Jj, .int .u64 Ji, .int .u64 Jg, .int .i64 Jf, .bool Je, .int .i64 Jd, .slice A0_10 J4.length c0_10, .int .i64 J8, .int .i64 J7, .slice A0_13 J0.length c0_13]] rfl (by (try simp only [List.map_toArray, List.map_cons, List.map_nil]); first | done | rfl | (simp only [List.length_drop, List.length_take]; rfl)) ?_; (with_reducible refine (Zt.calls k Jq Jp Jn Jk Jj Ji Jg Jf Je Jd _ _ J4 J8 J7 _ _ J0 t153 _ ?side1 ?side2 ?side3 ?side4 A4.out).mono ?_); (case side1 => exact (Kd.Zw HR0_10.out HB.out)); (case side2 => exact HC0_10.out); (case side3 => exact (Kd.Zw HR0_13.out HB.out)); (case side4 => exact HC0_13.out); rintro e w9 ⟨rfl, hb⟩; refine ⟨_, rfl, ?_⟩; have n0_ := Zd.mk (Zp J5.out hb); have n1_ := Zd.mk (Zj HB.out hb); clear J5; clear HB; have J5 := n0_; have HB := n1_; clear n0_ n1_; (try clear hb); (try clear hb2); (try clear hk); (try clear hi)))
  go_ret2
  exact ⟨by first | rfl | (simp [errW_none, errW_some] <;> rfl) | (simp [*, errW_none, errW_some] <;> rfl), HB.out⟩
 ·rw [if_neg c3] at H
  have c3b0 : (t152 == 0) = false := beq_eq_false_iff_ne.mpr c3
  have c3b1 : (t152 != 0) = true := bne_iff_ne.mpr c3
  simp only [Option.some.injEq, Prod.mk.injEq] at H
  obtain ⟨rfl, rfl⟩ := H
  go_enter Try.func5, Try.ntmps5
  go_wp2_with (first | ((with_reducible refine Xd (N := 1) rfl ?_); refine Xe ?hg (N := 1) ?hd (cs := #[.int .i64 Jq, .int .i64 Jp, .int .i64 Jn, .bool Jk, .int .i64 Jj, .int .u64 Ji, .int .u64 Jg, .int .i64 Jf, .bool Je, .int .i64 Jd, .slice A0_10 J4.length c0_10, .int .i64 J8, .int .i64 J7, .slice A0_13 J0.length c0_13]) (t := 30) ?hr ?_; (case hd => rfl); (case hg => rfl); (case hr => first | (go_simp; done) | (go_simp; rfl)); intro Js hg w10 hbox hb; have n0_ := Zd.mk (Zj HB.out hb); have n1_ := Zd.mk (hbox); have n2_ := Zd.mk ((by rw [hg]; exact (Zl HB.out) : w.heap.size ≤ Js)); have n3_ := n2_; clear HB; have HB := n0_; have J5 := n1_; have GW151 := n2_; have GE151 := n3_; clear n0_ n1_ n2_ n3_; clear hb hbox hg; have hcz11_0 : w10.cell? ⟨Js, 0, none⟩ = some (.int .i64 Jq) := (Za J5.out 0).trans rfl; have hcz11_1 : w10.cell? ⟨Js, 1, none⟩ = some (.int .i64 Jp) := (Za J5.out 1).trans rfl; have hcz11_2 : w10.cell? ⟨Js, 2, none⟩ = some (.int .i64 Jn) := (Za J5.out 2).trans rfl; have hcz11_3 : w10.cell? ⟨Js, 3, none⟩ = some (.bool Jk) := (Za J5.out 3).trans rfl; have hcz11_4 : w10.cell? ⟨Js, 4, none⟩ = some (.int .i64 Jj) := (Za J5.out 4).trans rfl; have hcz11_5 : w10.cell? ⟨Js, 5, none⟩ = some (.int .u64 Ji) := (Za J5.out 5).trans rfl; have hcz11_6 : w10.cell? ⟨Js, 6, none⟩ = some (.int .u64 Jg) := (Za J5.out 6).trans rfl; have hcz11_7 : w10.cell? ⟨Js, 7, none⟩ = some (.int .i64 Jf) := (Za J5.out 7).trans rfl; have hcz11_8 : w10.cell? ⟨Js, 8, none⟩ = some (.bool Je) := (Za J5.out 8).trans rfl; have hcz11_9 : w10.cell? ⟨Js, 9, none⟩ = some (.int .i64 Jd) := (Za J5.out 9).trans rfl; have hcz11_10 : w10.cell? ⟨Js, 10, none⟩ = some (.slice A0_10 J4.length c0_10) := (Za J5.out 10).trans rfl; have hcz11_11 : w10.cell? ⟨Js, 11, none⟩ = some (.int .i64 J8) := (Za J5.out 11).trans rfl; have hcz11_12 : w10.cell? ⟨Js, 12, none⟩ = some (.int .i64 J7) := (Za J5.out 12).trans rfl; have hcz11_13 : w10.cell? ⟨Js, 13, none⟩ = some (.slice A0_13 J0.length c0_13) := (Za J5.out 13).trans rfl; have hfz11_0 := Zb J5.out 0; have hfz11_1 := Zb J5.out 1; have hfz11_2 := Zb J5.out 2; have hfz11_3 := Zb J5.out 3; have hfz11_4 := Zb J5.out 4; have hfz11_5 := Zb J5.out 5; have hfz11_6 := Zb J5.out 6; have hfz11_7 := Zb J5.out 7; have hfz11_8 := Zb J5.out 8; have hfz11_9 := Zb J5.out 9; have hfz11_10 := Zb J5.out 10; have hfz11_11 := Zb J5.out 11; have hfz11_12 := Zb J5.out 12; have hfz11_13 := Zb J5.out 13) | ((with_reducible refine Zx (f := 8) rfl ?_); refine Xz (some 6) rfl rfl Try.func8 (by kernel_rfl) rfl #[.agg #[.int .i64 Jq, .int .i64 Jp, .int .i64 Jn, .bool Jk, .int .i64 Jj, .int .u64 Ji, .int .u64 Jg, .int .i64 Jf, .bool Je, .int .i64 Jd, .slice A0_10 J4.length c0_10, .int .i64 J8, .int .i64 J7, .slice A0_13 J0.length c0_13]] rfl (by (try simp only [List.map_toArray, List.map_cons, List.map_nil]); first | done | rfl | (simp only [List.length_drop, List.length_take]; rfl)) ?_; (with_reducible refine (Zz.calls k Jq Jp Jn Jk Jj Ji Jg Jf Je Jd _ _ J4 J8 J7 _ _ J0 t152 _ ?side1 ?side2 ?side3 ?side4 A2.out).mono ?_); (case side1 => exact (Kd.Zw HR0_10.out HB.out)); (case side2 => exact HC0_10.out); (case side3 => exact (Kd.Zw HR0_13.out HB.out)); (case side4 => exact HC0_13.out); rintro e w12 ⟨rfl, hb⟩; refine ⟨_, rfl, ?_⟩; have n0_ := Zd.mk (Zp J5.out hb); have n1_ := Zd.mk (Zj HB.out hb); clear J5; clear HB; have J5 := n0_; have HB := n1_; clear n0_ n1_; (try clear hb); (try clear hb2); (try clear hk); (try clear hi)))
  go_ret2
  exact ⟨by first | rfl | (simp [errW_none, errW_some] <;> rfl) | (simp [*, errW_none, errW_some] <;> rfl), HB.out⟩
end Go.Proofs.Ytkbkndfonccekaa.PF
