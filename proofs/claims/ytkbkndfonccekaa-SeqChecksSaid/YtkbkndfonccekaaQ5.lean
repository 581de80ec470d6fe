/- Joined by this session's own program out of its texts: PFx12 PFx13. -/
import Derived.Test.YtkbkndfonccekaaQ1
namespace Go.Proofs.Ytkbkndfonccekaa.PF
open Go.RowKit Go.Proofs.YtkbkndfonccekaaW.PrintWords Go.Proofs.YtkbkndfonccekaaW.PrintLast Go.Proofs.YtkbkndfonccekaaW.PrintMore
attribute [local go_sem] Qn Qp Kq Kt
set_option linter.unusedVariables false
set_option linter.unusedSimpArgs false
mutual
def Zv.l0 : Nat → List (Qh) → List (Vd) → Int → Int → Option ((List (Qh)))
  | 0, _, _, _, _ => none
  | k + 1, x3, x13, x14, x15 => if x15 < x14 then (if 0 ≤ x15 then (if x15 < (x13.length : Int) then ((Zv.f k ((Zc x13 x15).f0) ((Zc x13 x15).f1.f0) ((Zc x13 x15).f1.f1) ((Zc x13 x15).f1.f2) ((Zc x13 x15).f1.f3.f0) ((Zc x13 x15).f1.f3.f1) ((Zc x13 x15).f1.f3.f2) ((Zc x13 x15).f1.f4) ((Zc x13 x15).f1.f5) ((Zc x13 x15).f1.f6) ((Zc x13 x15).f1.f7) ((Zc x13 x15).f2) ((Zc x13 x15).f3) ((Zc x13 x15).f4)).bind fun t160 => (if x3.length + t160.length < 1466015503701 then (Zv.l0 k (x3 ++ t160) x13 x14 (wrap64 (x15 + 1))) else (none))) else (none)) else (none)) else (some x3)
def Zv.f : Nat → Int → Int → Int → Bool → Int → Int → Int → Int → Bool → Int → List (Qh) → Int → Int → List (Vd) → Option ((List (Qh)))
  | 0, _, _, _, _, _, _, _, _, _, _, _, _, _, _ => none
  | k + 1, Jf, Je, Jg, Jh, Jk, Jm, Jo, Jq, Js, Ju, Jp, Jx, Jv, J0 => if Jf = 0 then (some (([(⟨Je, Jg, Jh, (⟨Jk, Jm, Jo⟩ : S24), Jq, Js, Ju, Jp⟩ : Qh)] : List (Qh)))) else (Zv.l0 k ([] : List (Qh)) J0 (J0.length : Int) 0)
end
theorem Zv.mono_l : ∀ k, (∀ y0 y1 y2 y3 y4 y5 y6 y7 y8 y9 y10 y11 y12 y13, Xo (Zv.f k y0 y1 y2 y3 y4 y5 y6 y7 y8 y9 y10 y11 y12 y13) (Zv.f (k + 1) y0 y1 y2 y3 y4 y5 y6 y7 y8 y9 y10 y11 y12 y13)) ∧ (∀ y0 y1 y2 y3, Xo (Zv.l0 k y0 y1 y2 y3) (Zv.l0 (k + 1) y0 y1 y2 y3))
  | 0 => ⟨fun _ _ _ _ _ _ _ _ _ _ _ _ _ _ r h => by simp [Zv.f] at h, fun _ _ _ _ r h => by simp [Zv.l0] at h⟩
  | k + 1 => by
    obtain ⟨ih0, ih1⟩ := Zv.mono_l k
    refine ⟨?_, ?_⟩
    · intro y0 y1 y2 y3 y4 y5 y6 y7 y8 y9 y10 y11 y12 y13
      unfold Zv.f
      repeat' first
      | (with_reducible exact ih0 _ _ _ _ _ _ _ _ _ _ _ _ _ _)
      | (with_reducible exact ih1 _ _ _ _)
      | (with_reducible exact Xo.refl _)
      | (with_reducible exact Xo.none _)
      | (with_reducible refine Xo.ite ?_ ?_)
      | (with_reducible refine Xo.bind ?_ (fun _ => ?_))
      | exact ih0 _ _ _ _ _ _ _ _ _ _ _ _ _ _
      | exact ih1 _ _ _ _
      | exact Xo.none _
      | refine Xo.ite ?_ ?_
      | refine Xo.bind ?_ (fun _ => ?_)
    · intro y0 y1 y2 y3
      unfold Zv.l0
      repeat' first
      | (with_reducible exact ih0 _ _ _ _ _ _ _ _ _ _ _ _ _ _)
      | (with_reducible exact ih1 _ _ _ _)
      | (with_reducible exact Xo.refl _)
      | (with_reducible exact Xo.none _)
      | (with_reducible refine Xo.ite ?_ ?_)
      | (with_reducible refine Xo.bind ?_ (fun _ => ?_))
      | exact ih0 _ _ _ _ _ _ _ _ _ _ _ _ _ _
      | exact ih1 _ _ _ _
      | exact Xo.none _
      | refine Xo.ite ?_ ?_
      | refine Xo.bind ?_ (fun _ => ?_)
theorem Zv.mono : ∀ a0 a1 a2 a3 a4 a5 a6 a7 a8 a9 a10 a11 a12 a13 k, Xo (Zv.f k a0 a1 a2 a3 a4 a5 a6 a7 a8 a9 a10 a11 a12 a13) (Zv.f (k + 1) a0 a1 a2 a3 a4 a5 a6 a7 a8 a9 a10 a11 a12 a13) := by
  intro a0 a1 a2 a3 a4 a5 a6 a7 a8 a9 a10 a11 a12 a13 k
  obtain ⟨ih0, ih1⟩ := Zv.mono_l k
  exact ih0 a0 a1 a2 a3 a4 a5 a6 a7 a8 a9 a10 a11 a12 a13
set_option maxHeartbeats 8000000 in
set_option maxRecDepth 100000 in
theorem Zv.calls (k : Nat) : ∀ (Jf : Int) (Je : Int) (Jg : Int) (Jh : Bool) (Jk : Int) (Jm : Int) (Jo : Int) (Jq : Int) (Js : Bool) (Ju : Int) (P0_10_ : Nat → Prop) (A0_10 : Option Addr) (c0_10 : Nat) (Jp : List (Qh)) (Jx : Int) (Jv : Int) (P0_13_ : Nat → Prop) (A0_13 : Option Addr) (c0_13 : Nat) (J0 : List (Vd)) (r : List (Qh)) (w : World) (hs0_10 : Kd.V k27 27 w w.heap.size (fun k_ => P0_10_ k_) (.slice A0_10 Jp.length c0_10) Jp) (hs0_13 : Kd.V k30 30 w w.heap.size (fun k_ => P0_13_ k_) (.slice A0_13 J0.length c0_13) J0) (h : Zv.f k Jf Je Jg Jh Jk Jm Jo Jq Js Ju Jp Jx Jv J0 = some r),
 Calls Try.prog 18 #[.agg #[.int .i64 Jf, .int .i64 Je, .int .i64 Jg, .bool Jh, .int .i64 Jk, .int .u64 Jm, .int .u64 Jo, .int .i64 Jq, .bool Js, .int .i64 Ju, .slice A0_10 Jp.length c0_10, .int .i64 Jx, .int .i64 Jv, .slice A0_13 J0.length c0_13]] w fun e w' => ∃ v0_ : Value, e = .returned (v0_) ∧ Kd.N k27 27 w' w.heap.size (fun k_ => ((P0_10_ k_ ∨ P0_13_ k_) ∨ w.heap.size ≤ k_)) v0_ r ∧ Below w.heap.size w w' := by
 induction k using Nat.strongRecOn with
 | _ k ih =>
 intro Jf Je Jg Jh Jk Jm Jo Jq Js Ju P0_10_ A0_10 c0_10 Jp Jx Jv P0_13_ A0_13 c0_13 J0 r w hs0_10 hs0_13 h
 cases k with
 | zero => exact absurd h (by simp [Zv.f])
 | succ k =>
 simp only [Zv.f] at h
 have hu30 := Try.underlying30
 have hu27 := Try.underlying27
 have HO0_10 := Zd.mk (show Kd.V k27 27 w w.heap.size (fun k_ => ((P0_10_ k_ ∨ P0_13_ k_) ∨ w.heap.size ≤ k_)) (.slice A0_10 Jp.length c0_10) Jp from Kd.Xa hs0_10 (fun k_ hk => .inl (.inl hk)))
 have HO0_13 := Zd.mk (show Kd.V k30 30 w w.heap.size (fun k_ => ((P0_10_ k_ ∨ P0_13_ k_) ∨ w.heap.size ≤ k_)) (.slice A0_13 J0.length c0_13) J0 from Kd.Xa hs0_13 (fun k_ hk => .inl (.inr hk)))
 have HB := Zd.mk (Below.refl w.heap.size w)
 have H : (if Jf = 0 then (some (([(⟨Je, Jg, Jh, (⟨Jk, Jm, Jo⟩ : S24), Jq, Js, Ju, Jp⟩ : Qh)] : List (Qh)))) else (Zv.l0 k ([] : List (Qh)) J0 (J0.length : Int) 0)) = some r := h
 clear h
 by_cases c2 : Jf = 0
 ·rw [if_pos c2] at H
  have c2b0 : (Jf == 0) = true := beq_iff_eq.mpr c2
  have c2b1 : (Jf != 0) = false := bne_eq_false_iff_eq.mpr c2
  clear c2
  obtain ⟨y155, hy155⟩ : ∃ y_ : List (Qh), y_ = (([(⟨Je, Jg, Jh, (⟨Jk, Jm, Jo⟩ : S24), Jq, Js, Ju, Jp⟩ : Qh)] : List (Qh))) := ⟨_, rfl⟩
  replace H : (some y155) = some r := by first | (rw [hy155]; with_reducible exact H) | (have H2_ := (Option.bind_some _ _).symm.trans H; rw [hy155]; with_reducible exact H2_) | (have H2_ := (Option.bind_some _ _).symm.trans H; with_reducible exact H2_) | with_reducible exact H | (rw [hy155]; exact H) | exact H
  have Ny155 := Zd.mk hy155
  clear hy155
  obtain rfl := Option.some.inj H
  go_enter Try.func18, Try.ntmps18
  go_wp2_with (first | ((with_reducible refine Xd (N := 1) rfl ?_); refine Xe ?hg (N := 1) ?hd (cs := #[.int .i64 Jf, .int .i64 Je, .int .i64 Jg, .bool Jh, .int .i64 Jk, .int .u64 Jm, .int .u64 Jo, .int .i64 Jq, .bool Js, .int .i64 Ju, .slice A0_10 Jp.length c0_10, .int .i64 Jx, .int .i64 Jv, .slice A0_13 J0.length c0_13]) (t := 30) ?hr ?_; (case hd => rfl); (case hg => rfl); (case hr => first | (go_simp; done) | (go_simp; rfl)); intro Jb hg w3 hbox hb; have n0_ := Zd.mk (Kd.Xl (Kd.Xx HO0_10.out Jb (Nat.le_of_eq hg.symm)) hb); have n1_ := Zd.mk (Kd.Xl (Kd.Xx HO0_13.out Jb (Nat.le_of_eq hg.symm)) hb); have n2_ := Zd.mk (Zj HB.out hb); have n3_ := Zd.mk (hbox); have n4_ := Zd.mk ((by rw [hg]; exact (Zl HB.out) : w.heap.size ≤ Jb)); have n5_ := n4_; clear HO0_10; clear HO0_13; clear HB; have HO0_10 := n0_; have HO0_13 := n1_; have HB := n2_; have J7 := n3_; have GW154 := n4_; have GE154 := n5_; clear n0_ n1_ n2_ n3_ n4_ n5_; clear hb hbox hg; have hcz4_0 : w3.cell? ⟨Jb, 0, none⟩ = some (.int .i64 Jf) := (Za J7.out 0).trans rfl; have hcz4_1 : w3.cell? ⟨Jb, 1, none⟩ = some (.int .i64 Je) := (Za J7.out 1).trans rfl; have hcz4_2 : w3.cell? ⟨Jb, 2, none⟩ = some (.int .i64 Jg) := (Za J7.out 2).trans rfl; have hcz4_3 : w3.cell? ⟨Jb, 3, none⟩ = some (.bool Jh) := (Za J7.out 3).trans rfl; have hcz4_4 : w3.cell? ⟨Jb, 4, none⟩ = some (.int .i64 Jk) := (Za J7.out 4).trans rfl; have hcz4_5 : w3.cell? ⟨Jb, 5, none⟩ = some (.int .u64 Jm) := (Za J7.out 5).trans rfl; have hcz4_6 : w3.cell? ⟨Jb, 6, none⟩ = some (.int .u64 Jo) := (Za J7.out 6).trans rfl; have hcz4_7 : w3.cell? ⟨Jb, 7, none⟩ = some (.int .i64 Jq) := (Za J7.out 7).trans rfl; have hcz4_8 : w3.cell? ⟨Jb, 8, none⟩ = some (.bool Js) := (Za J7.out 8).trans rfl; have hcz4_9 : w3.cell? ⟨Jb, 9, none⟩ = some (.int .i64 Ju) := (Za J7.out 9).trans rfl; have hcz4_10 : w3.cell? ⟨Jb, 10, none⟩ = some (.slice A0_10 Jp.length c0_10) := (Za J7.out 10).trans rfl; have hcz4_11 : w3.cell? ⟨Jb, 11, none⟩ = some (.int .i64 Jx) := (Za J7.out 11).trans rfl; have hcz4_12 : w3.cell? ⟨Jb, 12, none⟩ = some (.int .i64 Jv) := (Za J7.out 12).trans rfl; have hcz4_13 : w3.cell? ⟨Jb, 13, none⟩ = some (.slice A0_13 J0.length c0_13) := (Za J7.out 13).trans rfl; have hfz4_0 := Zb J7.out 0; have hfz4_1 := Zb J7.out 1; have hfz4_2 := Zb J7.out 2; have hfz4_3 := Zb J7.out 3; have hfz4_4 := Zb J7.out 4; have hfz4_5 := Zb J7.out 5; have hfz4_6 := Zb J7.out 6; have hfz4_7 := Zb J7.out 7; have hfz4_8 := Zb J7.out 8; have hfz4_9 := Zb J7.out 9; have hfz4_10 := Zb J7.out 10; have hfz4_11 := Zb J7.out 11; have hfz4_12 := Zb J7.out 12; have hfz4_13 := Zb J7.out 13) | ((with_reducible refine Xd (N := 11) rfl ?_); refine Kd.N_lit k27 _ 27 ?hg (N' := 11) ?hd (xs := ([(⟨Je, Jg, Jh, (⟨Jk, Jm, Jo⟩ : S24), Jq, Js, Ju, Jp⟩ : Qh)] : List (Qh))) (inner := [.int .i64 Je, .int .i64 Jg, .bool Jh, .int .i64 Jk, .int .u64 Jm, .int .u64 Jo, .int .i64 Jq, .bool Js, .int .i64 Ju, .slice A0_10 Jp.length c0_10]) (ok := (fun k_ => ((P0_10_ k_ ∨ P0_13_ k_) ∨ w.heap.size ≤ k_) ∧ k_ ≠ Jb)) (okp := (fun k_ => ((P0_10_ k_ ∨ P0_13_ k_) ∨ w.heap.size ≤ k_) ∧ k_ ≠ Jb)) ?hr ?hp (fun _ hk => hk) ((show ∀ k_, w3.heap.size ≤ k_ → (fun k_ => ((P0_10_ k_ ∨ P0_13_ k_) ∨ w.heap.size ≤ k_) ∧ k_ ≠ Jb) k_ from fun k_ hk => ⟨(.inr (Nat.le_trans (Zl HB.out) hk)), Kd.Kw J7.out k_ hk⟩) _ (Nat.le_refl _)) (Below.refl _ _) (Nat.le_refl _) (by simp) ?_; (case hd => rfl); (case hg => rfl); (case hr => first | (go_simp; done) | (go_simp; rfl)); (case hp => exact (Ku.c10 (show Kd.FK k27 _ _ (⟨Je, Jg, Jh, (⟨Jk, Jm, Jo⟩ : S24), Jq, Js, Ju, Jp⟩ : Qh) [.int .i64 Je, .int .i64 Jg, .bool Jh, .int .i64 Jk, .int .u64 Jm, .int .u64 Jo, .int .i64 Jq, .bool Js, .int .i64 Ju, .slice A0_10 Jp.length c0_10] from (k27_mkF _ _ (⟨Je, Jg, Jh, (⟨Jk, Jm, Jo⟩ : S24), Jq, Js, Ju, Jp⟩ : Qh) (Kd.Xw (Kd.Xa (ok' := (fun k_ => ((P0_10_ k_ ∨ P0_13_ k_) ∨ w.heap.size ≤ k_) ∧ k_ ≠ Jb)) HO0_10.out (fun k_ hk => ⟨hk.1, hk.2⟩))).2.1 (Kd.V_F (Kd.Xa (ok' := (fun k_ => ((P0_10_ k_ ∨ P0_13_ k_) ∨ w.heap.size ≤ k_) ∧ k_ ≠ Jb)) HO0_10.out (fun k_ hk => ⟨hk.1, hk.2⟩))))) (Ku.none _ _))); intro v156 w5 ho6 hb hg_ hnew_; clear hg_ hnew_; (first | rw [← Ny155.out] at ho6 | (simp only [Int.reduceToNat] at ho6; rw [← Ny155.out] at ho6)); have n0_ := Zd.mk (Kd.Qy HO0_10.out (Kd.Qr ho6) hb); have n1_ := Zd.mk (Kd.Qy HO0_13.out (Kd.Qr ho6) hb); have n2_ := Zd.mk (Kd.Vb ho6 (Zl HB.out)); have n3_ := Zd.mk (Zp J7.out hb); have n4_ := Zd.mk (Zj HB.out hb); clear HO0_10; clear HO0_13; clear J7; clear HB; have HO0_10 := n0_; have HO0_13 := n1_; have HO157 := n2_; have J7 := n3_; have HB := n4_; clear n0_ n1_ n2_ n3_ n4_; clear hb ho6))
  go_ret
  exact ⟨_, by first | rfl | (simp [errW_none, errW_some] <;> rfl) | (simp [*, errW_none, errW_some] <;> rfl), by (with_reducible repeat (first | apply Kd.N_alloc | apply Kd.N_drewN | apply Kd.Vg)); exact Kd.Xq HO157.out (fun _ hk => hk.1), HB.out⟩
 ·rw [if_neg c2] at H
  have c2b0 : (Jf == 0) = false := beq_eq_false_iff_ne.mpr c2
  have c2b1 : (Jf != 0) = true := bne_iff_ne.mpr c2
  have H' := Zd.mk H
  clear H
  go_enter Try.func18, Try.ntmps18
  go_wp2_with (((with_reducible refine Xd (N := 1) rfl ?_); refine Xe ?hg (N := 1) ?hd (cs := #[.int .i64 Jf, .int .i64 Je, .int .i64 Jg, .bool Jh, .int .i64 Jk, .int .u64 Jm, .int .u64 Jo, .int .i64 Jq, .bool Js, .int .i64 Ju, .slice A0_10 Jp.length c0_10, .int .i64 Jx, .int .i64 Jv, .slice A0_13 J0.length c0_13]) (t := 30) ?hr ?_; (case hd => rfl); (case hg => rfl); (case hr => first | (go_simp; done) | (go_simp; rfl)); intro Jb hg w7 hbox hb; have n0_ := Zd.mk (Kd.Xl (Kd.Xx HO0_10.out Jb (Nat.le_of_eq hg.symm)) hb); have n1_ := Zd.mk (Kd.Xl (Kd.Xx HO0_13.out Jb (Nat.le_of_eq hg.symm)) hb); have n2_ := Zd.mk (Zj HB.out hb); have n3_ := Zd.mk (hbox); have n4_ := Zd.mk ((by rw [hg]; exact (Zl HB.out) : w.heap.size ≤ Jb)); have n5_ := n4_; clear HO0_10; clear HO0_13; clear HB; have HO0_10 := n0_; have HO0_13 := n1_; have HB := n2_; have J7 := n3_; have GW154 := n4_; have GE154 := n5_; clear n0_ n1_ n2_ n3_ n4_ n5_; clear hb hbox hg; have hcz8_0 : w7.cell? ⟨Jb, 0, none⟩ = some (.int .i64 Jf) := (Za J7.out 0).trans rfl; have hcz8_1 : w7.cell? ⟨Jb, 1, none⟩ = some (.int .i64 Je) := (Za J7.out 1).trans rfl; have hcz8_2 : w7.cell? ⟨Jb, 2, none⟩ = some (.int .i64 Jg) := (Za J7.out 2).trans rfl; have hcz8_3 : w7.cell? ⟨Jb, 3, none⟩ = some (.bool Jh) := (Za J7.out 3).trans rfl; have hcz8_4 : w7.cell? ⟨Jb, 4, none⟩ = some (.int .i64 Jk) := (Za J7.out 4).trans rfl; have hcz8_5 : w7.cell? ⟨Jb, 5, none⟩ = some (.int .u64 Jm) := (Za J7.out 5).trans rfl; have hcz8_6 : w7.cell? ⟨Jb, 6, none⟩ = some (.int .u64 Jo) := (Za J7.out 6).trans rfl; have hcz8_7 : w7.cell? ⟨Jb, 7, none⟩ = some (.int .i64 Jq) := (Za J7.out 7).trans rfl; have hcz8_8 : w7.cell? ⟨Jb, 8, none⟩ = some (.bool Js) := (Za J7.out 8).trans rfl; have hcz8_9 : w7.cell? ⟨Jb, 9, none⟩ = some (.int .i64 Ju) := (Za J7.out 9).trans rfl; have hcz8_10 : w7.cell? ⟨Jb, 10, none⟩ = some (.slice A0_10 Jp.length c0_10) := (Za J7.out 10).trans rfl; have hcz8_11 : w7.cell? ⟨Jb, 11, none⟩ = some (.int .i64 Jx) := (Za J7.out 11).trans rfl; have hcz8_12 : w7.cell? ⟨Jb, 12, none⟩ = some (.int .i64 Jv) := (Za J7.out 12).trans rfl; have hcz8_13 : w7.cell? ⟨Jb, 13, none⟩ = some (.slice A0_13 J0.length c0_13) := (Za J7.out 13).trans rfl; have hfz8_0 := Zb J7.out 0; have hfz8_1 := Zb J7.out 1; have hfz8_2 := Zb J7.out 2; have hfz8_3 := Zb J7.out 3; have hfz8_4 := Zb J7.out 4; have hfz8_5 := Zb J7.out 5; have hfz8_6 := Zb J7.out 6; have hfz8_7 := Zb J7.out 7; have hfz8_8 := Zb J7.out 8; have hfz8_9 := Zb J7.out 9; have hfz8_10 := Zb J7.out 10; have hfz8_11 := Zb J7.out 11; have hfz8_12 := Zb J7.out 12; have hfz8_13 := Zb J7.out 13))
  go_loopg [3, 15] k (fun kq v3 v15 w' => ∃ (Jy : List (Qh)) (J1 : Int), v15 = .int .i64 J1 ∧ Zd (Zv.l0 kq Jy J0 (J0.length : Int) J1 = some r) ∧ Zd (kq ≤ k) ∧ Zd (Kd.N k27 27 w' w.heap.size (fun k_ => ((P0_10_ k_ ∨ P0_13_ k_) ∨ w.heap.size ≤ k_) ∧ k_ ≠ Jb) v3 Jy) ∧ Zd (Kd.V k30 30 w' w.heap.size (fun k_ => ((P0_10_ k_ ∨ P0_13_ k_) ∨ w.heap.size ≤ k_) ∧ some k_ ≠ (v3 : Value).ownBlock ∧ k_ ≠ Jb) (.slice A0_13 J0.length c0_13) J0) ∧ Zd (Kd.V k27 27 w' w.heap.size (fun k_ => ((P0_10_ k_ ∨ P0_13_ k_) ∨ w.heap.size ≤ k_) ∧ some k_ ≠ (v3 : Value).ownBlock ∧ k_ ≠ Jb) (.slice A0_10 Jp.length c0_10) Jp) ∧ Zd (Kd.V k30 30 w' w.heap.size (fun k_ => ((P0_10_ k_ ∨ P0_13_ k_) ∨ w.heap.size ≤ k_) ∧ some k_ ≠ (v3 : Value).ownBlock ∧ k_ ≠ Jb) (.slice A0_13 J0.length c0_13) J0) ∧ Zd (w'.heap[Jb]? = some (.cells #[.int .i64 Jf, .int .i64 Je, .int .i64 Jg, .bool Jh, .int .i64 Jk, .int .u64 Jm, .int .u64 Jo, .int .i64 Jq, .bool Js, .int .i64 Ju, (.slice A0_10 Jp.length c0_10), .int .i64 Jx, .int .i64 Jv, (.slice A0_13 J0.length c0_13)] 30 (0, 0))) ∧ Zd (Below w.heap.size w w'))
  case atStart => exact ⟨(([] : List (Qh))), (0), (by first | rfl | (simp; done) | (simp [*]; done)), H', ⟨Nat.le_refl _⟩, ⟨by first | exact Kd.R_nil _ _ _ _ _ | exact Kd.N_nil _ _ _ _ _ | exact Kd.V_nil _ _ _ _ _ | exact Kd.Q_nil _ _ _ _ _ | exact Kd.S_nil _ _ _ _ _⟩, ⟨by (with_reducible repeat (first | apply Kd.V_alloc | apply Kd.V_drewN | apply Kd.Xp)); exact Kd.Xa HO0_13.out (fun _ hk => ⟨hk.1, ⟨(by simp [Value.ownBlock]), hk.2⟩⟩)⟩, ⟨by (with_reducible repeat (first | apply Kd.V_alloc | apply Kd.V_drewN | apply Kd.Xp)); exact Kd.Xa HO0_10.out (fun _ hk => ⟨hk.1, ⟨(by simp [Value.ownBlock]), hk.2⟩⟩)⟩, ⟨by (with_reducible repeat (first | apply Kd.V_alloc | apply Kd.V_drewN | apply Kd.Xp)); exact Kd.Xa HO0_13.out (fun _ hk => ⟨hk.1, ⟨(by simp [Value.ownBlock]), hk.2⟩⟩)⟩, ⟨J7.out⟩, ⟨HB.out⟩⟩
  case round =>
   clear H'
   try clear c2
   try clear c2b0
   try clear c2b1
   try clear hcz8_0
   try clear hcz8_1
   try clear hcz8_10
   try clear hcz8_11
   try clear hcz8_12
   try clear hcz8_13
   try clear hcz8_2
   try clear hcz8_3
   try clear hcz8_4
   try clear hcz8_5
   try clear hcz8_6
   try clear hcz8_7
   try clear hcz8_8
   try clear hcz8_9
   try clear hfz8_0
   try clear hfz8_1
   try clear hfz8_10
   try clear hfz8_11
   try clear hfz8_12
   try clear hfz8_13
   try clear hfz8_2
   try clear hfz8_3
   try clear hfz8_4
   try clear hfz8_5
   try clear hfz8_6
   try clear hfz8_7
   try clear hfz8_8
   try clear hfz8_9
   obtain ⟨Jy, J1, rfl, HA, HK1, HO_3, HO_13, HO_155010, HO_155013, J7, HB⟩ := hrel
   cases gk with
   | zero => exact absurd HA.out (by simp [Zv.l0])
   | succ k1 =>
    have H := HA.out
    clear HA
    simp only [Zv.l0] at H
    by_cases c9 : J1 < (J0.length : Int)
    ·rw [if_pos c9] at H
     have c9b0 : decide (J1 < (J0.length : Int)) = true := decide_eq_true c9
     clear c9
     by_cases c10 : 0 ≤ J1
     ·rw [if_pos c10] at H
      have c10b0 : decide (0 ≤ J1) = true := decide_eq_true c10
      clear c10
      by_cases c11 : J1 < (J0.length : Int)
      ·rw [if_pos c11] at H
       have c11b0 : decide (J1 < (J0.length : Int)) = true := decide_eq_true c11
       clear c11
       replace H := Option.bind_eq_some_iff.mp H
       obtain ⟨t160, A120, H⟩ := H
       replace H : (if Jy.length + t160.length < 1466015503701 then (Zv.l0 k1 (Jy ++ t160) J0 (J0.length : Int) (wrap64 (J1 + 1))) else (none)) = some r := H
       have A12 := Zd.mk A120
       clear A120
       by_cases c13 : Jy.length + t160.length < 1466015503701
       ·rw [if_pos c13] at H
        have LMc13 := Zd.mk c13
        clear c13
        obtain ⟨y163, hy163⟩ : ∃ y_ : List (Qh), y_ = (Jy ++ t160) := ⟨_, rfl⟩
        replace H : (Zv.l0 k1 y163 J0 (J0.length : Int) (wrap64 (J1 + 1))) = some r := by first | (rw [hy163]; with_reducible exact H) | (have H2_ := (Option.bind_some _ _).symm.trans H; rw [hy163]; with_reducible exact H2_) | (have H2_ := (Option.bind_some _ _).symm.trans H; with_reducible exact H2_) | with_reducible exact H | (rw [hy163]; exact H) | exact H
        have Ny163 := Zd.mk hy163
        clear hy163
        have H' := Zd.mk H
        clear H
        have p158 : 0 ≤ (J1 : Int) := of_decide_eq_true (by first | (with_reducible assumption) | assumption)
        have q158 : J1 < (J0.length : Int) := of_decide_eq_true (by first | (with_reducible assumption) | assumption)
        obtain ⟨ad158, A158_10, c158_10, A158_13, c158_13, e158, hx158_0, hx158_1, hx158_2, hx158_3, hx158_4, hx158_5, hx158_6, hx158_7, hx158_8, hx158_9, hx158_10, hx158_11, hx158_12, hx158_13, hl158_10, hi158_10, hl158_13, hi158_13⟩ := Jc (Kd.Xw HO_13.out).2.2 J1 p158 q158
        cases e158
        obtain ⟨ce158, hce158, hMe158, hcc158⟩ := Kd.V_get HO_13.out z30 J1 p158 (by first | exact q158 | exact of_decide_eq_true (by first | (with_reducible assumption) | assumption) | (have e_ := (Kd.Xw HO_13.out).1; omega))
        obtain ⟨ua158_10, uc158_10, ua158_13, uc158_13, rfl, ul158_10, ge158_10, ul158_13, ge158_13⟩ := k30_openF hMe158
        have hv158_10 := hcc158 10 _ rfl
        rw [Qc _ _ 10 (by omega)] at hv158_10
        replace hv158_10 := Option.some.inj (hv158_10.symm.trans hx158_10)
        injection hv158_10 with hva_ hvn_ hvc_
        rw [hva_] at ge158_10
        rw [hvc_] at ul158_10
        have HL158_10 := Zd.mk (show Kd.V k27 27 _ w.heap.size _ _ ((Zc J0 J1).f1.f7) from Kd.Wj ul158_10 ge158_10)
        clear hva_ hvn_ hvc_ ge158_10 ul158_10
        have hv158_13 := hcc158 13 _ rfl
        rw [Qc _ _ 13 (by omega)] at hv158_13
        replace hv158_13 := Option.some.inj (hv158_13.symm.trans hx158_13)
        injection hv158_13 with hva_ hvn_ hvc_
        rw [hva_] at ge158_13
        rw [hvc_] at ul158_13
        have HL158_13 := Zd.mk (show Kd.V k30 30 _ w.heap.size _ _ ((Zc J0 J1).f4) from Kd.Wj ul158_13 ge158_13)
        clear hva_ hvn_ hvc_ ge158_13 ul158_13
        clear hcc158 hce158
        have HR158_10 := Zd.mk hi158_10
        have HC158_10 := Zd.mk hl158_10
        clear hi158_10 hl158_10
        have HR158_13 := Zd.mk hi158_13
        have HC158_13 := Zd.mk hl158_13
        clear hi158_13 hl158_13
        replace p158 := eq_true p158
        replace q158 := eq_true q158
        go_wp2_with (first | ((with_reducible refine Xd (N := 5) rfl ?_); refine Xe ?hg (N := 5) ?hd (cs := #[.int .i64 0, .int .i64 0, .int .i64 0, .bool false, .int .i64 0, .int .u64 0, .int .u64 0, .int .i64 0, .bool false, .int .i64 0, .slice none 0 0, .int .i64 0, .int .i64 0, .slice none 0 0]) (t := 30) ?hr ?_; (case hd => rfl); (case hg => rfl); (case hr => first | (go_simp; done) | (go_simp; rfl)); intro J3 hg w14 hbox hb; have n0_ := Zd.mk (Kd.Kr (Kd.N_elderB HO_3.out J3 (Nat.le_of_eq hg.symm)) hb); have n1_ := Zd.mk (Kd.Xl (Kd.Xx HO_13.out J3 (Nat.le_of_eq hg.symm)) hb); have n2_ := Zd.mk (Kd.Xl (Kd.Xx HO_155010.out J3 (Nat.le_of_eq hg.symm)) hb); have n3_ := Zd.mk (Kd.Xl (Kd.Xx HO_155013.out J3 (Nat.le_of_eq hg.symm)) hb); have n4_ := Zd.mk (Kd.Xl (Kd.Xx HL158_10.out J3 (Nat.le_of_eq hg.symm)) hb); have n5_ := Zd.mk (Kd.Xl (Kd.Xx HL158_13.out J3 (Nat.le_of_eq hg.symm)) hb); have n6_ := Zd.mk (Zp J7.out hb); have n7_ := Zd.mk (Kd.Zw (by repeat (first | (with_reducible exact HR158_10.out) | (with_reducible refine Kd.C_alloc ?_ _) | (with_reducible refine Kd.C_drewN ?_ _) | (with_reducible refine Kd.C_drew ?_) | exact HR158_10.out)) hb); have n8_ := Zd.mk (Kd.Zw (by repeat (first | (with_reducible exact HR158_13.out) | (with_reducible refine Kd.C_alloc ?_ _) | (with_reducible refine Kd.C_drewN ?_ _) | (with_reducible refine Kd.C_drew ?_) | exact HR158_13.out)) hb); have n9_ := Zd.mk (Zj HB.out hb); have n10_ := Zd.mk (hbox); have n11_ := Zd.mk ((by rw [hg]; exact (Zl HB.out) : w.heap.size ≤ J3)); have n12_ := n11_; have n13_ := Zd.mk ((by rw [hg]; exact Nat.ne_of_lt (Kv J7.out) : Jb ≠ J3)); have n14_ := Zd.mk ((by rw [hg]; exact Nat.ne_of_gt (Kv J7.out) : J3 ≠ Jb)); clear HO_3; clear HO_13; clear HO_155010; clear HO_155013; clear HL158_10; clear HL158_13; clear J7; clear HR158_10; clear HR158_13; clear HB; have HO_3 := n0_; have HO_13 := n1_; have HO_155010 := n2_; have HO_155013 := n3_; have HL158_10 := n4_; have HL158_13 := n5_; have J7 := n6_; have HR158_10 := n7_; have HR158_13 := n8_; have HB := n9_; have J9 := n10_; have GW159 := n11_; have GE159 := n12_; have NB154_159 := n13_; have NB159_154 := n14_; clear n0_ n1_ n2_ n3_ n4_ n5_ n6_ n7_ n8_ n9_ n10_ n11_ n12_ n13_ n14_; clear hb hbox hg; have hnb15 := NB159_154.out; have hnc15 := NB154_159.out; have hcz16_0 : w14.cell? ⟨J3, 0, none⟩ = some (.int .i64 0) := (Za J9.out 0).trans rfl; have hcz16_1 : w14.cell? ⟨J3, 1, none⟩ = some (.int .i64 0) := (Za J9.out 1).trans rfl; have hcz16_2 : w14.cell? ⟨J3, 2, none⟩ = some (.int .i64 0) := (Za J9.out 2).trans rfl; have hcz16_3 : w14.cell? ⟨J3, 3, none⟩ = some (.bool false) := (Za J9.out 3).trans rfl; have hcz16_4 : w14.cell? ⟨J3, 4, none⟩ = some (.int .i64 0) := (Za J9.out 4).trans rfl; have hcz16_5 : w14.cell? ⟨J3, 5, none⟩ = some (.int .u64 0) := (Za J9.out 5).trans rfl; have hcz16_6 : w14.cell? ⟨J3, 6, none⟩ = some (.int .u64 0) := (Za J9.out 6).trans rfl; have hcz16_7 : w14.cell? ⟨J3, 7, none⟩ = some (.int .i64 0) := (Za J9.out 7).trans rfl; have hcz16_8 : w14.cell? ⟨J3, 8, none⟩ = some (.bool false) := (Za J9.out 8).trans rfl; have hcz16_9 : w14.cell? ⟨J3, 9, none⟩ = some (.int .i64 0) := (Za J9.out 9).trans rfl; have hcz16_10 : w14.cell? ⟨J3, 10, none⟩ = some (.slice none 0 0) := (Za J9.out 10).trans rfl; have hcz16_11 : w14.cell? ⟨J3, 11, none⟩ = some (.int .i64 0) := (Za J9.out 11).trans rfl; have hcz16_12 : w14.cell? ⟨J3, 12, none⟩ = some (.int .i64 0) := (Za J9.out 12).trans rfl; have hcz16_13 : w14.cell? ⟨J3, 13, none⟩ = some (.slice none 0 0) := (Za J9.out 13).trans rfl; have hfz16_0 := Zb J9.out 0; have hfz16_1 := Zb J9.out 1; have hfz16_2 := Zb J9.out 2; have hfz16_3 := Zb J9.out 3; have hfz16_4 := Zb J9.out 4; have hfz16_5 := Zb J9.out 5; have hfz16_6 := Zb J9.out 6; have hfz16_7 := Zb J9.out 7; have hfz16_8 := Zb J9.out 8; have hfz16_9 := Zb J9.out 9; have hfz16_10 := Zb J9.out 10; have hfz16_11 := Zb J9.out 11; have hfz16_12 := Zb J9.out 12; have hfz16_13 := Zb J9.out 13) | ((with_reducible refine Wl (t := 30) (p := 5) rfl ?_); refine Jr (t := 30) (p := 5) (v := ?vo_w17) (w1 := ((((((((((((((w14.setCell ⟨J3, 0, none⟩ (.int .i64 ((Zc J0 J1).f0))).setCell ⟨J3, 1, none⟩ (.int .i64 ((Zc J0 J1).f1.f0))).setCell ⟨J3, 2, none⟩ (.int .i64 ((Zc J0 J1).f1.f1))).setCell ⟨J3, 3, none⟩ (.bool ((Zc J0 J1).f1.f2))).setCell ⟨J3, 4, none⟩ (.int .i64 ((Zc J0 J1).f1.f3.f0))).setCell ⟨J3, 5, none⟩ (.int .u64 ((Zc J0 J1).f1.f3.f1))).setCell ⟨J3, 6, none⟩ (.int .u64 ((Zc J0 J1).f1.f3.f2))).setCell ⟨J3, 7, none⟩ (.int .i64 ((Zc J0 J1).f1.f4))).setCell ⟨J3, 8, none⟩ (.bool ((Zc J0 J1).f1.f5))).setCell ⟨J3, 9, none⟩ (.int .i64 ((Zc J0 J1).f1.f6))).setCell ⟨J3, 10, none⟩ (.slice A158_10 ((Zc J0 J1).f1.f7).length c158_10)).setCell ⟨J3, 11, none⟩ (.int .i64 ((Zc J0 J1).f2))).setCell ⟨J3, 12, none⟩ (.int .i64 ((Zc J0 J1).f3))).setCell ⟨J3, 13, none⟩ (.slice A158_13 ((Zc J0 J1).f4).length c158_13))) ?hg ?ho ?hn ?hr ?_; (case ho => rfl); (case hg => rfl); (case hn => rfl); (case hr => first | (go_simp; done) | (go_simp; rfl)); intro w17 hw; have n0_ : Zd (Kd.N k27 27 w17 w.heap.size (fun k_ => ((P0_10_ k_ ∨ P0_13_ k_) ∨ w.heap.size ≤ k_) ∧ k_ ≠ Jb ∧ k_ ≠ J3) u3 Jy) := ⟨(by rw [hw]; exact (by (with_reducible repeat (first | apply Kd.N_alloc | apply Kd.N_drewN | apply Kd.Vg)); exact Kd.Xq (Kd.Xn (p := ⟨J3, 13, none⟩) (Kd.Xn (p := ⟨J3, 12, none⟩) (Kd.Xn (p := ⟨J3, 11, none⟩) (Kd.Xn (p := ⟨J3, 10, none⟩) (Kd.Xn (p := ⟨J3, 9, none⟩) (Kd.Xn (p := ⟨J3, 8, none⟩) (Kd.Xn (p := ⟨J3, 7, none⟩) (Kd.Xn (p := ⟨J3, 6, none⟩) (Kd.Xn (p := ⟨J3, 5, none⟩) (Kd.Xn (p := ⟨J3, 4, none⟩) (Kd.Xn (p := ⟨J3, 3, none⟩) (Kd.Xn (p := ⟨J3, 2, none⟩) (Kd.Xn (p := ⟨J3, 1, none⟩) (Kd.Xn (p := ⟨J3, 0, none⟩) (Kd.Xq HO_3.out (fun k_ hk => (⟨hk, hk.2⟩ : _ ∧ k_ ≠ J3))) (fun _ hk => hk.2) (.int .i64 ((Zc J0 J1).f0))) (fun _ hk => hk.2) (.int .i64 ((Zc J0 J1).f1.f0))) (fun _ hk => hk.2) (.int .i64 ((Zc J0 J1).f1.f1))) (fun _ hk => hk.2) (.bool ((Zc J0 J1).f1.f2))) (fun _ hk => hk.2) (.int .i64 ((Zc J0 J1).f1.f3.f0))) (fun _ hk => hk.2) (.int .u64 ((Zc J0 J1).f1.f3.f1))) (fun _ hk => hk.2) (.int .u64 ((Zc J0 J1).f1.f3.f2))) (fun _ hk => hk.2) (.int .i64 ((Zc J0 J1).f1.f4))) (fun _ hk => hk.2) (.bool ((Zc J0 J1).f1.f5))) (fun _ hk => hk.2) (.int .i64 ((Zc J0 J1).f1.f6))) (fun _ hk => hk.2) (.slice A158_10 ((Zc J0 J1).f1.f7).length c158_10)) (fun _ hk => hk.2) (.int .i64 ((Zc J0 J1).f2))) (fun _ hk => hk.2) (.int .i64 ((Zc J0 J1).f3))) (fun _ hk => hk.2) (.slice A158_13 ((Zc J0 J1).f4).length c158_13)) (fun _ hk => ⟨hk.1.1.1, ⟨hk.1.1.2, hk.1.2⟩⟩)))⟩; have n1_ : Zd (Kd.V k30 30 w17 w.heap.size (fun k_ => ((P0_10_ k_ ∨ P0_13_ k_) ∨ w.heap.size ≤ k_) ∧ some k_ ≠ (u3 : Value).ownBlock ∧ k_ ≠ Jb ∧ k_ ≠ J3) (.slice (some ad158) J0.length c0_13) J0) := ⟨(by rw [hw]; exact (by (with_reducible repeat (first | apply Kd.V_alloc | apply Kd.V_drewN | apply Kd.Xp)); exact Kd.Xa (Kd.Zi (p := ⟨J3, 13, none⟩) (Kd.Zi (p := ⟨J3, 12, none⟩) (Kd.Zi (p := ⟨J3, 11, none⟩) (Kd.Zi (p := ⟨J3, 10, none⟩) (Kd.Zi (p := ⟨J3, 9, none⟩) (Kd.Zi (p := ⟨J3, 8, none⟩) (Kd.Zi (p := ⟨J3, 7, none⟩) (Kd.Zi (p := ⟨J3, 6, none⟩) (Kd.Zi (p := ⟨J3, 5, none⟩) (Kd.Zi (p := ⟨J3, 4, none⟩) (Kd.Zi (p := ⟨J3, 3, none⟩) (Kd.Zi (p := ⟨J3, 2, none⟩) (Kd.Zi (p := ⟨J3, 1, none⟩) (Kd.Zi (p := ⟨J3, 0, none⟩) (Kd.Xa HO_13.out (fun k_ hk => (⟨hk, hk.2⟩ : _ ∧ k_ ≠ J3))) (fun _ hk => hk.2) (.int .i64 ((Zc J0 J1).f0))) (fun _ hk => hk.2) (.int .i64 ((Zc J0 J1).f1.f0))) (fun _ hk => hk.2) (.int .i64 ((Zc J0 J1).f1.f1))) (fun _ hk => hk.2) (.bool ((Zc J0 J1).f1.f2))) (fun _ hk => hk.2) (.int .i64 ((Zc J0 J1).f1.f3.f0))) (fun _ hk => hk.2) (.int .u64 ((Zc J0 J1).f1.f3.f1))) (fun _ hk => hk.2) (.int .u64 ((Zc J0 J1).f1.f3.f2))) (fun _ hk => hk.2) (.int .i64 ((Zc J0 J1).f1.f4))) (fun _ hk => hk.2) (.bool ((Zc J0 J1).f1.f5))) (fun _ hk => hk.2) (.int .i64 ((Zc J0 J1).f1.f6))) (fun _ hk => hk.2) (.slice A158_10 ((Zc J0 J1).f1.f7).length c158_10)) (fun _ hk => hk.2) (.int .i64 ((Zc J0 J1).f2))) (fun _ hk => hk.2) (.int .i64 ((Zc J0 J1).f3))) (fun _ hk => hk.2) (.slice A158_13 ((Zc J0 J1).f4).length c158_13)) (fun _ hk => ⟨hk.1.1.1, ⟨hk.1.1.2.1, ⟨hk.1.1.2.2, hk.1.2⟩⟩⟩)))⟩; have n2_ : Zd (Kd.V k27 27 w17 w.heap.size (fun k_ => ((P0_10_ k_ ∨ P0_13_ k_) ∨ w.heap.size ≤ k_) ∧ some k_ ≠ (u3 : Value).ownBlock ∧ k_ ≠ Jb ∧ k_ ≠ J3) (.slice A0_10 Jp.length c0_10) Jp) := ⟨(by rw [hw]; exact (by (with_reducible repeat (first | apply Kd.V_alloc | apply Kd.V_drewN | apply Kd.Xp)); exact Kd.Xa (Kd.Zi (p := ⟨J3, 13, none⟩) (Kd.Zi (p := ⟨J3, 12, none⟩) (Kd.Zi (p := ⟨J3, 11, none⟩) (Kd.Zi (p := ⟨J3, 10, none⟩) (Kd.Zi (p := ⟨J3, 9, none⟩) (Kd.Zi (p := ⟨J3, 8, none⟩) (Kd.Zi (p := ⟨J3, 7, none⟩) (Kd.Zi (p := ⟨J3, 6, none⟩) (Kd.Zi (p := ⟨J3, 5, none⟩) (Kd.Zi (p := ⟨J3, 4, none⟩) (Kd.Zi (p := ⟨J3, 3, none⟩) (Kd.Zi (p := ⟨J3, 2, none⟩) (Kd.Zi (p := ⟨J3, 1, none⟩) (Kd.Zi (p := ⟨J3, 0, none⟩) (Kd.Xa HO_155010.out (fun k_ hk => (⟨hk, hk.2⟩ : _ ∧ k_ ≠ J3))) (fun _ hk => hk.2) (.int .i64 ((Zc J0 J1).f0))) (fun _ hk => hk.2) (.int .i64 ((Zc J0 J1).f1.f0))) (fun _ hk => hk.2) (.int .i64 ((Zc J0 J1).f1.f1))) (fun _ hk => hk.2) (.bool ((Zc J0 J1).f1.f2))) (fun _ hk => hk.2) (.int .i64 ((Zc J0 J1).f1.f3.f0))) (fun _ hk => hk.2) (.int .u64 ((Zc J0 J1).f1.f3.f1))) (fun _ hk => hk.2) (.int .u64 ((Zc J0 J1).f1.f3.f2))) (fun _ hk => hk.2) (.int .i64 ((Zc J0 J1).f1.f4))) (fun _ hk => hk.2) (.bool ((Zc J0 J1).f1.f5))) (fun _ hk => hk.2) (.int .i64 ((Zc J0 J1).f1.f6))) (fun _ hk => hk.2) (.slice A158_10 ((Zc J0 J1).f1.f7).length c158_10)) (fun _ hk => hk.2) (.int .i64 ((Zc J0 J1).f2))) (fun _ hk => hk.2) (.int .i64 ((Zc J0 J1).f3))) (fun _ hk => hk.2) (.slice A158_13 ((Zc J0 J1).f4).length c158_13)) (fun _ hk => ⟨hk.1.1.1, ⟨hk.1.1.2.1, ⟨hk.1.1.2.2, hk.1.2⟩⟩⟩)))⟩; have n3_ : Zd (Kd.V k30 30 w17 w.heap.size (fun k_ => ((P0_10_ k_ ∨ P0_13_ k_) ∨ w.heap.size ≤ k_) ∧ some k_ ≠ (u3 : Value).ownBlock ∧ k_ ≠ Jb ∧ k_ ≠ J3) (.slice (some ad158) J0.length c0_13) J0) := ⟨(by rw [hw]; exact (by (with_reducible repeat (first | apply Kd.V_alloc | apply Kd.V_drewN | apply Kd.Xp)); exact Kd.Xa (Kd.Zi (p := ⟨J3, 13, none⟩) (Kd.Zi (p := ⟨J3, 12, none⟩) (Kd.Zi (p := ⟨J3, 11, none⟩) (Kd.Zi (p := ⟨J3, 10, none⟩) (Kd.Zi (p := ⟨J3, 9, none⟩) (Kd.Zi (p := ⟨J3, 8, none⟩) (Kd.Zi (p := ⟨J3, 7, none⟩) (Kd.Zi (p := ⟨J3, 6, none⟩) (Kd.Zi (p := ⟨J3, 5, none⟩) (Kd.Zi (p := ⟨J3, 4, none⟩) (Kd.Zi (p := ⟨J3, 3, none⟩) (Kd.Zi (p := ⟨J3, 2, none⟩) (Kd.Zi (p := ⟨J3, 1, none⟩) (Kd.Zi (p := ⟨J3, 0, none⟩) (Kd.Xa HO_155013.out (fun k_ hk => (⟨hk, hk.2⟩ : _ ∧ k_ ≠ J3))) (fun _ hk => hk.2) (.int .i64 ((Zc J0 J1).f0))) (fun _ hk => hk.2) (.int .i64 ((Zc J0 J1).f1.f0))) (fun _ hk => hk.2) (.int .i64 ((Zc J0 J1).f1.f1))) (fun _ hk => hk.2) (.bool ((Zc J0 J1).f1.f2))) (fun _ hk => hk.2) (.int .i64 ((Zc J0 J1).f1.f3.f0))) (fun _ hk => hk.2) (.int .u64 ((Zc J0 J1).f1.f3.f1))) (fun _ hk => hk.2) (.int .u64 ((Zc J0 J1).f1.f3.f2))) (fun _ hk => hk.2) (.int .i64 ((Zc J0 J1).f1.f4))) (fun _ hk => hk.2) (.bool ((Zc J0 J1).f1.f5))) (fun _ hk => hk.2) (.int .i64 ((Zc J0 J1).f1.f6))) (fun _ hk => hk.2) (.slice A158_10 ((Zc J0 J1).f1.f7).length c158_10)) (fun _ hk => hk.2) (.int .i64 ((Zc J0 J1).f2))) (fun _ hk => hk.2) (.int .i64 ((Zc J0 J1).f3))) (fun _ hk => hk.2) (.slice A158_13 ((Zc J0 J1).f4).length c158_13)) (fun _ hk => ⟨hk.1.1.1, ⟨hk.1.1.2.1, ⟨hk.1.1.2.2, hk.1.2⟩⟩⟩)))⟩; have n4_ : Zd (Kd.V k27 27 w17 w.heap.size (fun k_ => ((P0_10_ k_ ∨ P0_13_ k_) ∨ w.heap.size ≤ k_) ∧ some k_ ≠ (u3 : Value).ownBlock ∧ k_ ≠ Jb ∧ k_ ≠ J3) (.slice A158_10 ((Zc J0 J1).f1.f7).length c158_10) ((Zc J0 J1).f1.f7)) := ⟨(by rw [hw]; exact (by (with_reducible repeat (first | apply Kd.V_alloc | apply Kd.V_drewN | apply Kd.Xp)); exact Kd.Xa (Kd.Zi (p := ⟨J3, 13, none⟩) (Kd.Zi (p := ⟨J3, 12, none⟩) (Kd.Zi (p := ⟨J3, 11, none⟩) (Kd.Zi (p := ⟨J3, 10, none⟩) (Kd.Zi (p := ⟨J3, 9, none⟩) (Kd.Zi (p := ⟨J3, 8, none⟩) (Kd.Zi (p := ⟨J3, 7, none⟩) (Kd.Zi (p := ⟨J3, 6, none⟩) (Kd.Zi (p := ⟨J3, 5, none⟩) (Kd.Zi (p := ⟨J3, 4, none⟩) (Kd.Zi (p := ⟨J3, 3, none⟩) (Kd.Zi (p := ⟨J3, 2, none⟩) (Kd.Zi (p := ⟨J3, 1, none⟩) (Kd.Zi (p := ⟨J3, 0, none⟩) (Kd.Xa HL158_10.out (fun k_ hk => (⟨hk, hk.2⟩ : _ ∧ k_ ≠ J3))) (fun _ hk => hk.2) (.int .i64 ((Zc J0 J1).f0))) (fun _ hk => hk.2) (.int .i64 ((Zc J0 J1).f1.f0))) (fun _ hk => hk.2) (.int .i64 ((Zc J0 J1).f1.f1))) (fun _ hk => hk.2) (.bool ((Zc J0 J1).f1.f2))) (fun _ hk => hk.2) (.int .i64 ((Zc J0 J1).f1.f3.f0))) (fun _ hk => hk.2) (.int .u64 ((Zc J0 J1).f1.f3.f1))) (fun _ hk => hk.2) (.int .u64 ((Zc J0 J1).f1.f3.f2))) (fun _ hk => hk.2) (.int .i64 ((Zc J0 J1).f1.f4))) (fun _ hk => hk.2) (.bool ((Zc J0 J1).f1.f5))) (fun _ hk => hk.2) (.int .i64 ((Zc J0 J1).f1.f6))) (fun _ hk => hk.2) (.slice A158_10 ((Zc J0 J1).f1.f7).length c158_10)) (fun _ hk => hk.2) (.int .i64 ((Zc J0 J1).f2))) (fun _ hk => hk.2) (.int .i64 ((Zc J0 J1).f3))) (fun _ hk => hk.2) (.slice A158_13 ((Zc J0 J1).f4).length c158_13)) (fun _ hk => ⟨hk.1.1.1, ⟨hk.1.1.2.1, ⟨hk.1.1.2.2, hk.1.2⟩⟩⟩)))⟩; have n5_ : Zd (Kd.V k30 30 w17 w.heap.size (fun k_ => ((P0_10_ k_ ∨ P0_13_ k_) ∨ w.heap.size ≤ k_) ∧ some k_ ≠ (u3 : Value).ownBlock ∧ k_ ≠ Jb ∧ k_ ≠ J3) (.slice A158_13 ((Zc J0 J1).f4).length c158_13) ((Zc J0 J1).f4)) := ⟨(by rw [hw]; exact (by (with_reducible repeat (first | apply Kd.V_alloc | apply Kd.V_drewN | apply Kd.Xp)); exact Kd.Xa (Kd.Zi (p := ⟨J3, 13, none⟩) (Kd.Zi (p := ⟨J3, 12, none⟩) (Kd.Zi (p := ⟨J3, 11, none⟩) (Kd.Zi (p := ⟨J3, 10, none⟩) (Kd.Zi (p := ⟨J3, 9, none⟩) (Kd.Zi (p := ⟨J3, 8, none⟩) (Kd.Zi (p := ⟨J3, 7, none⟩) (Kd.Zi (p := ⟨J3, 6, none⟩) (Kd.Zi (p := ⟨J3, 5, none⟩) (Kd.Zi (p := ⟨J3, 4, none⟩) (Kd.Zi (p := ⟨J3, 3, none⟩) (Kd.Zi (p := ⟨J3, 2, none⟩) (Kd.Zi (p := ⟨J3, 1, none⟩) (Kd.Zi (p := ⟨J3, 0, none⟩) (Kd.Xa HL158_13.out (fun k_ hk => (⟨hk, hk.2⟩ : _ ∧ k_ ≠ J3))) (fun _ hk => hk.2) (.int .i64 ((Zc J0 J1).f0))) (fun _ hk => hk.2) (.int .i64 ((Zc J0 J1).f1.f0))) (fun _ hk => hk.2) (.int .i64 ((Zc J0 J1).f1.f1))) (fun _ hk => hk.2) (.bool ((Zc J0 J1).f1.f2))) (fun _ hk => hk.2) (.int .i64 ((Zc J0 J1).f1.f3.f0))) (fun _ hk => hk.2) (.int .u64 ((Zc J0 J1).f1.f3.f1))) (fun _ hk => hk.2) (.int .u64 ((Zc J0 J1).f1.f3.f2))) (fun _ hk => hk.2) (.int .i64 ((Zc J0 J1).f1.f4))) (fun _ hk => hk.2) (.bool ((Zc J0 J1).f1.f5))) (fun _ hk => hk.2) (.int .i64 ((Zc J0 J1).f1.f6))) (fun _ hk => hk.2) (.slice A158_10 ((Zc J0 J1).f1.f7).length c158_10)) (fun _ hk => hk.2) (.int .i64 ((Zc J0 J1).f2))) (fun _ hk => hk.2) (.int .i64 ((Zc J0 J1).f3))) (fun _ hk => hk.2) (.slice A158_13 ((Zc J0 J1).f4).length c158_13)) (fun _ hk => ⟨hk.1.1.1, ⟨hk.1.1.2.1, ⟨hk.1.1.2.2, hk.1.2⟩⟩⟩)))⟩; have n6_ : Zd (w17.heap[Jb]? = some (.cells #[.int .i64 Jf, .int .i64 Je, .int .i64 Jg, .bool Jh, .int .i64 Jk, .int .u64 Jm, .int .u64 Jo, .int .i64 Jq, .bool Js, .int .i64 Ju, .slice A0_10 Jp.length c0_10, .int .i64 Jx, .int .i64 Jv, .slice (some ad158) J0.length c0_13] 30 (0, 0))) := ⟨(by rw [hw]; exact (by (with_reducible repeat (first | refine Zf ?_ _ | refine Zg ?_ | refine Ze ?_ _)); refine Zm ?_ NB154_159.out _; (with_reducible repeat (first | refine Zf ?_ _ | refine Zg ?_ | refine Ze ?_ _)); refine Zm ?_ NB154_159.out _; (with_reducible repeat (first | refine Zf ?_ _ | refine Zg ?_ | refine Ze ?_ _)); refine Zm ?_ NB154_159.out _; (with_reducible repeat (first | refine Zf ?_ _ | refine Zg ?_ | refine Ze ?_ _)); refine Zm ?_ NB154_159.out _; (with_reducible repeat (first | refine Zf ?_ _ | refine Zg ?_ | refine Ze ?_ _)); refine Zm ?_ NB154_159.out _; (with_reducible repeat (first | refine Zf ?_ _ | refine Zg ?_ | refine Ze ?_ _)); refine Zm ?_ NB154_159.out _; (with_reducible repeat (first | refine Zf ?_ _ | refine Zg ?_ | refine Ze ?_ _)); refine Zm ?_ NB154_159.out _; (with_reducible repeat (first | refine Zf ?_ _ | refine Zg ?_ | refine Ze ?_ _)); refine Zm ?_ NB154_159.out _; (with_reducible repeat (first | refine Zf ?_ _ | refine Zg ?_ | refine Ze ?_ _)); refine Zm ?_ NB154_159.out _; (with_reducible repeat (first | refine Zf ?_ _ | refine Zg ?_ | refine Ze ?_ _)); refine Zm ?_ NB154_159.out _; (with_reducible repeat (first | refine Zf ?_ _ | refine Zg ?_ | refine Ze ?_ _)); refine Zm ?_ NB154_159.out _; (with_reducible repeat (first | refine Zf ?_ _ | refine Zg ?_ | refine Ze ?_ _)); refine Zm ?_ NB154_159.out _; (with_reducible repeat (first | refine Zf ?_ _ | refine Zg ?_ | refine Ze ?_ _)); refine Zm ?_ NB154_159.out _; (with_reducible repeat (first | refine Zf ?_ _ | refine Zg ?_ | refine Ze ?_ _)); refine Zm ?_ NB154_159.out _; (with_reducible repeat (first | refine Zf ?_ _ | refine Zg ?_ | refine Ze ?_ _)); exact J7.out))⟩; have n7_ : Zd (w17.heap[J3]? = some (.cells #[.int .i64 ((Zc J0 J1).f0), .int .i64 ((Zc J0 J1).f1.f0), .int .i64 ((Zc J0 J1).f1.f1), .bool ((Zc J0 J1).f1.f2), .int .i64 ((Zc J0 J1).f1.f3.f0), .int .u64 ((Zc J0 J1).f1.f3.f1), .int .u64 ((Zc J0 J1).f1.f3.f2), .int .i64 ((Zc J0 J1).f1.f4), .bool ((Zc J0 J1).f1.f5), .int .i64 ((Zc J0 J1).f1.f6), .slice A158_10 ((Zc J0 J1).f1.f7).length c158_10, .int .i64 ((Zc J0 J1).f2), .int .i64 ((Zc J0 J1).f3), .slice A158_13 ((Zc J0 J1).f4).length c158_13] 30 (0, 0))) := ⟨(by rw [hw]; exact (by (with_reducible repeat (first | refine Zf ?_ _ | refine Zg ?_ | refine Ze ?_ _)); refine Zk (cs := #[.int .i64 ((Zc J0 J1).f0), .int .i64 ((Zc J0 J1).f1.f0), .int .i64 ((Zc J0 J1).f1.f1), .bool ((Zc J0 J1).f1.f2), .int .i64 ((Zc J0 J1).f1.f3.f0), .int .u64 ((Zc J0 J1).f1.f3.f1), .int .u64 ((Zc J0 J1).f1.f3.f2), .int .i64 ((Zc J0 J1).f1.f4), .bool ((Zc J0 J1).f1.f5), .int .i64 ((Zc J0 J1).f1.f6), .slice A158_10 ((Zc J0 J1).f1.f7).length c158_10, .int .i64 ((Zc J0 J1).f2), .int .i64 ((Zc J0 J1).f3), .slice none 0 0]) ?_ 13 _ rfl; (with_reducible repeat (first | refine Zf ?_ _ | refine Zg ?_ | refine Ze ?_ _)); refine Zk (cs := #[.int .i64 ((Zc J0 J1).f0), .int .i64 ((Zc J0 J1).f1.f0), .int .i64 ((Zc J0 J1).f1.f1), .bool ((Zc J0 J1).f1.f2), .int .i64 ((Zc J0 J1).f1.f3.f0), .int .u64 ((Zc J0 J1).f1.f3.f1), .int .u64 ((Zc J0 J1).f1.f3.f2), .int .i64 ((Zc J0 J1).f1.f4), .bool ((Zc J0 J1).f1.f5), .int .i64 ((Zc J0 J1).f1.f6), .slice A158_10 ((Zc J0 J1).f1.f7).length c158_10, .int .i64 ((Zc J0 J1).f2), .int .i64 0, .slice none 0 0]) ?_ 12 _ rfl; (with_reducible repeat (first | refine Zf ?_ _ | refine Zg ?_ | refine Ze ?_ _)); refine Zk (cs := #[.int .i64 ((Zc J0 J1).f0), .int .i64 ((Zc J0 J1).f1.f0), .int .i64 ((Zc J0 J1).f1.f1), .bool ((Zc J0 J1).f1.f2), .int .i64 ((Zc J0 J1).f1.f3.f0), .int .u64 ((Zc J0 J1).f1.f3.f1), .int .u64 ((Zc J0 J1).f1.f3.f2), .int .i64 ((Zc J0 J1).f1.f4), .bool ((Zc J0 J1).f1.f5), .int .i64 ((Zc J0 J1).f1.f6), .slice A158_10 ((Zc J0 J1).f1.f7).length c158_10, .int .i64 0, .int .i64 0, .slice none 0 0]) ?_ 11 _ rfl; (with_reducible repeat (first | refine Zf ?_ _ | refine Zg ?_ | refine Ze ?_ _)); refine Zk (cs := #[.int .i64 ((Zc J0 J1).f0), .int .i64 ((Zc J0 J1).f1.f0), .int .i64 ((Zc J0 J1).f1.f1), .bool ((Zc J0 J1).f1.f2), .int .i64 ((Zc J0 J1).f1.f3.f0), .int .u64 ((Zc J0 J1).f1.f3.f1), .int .u64 ((Zc J0 J1).f1.f3.f2), .int .i64 ((Zc J0 J1).f1.f4), .bool ((Zc J0 J1).f1.f5), .int .i64 ((Zc J0 J1).f1.f6), .slice none 0 0, .int .i64 0, .int .i64 0, .slice none 0 0]) ?_ 10 _ rfl; (with_reducible repeat (first | refine Zf ?_ _ | refine Zg ?_ | refine Ze ?_ _)); refine Zk (cs := #[.int .i64 ((Zc J0 J1).f0), .int .i64 ((Zc J0 J1).f1.f0), .int .i64 ((Zc J0 J1).f1.f1), .bool ((Zc J0 J1).f1.f2), .int .i64 ((Zc J0 J1).f1.f3.f0), .int .u64 ((Zc J0 J1).f1.f3.f1), .int .u64 ((Zc J0 J1).f1.f3.f2), .int .i64 ((Zc J0 J1).f1.f4), .bool ((Zc J0 J1).f1.f5), .int .i64 0, .slice none 0 0, .int .i64 0, .int .i64 0, .slice none 0 0]) ?_ 9 _ rfl; (with_reducible repeat (first | refine Zf ?_ _ | refine Zg ?_ | refine Ze ?_ _)); refine Zk (cs := #[.int .i64 ((Zc J0 J1).f0), .int .i64 ((Zc J0 J1).f1.f0), .int .i64 ((Zc J0 J1).f1.f1), .bool ((Zc J0 J1).f1.f2), .int .i64 ((Zc J0 J1).f1.f3.f0), .int .u64 ((Zc J0 J1).f1.f3.f1), .int .u64 ((Zc J0 J1).f1.f3.f2), .int .i64 ((Zc J0 J1).f1.f4), .bool false, .int .i64 0, .slice none 0 0, .int .i64 0, .int .i64 0, .slice none 0 0]) ?_ 8 _ rfl; (with_reducible repeat (first | refine Zf ?_ _ | refine Zg ?_ | refine Ze ?_ _)); refine Zk (cs := #[.int .i64 ((Zc J0 J1).f0), .int .i64 ((Zc J0 J1).f1.f0), .int .i64 ((Zc J0 J1).f1.f1), .bool ((Zc J0 J1).f1.f2), .int .i64 ((Zc J0 J1).f1.f3.f0), .int .u64 ((Zc J0 J1).f1.f3.f1), .int .u64 ((Zc J0 J1).f1.f3.f2), .int .i64 0, .bool false, .int .i64 0, .slice none 0 0, .int .i64 0, .int .i64 0, .slice none 0 0]) ?_ 7 _ rfl; (with_reducible repeat (first | refine Zf ?_ _ | refine Zg ?_ | refine Ze ?_ _)); refine Zk (cs := #[.int .i64 ((Zc J0 J1).f0), .int .i64 ((Zc J0 J1).f1.f0), .int .i64 ((Zc J0 J1).f1.f1), .bool ((Zc J0 J1).f1.f2), .int .i64 ((Zc J0 J1).f1.f3.f0), .int .u64 ((Zc J0 J1).f1.f3.f1), .int .u64 0, .int .i64 0, .bool false, .int .i64 0, .slice none 0 0, .int .i64 0, .int .i64 0, .slice none 0 0]) ?_ 6 _ rfl; (with_reducible repeat (first | refine Zf ?_ _ | refine Zg ?_ | refine Ze ?_ _)); refine Zk (cs := #[.int .i64 ((Zc J0 J1).f0), .int .i64 ((Zc J0 J1).f1.f0), .int .i64 ((Zc J0 J1).f1.f1), .bool ((Zc J0 J1).f1.f2), .int .i64 ((Zc J0 J1).f1.f3.f0), .int .u64 0, .int .u64 0, .int .i64 0, .bool false, .int .i64 0, .slice none 0 0, .int .i64 0, .int .i64 0, .slice none 0 0]) ?_ 5 _ rfl; (with_reducible repeat (first | refine Zf ?_ _ | refine Zg ?_ | refine Ze ?_ _)); refine Zk (cs := #[.int .i64 ((Zc J0 J1).f0), .int .i64 ((Zc J0 J1).f1.f0), .int .i64 ((Zc J0 J1).f1.f1), .bool ((Zc J0 J1).f1.f2), .int .i64 0, .int .u64 0, .int .u64 0, .int .i64 0, .bool false, .int .i64 0, .slice none 0 0, .int .i64 0, .int .i64 0, .slice none 0 0]) ?_ 4 _ rfl; (with_reducible repeat (first | refine Zf ?_ _ | refine Zg ?_ | refine Ze ?_ _)); refine Zk (cs := #[.int .i64 ((Zc J0 J1).f0), .int .i64 ((Zc J0 J1).f1.f0), .int .i64 ((Zc J0 J1).f1.f1), .bool false, .int .i64 0, .int .u64 0, .int .u64 0, .int .i64 0, .bool false, .int .i64 0, .slice none 0 0, .int .i64 0, .int .i64 0, .slice none 0 0]) ?_ 3 _ rfl; (with_reducible repeat (first | refine Zf ?_ _ | refine Zg ?_ | refine Ze ?_ _)); refine Zk (cs := #[.int .i64 ((Zc J0 J1).f0), .int .i64 ((Zc J0 J1).f1.f0), .int .i64 0, .bool false, .int .i64 0, .int .u64 0, .int .u64 0, .int .i64 0, .bool false, .int .i64 0, .slice none 0 0, .int .i64 0, .int .i64 0, .slice none 0 0]) ?_ 2 _ rfl; (with_reducible repeat (first | refine Zf ?_ _ | refine Zg ?_ | refine Ze ?_ _)); refine Zk (cs := #[.int .i64 ((Zc J0 J1).f0), .int .i64 0, .int .i64 0, .bool false, .int .i64 0, .int .u64 0, .int .u64 0, .int .i64 0, .bool false, .int .i64 0, .slice none 0 0, .int .i64 0, .int .i64 0, .slice none 0 0]) ?_ 1 _ rfl; (with_reducible repeat (first | refine Zf ?_ _ | refine Zg ?_ | refine Ze ?_ _)); refine Zk (cs := #[.int .i64 0, .int .i64 0, .int .i64 0, .bool false, .int .i64 0, .int .u64 0, .int .u64 0, .int .i64 0, .bool false, .int .i64 0, .slice none 0 0, .int .i64 0, .int .i64 0, .slice none 0 0]) ?_ 0 _ rfl; (with_reducible repeat (first | refine Zf ?_ _ | refine Zg ?_ | refine Ze ?_ _)); exact J9.out))⟩; have n8_ : Zd (Below w.heap.size w w17) := ⟨(by rw [hw]; exact (by repeat (first | (with_reducible first | exact HB.out | apply Xm | apply Xi | apply Xj | refine Xc ?_ GE154.out | refine Xc ?_ GE159.out) | exact HB.out)))⟩; clear hw; clear HO_3; clear HO_13; clear HO_155010; clear HO_155013; clear HL158_10; clear HL158_13; clear J7; clear J9; clear HB; have HO_3 := n0_; have HO_13 := n1_; have HO_155010 := n2_; have HO_155013 := n3_; have HL158_10 := n4_; have HL158_13 := n5_; have J7 := n6_; have J9 := n7_; have HB := n8_; clear n0_ n1_ n2_ n3_ n4_ n5_ n6_ n7_ n8_; have hcz18_0 : w17.cell? ⟨J3, 0, none⟩ = some (.int .i64 ((Zc J0 J1).f0)) := (Za J9.out 0).trans rfl; have hcz18_1 : w17.cell? ⟨J3, 1, none⟩ = some (.int .i64 ((Zc J0 J1).f1.f0)) := (Za J9.out 1).trans rfl; have hcz18_2 : w17.cell? ⟨J3, 2, none⟩ = some (.int .i64 ((Zc J0 J1).f1.f1)) := (Za J9.out 2).trans rfl; have hcz18_3 : w17.cell? ⟨J3, 3, none⟩ = some (.bool ((Zc J0 J1).f1.f2)) := (Za J9.out 3).trans rfl; have hcz18_4 : w17.cell? ⟨J3, 4, none⟩ = some (.int .i64 ((Zc J0 J1).f1.f3.f0)) := (Za J9.out 4).trans rfl; have hcz18_5 : w17.cell? ⟨J3, 5, none⟩ = some (.int .u64 ((Zc J0 J1).f1.f3.f1)) := (Za J9.out 5).trans rfl; have hcz18_6 : w17.cell? ⟨J3, 6, none⟩ = some (.int .u64 ((Zc J0 J1).f1.f3.f2)) := (Za J9.out 6).trans rfl; have hcz18_7 : w17.cell? ⟨J3, 7, none⟩ = some (.int .i64 ((Zc J0 J1).f1.f4)) := (Za J9.out 7).trans rfl; have hcz18_8 : w17.cell? ⟨J3, 8, none⟩ = some (.bool ((Zc J0 J1).f1.f5)) := (Za J9.out 8).trans rfl; have hcz18_9 : w17.cell? ⟨J3, 9, none⟩ = some (.int .i64 ((Zc J0 J1).f1.f6)) := (Za J9.out 9).trans rfl; have hcz18_10 : w17.cell? ⟨J3, 10, none⟩ = some (.slice A158_10 ((Zc J0 J1).f1.f7).length c158_10) := (Za J9.out 10).trans rfl; have hcz18_11 : w17.cell? ⟨J3, 11, none⟩ = some (.int .i64 ((Zc J0 J1).f2)) := (Za J9.out 11).trans rfl; have hcz18_12 : w17.cell? ⟨J3, 12, none⟩ = some (.int .i64 ((Zc J0 J1).f3)) := (Za J9.out 12).trans rfl; have hcz18_13 : w17.cell? ⟨J3, 13, none⟩ = some (.slice A158_13 ((Zc J0 J1).f4).length c158_13) := (Za J9.out 13).trans rfl; have hfz18_0 := Zb J9.out 0; have hfz18_1 := Zb J9.out 1; have hfz18_2 := Zb J9.out 2; have hfz18_3 := Zb J9.out 3; have hfz18_4 := Zb J9.out 4; have hfz18_5 := Zb J9.out 5; have hfz18_6 := Zb J9.out 6; have hfz18_7 := Zb J9.out 7; have hfz18_8 := Zb J9.out 8; have hfz18_9 := Zb J9.out 9; have hfz18_10 := Zb J9.out 10; have hfz18_11 := Zb J9.out 11; have hfz18_12 := Zb J9.out 12; have hfz18_13 := Zb J9.out 13) | ((with_reducible refine Zx (f := 18) rfl ?_); refine Xz (some 21) rfl rfl Try.func18 (by kernel_rfl) rfl #[.agg #[.int .i64 ((Zc J0 J1).f0), .int .i64 ((Zc J0 J1).f1.f0), .int .i64 ((Zc J0 J1).f1.f1), .bool ((Zc J0 J1).f1.f2), .int .i64 ((Zc J0 J1).f1.f3.f0), .int .u64 ((Zc J0 J1).f1.f3.f1), .int .u64 ((Zc J0 J1).f1.f3.f2), .int .i64 ((Zc J0 J1).f1.f4), .bool ((Zc J0 J1).f1.f5), .int .i64 ((Zc J0 J1).f1.f6), .slice A158_10 ((Zc J0 J1).f1.f7).length c158_10, .int .i64 ((Zc J0 J1).f2), .int .i64 ((Zc J0 J1).f3), .slice A158_13 ((Zc J0 J1).f4).length c158_13]] rfl (by (try simp only [List.map_toArray, List.map_cons, List.map_nil]); first | done | rfl | (simp only [List.length_drop, List.length_take]; rfl)) ?_; (with_reducible refine (ih k1 (by have := HK1.out; omega) ((Zc J0 J1).f0) ((Zc J0 J1).f1.f0) ((Zc J0 J1).f1.f1) ((Zc J0 J1).f1.f2) ((Zc J0 J1).f1.f3.f0) ((Zc J0 J1).f1.f3.f1) ((Zc J0 J1).f1.f3.f2) ((Zc J0 J1).f1.f4) ((Zc J0 J1).f1.f5) ((Zc J0 J1).f1.f6) (fun k_ => (((P0_10_ k_ ∨ P0_13_ k_) ∨ w.heap.size ≤ k_) ∧ (some k_ ≠ (u3 : Value).ownBlock ∧ (k_ ≠ Jb ∧ k_ ≠ J3)))) _ _ ((Zc J0 J1).f1.f7) ((Zc J0 J1).f2) ((Zc J0 J1).f3) (fun k_ => (((P0_10_ k_ ∨ P0_13_ k_) ∨ w.heap.size ≤ k_) ∧ (some k_ ≠ (u3 : Value).ownBlock ∧ (k_ ≠ Jb ∧ k_ ≠ J3)))) _ _ ((Zc J0 J1).f4) t160 _ ?side1 ?side2 A12.out).mono ?_); (case side1 => exact HL158_10.out); (case side2 => exact HL158_13.out); rintro e w19 ⟨v161, rfl, ho0, hb⟩; refine ⟨_, rfl, ?_⟩; have n0_ := Zd.mk (Kd.Qs HO_3.out (Kd.Qr ho0) hb); have n1_ := Zd.mk (Kd.Qy HO_13.out (Kd.Qr ho0) hb); have n2_ := Zd.mk (Kd.Qy HO_155010.out (Kd.Qr ho0) hb); have n3_ := Zd.mk (Kd.Qy HO_155013.out (Kd.Qr ho0) hb); have n4_ := Zd.mk (Kd.Qy HL158_10.out (Kd.Qr ho0) hb); have n5_ := Zd.mk (Kd.Qy HL158_13.out (Kd.Qr ho0) hb); have n6_ := Zd.mk (Kd.Vb (Kd.Xq (ok' := fun k_ => ((P0_10_ k_ ∨ P0_13_ k_) ∨ w.heap.size ≤ k_) ∧ some k_ ≠ (u3 : Value).ownBlock ∧ k_ ≠ Jb ∧ k_ ≠ J3) ho0 (fun k_ hk_ => ⟨Or.elim hk_ (fun hs_ => Or.elim hs_ (fun hs_ => hs_.1) (fun hs_ => hs_.1)) (fun hn_ => (.inr (Nat.le_trans (Zl HB.out) hn_))), Or.elim hk_ (fun hs_ => Or.elim hs_ (fun hs_ => hs_.2.1) (fun hs_ => hs_.2.1)) (fun hn_ => (Kd.Vu (Kd.N_lt HO_3.out) k_ hn_)), Or.elim hk_ (fun hs_ => Or.elim hs_ (fun hs_ => hs_.2.2.1) (fun hs_ => hs_.2.2.1)) (fun hn_ => (Kd.Kw J7.out k_ hn_)), Or.elim hk_ (fun hs_ => Or.elim hs_ (fun hs_ => hs_.2.2.2) (fun hs_ => hs_.2.2.2)) (fun hn_ => (Kd.Kw J9.out k_ hn_))⟩)) (Zl HB.out)); have n7_ := Zd.mk (Zp J7.out hb); have n8_ := HR158_10; have n9_ := HR158_13; have n10_ := Zd.mk (Zp J9.out hb); have n11_ := Zd.mk (Zj HB.out hb); clear HO_3; clear HO_13; clear HO_155010; clear HO_155013; clear HL158_10; clear HL158_13; clear J7; clear HR158_10; clear HR158_13; clear J9; clear HB; have HO_3 := n0_; have HO_13 := n1_; have HO_155010 := n2_; have HO_155013 := n3_; have HL158_10 := n4_; have HL158_13 := n5_; have HO162 := n6_; have J7 := n7_; have HR158_10 := n8_; have HR158_13 := n9_; have J9 := n10_; have HB := n11_; clear n0_ n1_ n2_ n3_ n4_ n5_ n6_ n7_ n8_ n9_ n10_ n11_; (try clear hb); (try clear hb2); (try clear hk); (try clear hi); (try clear ho0); obtain ⟨Ao21, co21, eo21⟩ := Kd.Va HO162.out; subst eo21) | ((with_reducible refine gate_builtin (b := .append) (xs := #[.tmp 19, .tmp 21]) rfl ?_); at_builtin; refine Kd.N_append_rows k27 (w0 := w) w.heap.size rfl (.tmp 19) (.tmp 21) 25 27 (.agg #[(.int .i64 0), (.int .i64 0), (.bool false), (.int .i64 0), (.int .u64 0), (.int .u64 0), (.int .i64 0), (.bool false), (.int .i64 0), (.slice none 0 0)]) 96 rfl Try.underlying25 info27 rfl (by decide) (by omega) u3 Jy t160 _ _ _ (fun k_ => ((P0_10_ k_ ∨ P0_13_ k_) ∨ w.heap.size ≤ k_) ∧ k_ ≠ Jb ∧ k_ ≠ J3) (fun k_ => ((fun k_ => ((P0_10_ k_ ∨ P0_13_ k_) ∨ w.heap.size ≤ k_) ∧ k_ ≠ Jb ∧ k_ ≠ J3)) k_ ∧ some k_ ≠ (u3 : Value).ownBlock) rfl rfl ?aO ?aR (fun _ hk => hk) ?aF ?aB ?aS ?aL ?_; (case aR => exact (by skip; exact Kd.N_F (Kd.Xq (ok' := (fun k_ => ((fun k_ => ((P0_10_ k_ ∨ P0_13_ k_) ∨ w.heap.size ≤ k_) ∧ k_ ≠ Jb ∧ k_ ≠ J3)) k_ ∧ some k_ ≠ (u3 : Value).ownBlock)) HO162.out (fun k_ hk => ⟨⟨hk.1, ⟨hk.2.2.1, hk.2.2.2⟩⟩, hk.2.1⟩)))); (case aB => exact HB.out); (case aF => exact (fun k_ hk => ⟨(.inr (Nat.le_trans (Zl HB.out) hk)), Kd.Kw J7.out k_ hk, Kd.Kw J9.out k_ hk⟩)); (case aO => exact (by (with_reducible repeat (first | apply Kd.N_alloc | apply Kd.N_drewN | apply Kd.Vg)); exact Kd.Xq HO_3.out (fun _ hk => ⟨hk.1.1, ⟨hk.1.2.1, hk.1.2.2⟩⟩))); (case aS => exact (Zl HB.out)); (case aL => have := LMc13.out; omega); intro v164 w20 ho hb hg hat; rw [← Ny163.out] at ho; have n0_ := Zd.mk (Kd.Vz (ok := (fun k_ => ((P0_10_ k_ ∨ P0_13_ k_) ∨ w.heap.size ≤ k_) ∧ some k_ ≠ (.slice Ao21 t160.length co21 : Value).ownBlock ∧ k_ ≠ Jb ∧ k_ ≠ J3)) (by (with_reducible repeat (first | apply Kd.V_alloc | apply Kd.V_drewN | apply Kd.Xp)); exact Kd.Xa HO_13.out (fun _ hk => ⟨⟨hk.1.1, ⟨hk.2, ⟨hk.1.2.2.1, hk.1.2.2.2⟩⟩⟩, hk.1.2.1⟩)) hg hat); have n1_ := Zd.mk (Kd.Vz (ok := (fun k_ => ((P0_10_ k_ ∨ P0_13_ k_) ∨ w.heap.size ≤ k_) ∧ some k_ ≠ (.slice Ao21 t160.length co21 : Value).ownBlock ∧ k_ ≠ Jb ∧ k_ ≠ J3)) (by (with_reducible repeat (first | apply Kd.V_alloc | apply Kd.V_drewN | apply Kd.Xp)); exact Kd.Xa HO_155010.out (fun _ hk => ⟨⟨hk.1.1, ⟨hk.2, ⟨hk.1.2.2.1, hk.1.2.2.2⟩⟩⟩, hk.1.2.1⟩)) hg hat); have n2_ := Zd.mk (Kd.Vz (ok := (fun k_ => ((P0_10_ k_ ∨ P0_13_ k_) ∨ w.heap.size ≤ k_) ∧ some k_ ≠ (.slice Ao21 t160.length co21 : Value).ownBlock ∧ k_ ≠ Jb ∧ k_ ≠ J3)) (by (with_reducible repeat (first | apply Kd.V_alloc | apply Kd.V_drewN | apply Kd.Xp)); exact Kd.Xa HO_155013.out (fun _ hk => ⟨⟨hk.1.1, ⟨hk.2, ⟨hk.1.2.2.1, hk.1.2.2.2⟩⟩⟩, hk.1.2.1⟩)) hg hat); have n3_ := Zd.mk (Ja J7.out hg (Kd.N_ne HO_3.out J7.out (by decide))); have n4_ := Zd.mk (Kd.Vz (ok := (fun k_ => ((P0_10_ k_ ∨ P0_13_ k_) ∨ w.heap.size ≤ k_) ∧ some k_ ≠ (.slice Ao21 t160.length co21 : Value).ownBlock ∧ k_ ≠ Jb ∧ k_ ≠ J3)) (by (with_reducible repeat (first | apply Kd.V_alloc | apply Kd.V_drewN | apply Kd.Xp)); exact Kd.Xa HL158_10.out (fun _ hk => ⟨⟨hk.1.1, ⟨hk.2, ⟨hk.1.2.2.1, hk.1.2.2.2⟩⟩⟩, hk.1.2.1⟩)) hg hat); have n5_ := Zd.mk (Kd.Vz (ok := (fun k_ => ((P0_10_ k_ ∨ P0_13_ k_) ∨ w.heap.size ≤ k_) ∧ some k_ ≠ (.slice Ao21 t160.length co21 : Value).ownBlock ∧ k_ ≠ Jb ∧ k_ ≠ J3)) (by (with_reducible repeat (first | apply Kd.V_alloc | apply Kd.V_drewN | apply Kd.Xp)); exact Kd.Xa HL158_13.out (fun _ hk => ⟨⟨hk.1.1, ⟨hk.2, ⟨hk.1.2.2.1, hk.1.2.2.2⟩⟩⟩, hk.1.2.1⟩)) hg hat); have n6_ := Zd.mk (Ja J9.out hg (Kd.N_ne HO_3.out J9.out (by decide))); have n7_ := Zd.mk (Kd.N_afterv (ok := (fun k_ => ((P0_10_ k_ ∨ P0_13_ k_) ∨ w.heap.size ≤ k_) ∧ k_ ≠ Jb ∧ k_ ≠ J3)) (by (with_reducible repeat (first | apply Kd.N_alloc | apply Kd.N_drewN | apply Kd.Vg)); exact Kd.Xq HO162.out (fun _ hk => ⟨⟨hk.1, ⟨hk.2.2.1, hk.2.2.2⟩⟩, hk.2.1⟩)) hg hat); have n8_ := Zd.mk (hb); have n9_ := Zd.mk (ho); clear HO_13; clear HO_155010; clear HO_155013; clear J7; clear HL158_10; clear HL158_13; clear J9; clear HO162; clear HB; clear HO_3; have HO_13 := n0_; have HO_155010 := n1_; have HO_155013 := n2_; have J7 := n3_; have HL158_10 := n4_; have HL158_13 := n5_; have J9 := n6_; have HO162 := n7_; have HB := n8_; have HO165 := n9_; clear n0_ n1_ n2_ n3_ n4_ n5_ n6_ n7_ n8_ n9_; clear ho hb hg hat))
        go_roundg k1
        case measure => have := HK1.out; omega
        case rel => exact ⟨(y163), (wrap64 (J1 + 1)), (by first | rfl | (simp; done) | (simp [*]; done)), H', ⟨by have := HK1.out; omega⟩, ⟨by (with_reducible repeat (first | apply Kd.N_alloc | apply Kd.N_drewN | apply Kd.Vg)); exact Kd.Xq HO165.out (fun _ hk => ⟨hk.1, hk.2.1⟩)⟩, ⟨by (with_reducible repeat (first | apply Kd.V_alloc | apply Kd.V_drewN | apply Kd.Xp)); exact Kd.Xa HO_13.out (fun _ hk => ⟨hk.1.1, ⟨hk.2, hk.1.2.2.1⟩⟩)⟩, ⟨by (with_reducible repeat (first | apply Kd.V_alloc | apply Kd.V_drewN | apply Kd.Xp)); exact Kd.Xa HO_155010.out (fun _ hk => ⟨hk.1.1, ⟨hk.2, hk.1.2.2.1⟩⟩)⟩, ⟨by (with_reducible repeat (first | apply Kd.V_alloc | apply Kd.V_drewN | apply Kd.Xp)); exact Kd.Xa HO_155013.out (fun _ hk => ⟨hk.1.1, ⟨hk.2, hk.1.2.2.1⟩⟩)⟩, ⟨J7.out⟩, ⟨HB.out⟩⟩
       ·rw [if_neg c13] at H
        exact absurd H (by simp)
      ·rw [if_neg c11] at H
       exact absurd H (by simp)
     ·rw [if_neg c10] at H
      exact absurd H (by simp)
    ·rw [if_neg c9] at H
     have c9b0 : decide (J1 < (J0.length : Int)) = false := decide_eq_false c9
     clear c9
     obtain rfl := Option.some.inj H
     go_wp2
     go_ret
     exact ⟨_, by first | rfl | (simp [errW_none, errW_some] <;> rfl) | (simp [*, errW_none, errW_some] <;> rfl), by (with_reducible repeat (first | apply Kd.N_alloc | apply Kd.N_drewN | apply Kd.Vg)); exact Kd.Xq HO_3.out (fun _ hk => hk.1), HB.out⟩
end Go.Proofs.Ytkbkndfonccekaa.PF
namespace Go.Proofs.Ytkbkndfonccekaa.PF
open Go.RowKit Go.Proofs.YtkbkndfonccekaaW.PrintWords Go.Proofs.YtkbkndfonccekaaW.PrintLast Go.Proofs.YtkbkndfonccekaaW.PrintMore
attribute [local go_sem] Qn Qp Kq Kt
set_option linter.unusedVariables false
set_option linter.unusedSimpArgs false
mutual
def Xg.l0 : Nat → List (Qh) → Int → Int → Int → Int → Bool → Int → Int → Int → Int → Bool → Int → List (Qh) → Option (Int × Int × Bool × Int × Int × Int × Int × Bool × Int × (List (Qh)))
  | 0, _, _, _, _, _, _, _, _, _, _, _, _, _ => none
  | k + 1, x9, x10, x11, JI, JH, JG, JF, JE, JD, JC, JB, JA, Jz => if x11 < x10 then (if 0 ≤ x11 then (if x11 < (x9.length : Int) then ((Xg.f k ((Zh x9 x11).f0) ((Zh x9 x11).f1) ((Zh x9 x11).f2) ((Zh x9 x11).f3.f0) ((Zh x9 x11).f3.f1) ((Zh x9 x11).f3.f2) ((Zh x9 x11).f4) ((Zh x9 x11).f5) ((Zh x9 x11).f6) ((Zh x9 x11).f7)).bind fun bt170 => (if Jz.length < 1466015503701 then (Xg.l0 k x9 x10 (wrap64 (x11 + 1)) JI JH JG JF JE JD JC JB JA (Jz ++ [(⟨bt170.1, bt170.2.1, bt170.2.2.1, (⟨bt170.2.2.2.1, bt170.2.2.2.2.1, bt170.2.2.2.2.2.1⟩ : S24), bt170.2.2.2.2.2.2.1, bt170.2.2.2.2.2.2.2.1, bt170.2.2.2.2.2.2.2.2.1, bt170.2.2.2.2.2.2.2.2.2⟩ : Qh)])) else (none))) else (none)) else (none)) else (some (JI, JH, JG, JF, JE, JD, JC, JB, JA, Jz))
def Xg.f : Nat → Int → Int → Bool → Int → Int → Int → Int → Bool → Int → List (Qh) → Option (Int × Int × Bool × Int × Int × Int × Int × Bool × Int × (List (Qh)))
  | 0, _, _, _, _, _, _, _, _, _, _ => none
  | k + 1, Jf, Je, Jg, Jh, Jk, Jm, Jo, Jq, Js, J4 => Xg.l0 k J4 (J4.length : Int) 0 Jf Je Jg Jh Jk Jm Jo Jq Js ([] : List (Qh))
end
theorem Xg.mono_l : ∀ k, (∀ y0 y1 y2 y3 y4 y5 y6 y7 y8 y9, Xo (Xg.f k y0 y1 y2 y3 y4 y5 y6 y7 y8 y9) (Xg.f (k + 1) y0 y1 y2 y3 y4 y5 y6 y7 y8 y9)) ∧ (∀ y0 y1 y2 y3 y4 y5 y6 y7 y8 y9 y10 y11 y12, Xo (Xg.l0 k y0 y1 y2 y3 y4 y5 y6 y7 y8 y9 y10 y11 y12) (Xg.l0 (k + 1) y0 y1 y2 y3 y4 y5 y6 y7 y8 y9 y10 y11 y12))
  | 0 => ⟨fun _ _ _ _ _ _ _ _ _ _ r h => by simp [Xg.f] at h, fun _ _ _ _ _ _ _ _ _ _ _ _ _ r h => by simp [Xg.l0] at h⟩
  | k + 1 => by
    obtain ⟨ih0, ih1⟩ := Xg.mono_l k
    refine ⟨?_, ?_⟩
    · intro y0 y1 y2 y3 y4 y5 y6 y7 y8 y9
      unfold Xg.f
      repeat' first
      | (with_reducible exact ih0 _ _ _ _ _ _ _ _ _ _)
      | (with_reducible exact ih1 _ _ _ _ _ _ _ _ _ _ _ _ _)
      | (with_reducible exact Xo.refl _)
      | (with_reducible exact Xo.none _)
      | (with_reducible refine Xo.ite ?_ ?_)
      | (with_reducible refine Xo.bind ?_ (fun _ => ?_))
      | exact ih0 _ _ _ _ _ _ _ _ _ _
      | exact ih1 _ _ _ _ _ _ _ _ _ _ _ _ _
      | exact Xo.none _
      | refine Xo.ite ?_ ?_
      | refine Xo.bind ?_ (fun _ => ?_)
    · intro y0 y1 y2 y3 y4 y5 y6 y7 y8 y9 y10 y11 y12
      unfold Xg.l0
      repeat' first
      | (with_reducible exact ih0 _ _ _ _ _ _ _ _ _ _)
      | (with_reducible exact ih1 _ _ _ _ _ _ _ _ _ _ _ _ _)
      | (with_reducible exact Xo.refl _)
      | (with_reducible exact Xo.none _)
      | (with_reducible refine Xo.ite ?_ ?_)
      | (with_reducible refine Xo.bind ?_ (fun _ => ?_))
      | exact ih0 _ _ _ _ _ _ _ _ _ _
      | exact ih1 _ _ _ _ _ _ _ _ _ _ _ _ _
      | exact Xo.none _
      | refine Xo.ite ?_ ?_
      | refine Xo.bind ?_ (fun _ => ?_)
theorem Xg.mono : ∀ a0 a1 a2 a3 a4 a5 a6 a7 a8 a9 k, Xo (Xg.f k a0 a1 a2 a3 a4 a5 a6 a7 a8 a9) (Xg.f (k + 1) a0 a1 a2 a3 a4 a5 a6 a7 a8 a9) := by
  intro a0 a1 a2 a3 a4 a5 a6 a7 a8 a9 k
  obtain ⟨ih0, ih1⟩ := Xg.mono_l k
  exact ih0 a0 a1 a2 a3 a4 a5 a6 a7 a8 a9
def Xg.T6 : Bool × List (List Nat × List Nat) := (true, [([], []), ([0], [0]), ([], []), ([2], [2]), ([3], [3]), ([1, 4, 3], [1, 4]), ([0, 1, 2, 3, 4, 5], []), ([6, 5, 5, 0, 1, 2, 3, 4, 5], [5, 6])])
def Xg.B6 : List Nat := [0, 1, 0, 4, 12, 31, 63, 127]
theorem Xg.tab6 : rtab .any (opsOf Try.f19 6) = Xg.T6 := by kernel_rfl
theorem Xg.bits6 : Wi Xg.T6.2 Xg.B6 = true := by kernel_rfl
set_option maxHeartbeats 8000000 in
set_option maxRecDepth 100000 in
theorem Xg.calls (k : Nat) : ∀ (Jf : Int) (Je : Int) (Jg : Bool) (Jh : Int) (Jk : Int) (Jm : Int) (Jo : Int) (Jq : Bool) (Js : Int) (A0_9 : Option Addr) (c0_9 : Nat) (J4 : List (Qh)) (r1 : Int) (r2 : Int) (r3 : Bool) (r4 : Int) (r5 : Int) (r6 : Int) (r7 : Int) (r8 : Bool) (r9 : Int) (r10 : List (Qh)) (w : World) (hr0_9 : Kd.C k27 w A0_9 J4.length J4) (hc0_9 : J4.length ≤ c0_9) (h : Xg.f k Jf Je Jg Jh Jk Jm Jo Jq Js J4 = some (r1, r2, r3, r4, r5, r6, r7, r8, r9, r10)),
 Calls Try.prog 19 #[.agg #[.int .i64 Jf, .int .i64 Je, .bool Jg, .int .i64 Jh, .int .u64 Jk, .int .u64 Jm, .int .i64 Jo, .bool Jq, .int .i64 Js, .slice A0_9 J4.length c0_9]] w fun e w' => ∃ v9_ : Value, e = .returned (.agg #[.int .i64 r1, .int .i64 r2, .bool r3, .int .i64 r4, .int .u64 r5, .int .u64 r6, .int .i64 r7, .bool r8, .int .i64 r9, v9_]) ∧ Kd.R k27 27 w' w.heap.size (fun _ => True) v9_ r10 ∧ Below w.heap.size w w' := by
 induction k using Nat.strongRecOn with
 | _ k ih =>
 intro Jf Je Jg Jh Jk Jm Jo Jq Js A0_9 c0_9 J4 r1 r2 r3 r4 r5 r6 r7 r8 r9 r10 w hr0_9 hc0_9 h
 cases k with
 | zero => exact absurd h (by simp [Xg.f])
 | succ k =>
 simp only [Xg.f] at h
 have hu27 := Try.underlying27
 have HR0_9 := Zd.mk hr0_9
 have HC0_9 := Zd.mk hc0_9
 clear hr0_9 hc0_9
 have HB := Zd.mk (Below.refl w.heap.size w)
 have H : (Xg.l0 k J4 (J4.length : Int) 0 Jf Je Jg Jh Jk Jm Jo Jq Js ([] : List (Qh))) = some (r1, r2, r3, r4, r5, r6, r7, r8, r9, r10) := h
 clear h
 have H' := Zd.mk H
 clear H
 go_enter Try.func19, Try.ntmps19
 go_wp2_with (first | ((with_reducible refine Xd (N := 1) rfl ?_); refine Xe ?hg (N := 1) ?hd (cs := #[.int .i64 Jf, .int .i64 Je, .bool Jg, .int .i64 Jh, .int .u64 Jk, .int .u64 Jm, .int .i64 Jo, .bool Jq, .int .i64 Js, .slice A0_9 J4.length c0_9]) (t := 27) ?hr ?_; (case hd => rfl); (case hg => rfl); (case hr => first | (go_simp; done) | (go_simp; rfl)); intro Jd hg w2 hbox hb; have n0_ := Zd.mk (Zj HB.out hb); have n1_ := Zd.mk (hbox); have n2_ := Zd.mk ((by rw [hg]; exact (Zl HB.out) : w.heap.size ≤ Jd)); have n3_ := n2_; clear HB; have HB := n0_; have J6 := n1_; have GW166 := n2_; have GE166 := n3_; clear n0_ n1_ n2_ n3_; clear hb hbox hg) | ((with_reducible refine Xd (N := 2) rfl ?_); refine Xe ?hg (N := 2) ?hd (cs := #[.int .i64 0, .int .i64 0, .bool false, .int .i64 0, .int .u64 0, .int .u64 0, .int .i64 0, .bool false, .int .i64 0, .slice none 0 0]) (t := 27) ?hr ?_; (case hd => rfl); (case hg => rfl); (case hr => first | (go_simp; done) | (go_simp; rfl)); intro Jt hg w3 hbox hb; have n0_ := Zd.mk (Zp J6.out hb); have n1_ := Zd.mk (Zj HB.out hb); have n2_ := Zd.mk (hbox); have n3_ := Zd.mk ((by rw [hg]; exact (Zl HB.out) : w.heap.size ≤ Jt)); have n4_ := n3_; have n5_ := Zd.mk ((by rw [hg]; exact Nat.ne_of_lt (Kv J6.out) : Jd ≠ Jt)); have n6_ := Zd.mk ((by rw [hg]; exact Nat.ne_of_gt (Kv J6.out) : Jt ≠ Jd)); clear J6; clear HB; have J6 := n0_; have HB := n1_; have Jn := n2_; have GW167 := n3_; have GE167 := n4_; have NB166_167 := n5_; have NB167_166 := n6_; clear n0_ n1_ n2_ n3_ n4_ n5_ n6_; clear hb hbox hg; have hnb4 := NB166_167.out; have hnc4 := NB167_166.out; have hcz5_0 : w3.cell? ⟨Jd, 0, none⟩ = some (.int .i64 Jf) := (Za J6.out 0).trans rfl; have hcz5_1 : w3.cell? ⟨Jd, 1, none⟩ = some (.int .i64 Je) := (Za J6.out 1).trans rfl; have hcz5_2 : w3.cell? ⟨Jd, 2, none⟩ = some (.bool Jg) := (Za J6.out 2).trans rfl; have hcz5_3 : w3.cell? ⟨Jd, 3, none⟩ = some (.int .i64 Jh) := (Za J6.out 3).trans rfl; have hcz5_4 : w3.cell? ⟨Jd, 4, none⟩ = some (.int .u64 Jk) := (Za J6.out 4).trans rfl; have hcz5_5 : w3.cell? ⟨Jd, 5, none⟩ = some (.int .u64 Jm) := (Za J6.out 5).trans rfl; have hcz5_6 : w3.cell? ⟨Jd, 6, none⟩ = some (.int .i64 Jo) := (Za J6.out 6).trans rfl; have hcz5_7 : w3.cell? ⟨Jd, 7, none⟩ = some (.bool Jq) := (Za J6.out 7).trans rfl; have hcz5_8 : w3.cell? ⟨Jd, 8, none⟩ = some (.int .i64 Js) := (Za J6.out 8).trans rfl; have hcz5_9 : w3.cell? ⟨Jd, 9, none⟩ = some (.slice A0_9 J4.length c0_9) := (Za J6.out 9).trans rfl; have hfz5_0 := Zb J6.out 0; have hfz5_1 := Zb J6.out 1; have hfz5_2 := Zb J6.out 2; have hfz5_3 := Zb J6.out 3; have hfz5_4 := Zb J6.out 4; have hfz5_5 := Zb J6.out 5; have hfz5_6 := Zb J6.out 6; have hfz5_7 := Zb J6.out 7; have hfz5_8 := Zb J6.out 8; have hfz5_9 := Zb J6.out 9))
 go_loopg [11] k (fun kq v11 w' => ∃ (J2 : Int) (Jl : List (Qh)) (u167009 : Value), v11 = .int .i64 J2 ∧ Zd (Xg.l0 kq J4 (J4.length : Int) J2 Jf Je Jg Jh Jk Jm Jo Jq Js Jl = some (r1, r2, r3, r4, r5, r6, r7, r8, r9, r10)) ∧ Zd (kq ≤ k) ∧ Zd (Kd.R k27 27 w' w.heap.size (fun k_ => k_ ≠ Jd ∧ k_ ≠ Jt) u167009 Jl) ∧ Zd (w'.heap[Jd]? = some (.cells #[.int .i64 Jf, .int .i64 Je, .bool Jg, .int .i64 Jh, .int .u64 Jk, .int .u64 Jm, .int .i64 Jo, .bool Jq, .int .i64 Js, u167009] 27 (0, 0))) ∧ Zd (w'.heap[Jt]? = some (.cells #[.int .i64 0, .int .i64 0, .bool false, .int .i64 0, .int .u64 0, .int .u64 0, .int .i64 0, .bool false, .int .i64 0, (.slice none 0 0)] 27 (0, 0))) ∧ Zd (Below w.heap.size w w'))
 case atStart => exact ⟨(0), (([] : List (Qh))), (.slice none 0 0), (by first | rfl | (simp; done) | (simp [*]; done)), H', ⟨Nat.le_refl _⟩, ⟨by first | exact Kd.R_nil _ _ _ _ _ | exact Kd.N_nil _ _ _ _ _ | exact Kd.V_nil _ _ _ _ _ | exact Kd.Q_nil _ _ _ _ _ | exact Kd.S_nil _ _ _ _ _⟩, ⟨by (with_reducible repeat (first | refine Zf ?_ _ | refine Zg ?_ | refine Ze ?_ _)); refine Zk (cs := #[.int .i64 Jf, .int .i64 Je, .bool Jg, .int .i64 Jh, .int .u64 Jk, .int .u64 Jm, .int .i64 Jo, .bool Jq, .int .i64 Js, .slice A0_9 J4.length c0_9]) ?_ 9 _ rfl; (with_reducible repeat (first | refine Zf ?_ _ | refine Zg ?_ | refine Ze ?_ _)); exact J6.out⟩, ⟨by (with_reducible repeat (first | refine Zf ?_ _ | refine Zg ?_ | refine Ze ?_ _)); refine Zm ?_ NB167_166.out _; (with_reducible repeat (first | refine Zf ?_ _ | refine Zg ?_ | refine Ze ?_ _)); exact Jn.out⟩, ⟨by repeat (first | (with_reducible first | exact HB.out | apply Xm | apply Xi | apply Xj | refine Xc ?_ GE166.out | refine Xc ?_ GE167.out) | exact HB.out)⟩⟩
 case round =>
  clear H'
  try clear hcz5_0
  try clear hcz5_1
  try clear hcz5_2
  try clear hcz5_3
  try clear hcz5_4
  try clear hcz5_5
  try clear hcz5_6
  try clear hcz5_7
  try clear hcz5_8
  try clear hcz5_9
  try clear hfz5_0
  try clear hfz5_1
  try clear hfz5_2
  try clear hfz5_3
  try clear hfz5_4
  try clear hfz5_5
  try clear hfz5_6
  try clear hfz5_7
  try clear hfz5_8
  try clear hfz5_9
  try clear J6
  try clear Jn
  try clear HB
  obtain ⟨J2, Jl, u167009, rfl, HA, HK1, HO_167009, J6, Jn, HB⟩ := hrel
  cases gk with
  | zero => exact absurd HA.out (by simp [Xg.l0])
  | succ k1 =>
   have H := HA.out
   clear HA
   simp only [Xg.l0] at H
   by_cases c6 : J2 < (J4.length : Int)
   ·rw [if_pos c6] at H
    have c6b0 : decide (J2 < (J4.length : Int)) = true := decide_eq_true c6
    clear c6
    by_cases c7 : 0 ≤ J2
    ·rw [if_pos c7] at H
     have c7b0 : decide (0 ≤ J2) = true := decide_eq_true c7
     clear c7
     by_cases c8 : J2 < (J4.length : Int)
     ·rw [if_pos c8] at H
      have c8b0 : decide (J2 < (J4.length : Int)) = true := decide_eq_true c8
      clear c8
      replace H := Option.bind_eq_some_iff.mp H
      obtain ⟨⟨t170, t171, t172, t173, t174, t175, t176, t177, t178, t179⟩, A90, H⟩ := H
      replace H : (if Jl.length < 1466015503701 then (Xg.l0 k1 J4 (J4.length : Int) (wrap64 (J2 + 1)) Jf Je Jg Jh Jk Jm Jo Jq Js (Jl ++ [(⟨t170, t171, t172, (⟨t173, t174, t175⟩ : S24), t176, t177, t178, t179⟩ : Qh)])) else (none)) = some (r1, r2, r3, r4, r5, r6, r7, r8, r9, r10) := H
      have A9 := Zd.mk A90
      clear A90
      by_cases c10 : Jl.length < 1466015503701
      ·rw [if_pos c10] at H
       have LMc10 := Zd.mk c10
       clear c10
       obtain ⟨y182, hy182⟩ : ∃ y_ : List (Qh), y_ = (Jl ++ [(⟨t170, t171, t172, (⟨t173, t174, t175⟩ : S24), t176, t177, t178, t179⟩ : Qh)]) := ⟨_, rfl⟩
       replace H : (Xg.l0 k1 J4 (J4.length : Int) (wrap64 (J2 + 1)) Jf Je Jg Jh Jk Jm Jo Jq Js y182) = some (r1, r2, r3, r4, r5, r6, r7, r8, r9, r10) := by first | (rw [hy182]; with_reducible exact H) | (have H2_ := (Option.bind_some _ _).symm.trans H; rw [hy182]; with_reducible exact H2_) | (have H2_ := (Option.bind_some _ _).symm.trans H; with_reducible exact H2_) | with_reducible exact H | (rw [hy182]; exact H) | exact H
       have Ny182 := Zd.mk hy182
       clear hy182
       have H' := Zd.mk H
       clear H
       have p168 : 0 ≤ (J2 : Int) := of_decide_eq_true (by first | (with_reducible assumption) | assumption)
       have q168 : J2 < (J4.length : Int) := of_decide_eq_true (by first | (with_reducible assumption) | assumption)
       obtain ⟨ad168, A168_9, c168_9, e168, hx168_0, hx168_1, hx168_2, hx168_3, hx168_4, hx168_5, hx168_6, hx168_7, hx168_8, hx168_9, hl168_9, hi168_9⟩ := at_T27 HR0_9.out J2 p168 q168
       cases e168
       replace hx168_0 := zb HB.out hx168_0
       replace hx168_1 := zb HB.out hx168_1
       replace hx168_2 := zb HB.out hx168_2
       replace hx168_3 := zb HB.out hx168_3
       replace hx168_4 := zb HB.out hx168_4
       replace hx168_5 := zb HB.out hx168_5
       replace hx168_6 := zb HB.out hx168_6
       replace hx168_7 := zb HB.out hx168_7
       replace hx168_8 := zb HB.out hx168_8
       replace hx168_9 := zb HB.out hx168_9
       have HR168_9 := Zd.mk hi168_9
       have HC168_9 := Zd.mk hl168_9
       clear hi168_9 hl168_9
       replace p168 := eq_true p168
       replace q168 := eq_true q168
       try go_wp2_with (((with_reducible refine Xd (N := 5) rfl ?_); refine Xe ?hg (N := 5) ?hd (cs := #[.int .i64 0, .int .i64 0, .bool false, .int .i64 0, .int .u64 0, .int .u64 0, .int .i64 0, .bool false, .int .i64 0, .slice none 0 0]) (t := 27) ?hr ?_; (case hd => rfl); (case hg => rfl); (case hr => first | (go_simp; done) | (go_simp; rfl)); intro J5 hg w11 hbox hb; have n0_ := Zd.mk (Kd.R_below (Kd.R_elderB HO_167009.out J5 (Nat.le_of_eq hg.symm)) hb); have n1_ := Zd.mk (Zp J6.out hb); have n2_ := Zd.mk (Zp Jn.out hb); have n3_ := Zd.mk (Zj HB.out hb); have n4_ := Zd.mk (hbox); have n5_ := Zd.mk ((by rw [hg]; exact (Zl HB.out) : w.heap.size ≤ J5)); have n6_ := n5_; have n7_ := Zd.mk ((by rw [hg]; exact Nat.ne_of_lt (Kv J6.out) : Jd ≠ J5)); have n8_ := Zd.mk ((by rw [hg]; exact Nat.ne_of_gt (Kv J6.out) : J5 ≠ Jd)); have n9_ := Zd.mk ((by rw [hg]; exact Nat.ne_of_lt (Kv Jn.out) : Jt ≠ J5)); have n10_ := Zd.mk ((by rw [hg]; exact Nat.ne_of_gt (Kv Jn.out) : J5 ≠ Jt)); clear HO_167009; clear J6; clear Jn; clear HB; have HO_167009 := n0_; have J6 := n1_; have Jn := n2_; have HB := n3_; have J8 := n4_; have GW169 := n5_; have GE169 := n6_; have NB166_169 := n7_; have NB169_166 := n8_; have NB167_169 := n9_; have NB169_167 := n10_; clear n0_ n1_ n2_ n3_ n4_ n5_ n6_ n7_ n8_ n9_ n10_; clear hb hbox hg; have hnb12 := NB169_166.out; have hnc12 := NB166_169.out; have hnb13 := NB169_167.out; have hnc13 := NB167_169.out; have hcz14_0 : w11.cell? ⟨J5, 0, none⟩ = some (.int .i64 0) := (Za J8.out 0).trans rfl; have hcz14_1 : w11.cell? ⟨J5, 1, none⟩ = some (.int .i64 0) := (Za J8.out 1).trans rfl; have hcz14_2 : w11.cell? ⟨J5, 2, none⟩ = some (.bool false) := (Za J8.out 2).trans rfl; have hcz14_3 : w11.cell? ⟨J5, 3, none⟩ = some (.int .i64 0) := (Za J8.out 3).trans rfl; have hcz14_4 : w11.cell? ⟨J5, 4, none⟩ = some (.int .u64 0) := (Za J8.out 4).trans rfl; have hcz14_5 : w11.cell? ⟨J5, 5, none⟩ = some (.int .u64 0) := (Za J8.out 5).trans rfl; have hcz14_6 : w11.cell? ⟨J5, 6, none⟩ = some (.int .i64 0) := (Za J8.out 6).trans rfl; have hcz14_7 : w11.cell? ⟨J5, 7, none⟩ = some (.bool false) := (Za J8.out 7).trans rfl; have hcz14_8 : w11.cell? ⟨J5, 8, none⟩ = some (.int .i64 0) := (Za J8.out 8).trans rfl; have hcz14_9 : w11.cell? ⟨J5, 9, none⟩ = some (.slice none 0 0) := (Za J8.out 9).trans rfl; have hfz14_0 := Zb J8.out 0; have hfz14_1 := Zb J8.out 1; have hfz14_2 := Zb J8.out 2; have hfz14_3 := Zb J8.out 3; have hfz14_4 := Zb J8.out 4; have hfz14_5 := Zb J8.out 5; have hfz14_6 := Zb J8.out 6; have hfz14_7 := Zb J8.out 7; have hfz14_8 := Zb J8.out 8; have hfz14_9 := Zb J8.out 9))
       have n0_ : Zd (Kd.R k27 27 ((((((((((w11.setCell ⟨J5, 0, none⟩ (.int .i64 ((Zh J4 J2).f0))).setCell ⟨J5, 1, none⟩ (.int .i64 ((Zh J4 J2).f1))).setCell ⟨J5, 2, none⟩ (.bool ((Zh J4 J2).f2))).setCell ⟨J5, 3, none⟩ (.int .i64 ((Zh J4 J2).f3.f0))).setCell ⟨J5, 4, none⟩ (.int .u64 ((Zh J4 J2).f3.f1))).setCell ⟨J5, 5, none⟩ (.int .u64 ((Zh J4 J2).f3.f2))).setCell ⟨J5, 6, none⟩ (.int .i64 ((Zh J4 J2).f4))).setCell ⟨J5, 7, none⟩ (.bool ((Zh J4 J2).f5))).setCell ⟨J5, 8, none⟩ (.int .i64 ((Zh J4 J2).f6))).setCell ⟨J5, 9, none⟩ (.slice A168_9 ((Zh J4 J2).f7).length c168_9)) w.heap.size (fun k_ => k_ ≠ Jd ∧ k_ ≠ Jt ∧ k_ ≠ J5) u167009 Jl) := ⟨by (with_reducible repeat (first | apply Kd.R_alloc | apply Kd.R_drewN | apply Kd.R_drew)); exact Kd.Vh (Kd.We (p := ⟨J5, 9, none⟩) (Kd.We (p := ⟨J5, 8, none⟩) (Kd.We (p := ⟨J5, 7, none⟩) (Kd.We (p := ⟨J5, 6, none⟩) (Kd.We (p := ⟨J5, 5, none⟩) (Kd.We (p := ⟨J5, 4, none⟩) (Kd.We (p := ⟨J5, 3, none⟩) (Kd.We (p := ⟨J5, 2, none⟩) (Kd.We (p := ⟨J5, 1, none⟩) (Kd.We (p := ⟨J5, 0, none⟩) (Kd.Vh HO_167009.out (fun k_ hk => (⟨hk, hk.2⟩ : _ ∧ k_ ≠ J5))) (fun _ hk => hk.2) (.int .i64 ((Zh J4 J2).f0))) (fun _ hk => hk.2) (.int .i64 ((Zh J4 J2).f1))) (fun _ hk => hk.2) (.bool ((Zh J4 J2).f2))) (fun _ hk => hk.2) (.int .i64 ((Zh J4 J2).f3.f0))) (fun _ hk => hk.2) (.int .u64 ((Zh J4 J2).f3.f1))) (fun _ hk => hk.2) (.int .u64 ((Zh J4 J2).f3.f2))) (fun _ hk => hk.2) (.int .i64 ((Zh J4 J2).f4))) (fun _ hk => hk.2) (.bool ((Zh J4 J2).f5))) (fun _ hk => hk.2) (.int .i64 ((Zh J4 J2).f6))) (fun _ hk => hk.2) (.slice A168_9 ((Zh J4 J2).f7).length c168_9)) (fun _ hk => ⟨hk.1.1.1, ⟨hk.1.1.2, hk.1.2⟩⟩)⟩
       have n1_ : Zd (((((((((((w11.setCell ⟨J5, 0, none⟩ (.int .i64 ((Zh J4 J2).f0))).setCell ⟨J5, 1, none⟩ (.int .i64 ((Zh J4 J2).f1))).setCell ⟨J5, 2, none⟩ (.bool ((Zh J4 J2).f2))).setCell ⟨J5, 3, none⟩ (.int .i64 ((Zh J4 J2).f3.f0))).setCell ⟨J5, 4, none⟩ (.int .u64 ((Zh J4 J2).f3.f1))).setCell ⟨J5, 5, none⟩ (.int .u64 ((Zh J4 J2).f3.f2))).setCell ⟨J5, 6, none⟩ (.int .i64 ((Zh J4 J2).f4))).setCell ⟨J5, 7, none⟩ (.bool ((Zh J4 J2).f5))).setCell ⟨J5, 8, none⟩ (.int .i64 ((Zh J4 J2).f6))).setCell ⟨J5, 9, none⟩ (.slice A168_9 ((Zh J4 J2).f7).length c168_9)).heap[Jd]? = some (.cells #[.int .i64 Jf, .int .i64 Je, .bool Jg, .int .i64 Jh, .int .u64 Jk, .int .u64 Jm, .int .i64 Jo, .bool Jq, .int .i64 Js, u167009] 27 (0, 0))) := ⟨by (with_reducible repeat (first | refine Zf ?_ _ | refine Zg ?_ | refine Ze ?_ _)); refine Zm ?_ NB166_169.out _; (with_reducible repeat (first | refine Zf ?_ _ | refine Zg ?_ | refine Ze ?_ _)); refine Zm ?_ NB166_169.out _; (with_reducible repeat (first | refine Zf ?_ _ | refine Zg ?_ | refine Ze ?_ _)); refine Zm ?_ NB166_169.out _; (with_reducible repeat (first | refine Zf ?_ _ | refine Zg ?_ | refine Ze ?_ _)); refine Zm ?_ NB166_169.out _; (with_reducible repeat (first | refine Zf ?_ _ | refine Zg ?_ | refine Ze ?_ _)); refine Zm ?_ NB166_169.out _; (with_reducible repeat (first | refine Zf ?_ _ | refine Zg ?_ | refine Ze ?_ _)); refine Zm ?_ NB166_169.out _; (with_reducible repeat (first | refine Zf ?_ _ | refine Zg ?_ | refine Ze ?_ _)); refine Zm ?_ NB166_169.out _; (with_reducible repeat (first | refine Zf ?_ _ | refine Zg ?_ | refine Ze ?_ _)); refine Zm ?_ NB166_169.out _; (with_reducible repeat (first | refine Zf ?_ _ | refine Zg ?_ | refine Ze ?_ _)); refine Zm ?_ NB166_169.out _; (with_reducible repeat (first | refine Zf ?_ _ | refine Zg ?_ | refine Ze ?_ _)); refine Zm ?_ NB166_169.out _; (with_reducible repeat (first | refine Zf ?_ _ | refine Zg ?_ | refine Ze ?_ _)); exact J6.out⟩
       have n2_ : Zd (((((((((((w11.setCell ⟨J5, 0, none⟩ (.int .i64 ((Zh J4 J2).f0))).setCell ⟨J5, 1, none⟩ (.int .i64 ((Zh J4 J2).f1))).setCell ⟨J5, 2, none⟩ (.bool ((Zh J4 J2).f2))).setCell ⟨J5, 3, none⟩ (.int .i64 ((Zh J4 J2).f3.f0))).setCell ⟨J5, 4, none⟩ (.int .u64 ((Zh J4 J2).f3.f1))).setCell ⟨J5, 5, none⟩ (.int .u64 ((Zh J4 J2).f3.f2))).setCell ⟨J5, 6, none⟩ (.int .i64 ((Zh J4 J2).f4))).setCell ⟨J5, 7, none⟩ (.bool ((Zh J4 J2).f5))).setCell ⟨J5, 8, none⟩ (.int .i64 ((Zh J4 J2).f6))).setCell ⟨J5, 9, none⟩ (.slice A168_9 ((Zh J4 J2).f7).length c168_9)).heap[Jt]? = some (.cells #[.int .i64 0, .int .i64 0, .bool false, .int .i64 0, .int .u64 0, .int .u64 0, .int .i64 0, .bool false, .int .i64 0, .slice none 0 0] 27 (0, 0))) := ⟨by (with_reducible repeat (first | refine Zf ?_ _ | refine Zg ?_ | refine Ze ?_ _)); refine Zm ?_ NB167_169.out _; (with_reducible repeat (first | refine Zf ?_ _ | refine Zg ?_ | refine Ze ?_ _)); refine Zm ?_ NB167_169.out _; (with_reducible repeat (first | refine Zf ?_ _ | refine Zg ?_ | refine Ze ?_ _)); refine Zm ?_ NB167_169.out _; (with_reducible repeat (first | refine Zf ?_ _ | refine Zg ?_ | refine Ze ?_ _)); refine Zm ?_ NB167_169.out _; (with_reducible repeat (first | refine Zf ?_ _ | refine Zg ?_ | refine Ze ?_ _)); refine Zm ?_ NB167_169.out _; (with_reducible repeat (first | refine Zf ?_ _ | refine Zg ?_ | refine Ze ?_ _)); refine Zm ?_ NB167_169.out _; (with_reducible repeat (first | refine Zf ?_ _ | refine Zg ?_ | refine Ze ?_ _)); refine Zm ?_ NB167_169.out _; (with_reducible repeat (first | refine Zf ?_ _ | refine Zg ?_ | refine Ze ?_ _)); refine Zm ?_ NB167_169.out _; (with_reducible repeat (first | refine Zf ?_ _ | refine Zg ?_ | refine Ze ?_ _)); refine Zm ?_ NB167_169.out _; (with_reducible repeat (first | refine Zf ?_ _ | refine Zg ?_ | refine Ze ?_ _)); refine Zm ?_ NB167_169.out _; (with_reducible repeat (first | refine Zf ?_ _ | refine Zg ?_ | refine Ze ?_ _)); exact Jn.out⟩
       have n3_ : Zd (((((((((((w11.setCell ⟨J5, 0, none⟩ (.int .i64 ((Zh J4 J2).f0))).setCell ⟨J5, 1, none⟩ (.int .i64 ((Zh J4 J2).f1))).setCell ⟨J5, 2, none⟩ (.bool ((Zh J4 J2).f2))).setCell ⟨J5, 3, none⟩ (.int .i64 ((Zh J4 J2).f3.f0))).setCell ⟨J5, 4, none⟩ (.int .u64 ((Zh J4 J2).f3.f1))).setCell ⟨J5, 5, none⟩ (.int .u64 ((Zh J4 J2).f3.f2))).setCell ⟨J5, 6, none⟩ (.int .i64 ((Zh J4 J2).f4))).setCell ⟨J5, 7, none⟩ (.bool ((Zh J4 J2).f5))).setCell ⟨J5, 8, none⟩ (.int .i64 ((Zh J4 J2).f6))).setCell ⟨J5, 9, none⟩ (.slice A168_9 ((Zh J4 J2).f7).length c168_9)).heap[J5]? = some (.cells #[.int .i64 ((Zh J4 J2).f0), .int .i64 ((Zh J4 J2).f1), .bool ((Zh J4 J2).f2), .int .i64 ((Zh J4 J2).f3.f0), .int .u64 ((Zh J4 J2).f3.f1), .int .u64 ((Zh J4 J2).f3.f2), .int .i64 ((Zh J4 J2).f4), .bool ((Zh J4 J2).f5), .int .i64 ((Zh J4 J2).f6), .slice A168_9 ((Zh J4 J2).f7).length c168_9] 27 (0, 0))) := ⟨by (with_reducible repeat (first | refine Zf ?_ _ | refine Zg ?_ | refine Ze ?_ _)); refine Zk (cs := #[.int .i64 ((Zh J4 J2).f0), .int .i64 ((Zh J4 J2).f1), .bool ((Zh J4 J2).f2), .int .i64 ((Zh J4 J2).f3.f0), .int .u64 ((Zh J4 J2).f3.f1), .int .u64 ((Zh J4 J2).f3.f2), .int .i64 ((Zh J4 J2).f4), .bool ((Zh J4 J2).f5), .int .i64 ((Zh J4 J2).f6), .slice none 0 0]) ?_ 9 _ rfl; (with_reducible repeat (first | refine Zf ?_ _ | refine Zg ?_ | refine Ze ?_ _)); refine Zk (cs := #[.int .i64 ((Zh J4 J2).f0), .int .i64 ((Zh J4 J2).f1), .bool ((Zh J4 J2).f2), .int .i64 ((Zh J4 J2).f3.f0), .int .u64 ((Zh J4 J2).f3.f1), .int .u64 ((Zh J4 J2).f3.f2), .int .i64 ((Zh J4 J2).f4), .bool ((Zh J4 J2).f5), .int .i64 0, .slice none 0 0]) ?_ 8 _ rfl; (with_reducible repeat (first | refine Zf ?_ _ | refine Zg ?_ | refine Ze ?_ _)); refine Zk (cs := #[.int .i64 ((Zh J4 J2).f0), .int .i64 ((Zh J4 J2).f1), .bool ((Zh J4 J2).f2), .int .i64 ((Zh J4 J2).f3.f0), .int .u64 ((Zh J4 J2).f3.f1), .int .u64 ((Zh J4 J2).f3.f2), .int .i64 ((Zh J4 J2).f4), .bool false, .int .i64 0, .slice none 0 0]) ?_ 7 _ rfl; (with_reducible repeat (first | refine Zf ?_ _ | refine Zg ?_ | refine Ze ?_ _)); refine Zk (cs := #[.int .i64 ((Zh J4 J2).f0), .int .i64 ((Zh J4 J2).f1), .bool ((Zh J4 J2).f2), .int .i64 ((Zh J4 J2).f3.f0), .int .u64 ((Zh J4 J2).f3.f1), .int .u64 ((Zh J4 J2).f3.f2), .int .i64 0, .bool false, .int .i64 0, .slice none 0 0]) ?_ 6 _ rfl; (with_reducible repeat (first | refine Zf ?_ _ | refine Zg ?_ | refine Ze ?_ _)); refine Zk (cs := #[.int .i64 ((Zh J4 J2).f0), .int .i64 ((Zh J4 J2).f1), .bool ((Zh J4 J2).f2), .int .i64 ((Zh J4 J2).f3.f0), .int .u64 ((Zh J4 J2).f3.f1), .int .u64 0, .int .i64 0, .bool false, .int .i64 0, .slice none 0 0]) ?_ 5 _ rfl; (with_reducible repeat (first | refine Zf ?_ _ | refine Zg ?_ | refine Ze ?_ _)); refine Zk (cs := #[.int .i64 ((Zh J4 J2).f0), .int .i64 ((Zh J4 J2).f1), .bool ((Zh J4 J2).f2), .int .i64 ((Zh J4 J2).f3.f0), .int .u64 0, .int .u64 0, .int .i64 0, .bool false, .int .i64 0, .slice none 0 0]) ?_ 4 _ rfl; (with_reducible repeat (first | refine Zf ?_ _ | refine Zg ?_ | refine Ze ?_ _)); refine Zk (cs := #[.int .i64 ((Zh J4 J2).f0), .int .i64 ((Zh J4 J2).f1), .bool ((Zh J4 J2).f2), .int .i64 0, .int .u64 0, .int .u64 0, .int .i64 0, .bool false, .int .i64 0, .slice none 0 0]) ?_ 3 _ rfl; (with_reducible repeat (first | refine Zf ?_ _ | refine Zg ?_ | refine Ze ?_ _)); refine Zk (cs := #[.int .i64 ((Zh J4 J2).f0), .int .i64 ((Zh J4 J2).f1), .bool false, .int .i64 0, .int .u64 0, .int .u64 0, .int .i64 0, .bool false, .int .i64 0, .slice none 0 0]) ?_ 2 _ rfl; (with_reducible repeat (first | refine Zf ?_ _ | refine Zg ?_ | refine Ze ?_ _)); refine Zk (cs := #[.int .i64 ((Zh J4 J2).f0), .int .i64 0, .bool false, .int .i64 0, .int .u64 0, .int .u64 0, .int .i64 0, .bool false, .int .i64 0, .slice none 0 0]) ?_ 1 _ rfl; (with_reducible repeat (first | refine Zf ?_ _ | refine Zg ?_ | refine Ze ?_ _)); refine Zk (cs := #[.int .i64 0, .int .i64 0, .bool false, .int .i64 0, .int .u64 0, .int .u64 0, .int .i64 0, .bool false, .int .i64 0, .slice none 0 0]) ?_ 0 _ rfl; (with_reducible repeat (first | refine Zf ?_ _ | refine Zg ?_ | refine Ze ?_ _)); exact J8.out⟩
       have n4_ : Zd (Below w.heap.size w ((((((((((w11.setCell ⟨J5, 0, none⟩ (.int .i64 ((Zh J4 J2).f0))).setCell ⟨J5, 1, none⟩ (.int .i64 ((Zh J4 J2).f1))).setCell ⟨J5, 2, none⟩ (.bool ((Zh J4 J2).f2))).setCell ⟨J5, 3, none⟩ (.int .i64 ((Zh J4 J2).f3.f0))).setCell ⟨J5, 4, none⟩ (.int .u64 ((Zh J4 J2).f3.f1))).setCell ⟨J5, 5, none⟩ (.int .u64 ((Zh J4 J2).f3.f2))).setCell ⟨J5, 6, none⟩ (.int .i64 ((Zh J4 J2).f4))).setCell ⟨J5, 7, none⟩ (.bool ((Zh J4 J2).f5))).setCell ⟨J5, 8, none⟩ (.int .i64 ((Zh J4 J2).f6))).setCell ⟨J5, 9, none⟩ (.slice A168_9 ((Zh J4 J2).f7).length c168_9))) := ⟨by repeat (first | (with_reducible first | exact HB.out | apply Xm | apply Xi | apply Xj | refine Xc ?_ GE166.out | refine Xc ?_ GE167.out | refine Xc ?_ GE169.out) | exact HB.out)⟩
       (try clear HO_167009)
       (try clear J6)
       (try clear Jn)
       (try clear J8)
       (try clear HB)
       generalize ((((((((((w11.setCell ⟨J5, 0, none⟩ (.int .i64 ((Zh J4 J2).f0))).setCell ⟨J5, 1, none⟩ (.int .i64 ((Zh J4 J2).f1))).setCell ⟨J5, 2, none⟩ (.bool ((Zh J4 J2).f2))).setCell ⟨J5, 3, none⟩ (.int .i64 ((Zh J4 J2).f3.f0))).setCell ⟨J5, 4, none⟩ (.int .u64 ((Zh J4 J2).f3.f1))).setCell ⟨J5, 5, none⟩ (.int .u64 ((Zh J4 J2).f3.f2))).setCell ⟨J5, 6, none⟩ (.int .i64 ((Zh J4 J2).f4))).setCell ⟨J5, 7, none⟩ (.bool ((Zh J4 J2).f5))).setCell ⟨J5, 8, none⟩ (.int .i64 ((Zh J4 J2).f6))).setCell ⟨J5, 9, none⟩ (.slice A168_9 ((Zh J4 J2).f7).length c168_9)) = w15 at n0_ n1_ n2_ n3_ n4_ ⊢
       have HO_167009 := n0_
       have J6 := n1_
       have Jn := n2_
       have J8 := n3_
       have HB := n4_
       clear n0_ n1_ n2_ n3_ n4_
       have n0_ := Zd.mk (Kd.R_drew HO_167009.out)
       have n1_ := Zd.mk (Zg J6.out)
       have n2_ := Zd.mk (Zg Jn.out)
       have n3_ := Zd.mk (Zg J8.out)
       have n4_ := Zd.mk (Xj HB.out)
       clear HO_167009
       clear J6
       clear Jn
       clear J8
       clear HB
       have HO_167009 := n0_
       have J6 := n1_
       have Jn := n2_
       have J8 := n3_
       have HB := n4_
       clear n0_ n1_ n2_ n3_ n4_
       refine start_ (n := 8) (S := fun w' => w'.cell? ⟨Jd, 0, none⟩ = some (.int .i64 Jf) ∧ w'.cell? ⟨Jd, 1, none⟩ = some (.int .i64 Je) ∧ w'.cell? ⟨Jd, 2, none⟩ = some (.bool Jg) ∧ w'.cell? ⟨Jd, 3, none⟩ = some (.int .i64 Jh) ∧ w'.cell? ⟨Jd, 4, none⟩ = some (.int .u64 Jk) ∧ w'.cell? ⟨Jd, 5, none⟩ = some (.int .u64 Jm) ∧ w'.cell? ⟨Jd, 6, none⟩ = some (.int .i64 Jo) ∧ w'.cell? ⟨Jd, 7, none⟩ = some (.bool Jq) ∧ w'.cell? ⟨Jd, 8, none⟩ = some (.int .i64 Js) ∧ w'.cell? ⟨Jd, 9, none⟩ = some (u167009) ∧ w'.cell? ⟨J5, 0, none⟩ = some (.int .i64 ((Zh J4 J2).f0)) ∧ w'.cell? ⟨J5, 1, none⟩ = some (.int .i64 ((Zh J4 J2).f1)) ∧ w'.cell? ⟨J5, 2, none⟩ = some (.bool ((Zh J4 J2).f2)) ∧ w'.cell? ⟨J5, 3, none⟩ = some (.int .i64 ((Zh J4 J2).f3.f0)) ∧ w'.cell? ⟨J5, 4, none⟩ = some (.int .u64 ((Zh J4 J2).f3.f1)) ∧ w'.cell? ⟨J5, 5, none⟩ = some (.int .u64 ((Zh J4 J2).f3.f2)) ∧ w'.cell? ⟨J5, 6, none⟩ = some (.int .i64 ((Zh J4 J2).f4)) ∧ w'.cell? ⟨J5, 7, none⟩ = some (.bool ((Zh J4 J2).f5)) ∧ w'.cell? ⟨J5, 8, none⟩ = some (.int .i64 ((Zh J4 J2).f6)) ∧ w'.cell? ⟨J5, 9, none⟩ = some (.slice A168_9 ((Zh J4 J2).f7).length c168_9)) (ds := [7]) #[false, false, false, false, false, false, false, false] (by kernel_rfl) rfl rfl ⟨(Za J6.out 0).trans rfl, (Za J6.out 1).trans rfl, (Za J6.out 2).trans rfl, (Za J6.out 3).trans rfl, (Za J6.out 4).trans rfl, (Za J6.out 5).trans rfl, (Za J6.out 6).trans rfl, (Za J6.out 7).trans rfl, (Za J6.out 8).trans rfl, (Za J6.out 9).trans rfl, (Za J8.out 0).trans rfl, (Za J8.out 1).trans rfl, (Za J8.out 2).trans rfl, (Za J8.out 3).trans rfl, (Za J8.out 4).trans rfl, (Za J8.out 5).trans rfl, (Za J8.out 6).trans rfl, (Za J8.out 7).trans rfl, (Za J8.out 8).trans rfl, (Za J8.out 9).trans rfl⟩ (fun hHeld => ?_); refine Ji Xg.tab6 Xg.bits6 (fun HT_ HW_ => ?_)
       generalize w15.drew = w16 at HO_167009 J6 Jn J8 HB hHeld ⊢
       refine Qe (i := 0) (N := some 15) (v := ?_) (a' := ?_) #[true, false, false, false, false, false, false, false] rfl rfl (Xu HT_.out (by kernel_rfl)) (fun _ _ _ h => h) (Or.inl ⟨by rfl, ?_⟩) ?_ ?_
       rotate_left
       ·intro w'
        go_simp
        with_reducible rfl
       rotate_left
       ·simp only [Act.put, List.setIfInBounds_toArray, List.set_cons_zero, List.set_cons_succ, Xk]
        rfl
       refine Vx (i := 1) (N := some 16) (v := ?_) (a' := ?_) #[true, true, false, false, false, false, false, false] rfl rfl (Ql HT_.out HW_.out (by kernel_rfl)) (fun _ _ _ h => h) (Or.inl ⟨by rfl, ?_⟩) hHeld ?_ ?_
       rotate_left
       ·rintro w' ⟨s0, s1, s2, s3, s4, s5, s6, s7, s8, s9, s10, s11, s12, s13, s14, s15, s16, s17, s18, s19⟩
        go_simp
        with_reducible rfl
       rotate_left
       ·simp only [Act.put, List.setIfInBounds_toArray, List.set_cons_zero, List.set_cons_succ, Xk]
        rfl
       refine Vx (i := 2) (N := some 17) (v := ?_) (a' := ?_) #[true, true, true, false, false, false, false, false] rfl rfl (Ql HT_.out HW_.out (by kernel_rfl)) (fun _ _ _ h => h) (Or.inl ⟨by rfl, ?_⟩) hHeld ?_ ?_
       rotate_left
       ·rintro w' ⟨s0, s1, s2, s3, s4, s5, s6, s7, s8, s9, s10, s11, s12, s13, s14, s15, s16, s17, s18, s19⟩
        go_simp
        with_reducible rfl
       rotate_left
       ·simp only [Act.put, List.setIfInBounds_toArray, List.set_cons_zero, List.set_cons_succ, Xk]
        rfl
       refine one_ (i := 3) (N := some 18) #[true, true, true, true, false, false, false, false] rfl rfl (Vt HT_.out (by kernel_rfl)) (by decide) (fun K hK => ?_)
       refine Wp Try.func19 (by kernel_rfl) rfl #[.agg #[.int .i64 ((Zh J4 J2).f0), .int .i64 ((Zh J4 J2).f1), .bool ((Zh J4 J2).f2), .int .i64 ((Zh J4 J2).f3.f0), .int .u64 ((Zh J4 J2).f3.f1), .int .u64 ((Zh J4 J2).f3.f2), .int .i64 ((Zh J4 J2).f4), .bool ((Zh J4 J2).f5), .int .i64 ((Zh J4 J2).f6), .slice A168_9 ((Zh J4 J2).f7).length c168_9]] (by rfl) rfl rfl (by (try simp only [List.map_toArray, List.map_cons, List.map_nil]); first | done | rfl | (simp only [List.length_drop, List.length_take]; rfl)) ?_
       with_reducible refine (ih k1 (by have := HK1.out; omega) ((Zh J4 J2).f0) ((Zh J4 J2).f1) ((Zh J4 J2).f2) ((Zh J4 J2).f3.f0) ((Zh J4 J2).f3.f1) ((Zh J4 J2).f3.f2) ((Zh J4 J2).f4) ((Zh J4 J2).f5) ((Zh J4 J2).f6) _ _ ((Zh J4 J2).f7) t170 t171 t172 t173 t174 t175 t176 t177 t178 t179 _ ?side1 ?side2 A9.out).mono ?_
       (case side1 => exact (Kd.Zw HR168_9.out HB.out))
       (case side2 => exact HC168_9.out)
       rintro e w17 ⟨v180, rfl, ho0, hb⟩
       refine ⟨_, rfl, ?_⟩
       have n0_ := Zd.mk (Kd.R_elder' HO_167009.out (Kd.Ko ho0) hb)
       have n1_ := Zd.mk (Kd.Jj (Kd.R_newB (Kd.R_newB (Kd.R_newB (Kd.R_new' ho0 (Kd.R_lt HO_167009.out)) J6.out) Jn.out) J8.out) (Zl HB.out))
       have n2_ := Zd.mk (Zp J6.out hb)
       have n3_ := Zd.mk (Zp Jn.out hb)
       have n4_ := Zd.mk (Zp J8.out hb)
       have n5_ := Zd.mk (Zj HB.out hb)
       clear HO_167009
       clear J6
       clear Jn
       clear J8
       clear HB
       have HO_167009 := n0_
       have HO181 := n1_
       have J6 := n2_
       have Jn := n3_
       have J8 := n4_
       have HB := n5_
       clear n0_ n1_ n2_ n3_ n4_ n5_
       (try clear hb)
       (try clear hb2)
       (try clear hk)
       (try clear hi)
       (try clear ho0)
       obtain ⟨Ao19, co19, eo19⟩ := Kd.Vo HO181.out
       (first | subst eo19 | (injection eo19 with f1_ f2_ f3_; have f4_ := f1_.symm; have f5_ := f3_.symm; clear f1_ f2_ f3_; subst f4_; subst f5_))
       refine hK.out _ _ ⟨(Za J6.out 0).trans rfl, (Za J6.out 1).trans rfl, (Za J6.out 2).trans rfl, (Za J6.out 3).trans rfl, (Za J6.out 4).trans rfl, (Za J6.out 5).trans rfl, (Za J6.out 6).trans rfl, (Za J6.out 7).trans rfl, (Za J6.out 8).trans rfl, (Za J6.out 9).trans rfl, (Za J8.out 0).trans rfl, (Za J8.out 1).trans rfl, (Za J8.out 2).trans rfl, (Za J8.out 3).trans rfl, (Za J8.out 4).trans rfl, (Za J8.out 5).trans rfl, (Za J8.out 6).trans rfl, (Za J8.out 7).trans rfl, (Za J8.out 8).trans rfl, (Za J8.out 9).trans rfl⟩ (fun hHeld => ?_)
       clear hK K
       refine Jw (a' := ?_) ?_ ?_
       rotate_left
       ·show Act.put _ (some 18) _ = _
        simp only [Act.put, List.setIfInBounds_toArray, List.set_cons_zero, List.set_cons_succ, Xk]
        rfl
       refine one_ (i := 4) (N := some 19) #[true, true, true, true, true, false, false, false] rfl rfl (Vt HT_.out (by kernel_rfl)) (by decide) (fun K hK => ?_)
       refine value_ (w1 := ?_) (v := ?_) (by rfl) rfl ?_ ?_
       rotate_left 2
       ·go_simp
        constructor
        ·rfl
        ·rfl
       refine hK.out _ _ ⟨(Za (Ze J6.out _) 0).trans rfl, (Za (Ze J6.out _) 1).trans rfl, (Za (Ze J6.out _) 2).trans rfl, (Za (Ze J6.out _) 3).trans rfl, (Za (Ze J6.out _) 4).trans rfl, (Za (Ze J6.out _) 5).trans rfl, (Za (Ze J6.out _) 6).trans rfl, (Za (Ze J6.out _) 7).trans rfl, (Za (Ze J6.out _) 8).trans rfl, (Za (Ze J6.out _) 9).trans rfl, (Za (Ze J8.out _) 0).trans rfl, (Za (Ze J8.out _) 1).trans rfl, (Za (Ze J8.out _) 2).trans rfl, (Za (Ze J8.out _) 3).trans rfl, (Za (Ze J8.out _) 4).trans rfl, (Za (Ze J8.out _) 5).trans rfl, (Za (Ze J8.out _) 6).trans rfl, (Za (Ze J8.out _) 7).trans rfl, (Za (Ze J8.out _) 8).trans rfl, (Za (Ze J8.out _) 9).trans rfl⟩ (fun hHeld => ?_)
       clear hK K
       refine Jw (a' := ?_) ?_ ?_
       rotate_left
       ·show Act.put _ (some 19) _ = _
        simp only [Act.put, List.setIfInBounds_toArray, List.set_cons_zero, List.set_cons_succ, Xk]
        rfl
       refine one_ (i := 5) (N := some 20) #[true, true, true, true, true, true, false, false] rfl rfl (Vt HT_.out (by kernel_rfl)) (by decide) (fun K hK => ?_)
       refine Kd.R_append_step k27 (w0 := w) w.heap.size (by rfl) (.tmp 16) (.tmp 19) 25 27 (.agg #[(.int .i64 0), (.int .i64 0), (.bool false), (.int .i64 0), (.int .u64 0), (.int .u64 0), (.int .i64 0), (.bool false), (.int .i64 0), (.slice none 0 0)]) 96 rfl Try.underlying25 info27 rfl (by decide) (by omega) u167009 Jl (⟨t170, t171, t172, (⟨t173, t174, t175⟩ : S24), t176, t177, t178, t179⟩ : Qh) [.int .i64 t170, .int .i64 t171, .bool t172, .int .i64 t173, .int .u64 t174, .int .u64 t175, .int .i64 t176, .bool t177, .int .i64 t178, .slice Ao19 t179.length co19] (fun k_ => k_ ≠ Jd ∧ k_ ≠ Jt ∧ k_ ≠ J5) (fun k_ => ((fun k_ => k_ ≠ Jd ∧ k_ ≠ Jt ∧ k_ ≠ J5)) k_ ∧ some k_ ≠ (u167009 : Value).ownBlock) rfl rfl ?aP (fun _ hk => hk) ?aF ?aO ?aB ?aS ?aL ?_
       (case aP => exact k27_mkM _ _ _ (⟨t170, t171, t172, (⟨t173, t174, t175⟩ : S24), t176, t177, t178, t179⟩ : Qh) (Kd.Vh HO181.out (fun k_ hk => ⟨⟨hk.1.1.2, ⟨hk.1.2, hk.2⟩⟩, hk.1.1.1.2⟩)))
       (case aB => exact HB.out)
       (case aF => exact (fun k_ hk => ⟨Kd.Kw J6.out k_ hk, Kd.Kw Jn.out k_ hk, Kd.Kw J8.out k_ hk⟩))
       (case aO => exact (by (with_reducible repeat (first | apply Kd.R_alloc | apply Kd.R_drewN | apply Kd.R_drew)); exact Kd.Vh HO_167009.out (fun _ hk => ⟨hk.1.1, ⟨hk.1.2.1, hk.1.2.2⟩⟩)))
       (case aS => exact (Zl HB.out))
       (case aL => have := LMc10.out; omega)
       intro v183 w18 ho hb hg hat
       rw [← Ny182.out] at ho
       have n0_ := Zd.mk (Ja J6.out hg (Kd.R_away HO_167009.out (fun _ hk => hk.1.1)))
       have n1_ := Zd.mk (Ja Jn.out hg (Kd.R_away HO_167009.out (fun _ hk => hk.1.2.1)))
       have n2_ := Zd.mk (Ja J8.out hg (Kd.R_away HO_167009.out (fun _ hk => hk.1.2.2)))
       have n3_ := Zd.mk (hb)
       have n4_ := Zd.mk (ho)
       clear J6
       clear Jn
       clear J8
       clear HB
       clear HO_167009
       clear HO181
       have J6 := n0_
       have Jn := n1_
       have J8 := n2_
       have HB := n3_
       have HO184 := n4_
       clear n0_ n1_ n2_ n3_ n4_
       clear ho hb hg hat
       obtain ⟨Ao20, co20, eo20⟩ := Kd.Vo HO184.out
       (first | subst eo20 | (injection eo20 with f1_ f2_ f3_; have f4_ := f1_.symm; have f5_ := f3_.symm; clear f1_ f2_ f3_; subst f4_; subst f5_))
       refine hK.out _ _ ⟨(Za J6.out 0).trans rfl, (Za J6.out 1).trans rfl, (Za J6.out 2).trans rfl, (Za J6.out 3).trans rfl, (Za J6.out 4).trans rfl, (Za J6.out 5).trans rfl, (Za J6.out 6).trans rfl, (Za J6.out 7).trans rfl, (Za J6.out 8).trans rfl, (Za J6.out 9).trans rfl, (Za J8.out 0).trans rfl, (Za J8.out 1).trans rfl, (Za J8.out 2).trans rfl, (Za J8.out 3).trans rfl, (Za J8.out 4).trans rfl, (Za J8.out 5).trans rfl, (Za J8.out 6).trans rfl, (Za J8.out 7).trans rfl, (Za J8.out 8).trans rfl, (Za J8.out 9).trans rfl⟩ (fun hHeld => ?_)
       clear hK K
       refine Jw (a' := ?_) ?_ ?_
       rotate_left
       ·show Act.put _ (some 20) _ = _
        simp only [Act.put, List.setIfInBounds_toArray, List.set_cons_zero, List.set_cons_succ, Xk]
        rfl
       refine Qe (i := 6) (N := some 21) (v := ?_) (a' := ?_) #[true, true, true, true, true, true, true, false] rfl rfl (Xu HT_.out (by kernel_rfl)) (fun _ _ _ h => h) (Or.inl ⟨by rfl, ?_⟩) ?_ ?_
       rotate_left
       ·intro w'
        go_simp
        with_reducible rfl
       rotate_left
       ·simp only [Act.put, List.setIfInBounds_toArray, List.set_cons_zero, List.set_cons_succ, Xk]
        rfl
       refine last_ (i := 7) (N := none) #[true, true, true, true, true, true, true, true] rfl rfl (Vt HT_.out (by kernel_rfl)) (by decide) (fun K hK => ?_)
       have hs21 : w18.cell? ⟨Jd, 9, none⟩ = some (u167009) := (Za J6.out 9).trans rfl
       have hfs21 := Zb J6.out 9
       have hns21_1 := NB167_166.out
       have hns21_2 := NB169_166.out
       have hms21_1 := NB166_167.out
       have hms21_2 := NB166_169.out
       refine skip_ (w1 := ?_) (by rfl) rfl ?_ ?_
       rotate_left
       ·go_simp
        rfl
       refine hK.out _ _ ?_
       clear hK K
       refine done_ (done_of HT_.out (by kernel_rfl)) ?_
       try go_wp2
       go_roundg k1
       case measure => have := HK1.out; omega
       case rel => exact ⟨(wrap64 (J2 + 1)), (y182), (.slice Ao20 y182.length co20), (by first | rfl | (simp; done) | (simp [*]; done)), H', ⟨by have := HK1.out; omega⟩, ⟨by (with_reducible repeat (first | apply Kd.R_alloc | apply Kd.R_drewN | apply Kd.R_drew)); exact Kd.Vh (Kd.We (p := ⟨Jd, 9, none⟩) (Kd.Vh HO184.out (fun k_ hk => (⟨hk, hk.1⟩ : _ ∧ k_ ≠ Jd))) (fun _ hk => hk.2) (.slice Ao20 y182.length co20)) (fun _ hk => ⟨hk.1.1, hk.1.2.1⟩)⟩, ⟨by (with_reducible repeat (first | refine Zf ?_ _ | refine Zg ?_ | refine Ze ?_ _)); refine Zk (cs := #[.int .i64 Jf, .int .i64 Je, .bool Jg, .int .i64 Jh, .int .u64 Jk, .int .u64 Jm, .int .i64 Jo, .bool Jq, .int .i64 Js, u167009]) ?_ 9 _ rfl; (with_reducible repeat (first | refine Zf ?_ _ | refine Zg ?_ | refine Ze ?_ _)); exact J6.out⟩, ⟨by (with_reducible repeat (first | refine Zf ?_ _ | refine Zg ?_ | refine Ze ?_ _)); refine Zm ?_ NB167_166.out _; (with_reducible repeat (first | refine Zf ?_ _ | refine Zg ?_ | refine Ze ?_ _)); exact Jn.out⟩, ⟨by repeat (first | (with_reducible first | exact HB.out | apply Xm | apply Xi | apply Xj | refine Xc ?_ GE166.out | refine Xc ?_ GE167.out | refine Xc ?_ GE169.out) | exact HB.out)⟩⟩
      ·rw [if_neg c10] at H
       exact absurd H (by simp)
     ·rw [if_neg c8] at H
      exact absurd H (by simp)
    ·rw [if_neg c7] at H
     exact absurd H (by simp)
   ·rw [if_neg c6] at H
    have c6b0 : decide (J2 < (J4.length : Int)) = false := decide_eq_false c6
    clear c6
    simp only [Option.some.injEq, Prod.mk.injEq] at H
    obtain ⟨rfl, rfl, rfl, rfl, rfl, rfl, rfl, rfl, rfl, rfl⟩ := H
    have hnb22 := NB166_167.out
    have hnc22 := NB167_166.out
    obtain ⟨hcz23_0, hcz23_1, hcz23_2, hcz23_3, hcz23_4, hcz23_5, hcz23_6, hcz23_7, hcz23_8, hcz23_9⟩ := zc10 J6.out
    obtain ⟨hfz23_0, hfz23_1, hfz23_2, hfz23_3, hfz23_4, hfz23_5, hfz23_6, hfz23_7, hfz23_8, hfz23_9⟩ := zf10 J6.out
    obtain ⟨hcz24_0, hcz24_1, hcz24_2, hcz24_3, hcz24_4, hcz24_5, hcz24_6, hcz24_7, hcz24_8, hcz24_9⟩ := zc10 Jn.out
    obtain ⟨hfz24_0, hfz24_1, hfz24_2, hfz24_3, hfz24_4, hfz24_5, hfz24_6, hfz24_7, hfz24_8, hfz24_9⟩ := zf10 Jn.out
    obtain ⟨Ao25, co25, eo25⟩ := Kd.Vo HO_167009.out
    subst eo25
    go_wp2
    refine bodyPost_ret (results_cell_row rfl _ _ Jt 27 #[.int .i64 Jf, .int .i64 Je, .bool Jg, .int .i64 Jh, .int .u64 Jk, .int .u64 Jm, .int .i64 Jo, .bool Jq, .int .i64 Js, .slice Ao25 Jl.length co25] (0, 0) _ rfl (by (with_reducible repeat (first | refine Zf ?_ _ | refine Zg ?_ | refine Ze ?_ _)); refine Zk (cs := #[.int .i64 Jf, .int .i64 Je, .bool Jg, .int .i64 Jh, .int .u64 Jk, .int .u64 Jm, .int .i64 Jo, .bool Jq, .int .i64 Js, .slice none 0 0]) ?_ 9 _ rfl; (with_reducible repeat (first | refine Zf ?_ _ | refine Zg ?_ | refine Ze ?_ _)); refine Zk (cs := #[.int .i64 Jf, .int .i64 Je, .bool Jg, .int .i64 Jh, .int .u64 Jk, .int .u64 Jm, .int .i64 Jo, .bool Jq, .int .i64 0, .slice none 0 0]) ?_ 8 _ rfl; (with_reducible repeat (first | refine Zf ?_ _ | refine Zg ?_ | refine Ze ?_ _)); refine Zk (cs := #[.int .i64 Jf, .int .i64 Je, .bool Jg, .int .i64 Jh, .int .u64 Jk, .int .u64 Jm, .int .i64 Jo, .bool false, .int .i64 0, .slice none 0 0]) ?_ 7 _ rfl; (with_reducible repeat (first | refine Zf ?_ _ | refine Zg ?_ | refine Ze ?_ _)); refine Zk (cs := #[.int .i64 Jf, .int .i64 Je, .bool Jg, .int .i64 Jh, .int .u64 Jk, .int .u64 Jm, .int .i64 0, .bool false, .int .i64 0, .slice none 0 0]) ?_ 6 _ rfl; (with_reducible repeat (first | refine Zf ?_ _ | refine Zg ?_ | refine Ze ?_ _)); refine Zk (cs := #[.int .i64 Jf, .int .i64 Je, .bool Jg, .int .i64 Jh, .int .u64 Jk, .int .u64 0, .int .i64 0, .bool false, .int .i64 0, .slice none 0 0]) ?_ 5 _ rfl; (with_reducible repeat (first | refine Zf ?_ _ | refine Zg ?_ | refine Ze ?_ _)); refine Zk (cs := #[.int .i64 Jf, .int .i64 Je, .bool Jg, .int .i64 Jh, .int .u64 0, .int .u64 0, .int .i64 0, .bool false, .int .i64 0, .slice none 0 0]) ?_ 4 _ rfl; (with_reducible repeat (first | refine Zf ?_ _ | refine Zg ?_ | refine Ze ?_ _)); refine Zk (cs := #[.int .i64 Jf, .int .i64 Je, .bool Jg, .int .i64 0, .int .u64 0, .int .u64 0, .int .i64 0, .bool false, .int .i64 0, .slice none 0 0]) ?_ 3 _ rfl; (with_reducible repeat (first | refine Zf ?_ _ | refine Zg ?_ | refine Ze ?_ _)); refine Zk (cs := #[.int .i64 Jf, .int .i64 Je, .bool false, .int .i64 0, .int .u64 0, .int .u64 0, .int .i64 0, .bool false, .int .i64 0, .slice none 0 0]) ?_ 2 _ rfl; (with_reducible repeat (first | refine Zf ?_ _ | refine Zg ?_ | refine Ze ?_ _)); refine Zk (cs := #[.int .i64 Jf, .int .i64 0, .bool false, .int .i64 0, .int .u64 0, .int .u64 0, .int .i64 0, .bool false, .int .i64 0, .slice none 0 0]) ?_ 1 _ rfl; (with_reducible repeat (first | refine Zf ?_ _ | refine Zg ?_ | refine Ze ?_ _)); refine Zk (cs := #[.int .i64 0, .int .i64 0, .bool false, .int .i64 0, .int .u64 0, .int .u64 0, .int .i64 0, .bool false, .int .i64 0, .slice none 0 0]) ?_ 0 _ rfl; (with_reducible repeat (first | refine Zf ?_ _ | refine Zg ?_ | refine Ze ?_ _)); exact Jn.out) Try.underlying27 rfl (by kernel_rfl)) rfl ?_
    exact ⟨_, by first | rfl | (simp [errW_none, errW_some] <;> rfl) | (simp [*, errW_none, errW_some] <;> rfl), by (with_reducible repeat (first | apply Kd.R_alloc | apply Kd.R_drewN | apply Kd.R_drew)); exact Kd.Vh (Kd.We (p := ⟨Jt, 9, none⟩) (Kd.We (p := ⟨Jt, 8, none⟩) (Kd.We (p := ⟨Jt, 7, none⟩) (Kd.We (p := ⟨Jt, 6, none⟩) (Kd.We (p := ⟨Jt, 5, none⟩) (Kd.We (p := ⟨Jt, 4, none⟩) (Kd.We (p := ⟨Jt, 3, none⟩) (Kd.We (p := ⟨Jt, 2, none⟩) (Kd.We (p := ⟨Jt, 1, none⟩) (Kd.We (p := ⟨Jt, 0, none⟩) (Kd.Vh HO_167009.out (fun k_ hk => (⟨hk, hk.2⟩ : _ ∧ k_ ≠ Jt))) (fun _ hk => hk.2) (.int .i64 Jf)) (fun _ hk => hk.2) (.int .i64 Je)) (fun _ hk => hk.2) (.bool Jg)) (fun _ hk => hk.2) (.int .i64 Jh)) (fun _ hk => hk.2) (.int .u64 Jk)) (fun _ hk => hk.2) (.int .u64 Jm)) (fun _ hk => hk.2) (.int .i64 Jo)) (fun _ hk => hk.2) (.bool Jq)) (fun _ hk => hk.2) (.int .i64 Js)) (fun _ hk => hk.2) (.slice Ao25 Jl.length co25)) (fun _ hk => trivial), by repeat (first | (with_reducible first | exact HB.out | apply Xm | apply Xi | apply Xj | refine Xc ?_ GE166.out | refine Xc ?_ GE167.out) | exact HB.out)⟩
end Go.Proofs.Ytkbkndfonccekaa.PF
