/- Joined by this session's own program out of its texts: PFx14 Leaves PFx6 PFx15 Split SplitT. -/
import Derived.Test.YtkbkndfonccekaaQ1
import Derived.Test.YtkbkndfonccekaaQ6
import Derived.Test.YtkbkndfonccekaaQ5
import Derived.Test.YtkbkndfonccekaaQ3
import Derived.Test.YtkbkndfonccekaaQ2
import Derived.OrdersHeld
namespace Go.Proofs.Ytkbkndfonccekaa.PF
open Go.RowKit Go.Proofs.YtkbkndfonccekaaW.PrintWords Go.Proofs.YtkbkndfonccekaaW.PrintLast Go.Proofs.YtkbkndfonccekaaW.PrintMore
attribute [local go_sem] Qn Qp Kq Kt
set_option linter.unusedVariables false
set_option linter.unusedSimpArgs false
def Xr.l0 : Nat → List (Qh) → List (Qh) → Int → Int → Option ((List (Qh)) × Int)
  | 0, _, _, _, _ => none
  | k + 1, x5, x14, x15, x16 => if x16 < x15 then (if 0 ≤ x16 then (if x16 < (x14.length : Int) then ((Xg.f k ((Zh x14 x16).f0) ((Zh x14 x16).f1) ((Zh x14 x16).f2) ((Zh x14 x16).f3.f0) ((Zh x14 x16).f3.f1) ((Zh x14 x16).f3.f2) ((Zh x14 x16).f4) ((Zh x14 x16).f5) ((Zh x14 x16).f6) ((Zh x14 x16).f7)).bind fun bt192 => (if x5.length < 1466015503701 then (Xr.l0 k (x5 ++ [(⟨bt192.1, bt192.2.1, bt192.2.2.1, (⟨bt192.2.2.2.1, bt192.2.2.2.2.1, bt192.2.2.2.2.2.1⟩ : S24), bt192.2.2.2.2.2.2.1, bt192.2.2.2.2.2.2.2.1, bt192.2.2.2.2.2.2.2.2.1, bt192.2.2.2.2.2.2.2.2.2⟩ : Qh)]) x14 x15 (wrap64 (x16 + 1))) else (none))) else (none)) else (none)) else (some (x5, 0))
def Xr.f (k : Nat) (Jo : Int) (Jj : Int) (Ji : Int) (Jh : Bool) (Jg : Int) (Jf : Int) (Je : Int) (Jd : Int) (Jc : Bool) (Jb : Int) (J6 : List (Qh)) (J8 : Int) (J7 : Int) (J5 : List (Vd)) : Option ((List (Qh)) × Int) := (Zz.f k Jo Jj Ji Jh Jg Jf Je Jd Jc Jb J6 J8 J7 J5).bind fun t186 => (if t186 = 0 then ((Zv.f k Jo Jj Ji Jh Jg Jf Je Jd Jc Jb J6 J8 J7 J5).bind fun t187 => (Xr.l0 k ([] : List (Qh)) t187 (t187.length : Int) 0)) else (some (([] : List (Qh)), t186)))
theorem Xr.mono_l : ∀ k, (∀ y0 y1 y2 y3, Xo (Xr.l0 k y0 y1 y2 y3) (Xr.l0 (k + 1) y0 y1 y2 y3))
  | 0 => fun _ _ _ _ r h => by simp [Xr.l0] at h
  | k + 1 => by
    have ih0 := Xr.mono_l k
    · intro y0 y1 y2 y3
      unfold Xr.l0
      repeat' first
      | (with_reducible exact ih0 _ _ _ _)
      | (with_reducible exact Zz.mono _ _ _ _ _ _ _ _ _ _ _ _ _ _ _)
      | (with_reducible exact Xg.mono _ _ _ _ _ _ _ _ _ _ _)
      | (with_reducible exact Zv.mono _ _ _ _ _ _ _ _ _ _ _ _ _ _ _)
      | (with_reducible exact Xo.refl _)
      | (with_reducible exact Xo.none _)
      | (with_reducible refine Xo.ite ?_ ?_)
      | (with_reducible refine Xo.bind ?_ (fun _ => ?_))
      | exact ih0 _ _ _ _
      | exact Zz.mono _ _ _ _ _ _ _ _ _ _ _ _ _ _ _
      | exact Xg.mono _ _ _ _ _ _ _ _ _ _ _
      | exact Zv.mono _ _ _ _ _ _ _ _ _ _ _ _ _ _ _
      | exact Xo.none _
      | refine Xo.ite ?_ ?_
      | refine Xo.bind ?_ (fun _ => ?_)
set_option maxHeartbeats 8000000 in
set_option maxRecDepth 100000 in
theorem Xr.calls (k : Nat) (Jo : Int) (Jj : Int) (Ji : Int) (Jh : Bool) (Jg : Int) (Jf : Int) (Je : Int) (Jd : Int) (Jc : Bool) (Jb : Int) (P0_10_ : Nat → Prop) (A0_10 : Option Addr) (c0_10 : Nat) (J6 : List (Qh)) (J8 : Int) (J7 : Int) (P0_13_ : Nat → Prop) (A0_13 : Option Addr) (c0_13 : Nat) (J5 : List (Vd)) (r1 : List (Qh)) (r2 : Int) (w : World) (hs0_10 : Kd.V k27 27 w w.heap.size (fun k_ => P0_10_ k_) (.slice A0_10 J6.length c0_10) J6) (hs0_13 : Kd.V k30 30 w w.heap.size (fun k_ => P0_13_ k_) (.slice A0_13 J5.length c0_13) J5) (h : Xr.f k Jo Jj Ji Jh Jg Jf Je Jd Jc Jb J6 J8 J7 J5 = some (r1, r2)) :
 Calls Try.prog 6 #[.agg #[.int .i64 Jo, .int .i64 Jj, .int .i64 Ji, .bool Jh, .int .i64 Jg, .int .u64 Jf, .int .u64 Je, .int .i64 Jd, .bool Jc, .int .i64 Jb, .slice A0_10 J6.length c0_10, .int .i64 J8, .int .i64 J7, .slice A0_13 J5.length c0_13]] w fun e w' => ∃ v0_ : Value, e = .returned (.tuple #[v0_, .int .i64 r2]) ∧ Kd.N k27 27 w' w.heap.size (fun k_ => ((P0_10_ k_ ∨ P0_13_ k_) ∨ w.heap.size ≤ k_)) v0_ r1 ∧ Below w.heap.size w w' := by
 have hu30 := Try.underlying30
 have hu27 := Try.underlying27
 have HO0_10 := Zd.mk (show Kd.V k27 27 w w.heap.size (fun k_ => ((P0_10_ k_ ∨ P0_13_ k_) ∨ w.heap.size ≤ k_)) (.slice A0_10 J6.length c0_10) J6 from Kd.Xa hs0_10 (fun k_ hk => .inl (.inl hk)))
 have HO0_13 := Zd.mk (show Kd.V k30 30 w w.heap.size (fun k_ => ((P0_10_ k_ ∨ P0_13_ k_) ∨ w.heap.size ≤ k_)) (.slice A0_13 J5.length c0_13) J5 from Kd.Xa hs0_13 (fun k_ hk => .inl (.inr hk)))
 have HB := Zd.mk (Below.refl w.heap.size w)
 have H : ((Zz.f k Jo Jj Ji Jh Jg Jf Je Jd Jc Jb J6 J8 J7 J5).bind fun t186 => (if t186 = 0 then ((Zv.f k Jo Jj Ji Jh Jg Jf Je Jd Jc Jb J6 J8 J7 J5).bind fun t187 => (Xr.l0 k ([] : List (Qh)) t187 (t187.length : Int) 0)) else (some (([] : List (Qh)), t186)))) = some (r1, r2) := h
 clear h
 replace H := Option.bind_eq_some_iff.mp H
 obtain ⟨t186, A20, H⟩ := H
 replace H : (if t186 = 0 then ((Zv.f k Jo Jj Ji Jh Jg Jf Je Jd Jc Jb J6 J8 J7 J5).bind fun t187 => (Xr.l0 k ([] : List (Qh)) t187 (t187.length : Int) 0)) else (some (([] : List (Qh)), t186))) = some (r1, r2) := H
 have A2 := Zd.mk A20
 clear A20
 by_cases c3 : t186 = 0
 ·rw [if_pos c3] at H
  have c3b0 : (t186 == 0) = true := beq_iff_eq.mpr c3
  have c3b1 : (t186 != 0) = false := bne_eq_false_iff_eq.mpr c3
  clear c3
  replace H := Option.bind_eq_some_iff.mp H
  obtain ⟨t187, A40, H⟩ := H
  replace H : (Xr.l0 k ([] : List (Qh)) t187 (t187.length : Int) 0) = some (r1, r2) := H
  have A4 := Zd.mk A40
  clear A40
  have H' := Zd.mk H
  clear H
  go_enter Try.func6, Try.ntmps6
  go_wp2_with (first | ((with_reducible refine Xd (N := 1) rfl ?_); refine Xe ?hg (N := 1) ?hd (cs := #[.int .i64 Jo, .int .i64 Jj, .int .i64 Ji, .bool Jh, .int .i64 Jg, .int .u64 Jf, .int .u64 Je, .int .i64 Jd, .bool Jc, .int .i64 Jb, .slice A0_10 J6.length c0_10, .int .i64 J8, .int .i64 J7, .slice A0_13 J5.length c0_13]) (t := 30) ?hr ?_; (case hd => rfl); (case hg => rfl); (case hr => first | (go_simp; done) | (go_simp; rfl)); intro J4 hg w5 hbox hb; have n0_ := Zd.mk (Kd.Xl (Kd.Xx HO0_10.out J4 (Nat.le_of_eq hg.symm)) hb); have n1_ := Zd.mk (Kd.Xl (Kd.Xx HO0_13.out J4 (Nat.le_of_eq hg.symm)) hb); have n2_ := Zd.mk (Zj HB.out hb); have n3_ := Zd.mk (hbox); have n4_ := Zd.mk ((by rw [hg]; exact (Zl HB.out) : w.heap.size ≤ J4)); have n5_ := n4_; clear HO0_10; clear HO0_13; clear HB; have HO0_10 := n0_; have HO0_13 := n1_; have HB := n2_; have J2 := n3_; have GW185 := n4_; have GE185 := n5_; clear n0_ n1_ n2_ n3_ n4_ n5_; clear hb hbox hg; have hcz6_0 : w5.cell? ⟨J4, 0, none⟩ = some (.int .i64 Jo) := (Za J2.out 0).trans rfl; have hcz6_1 : w5.cell? ⟨J4, 1, none⟩ = some (.int .i64 Jj) := (Za J2.out 1).trans rfl; have hcz6_2 : w5.cell? ⟨J4, 2, none⟩ = some (.int .i64 Ji) := (Za J2.out 2).trans rfl; have hcz6_3 : w5.cell? ⟨J4, 3, none⟩ = some (.bool Jh) := (Za J2.out 3).trans rfl; have hcz6_4 : w5.cell? ⟨J4, 4, none⟩ = some (.int .i64 Jg) := (Za J2.out 4).trans rfl; have hcz6_5 : w5.cell? ⟨J4, 5, none⟩ = some (.int .u64 Jf) := (Za J2.out 5).trans rfl; have hcz6_6 : w5.cell? ⟨J4, 6, none⟩ = some (.int .u64 Je) := (Za J2.out 6).trans rfl; have hcz6_7 : w5.cell? ⟨J4, 7, none⟩ = some (.int .i64 Jd) := (Za J2.out 7).trans rfl; have hcz6_8 : w5.cell? ⟨J4, 8, none⟩ = some (.bool Jc) := (Za J2.out 8).trans rfl; have hcz6_9 : w5.cell? ⟨J4, 9, none⟩ = some (.int .i64 Jb) := (Za J2.out 9).trans rfl; have hcz6_10 : w5.cell? ⟨J4, 10, none⟩ = some (.slice A0_10 J6.length c0_10) := (Za J2.out 10).trans rfl; have hcz6_11 : w5.cell? ⟨J4, 11, none⟩ = some (.int .i64 J8) := (Za J2.out 11).trans rfl; have hcz6_12 : w5.cell? ⟨J4, 12, none⟩ = some (.int .i64 J7) := (Za J2.out 12).trans rfl; have hcz6_13 : w5.cell? ⟨J4, 13, none⟩ = some (.slice A0_13 J5.length c0_13) := (Za J2.out 13).trans rfl; have hfz6_0 := Zb J2.out 0; have hfz6_1 := Zb J2.out 1; have hfz6_2 := Zb J2.out 2; have hfz6_3 := Zb J2.out 3; have hfz6_4 := Zb J2.out 4; have hfz6_5 := Zb J2.out 5; have hfz6_6 := Zb J2.out 6; have hfz6_7 := Zb J2.out 7; have hfz6_8 := Zb J2.out 8; have hfz6_9 := Zb J2.out 9; have hfz6_10 := Zb J2.out 10; have hfz6_11 := Zb J2.out 11; have hfz6_12 := Zb J2.out 12; have hfz6_13 := Zb J2.out 13) | ((with_reducible refine Zx (f := 8) rfl ?_); refine Xz (some 9) rfl rfl Try.func8 (by kernel_rfl) rfl #[.agg #[.int .i64 Jo, .int .i64 Jj, .int .i64 Ji, .bool Jh, .int .i64 Jg, .int .u64 Jf, .int .u64 Je, .int .i64 Jd, .bool Jc, .int .i64 Jb, .slice A0_10 J6.length c0_10, .int .i64 J8, .int .i64 J7, .slice A0_13 J5.length c0_13]] rfl (by (try simp only [List.map_toArray, List.map_cons, List.map_nil]); first | done | rfl | (simp only [List.length_drop, List.length_take]; rfl)) ?_; (with_reducible refine (Zz.calls k Jo Jj Ji Jh Jg Jf Je Jd Jc Jb _ _ J6 J8 J7 _ _ J5 t186 _ ?side1 ?side2 ?side3 ?side4 A2.out).mono ?_); (case side1 => repeat (first | exact (Kd.Xw HO0_10.out).2.2 | (with_reducible refine Kd.C_alloc ?_ _) | (with_reducible refine Kd.C_drewN ?_ _) | (with_reducible refine Kd.C_drew ?_))); (case side2 => exact (Kd.Xw HO0_10.out).2.1); (case side3 => repeat (first | exact (Kd.Xw HO0_13.out).2.2 | (with_reducible refine Kd.C_alloc ?_ _) | (with_reducible refine Kd.C_drewN ?_ _) | (with_reducible refine Kd.C_drew ?_))); (case side4 => exact (Kd.Xw HO0_13.out).2.1); rintro e w7 ⟨rfl, hb⟩; refine ⟨_, rfl, ?_⟩; have n0_ := Zd.mk (Kd.Xl HO0_10.out hb); have n1_ := Zd.mk (Kd.Xl HO0_13.out hb); have n2_ := Zd.mk (Zp J2.out hb); have n3_ := Zd.mk (Zj HB.out hb); clear HO0_10; clear HO0_13; clear J2; clear HB; have HO0_10 := n0_; have HO0_13 := n1_; have J2 := n2_; have HB := n3_; clear n0_ n1_ n2_ n3_; (try clear hb); (try clear hb2); (try clear hk); (try clear hi); have hcz8_0 : w7.cell? ⟨J4, 0, none⟩ = some (.int .i64 Jo) := (Za J2.out 0).trans rfl; have hcz8_1 : w7.cell? ⟨J4, 1, none⟩ = some (.int .i64 Jj) := (Za J2.out 1).trans rfl; have hcz8_2 : w7.cell? ⟨J4, 2, none⟩ = some (.int .i64 Ji) := (Za J2.out 2).trans rfl; have hcz8_3 : w7.cell? ⟨J4, 3, none⟩ = some (.bool Jh) := (Za J2.out 3).trans rfl; have hcz8_4 : w7.cell? ⟨J4, 4, none⟩ = some (.int .i64 Jg) := (Za J2.out 4).trans rfl; have hcz8_5 : w7.cell? ⟨J4, 5, none⟩ = some (.int .u64 Jf) := (Za J2.out 5).trans rfl; have hcz8_6 : w7.cell? ⟨J4, 6, none⟩ = some (.int .u64 Je) := (Za J2.out 6).trans rfl; have hcz8_7 : w7.cell? ⟨J4, 7, none⟩ = some (.int .i64 Jd) := (Za J2.out 7).trans rfl; have hcz8_8 : w7.cell? ⟨J4, 8, none⟩ = some (.bool Jc) := (Za J2.out 8).trans rfl; have hcz8_9 : w7.cell? ⟨J4, 9, none⟩ = some (.int .i64 Jb) := (Za J2.out 9).trans rfl; have hcz8_10 : w7.cell? ⟨J4, 10, none⟩ = some (.slice A0_10 J6.length c0_10) := (Za J2.out 10).trans rfl; have hcz8_11 : w7.cell? ⟨J4, 11, none⟩ = some (.int .i64 J8) := (Za J2.out 11).trans rfl; have hcz8_12 : w7.cell? ⟨J4, 12, none⟩ = some (.int .i64 J7) := (Za J2.out 12).trans rfl; have hcz8_13 : w7.cell? ⟨J4, 13, none⟩ = some (.slice A0_13 J5.length c0_13) := (Za J2.out 13).trans rfl; have hfz8_0 := Zb J2.out 0; have hfz8_1 := Zb J2.out 1; have hfz8_2 := Zb J2.out 2; have hfz8_3 := Zb J2.out 3; have hfz8_4 := Zb J2.out 4; have hfz8_5 := Zb J2.out 5; have hfz8_6 := Zb J2.out 6; have hfz8_7 := Zb J2.out 7; have hfz8_8 := Zb J2.out 8; have hfz8_9 := Zb J2.out 9; have hfz8_10 := Zb J2.out 10; have hfz8_11 := Zb J2.out 11; have hfz8_12 := Zb J2.out 12; have hfz8_13 := Zb J2.out 13) | ((with_reducible refine Zx (f := 18) rfl ?_); refine Xz (some 14) rfl rfl Try.func18 (by kernel_rfl) rfl #[.agg #[.int .i64 Jo, .int .i64 Jj, .int .i64 Ji, .bool Jh, .int .i64 Jg, .int .u64 Jf, .int .u64 Je, .int .i64 Jd, .bool Jc, .int .i64 Jb, .slice A0_10 J6.length c0_10, .int .i64 J8, .int .i64 J7, .slice A0_13 J5.length c0_13]] rfl (by (try simp only [List.map_toArray, List.map_cons, List.map_nil]); first | done | rfl | (simp only [List.length_drop, List.length_take]; rfl)) ?_; (with_reducible refine (Zv.calls k Jo Jj Ji Jh Jg Jf Je Jd Jc Jb (fun k_ => (((P0_10_ k_ ∨ P0_13_ k_) ∨ w.heap.size ≤ k_) ∧ k_ ≠ J4)) _ _ J6 J8 J7 (fun k_ => (((P0_10_ k_ ∨ P0_13_ k_) ∨ w.heap.size ≤ k_) ∧ k_ ≠ J4)) _ _ J5 t187 _ ?side1 ?side2 A4.out).mono ?_); (case side1 => exact HO0_10.out); (case side2 => exact HO0_13.out); rintro e w9 ⟨v188, rfl, ho0, hb⟩; refine ⟨_, rfl, ?_⟩; have n0_ := Zd.mk (Kd.Qy HO0_10.out (Kd.Qr ho0) hb); have n1_ := Zd.mk (Kd.Qy HO0_13.out (Kd.Qr ho0) hb); have n2_ := Zd.mk (Kd.Vb (Kd.Xq (ok' := fun k_ => ((P0_10_ k_ ∨ P0_13_ k_) ∨ w.heap.size ≤ k_) ∧ k_ ≠ J4) ho0 (fun k_ hk_ => ⟨Or.elim hk_ (fun hs_ => Or.elim hs_ (fun hs_ => hs_.1) (fun hs_ => hs_.1)) (fun hn_ => (.inr (Nat.le_trans (Zl HB.out) hn_))), Or.elim hk_ (fun hs_ => Or.elim hs_ (fun hs_ => hs_.2) (fun hs_ => hs_.2)) (fun hn_ => (Kd.Kw J2.out k_ hn_))⟩)) (Zl HB.out)); have n3_ := Zd.mk (Zp J2.out hb); have n4_ := Zd.mk (Zj HB.out hb); clear HO0_10; clear HO0_13; clear J2; clear HB; have HO0_10 := n0_; have HO0_13 := n1_; have HO189 := n2_; have J2 := n3_; have HB := n4_; clear n0_ n1_ n2_ n3_ n4_; (try clear hb); (try clear hb2); (try clear hk); (try clear hi); (try clear ho0); obtain ⟨Ao10, co10, eo10⟩ := Kd.Va HO189.out; subst eo10))
  go_loopg [5, 16] k (fun kq v5 v16 w' => ∃ (Jv : List (Qh)) (J0 : Int), v16 = .int .i64 J0 ∧ Zd (Xr.l0 kq Jv t187 (t187.length : Int) J0 = some (r1, r2)) ∧ Zd (kq ≤ k) ∧ Zd (Kd.N k27 27 w' w.heap.size (fun k_ => ((P0_10_ k_ ∨ P0_13_ k_) ∨ w.heap.size ≤ k_) ∧ some k_ ≠ ((.slice Ao10 t187.length co10) : Value).ownBlock ∧ k_ ≠ J4) v5 Jv) ∧ Zd (Kd.N k27 27 w' w.heap.size (fun k_ => ((P0_10_ k_ ∨ P0_13_ k_) ∨ w.heap.size ≤ k_) ∧ some k_ ≠ (v5 : Value).ownBlock ∧ k_ ≠ J4) (.slice Ao10 t187.length co10) t187) ∧ Zd (Kd.V k27 27 w' w.heap.size (fun k_ => ((P0_10_ k_ ∨ P0_13_ k_) ∨ w.heap.size ≤ k_) ∧ some k_ ≠ (v5 : Value).ownBlock ∧ some k_ ≠ ((.slice Ao10 t187.length co10) : Value).ownBlock ∧ k_ ≠ J4) (.slice A0_10 J6.length c0_10) J6) ∧ Zd (Kd.V k30 30 w' w.heap.size (fun k_ => ((P0_10_ k_ ∨ P0_13_ k_) ∨ w.heap.size ≤ k_) ∧ some k_ ≠ (v5 : Value).ownBlock ∧ some k_ ≠ ((.slice Ao10 t187.length co10) : Value).ownBlock ∧ k_ ≠ J4) (.slice A0_13 J5.length c0_13) J5) ∧ Zd (w'.heap[J4]? = some (.cells #[.int .i64 Jo, .int .i64 Jj, .int .i64 Ji, .bool Jh, .int .i64 Jg, .int .u64 Jf, .int .u64 Je, .int .i64 Jd, .bool Jc, .int .i64 Jb, (.slice A0_10 J6.length c0_10), .int .i64 J8, .int .i64 J7, (.slice A0_13 J5.length c0_13)] 30 (0, 0))) ∧ Zd (Below w.heap.size w w'))
  case atStart => exact ⟨(([] : List (Qh))), (0), (by first | rfl | (simp; done) | (simp [*]; done)), H', ⟨Nat.le_refl _⟩, ⟨by first | exact Kd.R_nil _ _ _ _ _ | exact Kd.N_nil _ _ _ _ _ | exact Kd.V_nil _ _ _ _ _ | exact Kd.Q_nil _ _ _ _ _ | exact Kd.S_nil _ _ _ _ _⟩, ⟨by (with_reducible repeat (first | apply Kd.N_alloc | apply Kd.N_drewN | apply Kd.Vg)); exact Kd.Xq HO189.out (fun _ hk => ⟨hk.1, ⟨(by simp [Value.ownBlock]), hk.2⟩⟩)⟩, ⟨by (with_reducible repeat (first | apply Kd.V_alloc | apply Kd.V_drewN | apply Kd.Xp)); exact Kd.Xa HO0_10.out (fun _ hk => ⟨hk.1.1, ⟨(by simp [Value.ownBlock]), ⟨hk.2, hk.1.2⟩⟩⟩)⟩, ⟨by (with_reducible repeat (first | apply Kd.V_alloc | apply Kd.V_drewN | apply Kd.Xp)); exact Kd.Xa HO0_13.out (fun _ hk => ⟨hk.1.1, ⟨(by simp [Value.ownBlock]), ⟨hk.2, hk.1.2⟩⟩⟩)⟩, ⟨J2.out⟩, ⟨HB.out⟩⟩
  case round =>
   clear H'
   try clear c3b0
   try clear c3b1
   try clear hcz6_0
   try clear hcz6_1
   try clear hcz6_10
   try clear hcz6_11
   try clear hcz6_12
   try clear hcz6_13
   try clear hcz6_2
   try clear hcz6_3
   try clear hcz6_4
   try clear hcz6_5
   try clear hcz6_6
   try clear hcz6_7
   try clear hcz6_8
   try clear hcz6_9
   try clear hcz8_0
   try clear hcz8_1
   try clear hcz8_10
   try clear hcz8_11
   try clear hcz8_12
   try clear hcz8_13
   try clear hcz8_2
   try clear hcz8_3
   try clear hcz8_4
   try clear hcz8_5
   try clear hcz8_6
   try clear hcz8_7
   try clear hcz8_8
   try clear hcz8_9
   try clear hfz6_0
   try clear hfz6_1
   try clear hfz6_10
   try clear hfz6_11
   try clear hfz6_12
   try clear hfz6_13
   try clear hfz6_2
   try clear hfz6_3
   try clear hfz6_4
   try clear hfz6_5
   try clear hfz6_6
   try clear hfz6_7
   try clear hfz6_8
   try clear hfz6_9
   try clear hfz8_0
   try clear hfz8_1
   try clear hfz8_10
   try clear hfz8_11
   try clear hfz8_12
   try clear hfz8_13
   try clear hfz8_2
   try clear hfz8_3
   try clear hfz8_4
   try clear hfz8_5
   try clear hfz8_6
   try clear hfz8_7
   try clear hfz8_8
   try clear hfz8_9
   obtain ⟨Jv, J0, rfl, HA, HK1, HO_5, HO_14, HO_186010, HO_186013, J2, HB⟩ := hrel
   cases gk with
   | zero => exact absurd HA.out (by simp [Xr.l0])
   | succ k1 =>
    have H := HA.out
    clear HA
    simp only [Xr.l0] at H
    by_cases c11 : J0 < (t187.length : Int)
    ·rw [if_pos c11] at H
     have c11b0 : decide (J0 < (t187.length : Int)) = true := decide_eq_true c11
     clear c11
     by_cases c12 : 0 ≤ J0
     ·rw [if_pos c12] at H
      have c12b0 : decide (0 ≤ J0) = true := decide_eq_true c12
      clear c12
      by_cases c13 : J0 < (t187.length : Int)
      ·rw [if_pos c13] at H
       have c13b0 : decide (J0 < (t187.length : Int)) = true := decide_eq_true c13
       clear c13
       replace H := Option.bind_eq_some_iff.mp H
       obtain ⟨⟨t192, t193, t194, t195, t196, t197, t198, t199, t200, t201⟩, A140, H⟩ := H
       replace H : (if Jv.length < 1466015503701 then (Xr.l0 k1 (Jv ++ [(⟨t192, t193, t194, (⟨t195, t196, t197⟩ : S24), t198, t199, t200, t201⟩ : Qh)]) t187 (t187.length : Int) (wrap64 (J0 + 1))) else (none)) = some (r1, r2) := H
       have A14 := Zd.mk A140
       clear A140
       by_cases c15 : Jv.length < 1466015503701
       ·rw [if_pos c15] at H
        have LMc15 := Zd.mk c15
        clear c15
        obtain ⟨y204, hy204⟩ : ∃ y_ : List (Qh), y_ = (Jv ++ [(⟨t192, t193, t194, (⟨t195, t196, t197⟩ : S24), t198, t199, t200, t201⟩ : Qh)]) := ⟨_, rfl⟩
        replace H : (Xr.l0 k1 y204 t187 (t187.length : Int) (wrap64 (J0 + 1))) = some (r1, r2) := by first | (rw [hy204]; with_reducible exact H) | (have H2_ := (Option.bind_some _ _).symm.trans H; rw [hy204]; with_reducible exact H2_) | (have H2_ := (Option.bind_some _ _).symm.trans H; with_reducible exact H2_) | with_reducible exact H | (rw [hy204]; exact H) | exact H
        have Ny204 := Zd.mk hy204
        clear hy204
        have H' := Zd.mk H
        clear H
        have p190 : 0 ≤ (J0 : Int) := of_decide_eq_true (by first | (with_reducible assumption) | assumption)
        have q190 : J0 < (t187.length : Int) := of_decide_eq_true (by first | (with_reducible assumption) | assumption)
        obtain ⟨ad190, A190_9, c190_9, e190, hx190_0, hx190_1, hx190_2, hx190_3, hx190_4, hx190_5, hx190_6, hx190_7, hx190_8, hx190_9, hl190_9, hi190_9⟩ := at_T27 (Kd.Qq HO_14.out).2.2 J0 p190 q190
        cases e190
        obtain ⟨ce190, hce190, hMe190, hcc190⟩ := Kd.N_get HO_14.out z27 J0 p190 (by first | exact q190 | exact of_decide_eq_true (by first | (with_reducible assumption) | assumption) | (have e_ := (Kd.Qq HO_14.out).1; omega))
        obtain ⟨ua190_9, uc190_9, rfl, ul190_9, ge190_9⟩ := k27_openF hMe190
        have hv190_9 := hcc190 9 _ rfl
        rw [Qc _ _ 9 (by omega)] at hv190_9
        replace hv190_9 := Option.some.inj (hv190_9.symm.trans hx190_9)
        injection hv190_9 with hva_ hvn_ hvc_
        rw [hva_] at ge190_9
        rw [hvc_] at ul190_9
        have HL190_9 := Zd.mk (show Kd.V k27 27 _ w.heap.size _ _ ((Zh t187 J0).f7) from Kd.Wj ul190_9 ge190_9)
        clear hva_ hvn_ hvc_ ge190_9 ul190_9
        clear hcc190 hce190
        have HR190_9 := Zd.mk hi190_9
        have HC190_9 := Zd.mk hl190_9
        clear hi190_9 hl190_9
        replace p190 := eq_true p190
        replace q190 := eq_true q190
        go_wp2_with (first | ((with_reducible refine Xd (N := 7) rfl ?_); refine Xe ?hg (N := 7) ?hd (cs := #[.int .i64 0, .int .i64 0, .bool false, .int .i64 0, .int .u64 0, .int .u64 0, .int .i64 0, .bool false, .int .i64 0, .slice none 0 0]) (t := 27) ?hr ?_; (case hd => rfl); (case hg => rfl); (case hr => first | (go_simp; done) | (go_simp; rfl)); intro J1 hg w16 hbox hb; have n0_ := Zd.mk (Kd.Kr (Kd.N_elderB HO_5.out J1 (Nat.le_of_eq hg.symm)) hb); have n1_ := Zd.mk (Kd.Kr (Kd.N_elderB HO_14.out J1 (Nat.le_of_eq hg.symm)) hb); have n2_ := Zd.mk (Kd.Xl (Kd.Xx HO_186010.out J1 (Nat.le_of_eq hg.symm)) hb); have n3_ := Zd.mk (Kd.Xl (Kd.Xx HO_186013.out J1 (Nat.le_of_eq hg.symm)) hb); have n4_ := Zd.mk (Kd.Xl (Kd.Xx HL190_9.out J1 (Nat.le_of_eq hg.symm)) hb); have n5_ := Zd.mk (Zp J2.out hb); have n6_ := Zd.mk (Kd.Zw (by repeat (first | (with_reducible exact HR190_9.out) | (with_reducible refine Kd.C_alloc ?_ _) | (with_reducible refine Kd.C_drewN ?_ _) | (with_reducible refine Kd.C_drew ?_) | exact HR190_9.out)) hb); have n7_ := Zd.mk (Zj HB.out hb); have n8_ := Zd.mk (hbox); have n9_ := Zd.mk ((by rw [hg]; exact (Zl HB.out) : w.heap.size ≤ J1)); have n10_ := n9_; have n11_ := Zd.mk ((by rw [hg]; exact Nat.ne_of_lt (Kv J2.out) : J4 ≠ J1)); have n12_ := Zd.mk ((by rw [hg]; exact Nat.ne_of_gt (Kv J2.out) : J1 ≠ J4)); clear HO_5; clear HO_14; clear HO_186010; clear HO_186013; clear HL190_9; clear J2; clear HR190_9; clear HB; have HO_5 := n0_; have HO_14 := n1_; have HO_186010 := n2_; have HO_186013 := n3_; have HL190_9 := n4_; have J2 := n5_; have HR190_9 := n6_; have HB := n7_; have Jp := n8_; have GW191 := n9_; have GE191 := n10_; have NB185_191 := n11_; have NB191_185 := n12_; clear n0_ n1_ n2_ n3_ n4_ n5_ n6_ n7_ n8_ n9_ n10_ n11_ n12_; clear hb hbox hg; have hnb17 := NB191_185.out; have hnc17 := NB185_191.out; have hcz18_0 : w16.cell? ⟨J1, 0, none⟩ = some (.int .i64 0) := (Za Jp.out 0).trans rfl; have hcz18_1 : w16.cell? ⟨J1, 1, none⟩ = some (.int .i64 0) := (Za Jp.out 1).trans rfl; have hcz18_2 : w16.cell? ⟨J1, 2, none⟩ = some (.bool false) := (Za Jp.out 2).trans rfl; have hcz18_3 : w16.cell? ⟨J1, 3, none⟩ = some (.int .i64 0) := (Za Jp.out 3).trans rfl; have hcz18_4 : w16.cell? ⟨J1, 4, none⟩ = some (.int .u64 0) := (Za Jp.out 4).trans rfl; have hcz18_5 : w16.cell? ⟨J1, 5, none⟩ = some (.int .u64 0) := (Za Jp.out 5).trans rfl; have hcz18_6 : w16.cell? ⟨J1, 6, none⟩ = some (.int .i64 0) := (Za Jp.out 6).trans rfl; have hcz18_7 : w16.cell? ⟨J1, 7, none⟩ = some (.bool false) := (Za Jp.out 7).trans rfl; have hcz18_8 : w16.cell? ⟨J1, 8, none⟩ = some (.int .i64 0) := (Za Jp.out 8).trans rfl; have hcz18_9 : w16.cell? ⟨J1, 9, none⟩ = some (.slice none 0 0) := (Za Jp.out 9).trans rfl; have hfz18_0 := Zb Jp.out 0; have hfz18_1 := Zb Jp.out 1; have hfz18_2 := Zb Jp.out 2; have hfz18_3 := Zb Jp.out 3; have hfz18_4 := Zb Jp.out 4; have hfz18_5 := Zb Jp.out 5; have hfz18_6 := Zb Jp.out 6; have hfz18_7 := Zb Jp.out 7; have hfz18_8 := Zb Jp.out 8; have hfz18_9 := Zb Jp.out 9) | ((with_reducible refine Zx (f := 19) rfl ?_); refine Xz (some 22) rfl rfl Try.func19 (by kernel_rfl) rfl #[.agg #[.int .i64 ((Zh t187 J0).f0), .int .i64 ((Zh t187 J0).f1), .bool ((Zh t187 J0).f2), .int .i64 ((Zh t187 J0).f3.f0), .int .u64 ((Zh t187 J0).f3.f1), .int .u64 ((Zh t187 J0).f3.f2), .int .i64 ((Zh t187 J0).f4), .bool ((Zh t187 J0).f5), .int .i64 ((Zh t187 J0).f6), .slice A190_9 ((Zh t187 J0).f7).length c190_9]] rfl (by (try simp only [List.map_toArray, List.map_cons, List.map_nil]); first | done | rfl | (simp only [List.length_drop, List.length_take]; rfl)) ?_; (with_reducible refine (Xg.calls k1 ((Zh t187 J0).f0) ((Zh t187 J0).f1) ((Zh t187 J0).f2) ((Zh t187 J0).f3.f0) ((Zh t187 J0).f3.f1) ((Zh t187 J0).f3.f2) ((Zh t187 J0).f4) ((Zh t187 J0).f5) ((Zh t187 J0).f6) _ _ ((Zh t187 J0).f7) t192 t193 t194 t195 t196 t197 t198 t199 t200 t201 _ ?side1 ?side2 A14.out).mono ?_); (case side1 => repeat (first | exact ((Kd.Xw (by (with_reducible repeat (first | apply Kd.V_alloc | apply Kd.V_drewN | apply Kd.Xp)); exact (Kd.Xa (Kd.Zi (p := ⟨J1, 9, none⟩) (Kd.Zi (p := ⟨J1, 8, none⟩) (Kd.Zi (p := ⟨J1, 7, none⟩) (Kd.Zi (p := ⟨J1, 6, none⟩) (Kd.Zi (p := ⟨J1, 5, none⟩) (Kd.Zi (p := ⟨J1, 4, none⟩) (Kd.Zi (p := ⟨J1, 3, none⟩) (Kd.Zi (p := ⟨J1, 2, none⟩) (Kd.Zi (p := ⟨J1, 1, none⟩) (Kd.Zi (p := ⟨J1, 0, none⟩) (Kd.Xa HL190_9.out (fun k_ hk => (⟨hk, hk.2⟩ : _ ∧ k_ ≠ J1))) (fun _ hk => hk.2) (.int .i64 ((Zh t187 J0).f0))) (fun _ hk => hk.2) (.int .i64 ((Zh t187 J0).f1))) (fun _ hk => hk.2) (.bool ((Zh t187 J0).f2))) (fun _ hk => hk.2) (.int .i64 ((Zh t187 J0).f3.f0))) (fun _ hk => hk.2) (.int .u64 ((Zh t187 J0).f3.f1))) (fun _ hk => hk.2) (.int .u64 ((Zh t187 J0).f3.f2))) (fun _ hk => hk.2) (.int .i64 ((Zh t187 J0).f4))) (fun _ hk => hk.2) (.bool ((Zh t187 J0).f5))) (fun _ hk => hk.2) (.int .i64 ((Zh t187 J0).f6))) (fun _ hk => hk.2) (.slice A190_9 ((Zh t187 J0).f7).length c190_9)) (fun _ h_ => h_.1)))).2.2) | (with_reducible refine Kd.C_alloc ?_ _) | (with_reducible refine Kd.C_drewN ?_ _) | (with_reducible refine Kd.C_drew ?_))); (case side2 => exact HC190_9.out); rintro e w19 ⟨v202, rfl, ho0, hb⟩; refine ⟨_, rfl, ?_⟩; have n0_ := Zd.mk (Kd.Qs (by (with_reducible repeat (first | apply Kd.N_alloc | apply Kd.N_drewN | apply Kd.Vg)); exact (Kd.Xq (Kd.Xn (p := ⟨J1, 9, none⟩) (Kd.Xn (p := ⟨J1, 8, none⟩) (Kd.Xn (p := ⟨J1, 7, none⟩) (Kd.Xn (p := ⟨J1, 6, none⟩) (Kd.Xn (p := ⟨J1, 5, none⟩) (Kd.Xn (p := ⟨J1, 4, none⟩) (Kd.Xn (p := ⟨J1, 3, none⟩) (Kd.Xn (p := ⟨J1, 2, none⟩) (Kd.Xn (p := ⟨J1, 1, none⟩) (Kd.Xn (p := ⟨J1, 0, none⟩) (Kd.Xq HO_5.out (fun k_ hk => (⟨hk, hk.2⟩ : _ ∧ k_ ≠ J1))) (fun _ hk => hk.2) (.int .i64 ((Zh t187 J0).f0))) (fun _ hk => hk.2) (.int .i64 ((Zh t187 J0).f1))) (fun _ hk => hk.2) (.bool ((Zh t187 J0).f2))) (fun _ hk => hk.2) (.int .i64 ((Zh t187 J0).f3.f0))) (fun _ hk => hk.2) (.int .u64 ((Zh t187 J0).f3.f1))) (fun _ hk => hk.2) (.int .u64 ((Zh t187 J0).f3.f2))) (fun _ hk => hk.2) (.int .i64 ((Zh t187 J0).f4))) (fun _ hk => hk.2) (.bool ((Zh t187 J0).f5))) (fun _ hk => hk.2) (.int .i64 ((Zh t187 J0).f6))) (fun _ hk => hk.2) (.slice A190_9 ((Zh t187 J0).f7).length c190_9)) (fun _ h_ => h_.1))) (Kd.Ko ho0) hb); have n1_ := Zd.mk (Kd.Qs (by (with_reducible repeat (first | apply Kd.N_alloc | apply Kd.N_drewN | apply Kd.Vg)); exact (Kd.Xq (Kd.Xn (p := ⟨J1, 9, none⟩) (Kd.Xn (p := ⟨J1, 8, none⟩) (Kd.Xn (p := ⟨J1, 7, none⟩) (Kd.Xn (p := ⟨J1, 6, none⟩) (Kd.Xn (p := ⟨J1, 5, none⟩) (Kd.Xn (p := ⟨J1, 4, none⟩) (Kd.Xn (p := ⟨J1, 3, none⟩) (Kd.Xn (p := ⟨J1, 2, none⟩) (Kd.Xn (p := ⟨J1, 1, none⟩) (Kd.Xn (p := ⟨J1, 0, none⟩) (Kd.Xq HO_14.out (fun k_ hk => (⟨hk, hk.2⟩ : _ ∧ k_ ≠ J1))) (fun _ hk => hk.2) (.int .i64 ((Zh t187 J0).f0))) (fun _ hk => hk.2) (.int .i64 ((Zh t187 J0).f1))) (fun _ hk => hk.2) (.bool ((Zh t187 J0).f2))) (fun _ hk => hk.2) (.int .i64 ((Zh t187 J0).f3.f0))) (fun _ hk => hk.2) (.int .u64 ((Zh t187 J0).f3.f1))) (fun _ hk => hk.2) (.int .u64 ((Zh t187 J0).f3.f2))) (fun _ hk => hk.2) (.int .i64 ((Zh t187 J0).f4))) (fun _ hk => hk.2) (.bool ((Zh t187 J0).f5))) (fun _ hk => hk.2) (.int .i64 ((Zh t187 J0).f6))) (fun _ hk => hk.2) (.slice A190_9 ((Zh t187 J0).f7).length c190_9)) (fun _ h_ => h_.1))) (Kd.Ko ho0) hb); have n2_ := Zd.mk (Kd.Qy (by (with_reducible repeat (first | apply Kd.V_alloc | apply Kd.V_drewN | apply Kd.Xp)); exact (Kd.Xa (Kd.Zi (p := ⟨J1, 9, none⟩) (Kd.Zi (p := ⟨J1, 8, none⟩) (Kd.Zi (p := ⟨J1, 7, none⟩) (Kd.Zi (p := ⟨J1, 6, none⟩) (Kd.Zi (p := ⟨J1, 5, none⟩) (Kd.Zi (p := ⟨J1, 4, none⟩) (Kd.Zi (p := ⟨J1, 3, none⟩) (Kd.Zi (p := ⟨J1, 2, none⟩) (Kd.Zi (p := ⟨J1, 1, none⟩) (Kd.Zi (p := ⟨J1, 0, none⟩) (Kd.Xa HO_186010.out (fun k_ hk => (⟨hk, hk.2⟩ : _ ∧ k_ ≠ J1))) (fun _ hk => hk.2) (.int .i64 ((Zh t187 J0).f0))) (fun _ hk => hk.2) (.int .i64 ((Zh t187 J0).f1))) (fun _ hk => hk.2) (.bool ((Zh t187 J0).f2))) (fun _ hk => hk.2) (.int .i64 ((Zh t187 J0).f3.f0))) (fun _ hk => hk.2) (.int .u64 ((Zh t187 J0).f3.f1))) (fun _ hk => hk.2) (.int .u64 ((Zh t187 J0).f3.f2))) (fun _ hk => hk.2) (.int .i64 ((Zh t187 J0).f4))) (fun _ hk => hk.2) (.bool ((Zh t187 J0).f5))) (fun _ hk => hk.2) (.int .i64 ((Zh t187 J0).f6))) (fun _ hk => hk.2) (.slice A190_9 ((Zh t187 J0).f7).length c190_9)) (fun _ h_ => h_.1))) (Kd.Ko ho0) hb); have n3_ := Zd.mk (Kd.Qy (by (with_reducible repeat (first | apply Kd.V_alloc | apply Kd.V_drewN | apply Kd.Xp)); exact (Kd.Xa (Kd.Zi (p := ⟨J1, 9, none⟩) (Kd.Zi (p := ⟨J1, 8, none⟩) (Kd.Zi (p := ⟨J1, 7, none⟩) (Kd.Zi (p := ⟨J1, 6, none⟩) (Kd.Zi (p := ⟨J1, 5, none⟩) (Kd.Zi (p := ⟨J1, 4, none⟩) (Kd.Zi (p := ⟨J1, 3, none⟩) (Kd.Zi (p := ⟨J1, 2, none⟩) (Kd.Zi (p := ⟨J1, 1, none⟩) (Kd.Zi (p := ⟨J1, 0, none⟩) (Kd.Xa HO_186013.out (fun k_ hk => (⟨hk, hk.2⟩ : _ ∧ k_ ≠ J1))) (fun _ hk => hk.2) (.int .i64 ((Zh t187 J0).f0))) (fun _ hk => hk.2) (.int .i64 ((Zh t187 J0).f1))) (fun _ hk => hk.2) (.bool ((Zh t187 J0).f2))) (fun _ hk => hk.2) (.int .i64 ((Zh t187 J0).f3.f0))) (fun _ hk => hk.2) (.int .u64 ((Zh t187 J0).f3.f1))) (fun _ hk => hk.2) (.int .u64 ((Zh t187 J0).f3.f2))) (fun _ hk => hk.2) (.int .i64 ((Zh t187 J0).f4))) (fun _ hk => hk.2) (.bool ((Zh t187 J0).f5))) (fun _ hk => hk.2) (.int .i64 ((Zh t187 J0).f6))) (fun _ hk => hk.2) (.slice A190_9 ((Zh t187 J0).f7).length c190_9)) (fun _ h_ => h_.1))) (Kd.Ko ho0) hb); have n4_ := Zd.mk (Kd.Qy (by (with_reducible repeat (first | apply Kd.V_alloc | apply Kd.V_drewN | apply Kd.Xp)); exact (Kd.Xa (Kd.Zi (p := ⟨J1, 9, none⟩) (Kd.Zi (p := ⟨J1, 8, none⟩) (Kd.Zi (p := ⟨J1, 7, none⟩) (Kd.Zi (p := ⟨J1, 6, none⟩) (Kd.Zi (p := ⟨J1, 5, none⟩) (Kd.Zi (p := ⟨J1, 4, none⟩) (Kd.Zi (p := ⟨J1, 3, none⟩) (Kd.Zi (p := ⟨J1, 2, none⟩) (Kd.Zi (p := ⟨J1, 1, none⟩) (Kd.Zi (p := ⟨J1, 0, none⟩) (Kd.Xa HL190_9.out (fun k_ hk => (⟨hk, hk.2⟩ : _ ∧ k_ ≠ J1))) (fun _ hk => hk.2) (.int .i64 ((Zh t187 J0).f0))) (fun _ hk => hk.2) (.int .i64 ((Zh t187 J0).f1))) (fun _ hk => hk.2) (.bool ((Zh t187 J0).f2))) (fun _ hk => hk.2) (.int .i64 ((Zh t187 J0).f3.f0))) (fun _ hk => hk.2) (.int .u64 ((Zh t187 J0).f3.f1))) (fun _ hk => hk.2) (.int .u64 ((Zh t187 J0).f3.f2))) (fun _ hk => hk.2) (.int .i64 ((Zh t187 J0).f4))) (fun _ hk => hk.2) (.bool ((Zh t187 J0).f5))) (fun _ hk => hk.2) (.int .i64 ((Zh t187 J0).f6))) (fun _ hk => hk.2) (.slice A190_9 ((Zh t187 J0).f7).length c190_9)) (fun _ h_ => h_.1))) (Kd.Ko ho0) hb); have n5_ := Zd.mk (Kd.Vb (Kd.Xq (ok' := fun k_ => ((P0_10_ k_ ∨ P0_13_ k_) ∨ w.heap.size ≤ k_) ∧ some k_ ≠ (u5 : Value).ownBlock ∧ some k_ ≠ (.slice (some ad190) t187.length co10 : Value).ownBlock ∧ k_ ≠ J4 ∧ k_ ≠ J1) (Kd.R_N (Kd.Jk ho0)) (fun k_ hk_ => ⟨(.inr (Nat.le_trans (Zl (by repeat (first | (with_reducible first | exact HB.out | apply Xm | apply Xi | apply Xj | refine Xc ?_ GE185.out | refine Xc ?_ GE191.out) | exact HB.out))) hk_.2.1)), (Kd.Vu (Kd.N_lt (by (with_reducible repeat (first | apply Kd.N_alloc | apply Kd.N_drewN | apply Kd.Vg)); exact (Kd.Xq (Kd.Xn (p := ⟨J1, 9, none⟩) (Kd.Xn (p := ⟨J1, 8, none⟩) (Kd.Xn (p := ⟨J1, 7, none⟩) (Kd.Xn (p := ⟨J1, 6, none⟩) (Kd.Xn (p := ⟨J1, 5, none⟩) (Kd.Xn (p := ⟨J1, 4, none⟩) (Kd.Xn (p := ⟨J1, 3, none⟩) (Kd.Xn (p := ⟨J1, 2, none⟩) (Kd.Xn (p := ⟨J1, 1, none⟩) (Kd.Xn (p := ⟨J1, 0, none⟩) (Kd.Xq HO_5.out (fun k_ hk => (⟨hk, hk.2⟩ : _ ∧ k_ ≠ J1))) (fun _ hk => hk.2) (.int .i64 ((Zh t187 J0).f0))) (fun _ hk => hk.2) (.int .i64 ((Zh t187 J0).f1))) (fun _ hk => hk.2) (.bool ((Zh t187 J0).f2))) (fun _ hk => hk.2) (.int .i64 ((Zh t187 J0).f3.f0))) (fun _ hk => hk.2) (.int .u64 ((Zh t187 J0).f3.f1))) (fun _ hk => hk.2) (.int .u64 ((Zh t187 J0).f3.f2))) (fun _ hk => hk.2) (.int .i64 ((Zh t187 J0).f4))) (fun _ hk => hk.2) (.bool ((Zh t187 J0).f5))) (fun _ hk => hk.2) (.int .i64 ((Zh t187 J0).f6))) (fun _ hk => hk.2) (.slice A190_9 ((Zh t187 J0).f7).length c190_9)) (fun _ h_ => h_.1)))) k_ hk_.2.1), (Kd.Vu (Kd.N_lt (by (with_reducible repeat (first | apply Kd.N_alloc | apply Kd.N_drewN | apply Kd.Vg)); exact (Kd.Xq (Kd.Xn (p := ⟨J1, 9, none⟩) (Kd.Xn (p := ⟨J1, 8, none⟩) (Kd.Xn (p := ⟨J1, 7, none⟩) (Kd.Xn (p := ⟨J1, 6, none⟩) (Kd.Xn (p := ⟨J1, 5, none⟩) (Kd.Xn (p := ⟨J1, 4, none⟩) (Kd.Xn (p := ⟨J1, 3, none⟩) (Kd.Xn (p := ⟨J1, 2, none⟩) (Kd.Xn (p := ⟨J1, 1, none⟩) (Kd.Xn (p := ⟨J1, 0, none⟩) (Kd.Xq HO_14.out (fun k_ hk => (⟨hk, hk.2⟩ : _ ∧ k_ ≠ J1))) (fun _ hk => hk.2) (.int .i64 ((Zh t187 J0).f0))) (fun _ hk => hk.2) (.int .i64 ((Zh t187 J0).f1))) (fun _ hk => hk.2) (.bool ((Zh t187 J0).f2))) (fun _ hk => hk.2) (.int .i64 ((Zh t187 J0).f3.f0))) (fun _ hk => hk.2) (.int .u64 ((Zh t187 J0).f3.f1))) (fun _ hk => hk.2) (.int .u64 ((Zh t187 J0).f3.f2))) (fun _ hk => hk.2) (.int .i64 ((Zh t187 J0).f4))) (fun _ hk => hk.2) (.bool ((Zh t187 J0).f5))) (fun _ hk => hk.2) (.int .i64 ((Zh t187 J0).f6))) (fun _ hk => hk.2) (.slice A190_9 ((Zh t187 J0).f7).length c190_9)) (fun _ h_ => h_.1)))) k_ hk_.2.1), (Kd.Kw (g := J4) (o := .cells #[.int .i64 Jo, .int .i64 Jj, .int .i64 Ji, .bool Jh, .int .i64 Jg, .int .u64 Jf, .int .u64 Je, .int .i64 Jd, .bool Jc, .int .i64 Jb, .slice A0_10 J6.length c0_10, .int .i64 J8, .int .i64 J7, .slice A0_13 J5.length c0_13] 30 (0, 0)) (by (with_reducible repeat (first | refine Zf ?_ _ | refine Zg ?_ | refine Ze ?_ _)); refine Zm ?_ NB185_191.out _; (with_reducible repeat (first | refine Zf ?_ _ | refine Zg ?_ | refine Ze ?_ _)); refine Zm ?_ NB185_191.out _; (with_reducible repeat (first | refine Zf ?_ _ | refine Zg ?_ | refine Ze ?_ _)); refine Zm ?_ NB185_191.out _; (with_reducible repeat (first | refine Zf ?_ _ | refine Zg ?_ | refine Ze ?_ _)); refine Zm ?_ NB185_191.out _; (with_reducible repeat (first | refine Zf ?_ _ | refine Zg ?_ | refine Ze ?_ _)); refine Zm ?_ NB185_191.out _; (with_reducible repeat (first | refine Zf ?_ _ | refine Zg ?_ | refine Ze ?_ _)); refine Zm ?_ NB185_191.out _; (with_reducible repeat (first | refine Zf ?_ _ | refine Zg ?_ | refine Ze ?_ _)); refine Zm ?_ NB185_191.out _; (with_reducible repeat (first | refine Zf ?_ _ | refine Zg ?_ | refine Ze ?_ _)); refine Zm ?_ NB185_191.out _; (with_reducible repeat (first | refine Zf ?_ _ | refine Zg ?_ | refine Ze ?_ _)); refine Zm ?_ NB185_191.out _; (with_reducible repeat (first | refine Zf ?_ _ | refine Zg ?_ | refine Ze ?_ _)); refine Zm ?_ NB185_191.out _; (with_reducible repeat (first | refine Zf ?_ _ | refine Zg ?_ | refine Ze ?_ _)); exact J2.out) k_ hk_.2.1), (Kd.Kw (g := J1) (o := .cells #[.int .i64 ((Zh t187 J0).f0), .int .i64 ((Zh t187 J0).f1), .bool ((Zh t187 J0).f2), .int .i64 ((Zh t187 J0).f3.f0), .int .u64 ((Zh t187 J0).f3.f1), .int .u64 ((Zh t187 J0).f3.f2), .int .i64 ((Zh t187 J0).f4), .bool ((Zh t187 J0).f5), .int .i64 ((Zh t187 J0).f6), .slice A190_9 ((Zh t187 J0).f7).length c190_9] 27 (0, 0)) (by (with_reducible repeat (first | refine Zf ?_ _ | refine Zg ?_ | refine Ze ?_ _)); refine Zk (cs := #[.int .i64 ((Zh t187 J0).f0), .int .i64 ((Zh t187 J0).f1), .bool ((Zh t187 J0).f2), .int .i64 ((Zh t187 J0).f3.f0), .int .u64 ((Zh t187 J0).f3.f1), .int .u64 ((Zh t187 J0).f3.f2), .int .i64 ((Zh t187 J0).f4), .bool ((Zh t187 J0).f5), .int .i64 ((Zh t187 J0).f6), .slice none 0 0]) ?_ 9 _ rfl; (with_reducible repeat (first | refine Zf ?_ _ | refine Zg ?_ | refine Ze ?_ _)); refine Zk (cs := #[.int .i64 ((Zh t187 J0).f0), .int .i64 ((Zh t187 J0).f1), .bool ((Zh t187 J0).f2), .int .i64 ((Zh t187 J0).f3.f0), .int .u64 ((Zh t187 J0).f3.f1), .int .u64 ((Zh t187 J0).f3.f2), .int .i64 ((Zh t187 J0).f4), .bool ((Zh t187 J0).f5), .int .i64 0, .slice none 0 0]) ?_ 8 _ rfl; (with_reducible repeat (first | refine Zf ?_ _ | refine Zg ?_ | refine Ze ?_ _)); refine Zk (cs := #[.int .i64 ((Zh t187 J0).f0), .int .i64 ((Zh t187 J0).f1), .bool ((Zh t187 J0).f2), .int .i64 ((Zh t187 J0).f3.f0), .int .u64 ((Zh t187 J0).f3.f1), .int .u64 ((Zh t187 J0).f3.f2), .int .i64 ((Zh t187 J0).f4), .bool false, .int .i64 0, .slice none 0 0]) ?_ 7 _ rfl; (with_reducible repeat (first | refine Zf ?_ _ | refine Zg ?_ | refine Ze ?_ _)); refine Zk (cs := #[.int .i64 ((Zh t187 J0).f0), .int .i64 ((Zh t187 J0).f1), .bool ((Zh t187 J0).f2), .int .i64 ((Zh t187 J0).f3.f0), .int .u64 ((Zh t187 J0).f3.f1), .int .u64 ((Zh t187 J0).f3.f2), .int .i64 0, .bool false, .int .i64 0, .slice none 0 0]) ?_ 6 _ rfl; (with_reducible repeat (first | refine Zf ?_ _ | refine Zg ?_ | refine Ze ?_ _)); refine Zk (cs := #[.int .i64 ((Zh t187 J0).f0), .int .i64 ((Zh t187 J0).f1), .bool ((Zh t187 J0).f2), .int .i64 ((Zh t187 J0).f3.f0), .int .u64 ((Zh t187 J0).f3.f1), .int .u64 0, .int .i64 0, .bool false, .int .i64 0, .slice none 0 0]) ?_ 5 _ rfl; (with_reducible repeat (first | refine Zf ?_ _ | refine Zg ?_ | refine Ze ?_ _)); refine Zk (cs := #[.int .i64 ((Zh t187 J0).f0), .int .i64 ((Zh t187 J0).f1), .bool ((Zh t187 J0).f2), .int .i64 ((Zh t187 J0).f3.f0), .int .u64 0, .int .u64 0, .int .i64 0, .bool false, .int .i64 0, .slice none 0 0]) ?_ 4 _ rfl; (with_reducible repeat (first | refine Zf ?_ _ | refine Zg ?_ | refine Ze ?_ _)); refine Zk (cs := #[.int .i64 ((Zh t187 J0).f0), .int .i64 ((Zh t187 J0).f1), .bool ((Zh t187 J0).f2), .int .i64 0, .int .u64 0, .int .u64 0, .int .i64 0, .bool false, .int .i64 0, .slice none 0 0]) ?_ 3 _ rfl; (with_reducible repeat (first | refine Zf ?_ _ | refine Zg ?_ | refine Ze ?_ _)); refine Zk (cs := #[.int .i64 ((Zh t187 J0).f0), .int .i64 ((Zh t187 J0).f1), .bool false, .int .i64 0, .int .u64 0, .int .u64 0, .int .i64 0, .bool false, .int .i64 0, .slice none 0 0]) ?_ 2 _ rfl; (with_reducible repeat (first | refine Zf ?_ _ | refine Zg ?_ | refine Ze ?_ _)); refine Zk (cs := #[.int .i64 ((Zh t187 J0).f0), .int .i64 0, .bool false, .int .i64 0, .int .u64 0, .int .u64 0, .int .i64 0, .bool false, .int .i64 0, .slice none 0 0]) ?_ 1 _ rfl; (with_reducible repeat (first | refine Zf ?_ _ | refine Zg ?_ | refine Ze ?_ _)); refine Zk (cs := #[.int .i64 0, .int .i64 0, .bool false, .int .i64 0, .int .u64 0, .int .u64 0, .int .i64 0, .bool false, .int .i64 0, .slice none 0 0]) ?_ 0 _ rfl; (with_reducible repeat (first | refine Zf ?_ _ | refine Zg ?_ | refine Ze ?_ _)); exact Jp.out) k_ hk_.2.1)⟩)) (Zl (by repeat (first | (with_reducible first | exact HB.out | apply Xm | apply Xi | apply Xj | refine Xc ?_ GE185.out | refine Xc ?_ GE191.out) | exact HB.out)))); have n6_ := Zd.mk (Zp (g := J4) (o := .cells #[.int .i64 Jo, .int .i64 Jj, .int .i64 Ji, .bool Jh, .int .i64 Jg, .int .u64 Jf, .int .u64 Je, .int .i64 Jd, .bool Jc, .int .i64 Jb, .slice A0_10 J6.length c0_10, .int .i64 J8, .int .i64 J7, .slice A0_13 J5.length c0_13] 30 (0, 0)) (by (with_reducible repeat (first | refine Zf ?_ _ | refine Zg ?_ | refine Ze ?_ _)); refine Zm ?_ NB185_191.out _; (with_reducible repeat (first | refine Zf ?_ _ | refine Zg ?_ | refine Ze ?_ _)); refine Zm ?_ NB185_191.out _; (with_reducible repeat (first | refine Zf ?_ _ | refine Zg ?_ | refine Ze ?_ _)); refine Zm ?_ NB185_191.out _; (with_reducible repeat (first | refine Zf ?_ _ | refine Zg ?_ | refine Ze ?_ _)); refine Zm ?_ NB185_191.out _; (with_reducible repeat (first | refine Zf ?_ _ | refine Zg ?_ | refine Ze ?_ _)); refine Zm ?_ NB185_191.out _; (with_reducible repeat (first | refine Zf ?_ _ | refine Zg ?_ | refine Ze ?_ _)); refine Zm ?_ NB185_191.out _; (with_reducible repeat (first | refine Zf ?_ _ | refine Zg ?_ | refine Ze ?_ _)); refine Zm ?_ NB185_191.out _; (with_reducible repeat (first | refine Zf ?_ _ | refine Zg ?_ | refine Ze ?_ _)); refine Zm ?_ NB185_191.out _; (with_reducible repeat (first | refine Zf ?_ _ | refine Zg ?_ | refine Ze ?_ _)); refine Zm ?_ NB185_191.out _; (with_reducible repeat (first | refine Zf ?_ _ | refine Zg ?_ | refine Ze ?_ _)); refine Zm ?_ NB185_191.out _; (with_reducible repeat (first | refine Zf ?_ _ | refine Zg ?_ | refine Ze ?_ _)); exact J2.out) hb); have n7_ := Zd.mk (Kd.Zw ((Kd.Xw (by (with_reducible repeat (first | apply Kd.V_alloc | apply Kd.V_drewN | apply Kd.Xp)); exact (Kd.Xa (Kd.Zi (p := ⟨J1, 9, none⟩) (Kd.Zi (p := ⟨J1, 8, none⟩) (Kd.Zi (p := ⟨J1, 7, none⟩) (Kd.Zi (p := ⟨J1, 6, none⟩) (Kd.Zi (p := ⟨J1, 5, none⟩) (Kd.Zi (p := ⟨J1, 4, none⟩) (Kd.Zi (p := ⟨J1, 3, none⟩) (Kd.Zi (p := ⟨J1, 2, none⟩) (Kd.Zi (p := ⟨J1, 1, none⟩) (Kd.Zi (p := ⟨J1, 0, none⟩) (Kd.Xa HL190_9.out (fun k_ hk => (⟨hk, hk.2⟩ : _ ∧ k_ ≠ J1))) (fun _ hk => hk.2) (.int .i64 ((Zh t187 J0).f0))) (fun _ hk => hk.2) (.int .i64 ((Zh t187 J0).f1))) (fun _ hk => hk.2) (.bool ((Zh t187 J0).f2))) (fun _ hk => hk.2) (.int .i64 ((Zh t187 J0).f3.f0))) (fun _ hk => hk.2) (.int .u64 ((Zh t187 J0).f3.f1))) (fun _ hk => hk.2) (.int .u64 ((Zh t187 J0).f3.f2))) (fun _ hk => hk.2) (.int .i64 ((Zh t187 J0).f4))) (fun _ hk => hk.2) (.bool ((Zh t187 J0).f5))) (fun _ hk => hk.2) (.int .i64 ((Zh t187 J0).f6))) (fun _ hk => hk.2) (.slice A190_9 ((Zh t187 J0).f7).length c190_9)) (fun _ h_ => h_.1)))).2.2) hb); have n8_ := Zd.mk (Zp (g := J1) (o := .cells #[.int .i64 ((Zh t187 J0).f0), .int .i64 ((Zh t187 J0).f1), .bool ((Zh t187 J0).f2), .int .i64 ((Zh t187 J0).f3.f0), .int .u64 ((Zh t187 J0).f3.f1), .int .u64 ((Zh t187 J0).f3.f2), .int .i64 ((Zh t187 J0).f4), .bool ((Zh t187 J0).f5), .int .i64 ((Zh t187 J0).f6), .slice A190_9 ((Zh t187 J0).f7).length c190_9] 27 (0, 0)) (by (with_reducible repeat (first | refine Zf ?_ _ | refine Zg ?_ | refine Ze ?_ _)); refine Zk (cs := #[.int .i64 ((Zh t187 J0).f0), .int .i64 ((Zh t187 J0).f1), .bool ((Zh t187 J0).f2), .int .i64 ((Zh t187 J0).f3.f0), .int .u64 ((Zh t187 J0).f3.f1), .int .u64 ((Zh t187 J0).f3.f2), .int .i64 ((Zh t187 J0).f4), .bool ((Zh t187 J0).f5), .int .i64 ((Zh t187 J0).f6), .slice none 0 0]) ?_ 9 _ rfl; (with_reducible repeat (first | refine Zf ?_ _ | refine Zg ?_ | refine Ze ?_ _)); refine Zk (cs := #[.int .i64 ((Zh t187 J0).f0), .int .i64 ((Zh t187 J0).f1), .bool ((Zh t187 J0).f2), .int .i64 ((Zh t187 J0).f3.f0), .int .u64 ((Zh t187 J0).f3.f1), .int .u64 ((Zh t187 J0).f3.f2), .int .i64 ((Zh t187 J0).f4), .bool ((Zh t187 J0).f5), .int .i64 0, .slice none 0 0]) ?_ 8 _ rfl; (with_reducible repeat (first | refine Zf ?_ _ | refine Zg ?_ | refine Ze ?_ _)); refine Zk (cs := #[.int .i64 ((Zh t187 J0).f0), .int .i64 ((Zh t187 J0).f1), .bool ((Zh t187 J0).f2), .int .i64 ((Zh t187 J0).f3.f0), .int .u64 ((Zh t187 J0).f3.f1), .int .u64 ((Zh t187 J0).f3.f2), .int .i64 ((Zh t187 J0).f4), .bool false, .int .i64 0, .slice none 0 0]) ?_ 7 _ rfl; (with_reducible repeat (first | refine Zf ?_ _ | refine Zg ?_ | refine Ze ?_ _)); refine Zk (cs := #[.int .i64 ((Zh t187 J0).f0), .int .i64 ((Zh t187 J0).f1), .bool ((Zh t187 J0).f2), .int .i64 ((Zh t187 J0).f3.f0), .int .u64 ((Zh t187 J0).f3.f1), .int .u64 ((Zh t187 J0).f3.f2), .int .i64 0, .bool false, .int .i64 0, .slice none 0 0]) ?_ 6 _ rfl; (with_reducible repeat (first | refine Zf ?_ _ | refine Zg ?_ | refine Ze ?_ _)); refine Zk (cs := #[.int .i64 ((Zh t187 J0).f0), .int .i64 ((Zh t187 J0).f1), .bool ((Zh t187 J0).f2), .int .i64 ((Zh t187 J0).f3.f0), .int .u64 ((Zh t187 J0).f3.f1), .int .u64 0, .int .i64 0, .bool false, .int .i64 0, .slice none 0 0]) ?_ 5 _ rfl; (with_reducible repeat (first | refine Zf ?_ _ | refine Zg ?_ | refine Ze ?_ _)); refine Zk (cs := #[.int .i64 ((Zh t187 J0).f0), .int .i64 ((Zh t187 J0).f1), .bool ((Zh t187 J0).f2), .int .i64 ((Zh t187 J0).f3.f0), .int .u64 0, .int .u64 0, .int .i64 0, .bool false, .int .i64 0, .slice none 0 0]) ?_ 4 _ rfl; (with_reducible repeat (first | refine Zf ?_ _ | refine Zg ?_ | refine Ze ?_ _)); refine Zk (cs := #[.int .i64 ((Zh t187 J0).f0), .int .i64 ((Zh t187 J0).f1), .bool ((Zh t187 J0).f2), .int .i64 0, .int .u64 0, .int .u64 0, .int .i64 0, .bool false, .int .i64 0, .slice none 0 0]) ?_ 3 _ rfl; (with_reducible repeat (first | refine Zf ?_ _ | refine Zg ?_ | refine Ze ?_ _)); refine Zk (cs := #[.int .i64 ((Zh t187 J0).f0), .int .i64 ((Zh t187 J0).f1), .bool false, .int .i64 0, .int .u64 0, .int .u64 0, .int .i64 0, .bool false, .int .i64 0, .slice none 0 0]) ?_ 2 _ rfl; (with_reducible repeat (first | refine Zf ?_ _ | refine Zg ?_ | refine Ze ?_ _)); refine Zk (cs := #[.int .i64 ((Zh t187 J0).f0), .int .i64 0, .bool false, .int .i64 0, .int .u64 0, .int .u64 0, .int .i64 0, .bool false, .int .i64 0, .slice none 0 0]) ?_ 1 _ rfl; (with_reducible repeat (first | refine Zf ?_ _ | refine Zg ?_ | refine Ze ?_ _)); refine Zk (cs := #[.int .i64 0, .int .i64 0, .bool false, .int .i64 0, .int .u64 0, .int .u64 0, .int .i64 0, .bool false, .int .i64 0, .slice none 0 0]) ?_ 0 _ rfl; (with_reducible repeat (first | refine Zf ?_ _ | refine Zg ?_ | refine Ze ?_ _)); exact Jp.out) hb); have n9_ := Zd.mk (Zj (by repeat (first | (with_reducible first | exact HB.out | apply Xm | apply Xi | apply Xj | refine Xc ?_ GE185.out | refine Xc ?_ GE191.out) | exact HB.out)) hb); clear HO_5; clear HO_14; clear HO_186010; clear HO_186013; clear HL190_9; clear J2; clear HR190_9; clear Jp; clear HB; have HO_5 := n0_; have HO_14 := n1_; have HO_186010 := n2_; have HO_186013 := n3_; have HL190_9 := n4_; have HO203 := n5_; have J2 := n6_; have HR190_9 := n7_; have Jp := n8_; have HB := n9_; clear n0_ n1_ n2_ n3_ n4_ n5_ n6_ n7_ n8_ n9_; (try clear hb); (try clear hb2); (try clear hk); (try clear hi); (try clear ho0); obtain ⟨Ao21, co21, eo21⟩ := Kd.Va HO203.out; subst eo21) | ((with_reducible refine gate_builtin (b := .append) (xs := #[.tmp 20, .tmp 23]) rfl ?_); at_builtin; refine Kd.N_append k27 (w0 := w) w.heap.size rfl (.tmp 20) (.tmp 23) 25 27 (.agg #[(.int .i64 0), (.int .i64 0), (.bool false), (.int .i64 0), (.int .u64 0), (.int .u64 0), (.int .i64 0), (.bool false), (.int .i64 0), (.slice none 0 0)]) 96 rfl Try.underlying25 info27 rfl (by decide) (by omega) u5 Jv (⟨t192, t193, t194, (⟨t195, t196, t197⟩ : S24), t198, t199, t200, t201⟩ : Qh) [.int .i64 t192, .int .i64 t193, .bool t194, .int .i64 t195, .int .u64 t196, .int .u64 t197, .int .i64 t198, .bool t199, .int .i64 t200, .slice Ao21 t201.length co21] (fun k_ => ((P0_10_ k_ ∨ P0_13_ k_) ∨ w.heap.size ≤ k_) ∧ some k_ ≠ (.slice (some ad190) t187.length co10 : Value).ownBlock ∧ k_ ≠ J4 ∧ k_ ≠ J1) (fun k_ => ((fun k_ => ((P0_10_ k_ ∨ P0_13_ k_) ∨ w.heap.size ≤ k_) ∧ some k_ ≠ (.slice (some ad190) t187.length co10 : Value).ownBlock ∧ k_ ≠ J4 ∧ k_ ≠ J1)) k_ ∧ some k_ ≠ (u5 : Value).ownBlock) rfl rfl ?aP (fun _ hk => hk) ?aF ?aO ?aB ?aS ?aL ?_; (case aP => exact (k27_mkF _ _ (⟨t192, t193, t194, (⟨t195, t196, t197⟩ : S24), t198, t199, t200, t201⟩ : Qh) (Kd.Qq (Kd.Xq (ok' := (fun k_ => ((fun k_ => ((P0_10_ k_ ∨ P0_13_ k_) ∨ w.heap.size ≤ k_) ∧ some k_ ≠ (.slice (some ad190) t187.length co10 : Value).ownBlock ∧ k_ ≠ J4 ∧ k_ ≠ J1)) k_ ∧ some k_ ≠ (u5 : Value).ownBlock)) HO203.out (fun k_ hk => ⟨⟨hk.1, ⟨hk.2.2.1, ⟨hk.2.2.2.1, hk.2.2.2.2⟩⟩⟩, hk.2.1⟩))).2.1 (Kd.N_F (Kd.Xq (ok' := (fun k_ => ((fun k_ => ((P0_10_ k_ ∨ P0_13_ k_) ∨ w.heap.size ≤ k_) ∧ some k_ ≠ (.slice (some ad190) t187.length co10 : Value).ownBlock ∧ k_ ≠ J4 ∧ k_ ≠ J1)) k_ ∧ some k_ ≠ (u5 : Value).ownBlock)) HO203.out (fun k_ hk => ⟨⟨hk.1, ⟨hk.2.2.1, ⟨hk.2.2.2.1, hk.2.2.2.2⟩⟩⟩, hk.2.1⟩))))); (case aB => exact HB.out); (case aF => exact (fun k_ hk => ⟨(.inr (Nat.le_trans (Zl HB.out) hk)), Kd.Vu (Kd.N_lt HO_14.out) k_ hk, Kd.Kw J2.out k_ hk, Kd.Kw Jp.out k_ hk⟩)); (case aO => exact (by (with_reducible repeat (first | apply Kd.N_alloc | apply Kd.N_drewN | apply Kd.Vg)); exact Kd.Xq HO_5.out (fun _ hk => ⟨hk.1.1.1, ⟨hk.1.1.2.1, ⟨hk.1.1.2.2, hk.1.2⟩⟩⟩))); (case aS => exact (Zl HB.out)); (case aL => have := LMc15.out; omega); intro v205 w20 ho hb hg hat; rw [← Ny204.out] at ho; have n0_ := Zd.mk (Kd.N_afterv (ok := (fun k_ => ((P0_10_ k_ ∨ P0_13_ k_) ∨ w.heap.size ≤ k_) ∧ some k_ ≠ (.slice Ao21 t201.length co21 : Value).ownBlock ∧ k_ ≠ J4 ∧ k_ ≠ J1)) (by (with_reducible repeat (first | apply Kd.N_alloc | apply Kd.N_drewN | apply Kd.Vg)); exact Kd.Xq HO_14.out (fun _ hk => ⟨⟨hk.1.1.1, ⟨hk.2, ⟨hk.1.1.2.2, hk.1.2⟩⟩⟩, hk.1.1.2.1⟩)) hg hat); have n1_ := Zd.mk (Kd.Vz (ok := (fun k_ => ((P0_10_ k_ ∨ P0_13_ k_) ∨ w.heap.size ≤ k_) ∧ some k_ ≠ (.slice (some ad190) t187.length co10 : Value).ownBlock ∧ some k_ ≠ (.slice Ao21 t201.length co21 : Value).ownBlock ∧ k_ ≠ J4 ∧ k_ ≠ J1)) (by (with_reducible repeat (first | apply Kd.V_alloc | apply Kd.V_drewN | apply Kd.Xp)); exact Kd.Xa HO_186010.out (fun _ hk => ⟨⟨hk.1.1.1, ⟨hk.1.1.2.2.1, ⟨hk.2, ⟨hk.1.1.2.2.2, hk.1.2⟩⟩⟩⟩, hk.1.1.2.1⟩)) hg hat); have n2_ := Zd.mk (Kd.Vz (ok := (fun k_ => ((P0_10_ k_ ∨ P0_13_ k_) ∨ w.heap.size ≤ k_) ∧ some k_ ≠ (.slice (some ad190) t187.length co10 : Value).ownBlock ∧ some k_ ≠ (.slice Ao21 t201.length co21 : Value).ownBlock ∧ k_ ≠ J4 ∧ k_ ≠ J1)) (by (with_reducible repeat (first | apply Kd.V_alloc | apply Kd.V_drewN | apply Kd.Xp)); exact Kd.Xa HO_186013.out (fun _ hk => ⟨⟨hk.1.1.1, ⟨hk.1.1.2.2.1, ⟨hk.2, ⟨hk.1.1.2.2.2, hk.1.2⟩⟩⟩⟩, hk.1.1.2.1⟩)) hg hat); have n3_ := Zd.mk (Ja J2.out hg (Kd.N_ne HO_5.out J2.out (by decide))); have n4_ := Zd.mk (Kd.Vz (ok := (fun k_ => ((P0_10_ k_ ∨ P0_13_ k_) ∨ w.heap.size ≤ k_) ∧ some k_ ≠ (.slice (some ad190) t187.length co10 : Value).ownBlock ∧ some k_ ≠ (.slice Ao21 t201.length co21 : Value).ownBlock ∧ k_ ≠ J4 ∧ k_ ≠ J1)) (by (with_reducible repeat (first | apply Kd.V_alloc | apply Kd.V_drewN | apply Kd.Xp)); exact Kd.Xa HL190_9.out (fun _ hk => ⟨⟨hk.1.1.1.1, ⟨hk.1.1.2, ⟨hk.2, ⟨hk.1.1.1.2.2, hk.1.2⟩⟩⟩⟩, hk.1.1.1.2.1⟩)) hg hat); have n5_ := Zd.mk (Ja Jp.out hg (Kd.N_away HO_5.out (fun _ hk => hk.1.2))); have n6_ := Zd.mk (hb); have n7_ := Zd.mk (ho); clear HO_14; clear HO_186010; clear HO_186013; clear J2; clear HL190_9; clear Jp; clear HB; clear HO_5; clear HO203; have HO_14 := n0_; have HO_186010 := n1_; have HO_186013 := n2_; have J2 := n3_; have HL190_9 := n4_; have Jp := n5_; have HB := n6_; have HO206 := n7_; clear n0_ n1_ n2_ n3_ n4_ n5_ n6_ n7_; clear ho hb hg hat))
        go_roundg k1
        case measure => have := HK1.out; omega
        case rel => exact ⟨(y204), (wrap64 (J0 + 1)), (by first | rfl | (simp; done) | (simp [*]; done)), H', ⟨by have := HK1.out; omega⟩, ⟨by (with_reducible repeat (first | apply Kd.N_alloc | apply Kd.N_drewN | apply Kd.Vg)); exact Kd.Xq HO206.out (fun _ hk => ⟨hk.1, ⟨hk.2.1, hk.2.2.1⟩⟩)⟩, ⟨by (with_reducible repeat (first | apply Kd.N_alloc | apply Kd.N_drewN | apply Kd.Vg)); exact Kd.Xq HO_14.out (fun _ hk => ⟨hk.1.1, ⟨hk.2, hk.1.2.2.1⟩⟩)⟩, ⟨by (with_reducible repeat (first | apply Kd.V_alloc | apply Kd.V_drewN | apply Kd.Xp)); exact Kd.Xa HO_186010.out (fun _ hk => ⟨hk.1.1, ⟨hk.2, ⟨hk.1.2.1, hk.1.2.2.2.1⟩⟩⟩)⟩, ⟨by (with_reducible repeat (first | apply Kd.V_alloc | apply Kd.V_drewN | apply Kd.Xp)); exact Kd.Xa HO_186013.out (fun _ hk => ⟨hk.1.1, ⟨hk.2, ⟨hk.1.2.1, hk.1.2.2.2.1⟩⟩⟩)⟩, ⟨J2.out⟩, ⟨HB.out⟩⟩
       ·rw [if_neg c15] at H
        exact absurd H (by simp)
      ·rw [if_neg c13] at H
       exact absurd H (by simp)
     ·rw [if_neg c12] at H
      exact absurd H (by simp)
    ·rw [if_neg c11] at H
     have c11b0 : decide (J0 < (t187.length : Int)) = false := decide_eq_false c11
     clear c11
     simp only [Option.some.injEq, Prod.mk.injEq] at H
     obtain ⟨rfl, rfl⟩ := H
     go_wp2
     go_ret2
     exact ⟨_, by first | rfl | (simp [errW_none, errW_some] <;> rfl) | (simp [*, errW_none, errW_some] <;> rfl), by (with_reducible repeat (first | apply Kd.N_alloc | apply Kd.N_drewN | apply Kd.Vg)); exact Kd.Xq HO_5.out (fun _ hk => hk.1), HB.out⟩
 ·rw [if_neg c3] at H
  have c3b0 : (t186 == 0) = false := beq_eq_false_iff_ne.mpr c3
  have c3b1 : (t186 != 0) = true := bne_iff_ne.mpr c3
  simp only [Option.some.injEq, Prod.mk.injEq] at H
  obtain ⟨rfl, rfl⟩ := H
  go_enter Try.func6, Try.ntmps6
  go_wp2_with (first | ((with_reducible refine Xd (N := 1) rfl ?_); refine Xe ?hg (N := 1) ?hd (cs := #[.int .i64 Jo, .int .i64 Jj, .int .i64 Ji, .bool Jh, .int .i64 Jg, .int .u64 Jf, .int .u64 Je, .int .i64 Jd, .bool Jc, .int .i64 Jb, .slice A0_10 J6.length c0_10, .int .i64 J8, .int .i64 J7, .slice A0_13 J5.length c0_13]) (t := 30) ?hr ?_; (case hd => rfl); (case hg => rfl); (case hr => first | (go_simp; done) | (go_simp; rfl)); intro J4 hg w22 hbox hb; have n0_ := Zd.mk (Kd.Xl (Kd.Xx HO0_10.out J4 (Nat.le_of_eq hg.symm)) hb); have n1_ := Zd.mk (Kd.Xl (Kd.Xx HO0_13.out J4 (Nat.le_of_eq hg.symm)) hb); have n2_ := Zd.mk (Zj HB.out hb); have n3_ := Zd.mk (hbox); have n4_ := Zd.mk ((by rw [hg]; exact (Zl HB.out) : w.heap.size ≤ J4)); have n5_ := n4_; clear HO0_10; clear HO0_13; clear HB; have HO0_10 := n0_; have HO0_13 := n1_; have HB := n2_; have J2 := n3_; have GW185 := n4_; have GE185 := n5_; clear n0_ n1_ n2_ n3_ n4_ n5_; clear hb hbox hg; have hcz23_0 : w22.cell? ⟨J4, 0, none⟩ = some (.int .i64 Jo) := (Za J2.out 0).trans rfl; have hcz23_1 : w22.cell? ⟨J4, 1, none⟩ = some (.int .i64 Jj) := (Za J2.out 1).trans rfl; have hcz23_2 : w22.cell? ⟨J4, 2, none⟩ = some (.int .i64 Ji) := (Za J2.out 2).trans rfl; have hcz23_3 : w22.cell? ⟨J4, 3, none⟩ = some (.bool Jh) := (Za J2.out 3).trans rfl; have hcz23_4 : w22.cell? ⟨J4, 4, none⟩ = some (.int .i64 Jg) := (Za J2.out 4).trans rfl; have hcz23_5 : w22.cell? ⟨J4, 5, none⟩ = some (.int .u64 Jf) := (Za J2.out 5).trans rfl; have hcz23_6 : w22.cell? ⟨J4, 6, none⟩ = some (.int .u64 Je) := (Za J2.out 6).trans rfl; have hcz23_7 : w22.cell? ⟨J4, 7, none⟩ = some (.int .i64 Jd) := (Za J2.out 7).trans rfl; have hcz23_8 : w22.cell? ⟨J4, 8, none⟩ = some (.bool Jc) := (Za J2.out 8).trans rfl; have hcz23_9 : w22.cell? ⟨J4, 9, none⟩ = some (.int .i64 Jb) := (Za J2.out 9).trans rfl; have hcz23_10 : w22.cell? ⟨J4, 10, none⟩ = some (.slice A0_10 J6.length c0_10) := (Za J2.out 10).trans rfl; have hcz23_11 : w22.cell? ⟨J4, 11, none⟩ = some (.int .i64 J8) := (Za J2.out 11).trans rfl; have hcz23_12 : w22.cell? ⟨J4, 12, none⟩ = some (.int .i64 J7) := (Za J2.out 12).trans rfl; have hcz23_13 : w22.cell? ⟨J4, 13, none⟩ = some (.slice A0_13 J5.length c0_13) := (Za J2.out 13).trans rfl; have hfz23_0 := Zb J2.out 0; have hfz23_1 := Zb J2.out 1; have hfz23_2 := Zb J2.out 2; have hfz23_3 := Zb J2.out 3; have hfz23_4 := Zb J2.out 4; have hfz23_5 := Zb J2.out 5; have hfz23_6 := Zb J2.out 6; have hfz23_7 := Zb J2.out 7; have hfz23_8 := Zb J2.out 8; have hfz23_9 := Zb J2.out 9; have hfz23_10 := Zb J2.out 10; have hfz23_11 := Zb J2.out 11; have hfz23_12 := Zb J2.out 12; have hfz23_13 := Zb J2.out 13) | ((with_reducible refine Zx (f := 8) rfl ?_); refine Xz (some 9) rfl rfl Try.func8 (by kernel_rfl) rfl #[.agg #[.int .i64 Jo, .int .i64 Jj, .int .i64 Ji, .bool Jh, .int .i64 Jg, .int .u64 Jf, .int .u64 Je, .int .i64 Jd, .bool Jc, .int .i64 Jb, .slice A0_10 J6.length c0_10, .int .i64 J8, .int .i64 J7, .slice A0_13 J5.length c0_13]] rfl (by (try simp only [List.map_toArray, List.map_cons, List.map_nil]); first | done | rfl | (simp only [List.length_drop, List.length_take]; rfl)) ?_; (with_reducible refine (Zz.calls k Jo Jj Ji Jh Jg Jf Je Jd Jc Jb _ _ J6 J8 J7 _ _ J5 t186 _ ?side1 ?side2 ?side3 ?side4 A2.out).mono ?_); (case side1 => repeat (first | exact (Kd.Xw HO0_10.out).2.2 | (with_reducible refine Kd.C_alloc ?_ _) | (with_reducible refine Kd.C_drewN ?_ _) | (with_reducible refine Kd.C_drew ?_))); (case side2 => exact (Kd.Xw HO0_10.out).2.1); (case side3 => repeat (first | exact (Kd.Xw HO0_13.out).2.2 | (with_reducible refine Kd.C_alloc ?_ _) | (with_reducible refine Kd.C_drewN ?_ _) | (with_reducible refine Kd.C_drew ?_))); (case side4 => exact (Kd.Xw HO0_13.out).2.1); rintro e w24 ⟨rfl, hb⟩; refine ⟨_, rfl, ?_⟩; have n0_ := Zd.mk (Kd.Xl HO0_10.out hb); have n1_ := Zd.mk (Kd.Xl HO0_13.out hb); have n2_ := Zd.mk (Zp J2.out hb); have n3_ := Zd.mk (Zj HB.out hb); clear HO0_10; clear HO0_13; clear J2; clear HB; have HO0_10 := n0_; have HO0_13 := n1_; have J2 := n2_; have HB := n3_; clear n0_ n1_ n2_ n3_; (try clear hb); (try clear hb2); (try clear hk); (try clear hi)))
  go_ret2
  exact ⟨_, by first | rfl | (simp [errW_none, errW_some] <;> rfl) | (simp [*, errW_none, errW_some] <;> rfl), by first | exact Kd.R_nil _ _ _ _ _ | exact Kd.N_nil _ _ _ _ _ | exact Kd.V_nil _ _ _ _ _ | exact Kd.Q_nil _ _ _ _ _ | exact Kd.S_nil _ _ _ _ _, HB.out⟩
def Xy.l0 : Nat → Int → List (List Bool) → Int → Int → Option (Int)
  | 0, _, _, _, _ => none
  | k + 1, x1, x10, x11, x12 => if x12 < x11 then (if 0 ≤ x12 then (if x12 < (x10.length : Int) then (if ((rd_L8 x10 x12).length : Int) = x1 then (Xy.l0 k x1 x10 x11 (wrap64 (x12 + 1))) else (some 4)) else (none)) else (none)) else (some 0)
def Xy.f (k : Nat) (l0 : List (List Bool)) (a1 : Int) : Option (Int) := if (l0.length : Int) > 64 then (some 3) else (Xy.l0 k a1 l0 (l0.length : Int) 0)
theorem Xy.mono_l : ∀ k, (∀ y0 y1 y2 y3, Xo (Xy.l0 k y0 y1 y2 y3) (Xy.l0 (k + 1) y0 y1 y2 y3))
  | 0 => fun _ _ _ _ r h => by simp [Xy.l0] at h
  | k + 1 => by
    have ih0 := Xy.mono_l k
    · intro y0 y1 y2 y3
      unfold Xy.l0
      repeat' first
      | (with_reducible exact ih0 _ _ _ _)
      | (with_reducible exact Xo.refl _)
      | (with_reducible exact Xo.none _)
      | (with_reducible refine Xo.ite ?_ ?_)
      | (with_reducible refine Xo.bind ?_ (fun _ => ?_))
      | exact ih0 _ _ _ _
      | exact Xo.none _
      | refine Xo.ite ?_ ?_
      | refine Xo.bind ?_ (fun _ => ?_)
theorem Xy.mono : ∀ a0 a1 k, Xo (Xy.f k a0 a1) (Xy.f (k + 1) a0 a1) := by
  intro a0 a1 k
  have ih0 := Xy.mono_l k
  unfold Xy.f
  repeat' first
      | (with_reducible exact ih0 _ _ _ _)
      | (with_reducible exact Xo.refl _)
      | (with_reducible exact Xo.none _)
      | (with_reducible refine Xo.ite ?_ ?_)
      | (with_reducible refine Xo.bind ?_ (fun _ => ?_))
      | exact ih0 _ _ _ _
      | exact Xo.none _
      | refine Xo.ite ?_ ?_
      | refine Xo.bind ?_ (fun _ => ?_)
set_option maxHeartbeats 8000000 in
set_option maxRecDepth 100000 in
theorem Xy.calls (k : Nat) (A0 : Option Addr) (c0 : Nat) (l0 : List (List Bool)) (a1 : Int) (r : Int) (w : World) (hr0 : Kd.C (Kd.slice 4 Kd.bool) w A0 l0.length l0) (hc0 : l0.length ≤ c0) (h : Xy.f k l0 a1 = some r) :
 Calls Try.prog 27 #[.slice A0 l0.length c0, .int .i64 a1] w fun e w' => e = .returned (.int .i64 r) ∧ Ve w w' := by
 have HR0 := Zd.mk hr0
 have HC0 := Zd.mk hc0
 clear hr0 hc0
 have H : (if (l0.length : Int) > 64 then (some 3) else (Xy.l0 k a1 l0 (l0.length : Int) 0)) = some r := h
 clear h
 by_cases c3 : (l0.length : Int) > 64
 ·rw [if_pos c3] at H
  have c3b0 : decide (64 < (l0.length : Int)) = true := decide_eq_true c3
  have c3b1 : decide (64 < l0.length) = true := decide_eq_true (by omega)
  clear c3
  obtain rfl := Option.some.inj H
  go_enter Try.func27, Try.ntmps27
  go_wp2
  go_ret
  exact ⟨by first | rfl | (simp; done) | (simp [*]; done), by repeat (first | exact Ve.refl _ | apply Ve.step)⟩
 ·rw [if_neg c3] at H
  have c3b0 : decide (64 < (l0.length : Int)) = false := decide_eq_false c3
  have c3b1 : decide (64 < l0.length) = false := decide_eq_false (by omega)
  clear c3
  have H' := Zd.mk H
  clear H
  go_enter Try.func27, Try.ntmps27
  go_wp2
  go_loopg [12] k (fun kq v12 w' => ∃ (Jq : Int), v12 = .int .i64 Jq ∧ Zd (Xy.l0 kq a1 l0 (l0.length : Int) Jq = some r) ∧ Zd (kq ≤ k) ∧ Ve w w')
  case atStart => exact ⟨(0), (by first | rfl | (simp; done) | (simp [*]; done)), H', ⟨Nat.le_refl _⟩, by repeat (first | exact Ve.refl _ | apply Ve.step)⟩
  case round =>
   clear H'
   try clear c3b0
   try clear c3b1
   obtain ⟨Jq, rfl, HA, HK1, ⟨m1, rfl⟩⟩ := hrel
   cases gk with
   | zero => exact absurd HA.out (by simp [Xy.l0])
   | succ k1 =>
    have H := HA.out
    clear HA
    simp only [Xy.l0] at H
    by_cases c4 : Jq < (l0.length : Int)
    ·rw [if_pos c4] at H
     have c4b0 : decide (Jq < (l0.length : Int)) = true := decide_eq_true c4
     clear c4
     by_cases c5 : 0 ≤ Jq
     ·rw [if_pos c5] at H
      have c5b0 : decide (0 ≤ Jq) = true := decide_eq_true c5
      clear c5
      by_cases c6 : Jq < (l0.length : Int)
      ·rw [if_pos c6] at H
       have c6b0 : decide (Jq < (l0.length : Int)) = true := decide_eq_true c6
       clear c6
       by_cases c7 : ((rd_L8 l0 Jq).length : Int) = a1
       ·rw [if_pos c7] at H
        have c7b0 : (((rd_L8 l0 Jq).length : Int) == a1) = true := beq_iff_eq.mpr c7
        have c7b1 : (((rd_L8 l0 Jq).length : Int) != a1) = false := bne_eq_false_iff_eq.mpr c7
        clear c7
        have H' := Zd.mk H
        clear H
        have p207 : 0 ≤ (Jq : Int) := of_decide_eq_true (by first | (with_reducible assumption) | assumption)
        have q207 : Jq < (l0.length : Int) := of_decide_eq_true (by first | (with_reducible assumption) | assumption)
        obtain ⟨ad207, A207_0, c207_0, e207, hx207_0, hl207_0, hi207_0⟩ := at_L8 HR0.out Jq p207 q207
        cases e207
        have HR207_0 := Zd.mk hi207_0
        have HC207_0 := Zd.mk hl207_0
        clear hi207_0 hl207_0
        replace p207 := eq_true p207
        replace q207 := eq_true q207
        go_wp2
        go_roundg k1
        case measure => have := HK1.out; omega
        case rel => exact ⟨(wrap64 (Jq + 1)), (by first | rfl | (simp; done) | (simp [*]; done)), H', ⟨by have := HK1.out; omega⟩, by repeat (first | exact Ve.refl _ | apply Ve.step)⟩
       ·rw [if_neg c7] at H
        have c7b0 : (((rd_L8 l0 Jq).length : Int) == a1) = false := beq_eq_false_iff_ne.mpr c7
        have c7b1 : (((rd_L8 l0 Jq).length : Int) != a1) = true := bne_iff_ne.mpr c7
        obtain rfl := Option.some.inj H
        have p207 : 0 ≤ (Jq : Int) := of_decide_eq_true (by first | (with_reducible assumption) | assumption)
        have q207 : Jq < (l0.length : Int) := of_decide_eq_true (by first | (with_reducible assumption) | assumption)
        obtain ⟨ad207, A207_0, c207_0, e207, hx207_0, hl207_0, hi207_0⟩ := at_L8 HR0.out Jq p207 q207
        cases e207
        have HR207_0 := Zd.mk hi207_0
        have HC207_0 := Zd.mk hl207_0
        clear hi207_0 hl207_0
        replace p207 := eq_true p207
        replace q207 := eq_true q207
        go_wp2
        go_ret
        exact ⟨by first | rfl | (simp; done) | (simp [*]; done), by repeat (first | exact Ve.refl _ | apply Ve.step)⟩
      ·rw [if_neg c6] at H
       exact absurd H (by simp)
     ·rw [if_neg c5] at H
      exact absurd H (by simp)
    ·rw [if_neg c4] at H
     have c4b0 : decide (Jq < (l0.length : Int)) = false := decide_eq_false c4
     clear c4
     obtain rfl := Option.some.inj H
     go_wp2
     go_ret
     exact ⟨by first | rfl | (simp; done) | (simp [*]; done), by repeat (first | exact Ve.refl _ | apply Ve.step)⟩
end Go.Proofs.Ytkbkndfonccekaa.PF
namespace Go.Proofs.Ytkbkndfonccekaa
open Go.RowKit Go.Proofs.YtkbkndfonccekaaW.PrintWords Go.Proofs.Ytkbkndfonccekaa.PF
set_option maxRecDepth 100000
theorem flat_len {α β : Type} (g : α → List β) : ∀ (l : List α) (x : α), x ∈ l → (g x).length ≤ ((l.map g).flatten).length
  | y :: l, x, h => by
    simp only [List.map_cons, List.flatten_cons, List.length_append]
    rcases List.mem_cons.1 h with rfl | h
    · omega
    · have := flat_len g l x h
      omega
theorem flat_sum {α β : Type} {g : α → List β} {f : α → Int} : ∀ (l : List α), (∀ x ∈ l, ((g x).length : Int) = f x) → (((l.map g).flatten).length : Int) = (l.map f).sum
  | [], _ => rfl
  | x :: l, h => by
    have h1 := h x List.mem_cons_self
    have h2 := flat_sum l (fun y hy => h y (List.mem_cons_of_mem _ hy))
    simp only [List.map_cons, List.flatten_cons, List.length_append, List.sum_cons]
    omega
theorem leavesV_len : ∀ (d : Nat) (t : Vp), Qx d t = some 0 → ((Qm d t).length : Int) = lN d t
  | 0, _, h => by cases h
  | d + 1, t, h => by
    obtain ⟨hk, hn⟩ := valid_node h
    rw [Qm, lN]
    unfold lv
    by_cases h0 : t.f0 = 0
    · have h4 : t.f4 = [] := by
        rcases hn with h1 | h1 | h1 | h1 | h1
        · exact h1.2
        all_goals exact absurd h1.1 (by omega)
      rw [if_pos h0, if_pos h0, h4]
      rfl
    · rw [if_neg h0, if_neg h0, flat_sum t.f4 (fun x hx => leavesV_len d x (hk x hx))]
      omega
theorem leavesV_ok : ∀ (d m : Nat) (t : Vp), TmOk m t → ∀ e ∈ Qm d t, ∃ j, ExOk j e
  | 0, _, _, _, e, he => by simp [Qm] at he
  | _ + 1, 0, _, h, _, _ => h.elim
  | d + 1, m + 1, t, h, e, he => by
    rw [Qm] at he
    split at he
    · rw [List.mem_singleton] at he
      exact he ▸ h.2.1
    · obtain ⟨l, hl, he⟩ := List.mem_flatten.1 he
      obtain ⟨x, hx, rfl⟩ := List.mem_map.1 hl
      exact leavesV_ok d m x (h.2.2 x hx) e he
theorem leaves_mono (k : Nat) (t : Vp) : Xo (Vm (Zv.f k) t) (Vm (Zv.f (k + 1)) t) := (Zv.mono_l k).1 _ _ _ _ _ _ _ _ _ _ _ _ _ _
theorem leaves_loop (g : Vp → List Jn) (kids : List Vp) (hk : kids.length ≤ 48) : ∀ (rest : List Vp) (i : Nat), kids.drop i = rest → (∀ x ∈ rest, ∃ k, Vm (Zv.f k) x = some (g x)) → ∀ a : List Jn, a.length + ((rest.map g).flatten).length < 1466015503701 → ∃ k, Zv.l0 k a kids kids.length i = some (a ++ (rest.map g).flatten)
  | [], i, hr, _, a, _ => by
    have hi := drop_nil hr
    refine ⟨1, ?_⟩
    rw [Zv.l0, if_neg (by omega)]
    simp
  | x :: r, i, hr, H, a, hl => by
    obtain ⟨hi, hx, hr'⟩ := Jm hr
    obtain ⟨k0, hk0⟩ := H x List.mem_cons_self
    simp only [List.map_cons, List.flatten_cons, List.length_append] at hl
    obtain ⟨k1, hk1⟩ := leaves_loop g kids hk r (i + 1) hr' (fun y hy => H y (List.mem_cons_of_mem _ hy)) (a ++ g x) (by rw [List.length_append]; omega)
    have hw : wrap64 ((i : Int) + 1) = ((i + 1 : Nat) : Int) := by rw [Vf (by omega) (by omega)]; rfl
    have hi1 : (i : Int) < (kids.length : Int) := Int.ofNat_lt.2 hi
    have hap : a.length + (g x).length < 1466015503701 := by clear hw; omega
    refine ⟨max k0 k1 + 1, ?_⟩
    have h0 := upM (f := fun k => Vm (Zv.f k) x) (fun k => leaves_mono k x) hk0 (Nat.le_max_left k0 k1)
    simp only [Vm] at h0
    rw [Zv.l0, if_pos hi1, if_pos (Int.natCast_nonneg i), if_pos hi1, Jl hx, h0]
    show (if a.length + (g x).length < 1466015503701 then Zv.l0 (max k0 k1) (a ++ g x) kids kids.length (wrap64 ((i : Int) + 1)) else none) = _
    rw [if_pos hap, hw, List.map_cons, List.flatten_cons, ← List.append_assoc]
    exact upM (f := fun k => Zv.l0 k (a ++ g x) kids kids.length ((i + 1 : Nat) : Int)) (fun k => (Zv.mono_l k).2 _ _ _ _) hk1 (Nat.le_max_right _ _)
theorem leaves_ex : ∀ (d : Nat) (t : Vp), Sm d t → (Qm d t).length ≤ 1000 → ∃ k, Vm (Zv.f k) t = some (Qm d t)
  | 0, _, h, _ => h.elim
  | d + 1, t, hs, hl => by
    simp only [Vm]
    by_cases h0 : t.f0 = 0
    · refine ⟨1, ?_⟩
      rw [Zv.f, Qm, if_pos h0, if_pos h0, eta27]
    · rw [Qm, if_neg h0] at hl ⊢
      obtain ⟨k, hk⟩ := leaves_loop (Qm d) t.f4 hs.1 t.f4 0 rfl (fun x hx => leaves_ex d x (hs.2 x hx) (by
        have := flat_len (Qm d) t.f4 x hx
        omega)) [] (by simp only [List.length_nil]; omega)
      refine ⟨k + 1, ?_⟩
      rw [Zv.f, if_neg h0]
      exact hk
theorem found_mono (k : Nat) (t : Vp) : Xo (Vm (Zy.f k) t) (Vm (Zy.f (k + 1)) t) := (Zy.mono_l k).1 _ _ _ _ _ _ _ _ _ _ _ _ _ _
theorem found_loop (g : Vp → List Jn) (kids : List Vp) (hk : kids.length ≤ 48) : ∀ (rest : List Vp) (i : Nat), kids.drop i = rest → (∀ x ∈ rest, ∃ k, Vm (Zy.f k) x = some (g x)) → ∀ a : List Jn, a.length + ((rest.map g).flatten).length < 1466015503701 → ∃ k, Zy.l0 k a kids kids.length i = some (a ++ (rest.map g).flatten)
  | [], i, hr, _, a, _ => by
    have hi := drop_nil hr
    refine ⟨1, ?_⟩
    rw [Zy.l0, if_neg (by omega)]
    simp
  | x :: r, i, hr, H, a, hl => by
    obtain ⟨hi, hx, hr'⟩ := Jm hr
    obtain ⟨k0, hk0⟩ := H x List.mem_cons_self
    simp only [List.map_cons, List.flatten_cons, List.length_append] at hl
    obtain ⟨k1, hk1⟩ := found_loop g kids hk r (i + 1) hr' (fun y hy => H y (List.mem_cons_of_mem _ hy)) (a ++ g x) (by rw [List.length_append]; omega)
    have hw : wrap64 ((i : Int) + 1) = ((i + 1 : Nat) : Int) := by rw [Vf (by omega) (by omega)]; rfl
    have hi1 : (i : Int) < (kids.length : Int) := Int.ofNat_lt.2 hi
    have hap : a.length + (g x).length < 1466015503701 := by clear hw; omega
    refine ⟨max k0 k1 + 1, ?_⟩
    have h0 := upM (f := fun k => Vm (Zy.f k) x) (fun k => found_mono k x) hk0 (Nat.le_max_left k0 k1)
    simp only [Vm] at h0
    rw [Zy.l0, if_pos hi1, if_pos (Int.natCast_nonneg i), if_pos hi1, Jl hx, h0]
    show (if a.length + (g x).length < 1466015503701 then Zy.l0 (max k0 k1) (a ++ g x) kids kids.length (wrap64 ((i : Int) + 1)) else none) = _
    rw [if_pos hap, hw, List.map_cons, List.flatten_cons, ← List.append_assoc]
    exact upM (f := fun k => Zy.l0 k (a ++ g x) kids kids.length ((i + 1 : Nat) : Int)) (fun k => (Zy.mono_l k).2 _ _ _ _) hk1 (Nat.le_max_right _ _)
theorem found_ex : ∀ (d : Nat) (t : Vp), Sm d t → (Qm d t).length ≤ 1000 → ∃ k, Vm (Zy.f k) t = some (Qm d t)
  | 0, _, h, _ => h.elim
  | d + 1, t, hs, hl => by
    simp only [Vm]
    by_cases h0 : t.f0 = 0
    · refine ⟨1, ?_⟩
      rw [Zy.f, Qm, if_pos h0, if_pos h0, eta27]
    · rw [Qm, if_neg h0] at hl ⊢
      obtain ⟨k, hk⟩ := found_loop (Qm d) t.f4 hs.1 t.f4 0 rfl (fun x hx => found_ex d x (hs.2 x hx) (by
        have := flat_len (Qm d) t.f4 x hx
        omega)) [] (by simp only [List.length_nil]; omega)
      refine ⟨k + 1, ?_⟩
      rw [Zy.f, if_neg h0]
      exact hk
theorem rdE_at {l : List Jn} {i : Nat} {x : Jn} (h : l[i]? = some x) : Zh l (i : Int) = x := by
  unfold Zh
  rw [Int.toNat_natCast, List.getD_eq_getElem?_getD, h]
  rfl
abbrev F10 {β : Type} (F : Int → Int → Bool → Int → Int → Int → Int → Bool → Int → List Jn → β) (e : Jn) : β := F e.f0 e.f1 e.f2 e.f3.f0 e.f3.f1 e.f3.f2 e.f4 e.f5 e.f6 e.f7
abbrev tup (e : Jn) (l : List Jn) : Int × Int × Bool × Int × Int × Int × Int × Bool × Int × List Jn := (e.f0, e.f1, e.f2, e.f3.f0, e.f3.f1, e.f3.f2, e.f4, e.f5, e.f6, l)
theorem copied_mono (k : Nat) (e : Jn) : Xo (F10 (Xg.f k) e) (F10 (Xg.f (k + 1)) e) := (Xg.mono_l k).1 _ _ _ _ _ _ _ _ _ _
theorem copied_loop (e : Jn) (kids : List Jn) (hk : kids.length ≤ 1466015503701) : ∀ (rest : List Jn) (i : Nat), kids.drop i = rest → (∀ x ∈ rest, ∃ k, F10 (Xg.f k) x = some (tup x x.f7)) → ∀ a : List Jn, a.length = i →
    ∃ k, Xg.l0 k kids kids.length i e.f0 e.f1 e.f2 e.f3.f0 e.f3.f1 e.f3.f2 e.f4 e.f5 e.f6 a = some (tup e (a ++ rest))
  | [], i, hr, _, a, _ => by
    have hi := drop_nil hr
    refine ⟨1, ?_⟩
    rw [Xg.l0, if_neg (by omega), List.append_nil]
  | x :: r, i, hr, H, a, ha => by
    obtain ⟨hi, hx, hr'⟩ := Jm hr
    obtain ⟨k0, hk0⟩ := H x List.mem_cons_self
    obtain ⟨k1, hk1⟩ := copied_loop e kids hk r (i + 1) hr' (fun y hy => H y (List.mem_cons_of_mem _ hy)) (a ++ [x]) (by rw [List.length_append]; simp [ha])
    have hap : a.length < 1466015503701 := by omega
    have hi1 : (i : Int) < (kids.length : Int) := Int.ofNat_lt.2 hi
    have hw : wrap64 ((i : Int) + 1) = ((i + 1 : Nat) : Int) := by rw [Vf (by omega) (by omega)]; rfl
    refine ⟨max k0 k1 + 1, ?_⟩
    have h0 := upM (f := fun k => F10 (Xg.f k) x) (fun k => copied_mono k x) hk0 (Nat.le_max_left k0 k1)
    simp only [F10] at h0
    rw [Xg.l0, if_pos hi1, if_pos (Int.natCast_nonneg i), if_pos hi1, rdE_at hx, h0]
    rw [Option.bind_some, if_pos hap, hw]
    rw [List.append_assoc] at hk1
    simp only [tup, eta27] at hk1 ⊢
    exact upM (f := fun k => Xg.l0 k kids kids.length ((i + 1 : Nat) : Int) e.f0 e.f1 e.f2 e.f3.f0 e.f3.f1 e.f3.f2 e.f4 e.f5 e.f6 (a ++ [x])) (fun k => (Xg.mono_l k).2 _ _ _ _ _ _ _ _ _ _ _ _ _) hk1 (Nat.le_max_right _ _)
theorem copied_ex : ∀ (j : Nat) (e : Jn), ExOk j e → ∃ k, F10 (Xg.f k) e = some (tup e e.f7)
  | 0, _, h => h.elim
  | j + 1, e, h => by
    obtain ⟨k, hk⟩ := copied_loop e e.f7 h.1 e.f7 0 rfl (fun x hx => copied_ex j x (h.2 x hx)) [] rfl
    refine ⟨k + 1, ?_⟩
    simp only [F10]
    rw [Xg.f]
    exact hk
theorem Leaves_loop (kids : List Jn) (hk : kids.length ≤ 1000) : ∀ (rest : List Jn) (i : Nat), kids.drop i = rest → (∀ x ∈ rest, ∃ j, ExOk j x) → ∀ a : List Jn, a.length = i → ∃ k, Xr.l0 k a kids kids.length i = some (a ++ rest, 0)
  | [], i, hr, _, a, _ => by
    have hi := drop_nil hr
    refine ⟨1, ?_⟩
    rw [Xr.l0, if_neg (by omega), List.append_nil]
  | x :: r, i, hr, H, a, ha => by
    obtain ⟨hi, hx, hr'⟩ := Jm hr
    obtain ⟨j, hj⟩ := H x List.mem_cons_self
    obtain ⟨k0, hk0⟩ := copied_ex j x hj
    obtain ⟨k1, hk1⟩ := Leaves_loop kids hk r (i + 1) hr' (fun y hy => H y (List.mem_cons_of_mem _ hy)) (a ++ [x]) (by rw [List.length_append]; simp [ha])
    have hap : a.length < 1466015503701 := by omega
    have hi1 : (i : Int) < (kids.length : Int) := Int.ofNat_lt.2 hi
    have hw : wrap64 ((i : Int) + 1) = ((i + 1 : Nat) : Int) := by rw [Vf (by omega) (by omega)]; rfl
    refine ⟨max k0 k1 + 1, ?_⟩
    have h0 := upM (f := fun k => F10 (Xg.f k) x) (fun k => copied_mono k x) hk0 (Nat.le_max_left k0 k1)
    simp only [F10] at h0
    rw [Xr.l0, if_pos hi1, if_pos (Int.natCast_nonneg i), if_pos hi1, rdE_at hx, h0]
    rw [Option.bind_some, if_pos hap, hw]
    rw [List.append_assoc] at hk1
    simp only [eta27] at hk1 ⊢
    exact upM (f := fun k => Xr.l0 k (a ++ [x]) kids kids.length ((i + 1 : Nat) : Int)) (fun k => (Xr.mono_l k) _ _ _ _) hk1 (Nat.le_max_right _ _)
theorem sameB_up {a b : Jn} {k : Nat} (h : sameB k a b = true) : ∀ n, sameB (k + n) a b = true
  | 0 => h
  | n + 1 => sameB_mono (sameB_up h n)
theorem same_list : ∀ (l : List Jn), (∀ x ∈ l, ∃ k, sameB k x x = true) → ∃ k, listB (sameB k) l l = true
  | [], _ => ⟨0, rfl⟩
  | x :: r, h => by
    obtain ⟨k0, h0⟩ := h x List.mem_cons_self
    obtain ⟨k1, h1⟩ := same_list r (fun y hy => h y (List.mem_cons_of_mem _ hy))
    refine ⟨k0 + k1, ?_⟩
    rw [listB, Bool.and_eq_true]
    refine ⟨sameB_up h0 k1, ?_⟩
    rw [Nat.add_comm]
    exact listB_mono (fun a b hab => sameB_up hab k0) h1
theorem same_ex : ∀ (j : Nat) (e : Jn), ExOk j e → ∃ k, sameB k e e = true
  | 0, _, h => h.elim
  | j + 1, e, h => by
    obtain ⟨k, hk⟩ := same_list e.f7 (fun x hx => same_ex j x (h.2 x hx))
    refine ⟨k + 1, ?_⟩
    rw [sameB, hk]
    simp
end Go.Proofs.Ytkbkndfonccekaa
namespace Go.Proofs.Ytkbkndfonccekaa.PF
open Go.RowKit Go.Proofs.YtkbkndfonccekaaW.PrintWords Go.Proofs.YtkbkndfonccekaaW.PrintLast Go.Proofs.YtkbkndfonccekaaW.PrintMore
attribute [local go_sem] Qn Qp Kq Kt
set_option linter.unusedVariables false
set_option linter.unusedSimpArgs false
def Xf.j0 : Nat → Bool → Int → Int → Int → Bool → Int → Int → Int → Int → Bool → Int → List (Qh) → Int → Int → List (Vd) → Option (Int)
  | 0, _, _, _, _, _, _, _, _, _, _, _, _, _, _, _ => none
  | k + 1, x22, JL, JK, JJ, JI, JH, JG, JF, JE, JD, JC, JB, JA, Jy, Jx => if x22 = true then (some 3) else ((Qj.f k JL JK JJ JI JH JG JF JE JD JC JB JA Jy Jx).bind fun t120 => (if t120 = 0 then ((Zn.f k JL JK JJ JI JH JG JF JE JD JC JB JA Jy Jx).bind fun t121 => (if t121 > 64 then (some 3) else (some 0))) else (some t120)))
def Xf.f (k : Nat) (Jo : Int) (Jj : Int) (Ji : Int) (Jh : Bool) (Jg : Int) (Jf : Int) (Je : Int) (Jd : Int) (Jc : Bool) (Jb : Int) (J6 : List (Qh)) (J8 : Int) (J7 : Int) (J5 : List (Vd)) : Option (Int) := (Zo.f k Jo Jj Ji Jh Jg Jf Je Jd Jc Jb J6 J8 J7 J5 11).bind fun bt117 => (if bt117.1 > 48 then (Xf.j0 k true Jo Jj Ji Jh Jg Jf Je Jd Jc Jb J6 J8 J7 J5) else (if bt117.2.1 > 10 then (Xf.j0 k true Jo Jj Ji Jh Jg Jf Je Jd Jc Jb J6 J8 J7 J5) else (Xf.j0 k (decide (bt117.2.2 > 12)) Jo Jj Ji Jh Jg Jf Je Jd Jc Jb J6 J8 J7 J5)))
set_option maxHeartbeats 8000000 in
set_option maxRecDepth 100000 in
theorem Xf.calls (k : Nat) (Jo : Int) (Jj : Int) (Ji : Int) (Jh : Bool) (Jg : Int) (Jf : Int) (Je : Int) (Jd : Int) (Jc : Bool) (Jb : Int) (A0_10 : Option Addr) (c0_10 : Nat) (J6 : List (Qh)) (J8 : Int) (J7 : Int) (A0_13 : Option Addr) (c0_13 : Nat) (J5 : List (Vd)) (r : Int) (w : World) (hr0_10 : Kd.C k27 w A0_10 J6.length J6) (hc0_10 : J6.length ≤ c0_10) (hr0_13 : Kd.C k30 w A0_13 J5.length J5) (hc0_13 : J5.length ≤ c0_13) (h : Xf.f k Jo Jj Ji Jh Jg Jf Je Jd Jc Jb J6 J8 J7 J5 = some r) :
 Calls Try.prog 4 #[.agg #[.int .i64 Jo, .int .i64 Jj, .int .i64 Ji, .bool Jh, .int .i64 Jg, .int .u64 Jf, .int .u64 Je, .int .i64 Jd, .bool Jc, .int .i64 Jb, .slice A0_10 J6.length c0_10, .int .i64 J8, .int .i64 J7, .slice A0_13 J5.length c0_13]] w fun e w' => e = .returned (.int .i64 r) ∧ Below w.heap.size w w' := by
 have hu30 := Try.underlying30
 have HR0_10 := Zd.mk hr0_10
 have HC0_10 := Zd.mk hc0_10
 clear hr0_10 hc0_10
 have HR0_13 := Zd.mk hr0_13
 have HC0_13 := Zd.mk hc0_13
 clear hr0_13 hc0_13
 have HB := Zd.mk (Below.refl w.heap.size w)
 have H : ((Zo.f k Jo Jj Ji Jh Jg Jf Je Jd Jc Jb J6 J8 J7 J5 11).bind fun bt117 => (if bt117.1 > 48 then (Xf.j0 k true Jo Jj Ji Jh Jg Jf Je Jd Jc Jb J6 J8 J7 J5) else (if bt117.2.1 > 10 then (Xf.j0 k true Jo Jj Ji Jh Jg Jf Je Jd Jc Jb J6 J8 J7 J5) else (Xf.j0 k (decide (bt117.2.2 > 12)) Jo Jj Ji Jh Jg Jf Je Jd Jc Jb J6 J8 J7 J5)))) = some r := h
 clear h
 replace H := Option.bind_eq_some_iff.mp H
 obtain ⟨⟨t117, t118, t119⟩, A20, H⟩ := H
 replace H : (if t117 > 48 then (Xf.j0 k true Jo Jj Ji Jh Jg Jf Je Jd Jc Jb J6 J8 J7 J5) else (if t118 > 10 then (Xf.j0 k true Jo Jj Ji Jh Jg Jf Je Jd Jc Jb J6 J8 J7 J5) else (Xf.j0 k (decide (t119 > 12)) Jo Jj Ji Jh Jg Jf Je Jd Jc Jb J6 J8 J7 J5))) = some r := H
 have A2 := Zd.mk A20
 clear A20
 have HC3 := Zd.mk H
 clear H
 go_enter Try.func4, Try.ntmps4
 go_upto_region 2 with (first | ((with_reducible refine Xd (N := 1) rfl ?_); refine Xe ?hg (N := 1) ?hd (cs := #[.int .i64 Jo, .int .i64 Jj, .int .i64 Ji, .bool Jh, .int .i64 Jg, .int .u64 Jf, .int .u64 Je, .int .i64 Jd, .bool Jc, .int .i64 Jb, .slice A0_10 J6.length c0_10, .int .i64 J8, .int .i64 J7, .slice A0_13 J5.length c0_13]) (t := 30) ?hr ?_; (case hd => rfl); (case hg => rfl); (case hr => first | (go_simp; done) | (go_simp; rfl)); intro J9 hg w4 hbox hb; have n0_ := Zd.mk (Zj HB.out hb); have n1_ := Zd.mk (hbox); have n2_ := Zd.mk ((by rw [hg]; exact (Zl HB.out) : w.heap.size ≤ J9)); have n3_ := n2_; clear HB; have HB := n0_; have J3 := n1_; have GW116 := n2_; have GE116 := n3_; clear n0_ n1_ n2_ n3_; clear hb hbox hg; have hcz5_0 : w4.cell? ⟨J9, 0, none⟩ = some (.int .i64 Jo) := (Za J3.out 0).trans rfl; have hcz5_1 : w4.cell? ⟨J9, 1, none⟩ = some (.int .i64 Jj) := (Za J3.out 1).trans rfl; have hcz5_2 : w4.cell? ⟨J9, 2, none⟩ = some (.int .i64 Ji) := (Za J3.out 2).trans rfl; have hcz5_3 : w4.cell? ⟨J9, 3, none⟩ = some (.bool Jh) := (Za J3.out 3).trans rfl; have hcz5_4 : w4.cell? ⟨J9, 4, none⟩ = some (.int .i64 Jg) := (Za J3.out 4).trans rfl; have hcz5_5 : w4.cell? ⟨J9, 5, none⟩ = some (.int .u64 Jf) := (Za J3.out 5).trans rfl; have hcz5_6 : w4.cell? ⟨J9, 6, none⟩ = some (.int .u64 Je) := (Za J3.out 6).trans rfl; have hcz5_7 : w4.cell? ⟨J9, 7, none⟩ = some (.int .i64 Jd) := (Za J3.out 7).trans rfl; have hcz5_8 : w4.cell? ⟨J9, 8, none⟩ = some (.bool Jc) := (Za J3.out 8).trans rfl; have hcz5_9 : w4.cell? ⟨J9, 9, none⟩ = some (.int .i64 Jb) := (Za J3.out 9).trans rfl; have hcz5_10 : w4.cell? ⟨J9, 10, none⟩ = some (.slice A0_10 J6.length c0_10) := (Za J3.out 10).trans rfl; have hcz5_11 : w4.cell? ⟨J9, 11, none⟩ = some (.int .i64 J8) := (Za J3.out 11).trans rfl; have hcz5_12 : w4.cell? ⟨J9, 12, none⟩ = some (.int .i64 J7) := (Za J3.out 12).trans rfl; have hcz5_13 : w4.cell? ⟨J9, 13, none⟩ = some (.slice A0_13 J5.length c0_13) := (Za J3.out 13).trans rfl; have hfz5_0 := Zb J3.out 0; have hfz5_1 := Zb J3.out 1; have hfz5_2 := Zb J3.out 2; have hfz5_3 := Zb J3.out 3; have hfz5_4 := Zb J3.out 4; have hfz5_5 := Zb J3.out 5; have hfz5_6 := Zb J3.out 6; have hfz5_7 := Zb J3.out 7; have hfz5_8 := Zb J3.out 8; have hfz5_9 := Zb J3.out 9; have hfz5_10 := Zb J3.out 10; have hfz5_11 := Zb J3.out 11; have hfz5_12 := Zb J3.out 12; have hfz5_13 := Zb J3.out 13) | ((with_reducible refine Zx (f := 15) rfl ?_); refine Xz (some 9) rfl rfl Try.func15 (by kernel_rfl) rfl #[.agg #[.int .i64 Jo, .int .i64 Jj, .int .i64 Ji, .bool Jh, .int .i64 Jg, .int .u64 Jf, .int .u64 Je, .int .i64 Jd, .bool Jc, .int .i64 Jb, .slice A0_10 J6.length c0_10, .int .i64 J8, .int .i64 J7, .slice A0_13 J5.length c0_13], .int .i64 11] rfl (by (try simp only [List.map_toArray, List.map_cons, List.map_nil]); first | done | rfl | (simp only [List.length_drop, List.length_take]; rfl)) ?_; (with_reducible refine (Zo.calls k Jo Jj Ji Jh Jg Jf Je Jd Jc Jb _ _ J6 J8 J7 _ _ J5 11 t117 t118 t119 _ ?side1 ?side2 ?side3 ?side4 A2.out).mono ?_); (case side1 => exact (Kd.Zw HR0_10.out HB.out)); (case side2 => exact HC0_10.out); (case side3 => exact (Kd.Zw HR0_13.out HB.out)); (case side4 => exact HC0_13.out); rintro e w6 ⟨rfl, hb⟩; refine ⟨_, rfl, ?_⟩; have n0_ := Zd.mk (Zp J3.out hb); have n1_ := Zd.mk (Zj HB.out hb); clear J3; clear HB; have J3 := n0_; have HB := n1_; clear n0_ n1_; (try clear hb); (try clear hb2); (try clear hk); (try clear hi)))
 (try simp only [Act.put, List.setIfInBounds_toArray, List.set_cons_zero, List.set_cons_succ])
 go_cut [22] (fun v22 wc => ∃ (kq : Nat) (Jw : Bool), v22 = .bool Jw ∧ Zd (Xf.j0 kq Jw Jo Jj Ji Jh Jg Jf Je Jd Jc Jb J6 J8 J7 J5 = some r) ∧ Zd (kq ≤ k) ∧ Zd (wc.heap[J9]? = some (.cells #[.int .i64 Jo, .int .i64 Jj, .int .i64 Ji, .bool Jh, .int .i64 Jg, .int .u64 Jf, .int .u64 Je, .int .i64 Jd, .bool Jc, .int .i64 Jb, (.slice A0_10 J6.length c0_10), .int .i64 J8, .int .i64 J7, (.slice A0_13 J5.length c0_13)] 30 (0, 0))) ∧ Zd (Below w.heap.size w wc))
 case first =>
  have H := HC3.out
  clear HC3
  by_cases c7 : t117 > 48
  ·rw [if_pos c7] at H
   have c7b0 : decide (48 < t117) = true := decide_eq_true c7
   clear c7
   (first | rw [c7b0] | (simp only [Xk]; rw [c7b0]) | skip)
   have H' := Zd.mk H
   clear H
   go_wp2
   go_meet
   case rel => exact ⟨_, (true), (by first | rfl | (simp; done) | (simp [*]; done)), H', ⟨by first | omega | exact Nat.le_refl _⟩, ⟨J3.out⟩, ⟨HB.out⟩⟩
  ·rw [if_neg c7] at H
   have c7b0 : decide (48 < t117) = false := decide_eq_false c7
   clear c7
   (first | rw [c7b0] | (simp only [Xk]; rw [c7b0]) | skip)
   by_cases c8 : t118 > 10
   ·rw [if_pos c8] at H
    have c8b0 : decide (10 < t118) = true := decide_eq_true c8
    clear c8
    have H' := Zd.mk H
    clear H
    go_wp2
    go_meet
    case rel => exact ⟨_, (true), (by first | rfl | (simp; done) | (simp [*]; done)), H', ⟨by first | omega | exact Nat.le_refl _⟩, ⟨J3.out⟩, ⟨HB.out⟩⟩
   ·rw [if_neg c8] at H
    have c8b0 : decide (10 < t118) = false := decide_eq_false c8
    clear c8
    have H' := Zd.mk H
    clear H
    go_wp2
    go_meet
    case rel => exact ⟨_, (decide (t119 > 12)), (by first | rfl | (simp; done) | (simp [*]; done)), H', ⟨by first | omega | exact Nat.le_refl _⟩, ⟨J3.out⟩, ⟨HB.out⟩⟩
 case rest =>
  clear HC3
  try clear hcz5_0
  try clear hcz5_1
  try clear hcz5_10
  try clear hcz5_11
  try clear hcz5_12
  try clear hcz5_13
  try clear hcz5_2
  try clear hcz5_3
  try clear hcz5_4
  try clear hcz5_5
  try clear hcz5_6
  try clear hcz5_7
  try clear hcz5_8
  try clear hcz5_9
  try clear hfz5_0
  try clear hfz5_1
  try clear hfz5_10
  try clear hfz5_11
  try clear hfz5_12
  try clear hfz5_13
  try clear hfz5_2
  try clear hfz5_3
  try clear hfz5_4
  try clear hfz5_5
  try clear hfz5_6
  try clear hfz5_7
  try clear hfz5_8
  try clear hfz5_9
  obtain ⟨kq, Jw, rfl, HA, HJ2, J3, HB⟩ := hcut
  cases kq with
  | zero => exact absurd HA.out (by simp [Xf.j0])
  | succ kj2 =>
   have H := HA.out
   clear HA
   simp only [Xf.j0] at H
   by_cases c9 : Jw = true
   ·subst c9
    have H1 : (some 3) = some r := by rw [if_pos rfl] at H; exact H
    clear H
    have H := H1
    clear H1
    obtain rfl := Option.some.inj H
    go_wp2
    go_ret
    exact ⟨by first | rfl | (simp [errW_none, errW_some] <;> rfl) | (simp [*, errW_none, errW_some] <;> rfl), HB.out⟩
   ·replace c9 := Bool.eq_false_iff.mpr c9
    subst c9
    have H1 : ((Qj.f kj2 Jo Jj Ji Jh Jg Jf Je Jd Jc Jb J6 J8 J7 J5).bind fun t120 => (if t120 = 0 then ((Zn.f kj2 Jo Jj Ji Jh Jg Jf Je Jd Jc Jb J6 J8 J7 J5).bind fun t121 => (if t121 > 64 then (some 3) else (some 0))) else (some t120))) = some r := by rw [if_neg (show ¬ (false = true) by decide)] at H; exact H
    clear H
    have H := H1
    clear H1
    replace H := Option.bind_eq_some_iff.mp H
    obtain ⟨t120, A100, H⟩ := H
    replace H : (if t120 = 0 then ((Zn.f kj2 Jo Jj Ji Jh Jg Jf Je Jd Jc Jb J6 J8 J7 J5).bind fun t121 => (if t121 > 64 then (some 3) else (some 0))) else (some t120)) = some r := H
    have A10 := Zd.mk A100
    clear A100
    by_cases c11 : t120 = 0
    ·rw [if_pos c11] at H
     have c11b0 : (t120 == 0) = true := beq_iff_eq.mpr c11
     have c11b1 : (t120 != 0) = false := bne_eq_false_iff_eq.mpr c11
     clear c11
     replace H := Option.bind_eq_some_iff.mp H
     obtain ⟨t121, A120, H⟩ := H
     replace H : (if t121 > 64 then (some 3) else (some 0)) = some r := H
     have A12 := Zd.mk A120
     clear A120
     by_cases c13 : t121 > 64
     ·rw [if_pos c13] at H
      have c13b0 : decide (64 < t121) = true := decide_eq_true c13
      clear c13
      obtain rfl := Option.some.inj H
      obtain ⟨hcz14_0, hcz14_1, hcz14_2, hcz14_3, hcz14_4, hcz14_5, hcz14_6, hcz14_7, hcz14_8, hcz14_9, hcz14_10, hcz14_11, hcz14_12, hcz14_13⟩ := zc14 J3.out
      obtain ⟨hfz14_0, hfz14_1, hfz14_2, hfz14_3, hfz14_4, hfz14_5, hfz14_6, hfz14_7, hfz14_8, hfz14_9, hfz14_10, hfz14_11, hfz14_12, hfz14_13⟩ := zf14 J3.out
      go_wp2_with (first | ((with_reducible refine Zx (f := 16) rfl ?_); refine Xz (some 24) rfl rfl Try.func16 (by kernel_rfl) rfl #[.agg #[.int .i64 Jo, .int .i64 Jj, .int .i64 Ji, .bool Jh, .int .i64 Jg, .int .u64 Jf, .int .u64 Je, .int .i64 Jd, .bool Jc, .int .i64 Jb, .slice A0_10 J6.length c0_10, .int .i64 J8, .int .i64 J7, .slice A0_13 J5.length c0_13]] rfl (by (try simp only [List.map_toArray, List.map_cons, List.map_nil]); first | done | rfl | (simp only [List.length_drop, List.length_take]; rfl)) ?_; (with_reducible refine (Qj.calls kj2 Jo Jj Ji Jh Jg Jf Je Jd Jc Jb _ _ J6 J8 J7 _ _ J5 t120 _ ?side1 ?side2 ?side3 ?side4 A10.out).mono ?_); (case side1 => exact (Kd.Zw HR0_10.out HB.out)); (case side2 => exact HC0_10.out); (case side3 => exact (Kd.Zw HR0_13.out HB.out)); (case side4 => exact HC0_13.out); rintro e w15 ⟨rfl, hb⟩; refine ⟨_, rfl, ?_⟩; have n0_ := Zd.mk (Zp J3.out hb); have n1_ := Zd.mk (Zj HB.out hb); clear J3; clear HB; have J3 := n0_; have HB := n1_; clear n0_ n1_; (try clear hb); (try clear hb2); (try clear hk); (try clear hi); have hcz16_0 : w15.cell? ⟨J9, 0, none⟩ = some (.int .i64 Jo) := (Za J3.out 0).trans rfl; have hcz16_1 : w15.cell? ⟨J9, 1, none⟩ = some (.int .i64 Jj) := (Za J3.out 1).trans rfl; have hcz16_2 : w15.cell? ⟨J9, 2, none⟩ = some (.int .i64 Ji) := (Za J3.out 2).trans rfl; have hcz16_3 : w15.cell? ⟨J9, 3, none⟩ = some (.bool Jh) := (Za J3.out 3).trans rfl; have hcz16_4 : w15.cell? ⟨J9, 4, none⟩ = some (.int .i64 Jg) := (Za J3.out 4).trans rfl; have hcz16_5 : w15.cell? ⟨J9, 5, none⟩ = some (.int .u64 Jf) := (Za J3.out 5).trans rfl; have hcz16_6 : w15.cell? ⟨J9, 6, none⟩ = some (.int .u64 Je) := (Za J3.out 6).trans rfl; have hcz16_7 : w15.cell? ⟨J9, 7, none⟩ = some (.int .i64 Jd) := (Za J3.out 7).trans rfl; have hcz16_8 : w15.cell? ⟨J9, 8, none⟩ = some (.bool Jc) := (Za J3.out 8).trans rfl; have hcz16_9 : w15.cell? ⟨J9, 9, none⟩ = some (.int .i64 Jb) := (Za J3.out 9).trans rfl; have hcz16_10 : w15.cell? ⟨J9, 10, none⟩ = some (.slice A0_10 J6.length c0_10) := (Za J3.out 10).trans rfl; have hcz16_11 : w15.cell? ⟨J9, 11, none⟩ = some (.int .i64 J8) := (Za J3.out 11).trans rfl; have hcz16_12 : w15.cell? ⟨J9, 12, none⟩ = some (.int .i64 J7) := (Za J3.out 12).trans rfl; have hcz16_13 : w15.cell? ⟨J9, 13, none⟩ = some (.slice A0_13 J5.length c0_13) := (Za J3.out 13).trans rfl; have hfz16_0 := Zb J3.out 0; have hfz16_1 := Zb J3.out 1; have hfz16_2 := Zb J3.out 2; have hfz16_3 := Zb J3.out 3; have hfz16_4 := Zb J3.out 4; have hfz16_5 := Zb J3.out 5; have hfz16_6 := Zb J3.out 6; have hfz16_7 := Zb J3.out 7; have hfz16_8 := Zb J3.out 8; have hfz16_9 := Zb J3.out 9; have hfz16_10 := Zb J3.out 10; have hfz16_11 := Zb J3.out 11; have hfz16_12 := Zb J3.out 12; have hfz16_13 := Zb J3.out 13) | ((with_reducible refine Zx (f := 11) rfl ?_); refine Xz (some 29) rfl rfl Try.func11 (by kernel_rfl) rfl #[.agg #[.int .i64 Jo, .int .i64 Jj, .int .i64 Ji, .bool Jh, .int .i64 Jg, .int .u64 Jf, .int .u64 Je, .int .i64 Jd, .bool Jc, .int .i64 Jb, .slice A0_10 J6.length c0_10, .int .i64 J8, .int .i64 J7, .slice A0_13 J5.length c0_13]] rfl (by (try simp only [List.map_toArray, List.map_cons, List.map_nil]); first | done | rfl | (simp only [List.length_drop, List.length_take]; rfl)) ?_; (with_reducible refine (Zn.calls kj2 Jo Jj Ji Jh Jg Jf Je Jd Jc Jb _ _ J6 J8 J7 _ _ J5 t121 _ ?side1 ?side2 ?side3 ?side4 A12.out).mono ?_); (case side1 => exact (Kd.Zw HR0_10.out HB.out)); (case side2 => exact HC0_10.out); (case side3 => exact (Kd.Zw HR0_13.out HB.out)); (case side4 => exact HC0_13.out); rintro e w17 ⟨rfl, hb⟩; refine ⟨_, rfl, ?_⟩; have n0_ := Zd.mk (Zp J3.out hb); have n1_ := Zd.mk (Zj HB.out hb); clear J3; clear HB; have J3 := n0_; have HB := n1_; clear n0_ n1_; (try clear hb); (try clear hb2); (try clear hk); (try clear hi)))
      go_ret
      exact ⟨by first | rfl | (simp [errW_none, errW_some] <;> rfl) | (simp [*, errW_none, errW_some] <;> rfl), HB.out⟩
     ·rw [if_neg c13] at H
      have c13b0 : decide (64 < t121) = false := decide_eq_false c13
      clear c13
      obtain rfl := Option.some.inj H
      obtain ⟨hcz18_0, hcz18_1, hcz18_2, hcz18_3, hcz18_4, hcz18_5, hcz18_6, hcz18_7, hcz18_8, hcz18_9, hcz18_10, hcz18_11, hcz18_12, hcz18_13⟩ := zc14 J3.out
      obtain ⟨hfz18_0, hfz18_1, hfz18_2, hfz18_3, hfz18_4, hfz18_5, hfz18_6, hfz18_7, hfz18_8, hfz18_9, hfz18_10, hfz18_11, hfz18_12, hfz18_13⟩ := zf14 J3.out
      go_wp2_with (first | ((with_reducible refine Zx (f := 16) rfl ?_); refine Xz (some 24) rfl rfl Try.func16 (by kernel_rfl) rfl #[.agg #[.int .i64 Jo, .int .i64 Jj, .int .i64 Ji, .bool Jh, .int .i64 Jg, .int .u64 Jf, .int .u64 Je, .int .i64 Jd, .bool Jc, .int .i64 Jb, .slice A0_10 J6.length c0_10, .int .i64 J8, .int .i64 J7, .slice A0_13 J5.length c0_13]] rfl (by (try simp only [List.map_toArray, List.map_cons, List.map_nil]); first | done | rfl | (simp only [List.length_drop, List.length_take]; rfl)) ?_; (with_reducible refine (Qj.calls kj2 Jo Jj Ji Jh Jg Jf Je Jd Jc Jb _ _ J6 J8 J7 _ _ J5 t120 _ ?side1 ?side2 ?side3 ?side4 A10.out).mono ?_); (case side1 => exact (Kd.Zw HR0_10.out HB.out)); (case side2 => exact HC0_10.out); (case side3 => exact (Kd.Zw HR0_13.out HB.out)); (case side4 => exact HC0_13.out); rintro e w19 ⟨rfl, hb⟩; refine ⟨_, rfl, ?_⟩; have n0_ := Zd.mk (Zp J3.out hb); have n1_ := Zd.mk (Zj HB.out hb); clear J3; clear HB; have J3 := n0_; have HB := n1_; clear n0_ n1_; (try clear hb); (try clear hb2); (try clear hk); (try clear hi); have hcz20_0 : w19.cell? ⟨J9, 0, none⟩ = some (.int .i64 Jo) := (Za J3.out 0).trans rfl; have hcz20_1 : w19.cell? ⟨J9, 1, none⟩ = some (.int .i64 Jj) := (Za J3.out 1).trans rfl; have hcz20_2 : w19.cell? ⟨J9, 2, none⟩ = some (.int .i64 Ji) := (Za J3.out 2).trans rfl; have hcz20_3 : w19.cell? ⟨J9, 3, none⟩ = some (.bool Jh) := (Za J3.out 3).trans rfl; have hcz20_4 : w19.cell? ⟨J9, 4, none⟩ = some (.int .i64 Jg) := (Za J3.out 4).trans rfl; have hcz20_5 : w19.cell? ⟨J9, 5, none⟩ = some (.int .u64 Jf) := (Za J3.out 5).trans rfl; have hcz20_6 : w19.cell? ⟨J9, 6, none⟩ = some (.int .u64 Je) := (Za J3.out 6).trans rfl; have hcz20_7 : w19.cell? ⟨J9, 7, none⟩ = some (.int .i64 Jd) := (Za J3.out 7).trans rfl; have hcz20_8 : w19.cell? ⟨J9, 8, none⟩ = some (.bool Jc) := (Za J3.out 8).trans rfl; have hcz20_9 : w19.cell? ⟨J9, 9, none⟩ = some (.int .i64 Jb) := (Za J3.out 9).trans rfl; have hcz20_10 : w19.cell? ⟨J9, 10, none⟩ = some (.slice A0_10 J6.length c0_10) := (Za J3.out 10).trans rfl; have hcz20_11 : w19.cell? ⟨J9, 11, none⟩ = some (.int .i64 J8) := (Za J3.out 11).trans rfl; have hcz20_12 : w19.cell? ⟨J9, 12, none⟩ = some (.int .i64 J7) := (Za J3.out 12).trans rfl; have hcz20_13 : w19.cell? ⟨J9, 13, none⟩ = some (.slice A0_13 J5.length c0_13) := (Za J3.out 13).trans rfl; have hfz20_0 := Zb J3.out 0; have hfz20_1 := Zb J3.out 1; have hfz20_2 := Zb J3.out 2; have hfz20_3 := Zb J3.out 3; have hfz20_4 := Zb J3.out 4; have hfz20_5 := Zb J3.out 5; have hfz20_6 := Zb J3.out 6; have hfz20_7 := Zb J3.out 7; have hfz20_8 := Zb J3.out 8; have hfz20_9 := Zb J3.out 9; have hfz20_10 := Zb J3.out 10; have hfz20_11 := Zb J3.out 11; have hfz20_12 := Zb J3.out 12; have hfz20_13 := Zb J3.out 13) | ((with_reducible refine Zx (f := 11) rfl ?_); refine Xz (some 29) rfl rfl Try.func11 (by kernel_rfl) rfl #[.agg #[.int .i64 Jo, .int .i64 Jj, .int .i64 Ji, .bool Jh, .int .i64 Jg, .int .u64 Jf, .int .u64 Je, .int .i64 Jd, .bool Jc, .int .i64 Jb, .slice A0_10 J6.length c0_10, .int .i64 J8, .int .i64 J7, .slice A0_13 J5.length c0_13]] rfl (by (try simp only [List.map_toArray, List.map_cons, List.map_nil]); first | done | rfl | (simp only [List.length_drop, List.length_take]; rfl)) ?_; (with_reducible refine (Zn.calls kj2 Jo Jj Ji Jh Jg Jf Je Jd Jc Jb _ _ J6 J8 J7 _ _ J5 t121 _ ?side1 ?side2 ?side3 ?side4 A12.out).mono ?_); (case side1 => exact (Kd.Zw HR0_10.out HB.out)); (case side2 => exact HC0_10.out); (case side3 => exact (Kd.Zw HR0_13.out HB.out)); (case side4 => exact HC0_13.out); rintro e w21 ⟨rfl, hb⟩; refine ⟨_, rfl, ?_⟩; have n0_ := Zd.mk (Zp J3.out hb); have n1_ := Zd.mk (Zj HB.out hb); clear J3; clear HB; have J3 := n0_; have HB := n1_; clear n0_ n1_; (try clear hb); (try clear hb2); (try clear hk); (try clear hi)))
      go_ret
      exact ⟨by first | rfl | (simp [errW_none, errW_some] <;> rfl) | (simp [*, errW_none, errW_some] <;> rfl), HB.out⟩
    ·rw [if_neg c11] at H
     have c11b0 : (t120 == 0) = false := beq_eq_false_iff_ne.mpr c11
     have c11b1 : (t120 != 0) = true := bne_iff_ne.mpr c11
     obtain rfl := Option.some.inj H
     obtain ⟨hcz22_0, hcz22_1, hcz22_2, hcz22_3, hcz22_4, hcz22_5, hcz22_6, hcz22_7, hcz22_8, hcz22_9, hcz22_10, hcz22_11, hcz22_12, hcz22_13⟩ := zc14 J3.out
     obtain ⟨hfz22_0, hfz22_1, hfz22_2, hfz22_3, hfz22_4, hfz22_5, hfz22_6, hfz22_7, hfz22_8, hfz22_9, hfz22_10, hfz22_11, hfz22_12, hfz22_13⟩ := zf14 J3.out
     go_wp2_with (((with_reducible refine Zx (f := 16) rfl ?_); refine Xz (some 24) rfl rfl Try.func16 (by kernel_rfl) rfl #[.agg #[.int .i64 Jo, .int .i64 Jj, .int .i64 Ji, .bool Jh, .int .i64 Jg, .int .u64 Jf, .int .u64 Je, .int .i64 Jd, .bool Jc, .int .i64 Jb, .slice A0_10 J6.length c0_10, .int .i64 J8, .int .i64 J7, .slice A0_13 J5.length c0_13]] rfl (by (try simp only [List.map_toArray, List.map_cons, List.map_nil]); first | done | rfl | (simp only [List.length_drop, List.length_take]; rfl)) ?_; (with_reducible refine (Qj.calls kj2 Jo Jj Ji Jh Jg Jf Je Jd Jc Jb _ _ J6 J8 J7 _ _ J5 t120 _ ?side1 ?side2 ?side3 ?side4 A10.out).mono ?_); (case side1 => exact (Kd.Zw HR0_10.out HB.out)); (case side2 => exact HC0_10.out); (case side3 => exact (Kd.Zw HR0_13.out HB.out)); (case side4 => exact HC0_13.out); rintro e w23 ⟨rfl, hb⟩; refine ⟨_, rfl, ?_⟩; have n0_ := Zd.mk (Zp J3.out hb); have n1_ := Zd.mk (Zj HB.out hb); clear J3; clear HB; have J3 := n0_; have HB := n1_; clear n0_ n1_; (try clear hb); (try clear hb2); (try clear hk); (try clear hi)))
     go_ret
     exact ⟨by first | rfl | (simp [errW_none, errW_some] <;> rfl) | (simp [*, errW_none, errW_some] <;> rfl), HB.out⟩
end Go.Proofs.Ytkbkndfonccekaa.PF
namespace Go.Proofs.Ytkbkndfonccekaa.PF
open Go.RowKit Go.Proofs.YtkbkndfonccekaaW.PrintWords Go.Proofs.YtkbkndfonccekaaW.PrintLast Go.Proofs.YtkbkndfonccekaaW.PrintMore
attribute [local go_sem] Qn Qp Kq Kt
set_option linter.unusedVariables false
set_option linter.unusedSimpArgs false
def Qg.l0 : Nat → List Int → List Bool → Int → Int → Option (List Int)
  | 0, _, _, _, _ => none
  | k + 1, x3, x6, x7, x8 => if x8 < x7 then (if 0 ≤ x8 then (if x8 < (x6.length : Int) then (if rdOf false x6 x8 = true then (if x3.length < 17592186044416 then (Qg.l0 k (x3 ++ [x8]) x6 x7 (wrap64 (x8 + 1))) else (none)) else (Qg.l0 k x3 x6 x7 (wrap64 (x8 + 1)))) else (none)) else (none)) else (some x3)
def Qg.f (k : Nat) (l0 : List Bool) : Option (List Int) := Qg.l0 k ([] : List Int) l0 (l0.length : Int) 0
theorem Qg.mono_l : ∀ k, (∀ y0 y1 y2 y3, Xo (Qg.l0 k y0 y1 y2 y3) (Qg.l0 (k + 1) y0 y1 y2 y3))
  | 0 => fun _ _ _ _ r h => by simp [Qg.l0] at h
  | k + 1 => by
    have ih0 := Qg.mono_l k
    · intro y0 y1 y2 y3
      unfold Qg.l0
      repeat' first
      | (with_reducible exact ih0 _ _ _ _)
      | (with_reducible exact Xo.refl _)
      | (with_reducible exact Xo.none _)
      | (with_reducible refine Xo.ite ?_ ?_)
      | (with_reducible refine Xo.bind ?_ (fun _ => ?_))
      | exact ih0 _ _ _ _
      | exact Xo.none _
      | refine Xo.ite ?_ ?_
      | refine Xo.bind ?_ (fun _ => ?_)
theorem Qg.mono : ∀ a0 k, Xo (Qg.f k a0) (Qg.f (k + 1) a0) := by
  intro a0 k
  have ih0 := Qg.mono_l k
  unfold Qg.f
  repeat' first
      | (with_reducible exact ih0 _ _ _ _)
      | (with_reducible exact Xo.refl _)
      | (with_reducible exact Xo.none _)
      | (with_reducible refine Xo.ite ?_ ?_)
      | (with_reducible refine Xo.bind ?_ (fun _ => ?_))
      | exact ih0 _ _ _ _
      | exact Xo.none _
      | refine Xo.ite ?_ ?_
      | refine Xo.bind ?_ (fun _ => ?_)
set_option maxHeartbeats 8000000 in
set_option maxRecDepth 100000 in
theorem Qg.calls (k : Nat) (A0 : Option Addr) (c0 : Nat) (l0 : List Bool) (r : List Int) (w : World) (hr0 : Kd.C Kd.bool w A0 l0.length l0) (hc0 : l0.length ≤ c0) (h : Qg.f k l0 = some r) :
 Calls Try.prog 28 #[.slice A0 l0.length c0] w fun e w' => ∃ v0_ : Value, e = .returned (v0_) ∧ Kd.R (Kd.int .i64) 3 w' w.heap.size (fun _ => True) v0_ r ∧ Below w.heap.size w w' := by
 have HR0 := Zd.mk hr0
 have HC0 := Zd.mk hc0
 clear hr0 hc0
 have HB := Zd.mk (Below.refl w.heap.size w)
 have H : (Qg.l0 k ([] : List Int) l0 (l0.length : Int) 0) = some r := h
 clear h
 have H' := Zd.mk H
 clear H
 go_enter Try.func28, Try.ntmps28
 go_wp2
 go_loopg [3, 8] k (fun kq v3 v8 w' => ∃ (Ju : List Int) (Jr : Int), v8 = .int .i64 Jr ∧ Zd (Qg.l0 kq Ju l0 (l0.length : Int) Jr = some r) ∧ Zd (kq ≤ k) ∧ Zd (Kd.R (Kd.int .i64) 3 w' w.heap.size (fun _ => True) v3 Ju) ∧ Zd (Below w.heap.size w w'))
 case atStart => exact ⟨(([] : List Int)), (0), (by first | rfl | (simp; done) | (simp [*]; done)), H', ⟨Nat.le_refl _⟩, ⟨by first | exact Kd.R_nil _ _ _ _ _ | exact Kd.N_nil _ _ _ _ _ | exact Kd.V_nil _ _ _ _ _ | exact Kd.Q_nil _ _ _ _ _ | exact Kd.S_nil _ _ _ _ _⟩, ⟨HB.out⟩⟩
 case round =>
  clear H'
  obtain ⟨Ju, Jr, rfl, HA, HK1, HO_3, HB⟩ := hrel
  cases gk with
  | zero => exact absurd HA.out (by simp [Qg.l0])
  | succ k1 =>
   have H := HA.out
   clear HA
   simp only [Qg.l0] at H
   by_cases c2 : Jr < (l0.length : Int)
   ·rw [if_pos c2] at H
    have c2b0 : decide (Jr < (l0.length : Int)) = true := decide_eq_true c2
    clear c2
    by_cases c3 : 0 ≤ Jr
    ·rw [if_pos c3] at H
     have c3b0 : decide (0 ≤ Jr) = true := decide_eq_true c3
     clear c3
     by_cases c4 : Jr < (l0.length : Int)
     ·rw [if_pos c4] at H
      have c4b0 : decide (Jr < (l0.length : Int)) = true := decide_eq_true c4
      clear c4
      obtain ⟨bq5, hbq5⟩ : ∃ b_ : Bool, b_ = (rdOf false l0 Jr) := ⟨_, rfl⟩
      replace H : (if bq5 = true then (if Ju.length < 17592186044416 then (Qg.l0 k1 (Ju ++ [Jr]) l0 (l0.length : Int) (wrap64 (Jr + 1))) else (none)) else (Qg.l0 k1 Ju l0 (l0.length : Int) (wrap64 (Jr + 1)))) = some r := by rw [← hbq5] at H; exact H
      have Nbq5 := Zd.mk hbq5
      clear hbq5
      by_cases c6 : bq5 = true
      ·subst c6
       have H1 : (if Ju.length < 17592186044416 then (Qg.l0 k1 (Ju ++ [Jr]) l0 (l0.length : Int) (wrap64 (Jr + 1))) else (none)) = some r := by rw [if_pos rfl] at H; exact H
       clear H
       have H := H1
       clear H1
       by_cases c7 : Ju.length < 17592186044416
       ·rw [if_pos c7] at H
        have LMc7 := Zd.mk c7
        clear c7
        obtain ⟨y209, hy209⟩ : ∃ y_ : List Int, y_ = (Ju ++ [Jr]) := ⟨_, rfl⟩
        replace H : (Qg.l0 k1 y209 l0 (l0.length : Int) (wrap64 (Jr + 1))) = some r := by first | (rw [hy209]; with_reducible exact H) | (have H2_ := (Option.bind_some _ _).symm.trans H; rw [hy209]; with_reducible exact H2_) | (have H2_ := (Option.bind_some _ _).symm.trans H; with_reducible exact H2_) | with_reducible exact H | (rw [hy209]; exact H) | exact H
        have Ny209 := Zd.mk hy209
        clear hy209
        have H' := Zd.mk H
        clear H
        have p208 : 0 ≤ (Jr : Int) := of_decide_eq_true (by first | (with_reducible assumption) | assumption)
        have q208 : Jr < (l0.length : Int) := of_decide_eq_true (by first | (with_reducible assumption) | assumption)
        obtain ⟨ad208, e208, hx208_0⟩ := Kd.at_bool HR0.out Jr p208 q208
        (try rw [← Nbq5.out] at hx208_0)
        cases e208
        replace hx208_0 := zb HB.out hx208_0
        replace p208 := eq_true p208
        replace q208 := eq_true q208
        go_wp2_with (((with_reducible refine gate_builtin (b := .append) (xs := #[.tmp 14, .tmp 16]) rfl ?_); at_builtin; refine Kd.R_append (Kd.int .i64) (w0 := w) w.heap.size rfl (.tmp 14) (.tmp 16) 49 3 (.int .i64 0) 8 rfl Try.underlying49 info3 rfl (by decide) (by omega) u3 Ju Jr [.int .i64 Jr] (fun _ => True) (fun _ => False) rfl rfl ?aP (fun _ hk => hk.elim) ?aF ?aO ?aB ?aS ?aL ?_; (case aP => exact rfl); (case aB => exact HB.out); (case aF => exact (fun _ _ => trivial)); (case aO => exact HO_3.out); (case aS => exact (Zl HB.out)); (case aL => have := LMc7.out; omega); intro v210 w8 ho hb hg hat; rw [← Ny209.out] at ho; have n0_ := Zd.mk (hb); have n1_ := Zd.mk (ho); clear HB; clear HO_3; have HB := n0_; have HO211 := n1_; clear n0_ n1_; clear ho hb hg hat))
        go_roundg k1
        case measure => have := HK1.out; omega
        case rel => exact ⟨(y209), (wrap64 (Jr + 1)), (by first | rfl | (simp; done) | (simp [*]; done)), H', ⟨by have := HK1.out; omega⟩, ⟨HO211.out⟩, ⟨HB.out⟩⟩
       ·rw [if_neg c7] at H
        exact absurd H (by simp)
      ·replace c6 := Bool.eq_false_iff.mpr c6
       subst c6
       have H1 : (Qg.l0 k1 Ju l0 (l0.length : Int) (wrap64 (Jr + 1))) = some r := by rw [if_neg (show ¬ (false = true) by decide)] at H; exact H
       clear H
       have H := H1
       clear H1
       have H' := Zd.mk H
       clear H
       have p208 : 0 ≤ (Jr : Int) := of_decide_eq_true (by first | (with_reducible assumption) | assumption)
       have q208 : Jr < (l0.length : Int) := of_decide_eq_true (by first | (with_reducible assumption) | assumption)
       obtain ⟨ad208, e208, hx208_0⟩ := Kd.at_bool HR0.out Jr p208 q208
       (try rw [← Nbq5.out] at hx208_0)
       cases e208
       replace hx208_0 := zb HB.out hx208_0
       replace p208 := eq_true p208
       replace q208 := eq_true q208
       go_wp2
       go_roundg k1
       case measure => have := HK1.out; omega
       case rel => exact ⟨(Ju), (wrap64 (Jr + 1)), (by first | rfl | (simp; done) | (simp [*]; done)), H', ⟨by have := HK1.out; omega⟩, ⟨HO_3.out⟩, ⟨HB.out⟩⟩
     ·rw [if_neg c4] at H
      exact absurd H (by simp)
    ·rw [if_neg c3] at H
     exact absurd H (by simp)
   ·rw [if_neg c2] at H
    have c2b0 : decide (Jr < (l0.length : Int)) = false := decide_eq_false c2
    clear c2
    obtain rfl := Option.some.inj H
    go_wp2
    go_ret
    exact ⟨_, by first | rfl | (simp [errW_none, errW_some] <;> rfl) | (simp [*, errW_none, errW_some] <;> rfl), by (with_reducible repeat (first | apply Kd.R_alloc | apply Kd.R_drewN | apply Kd.R_drew)); exact HO_3.out, HB.out⟩
end Go.Proofs.Ytkbkndfonccekaa.PF
namespace Go.Proofs.Ytkbkndfonccekaa
open Go.RowKit
def rdr (o : Oper) : Bool :=
  match o.op with
  | .move _ | .assign _ | .pick _ _ _ | .load _ _ | .binOp _ _ _ _ _ | .unOp _ _ _ | .convert _ _ _ | .slice _ _ _ _ _ | .fieldAddr _ _ _ | .field _ _ _ | .indexAddr _ _ _ | .index _ _ _
  | .lookup _ _ _ _ | .extract _ _ | .build _ _ | .makeFunc _ _ _ | .makeInterface _ _ => true
  | .call c => (match c.callee with | .builtin .len => true | _ => false)
  | _ => false
def pickB : List Bool → List Oper → List Oper
  | true :: m, o :: l => o :: pickB m l
  | false :: m, _ :: l => pickB m l
  | _, _ => []
def dropB : List Bool → List Oper → List Oper
  | true :: m, _ :: l => dropB m l
  | false :: m, o :: l => o :: dropB m l
  | _, _ => []
def readersB (md : Region.Mode) (ops : Array Oper) : List Bool → Nat → Array Bool → Bool
  | [], _, _ => true
  | true :: m, k, listed => (Region.ready md ops listed).contains k && Region.free md ops listed k && ((ops[k]?).map rdr).getD false && readersB md ops m (k + 1) (listed.setIfInBounds k true)
  | false :: m, k, listed => readersB md ops m (k + 1) listed
def listedB : List Bool → Nat → Array Bool → Array Bool
  | [], _, listed => listed
  | true :: m, k, listed => listedB m (k + 1) (listed.setIfInBounds k true)
  | false :: m, k, listed => listedB m (k + 1) listed
def Jz (md : Region.Mode) (ops : Array Oper) : List Bool → Nat → Array Bool → Bool
  | [], _, listed => (Region.ready md ops listed).isEmpty
  | false :: m, k, listed => (Region.ready md ops listed == [k]) && Jz md ops m (k + 1) (listed.setIfInBounds k true)
  | true :: m, k, listed => Jz md ops m (k + 1) listed
def splitB (md : Region.Mode) (ops : Array Oper) (m : List Bool) : Bool :=
  Region.noSelect ops && (m.length == ops.size) && readersB md ops m 0 (Array.replicate ops.size false) && Jz md ops m 0 (listedB m 0 (Array.replicate ops.size false))
section
variable {P : Program} {ops : Array Oper} {S : World → Prop} {Q : Exit → Act → World → Prop} {md : Region.Mode}
def wpListS (P : Program) (ops : Array Oper) (S : World → Prop) (Q : Exit → Act → World → Prop) : List Oper → Act → World → Prop
  | [], a, w => Q .normal a w
  | o :: rest, a, w => if Region.wanted o (yielded ops a.tmps) then o.wp P a w (fun a' w' => S w' ∧ wpListS P ops S Q rest a' w') Q ∨ (o.asks P a w ∧ LetsOut Q) else wpListS P ops S Q rest (a.put o.dst undef) w
theorem quiet_reads {o : Oper} {a : Act} {w : World} {v : Value} (hr : rdr o = true) (h : o.quietAt P a S w v) : (execOp a.eval o).run P w = .ok (.value v) w := by
  have vform : ∀ (s : Sem Value), Oper.quietUpon P S w v ((do pure (Next.value (← s))).run P w) → ((do pure (Next.value (← s))).run P w) = .ok (.value v) w := by
    intro s hs
    simp only [Sem.run_bind, Sem.run_pure] at hs ⊢
    cases hsr : s.run P w with
    | ok u w' =>
      rw [hsr] at hs
      simp only [Result.andThen_ok, Oper.quietUpon] at hs ⊢
      rw [hs.1, hs.2]
    | halt x w' =>
      rw [hsr] at hs
      simp [Result.andThen, Oper.quietUpon] at hs
  unfold Oper.quietAt at h
  unfold rdr at hr
  unfold execOp at h ⊢
  cases hop : o.op
  all_goals rw [hop] at hr
  all_goals simp only [hop] at h ⊢
  all_goals first | (simp at hr; done) | exact vform _ h | skip
  case move x => simpa [Oper.quietUpon, eq_comm] using h
  case assign x => simpa [Oper.quietUpon, eq_comm] using h
  case pick c x y =>
    simp only [Sem.run_bind, Sem.run_pure] at h ⊢
    cases hsr : (asBool (a.eval c)).run P w with
    | ok u w' =>
      rw [hsr] at h
      simp only [Result.andThen_ok, Oper.quietUpon] at h ⊢
      rw [h.1, h.2]
    | halt x w' =>
      rw [hsr] at h
      simp [Result.andThen, Oper.quietUpon] at h
  case call c =>
    obtain ⟨callee, args, tys⟩ := c
    cases callee with
    | value f => simp at hr
    | invoke r m => simp at hr
    | builtin b =>
      cases b
      all_goals first | (simp at hr; done) | skip
      simp only [resolve, Sem.run_bind, Sem.run_pure, Result.andThen_ok, invoke, builtin] at h ⊢
      have hv := vform (Builtin.len_ tys o.type (args.map a.eval)) (by simp only [Sem.run_bind, Sem.run_pure]; exact h)
      simpa only [Sem.run_bind, Sem.run_pure] using hv
theorem mix_readers {w : World} (hs : Region.noSelect ops = true) (hS : S w) (hQ : ∀ c a d v w, Q (.panic c) (Act.put a d v) w → Q (.panic c) a w) {G : Act → Prop} {n : Nat} :
    ∀ (m : List Bool) (l : List Oper) (k : Nat) (listed : Array Bool) (a : Act), (∀ j, l[j]? = ops[k + j]?) → readersB md ops m k listed = true →
      (∀ a', G a' → wpAnyH P md ops Q S n (listedB m k listed) a' w) → wpQuiet P ops S G (pickB m l) a → wpAnyH P md ops Q S ((m.filter id).length + n) listed a w
  | [], l, k, listed, a, _, _, hG, h => by
    simp only [pickB] at h
    simpa [listedB] using hG a h
  | true :: m, [], k, listed, a, hl, hB, _, _ => by
    simp only [readersB, Bool.and_eq_true] at hB
    have := hl 0
    simp only [List.getElem?_nil, Nat.add_zero] at this
    rw [← this] at hB
    simp at hB
  | true :: m, o :: l, k, listed, a, hl, hB, hG, h => by
    have h0 : ops[k]? = some o := by simpa using (hl 0).symm
    simp only [readersB, Bool.and_eq_true, h0, Option.map_some, Option.getD_some] at hB
    obtain ⟨⟨⟨hr, hf⟩, hrd⟩, hB'⟩ := hB
    have hl' : ∀ j, l[j]? = ops[k + 1 + j]? := fun j => by have := hl (j + 1); simpa [Nat.add_assoc, Nat.add_comm 1 j] using this
    simp only [pickB, wpQuiet] at h
    rw [show ((true :: m).filter id).length + n = ((m.filter id).length + n) + 1 by simp; omega]
    by_cases hw : Region.wanted o (yielded ops a.tmps) = true
    · rw [if_pos hw] at h
      obtain ⟨v, hv, hn⟩ := h
      refine wpAnyH_take (v := v) h0 hs hf (by simpa using hr) (fun c a w => hQ c a _ _ w) (.inl ⟨hw, fun w' hw' => quiet_reads hrd (hv w' hw')⟩) hS ?_
      exact mix_readers hs hS hQ m l (k + 1) _ _ hl' hB' hG hn
    · rw [if_neg hw] at h
      refine wpAnyH_take (v := undef) h0 hs hf (by simpa using hr) (fun c a w => hQ c a _ _ w) (.inr ⟨by simpa using hw, rfl⟩) hS ?_
      exact mix_readers hs hS hQ m l (k + 1) _ _ hl' hB' hG h
  | false :: m, [], k, listed, a, hl, hB, hG, h => by
    have hp : pickB (false :: m) [] = pickB m [] := by cases m with | nil => rfl | cons b m => cases b <;> rfl
    rw [hp] at h
    have := mix_readers (w := w) hs hS hQ m [] (k + 1) listed a (fun j => by
      have hsz := hl 0
      simp only [List.getElem?_nil, Nat.add_zero] at hsz
      have : ops.size ≤ k := by rcases Nat.lt_or_ge k ops.size with hlt | hge
                                · rw [Array.getElem?_eq_getElem hlt] at hsz; cases hsz
                                · exact hge
      rw [Array.getElem?_eq_none (by omega)]; rfl) hB hG h
    simpa using this
  | false :: m, o :: l, k, listed, a, hl, hB, hG, h => by
    have := mix_readers hs hS hQ m l (k + 1) listed a (fun j => by have := hl (j + 1); simpa [Nat.add_assoc, Nat.add_comm 1 j] using this) hB hG h
    simpa using this
theorem mix_effects : ∀ (m : List Bool) (l : List Oper) (k : Nat) (listed : Array Bool) (a : Act) (w : World), m.length = l.length → (∀ j, l[j]? = ops[k + j]?) → S w → Jz md ops m k listed = true →
      wpListS P ops S Q (dropB m l) a w → wpAnyH P md ops Q S ((m.filter (!·)).length) listed a w
  | [], [], k, listed, a, w, _, _, _, hB, h => by
    simp only [Jz, List.isEmpty_iff] at hB
    exact wpAnyH_done hB h _
  | [], _ :: _, _, _, _, _, hm, _, _, _, _ => by simp at hm
  | _ :: _, [], _, _, _, _, hm, _, _, _, _ => by simp at hm
  | true :: m, o :: l, k, listed, a, w, hm, hl, hS, hB, h => by
    have := mix_effects m l (k + 1) listed a w (by simpa using hm) (fun j => by have := hl (j + 1); simpa [Nat.add_assoc, Nat.add_comm 1 j] using this) hS hB h
    simpa using this
  | false :: m, o :: l, k, listed, a, w, hm, hl, hS, hB, h => by
    have h0 : ops[k]? = some o := by simpa using (hl 0).symm
    simp only [Jz, Bool.and_eq_true, beq_iff_eq] at hB
    have hl' : ∀ j, l[j]? = ops[k + 1 + j]? := fun j => by have := hl (j + 1); simpa [Nat.add_assoc, Nat.add_comm 1 j] using this
    simp only [dropB, wpListS] at h
    rw [show ((false :: m).filter (!·)).length = (m.filter (!·)).length + 1 by simp]
    refine wpAnyH_all hB.1 (by simp) fun i hi => ?_
    simp only [List.mem_singleton] at hi
    subst hi
    unfold wpOp
    simp only [h0]
    by_cases hw : Region.wanted o (yielded ops a.tmps) = true
    · rw [if_pos hw] at h
      rw [if_pos hw]
      rcases h with h | h
      case inr => exact .inr h
      refine .inl (Oper.wp_mono (fun a' w' h' => ⟨h'.1, ?_⟩) h)
      exact mix_effects m l _ _ a' w' (by simpa using hm) hl' h'.1 hB.2 h'.2
    · rw [if_neg hw] at h
      rw [if_neg hw]
      exact ⟨hS, mix_effects m l _ _ _ w (by simpa using hm) hl' hS hB.2 h⟩
theorem filter_both (m : List Bool) : (m.filter id).length + (m.filter (!·)).length = m.length := by
  induction m with
  | nil => rfl
  | cons b m ih => cases b <;> simp only [List.filter_cons, id, Bool.not_true, Bool.not_false, if_true, Bool.false_eq_true, if_false, List.length_cons] <;> omega
theorem wp_region_split {id : Nat} {a : Act} {w : World} {l : List Oper} (S : World → Prop) (m : List Bool) (hm : P.follows .mixedOrders = true) (hB : splitB .any l.toArray m = true) (hS : S w.drew)
    (hQ : ∀ c a d v w, Q (.panic c) (Act.put a d v) w → Q (.panic c) a w)
    (h : wpQuiet P l.toArray S (fun a' => wpListS P l.toArray S Q (dropB m l) a' w.drew) (pickB m l) a) : (Code.region id l.toArray true).wp P Q a w := by
  simp only [splitB, Bool.and_eq_true, beq_iff_eq] at hB
  obtain ⟨⟨⟨hs, hlen⟩, hR⟩, hE⟩ := hB
  refine wp_region_held (S := S) hm ?_
  have hlen' : m.length = l.length := by simpa using hlen
  have key := mix_readers (P := P) (Q := Q) (md := .any) (w := w.drew) (n := (m.filter (!·)).length) hs hS hQ m l 0 (Array.replicate l.toArray.size false) a (fun j => by simp) hR
    (fun a' ha' => mix_effects m l 0 _ a' w.drew hlen' (fun j => by simp) hS hE ha') h
  rw [filter_both, hlen] at key
  exact key
theorem wpListS_nil {a : Act} {w : World} (h : Q .normal a w) : wpListS P ops S Q [] a w := h
def oneBy (S : World → Prop) (N : Act → World → Prop) (Q : Exit → Act → World → Prop) : Exit → Act → World → Prop
  | .normal, a, w => S w ∧ N a w
  | .exit i, a, w => Q (.exit i) a w
  | .goto l, a, w => Q (.goto l) a w
  | .ret, a, w => Q .ret a w
  | .panic c, a, w => Q (.panic c) a w
  | .outgrown, a, w => Q .outgrown a w
theorem upon_oneBy {N : Act → World → Prop} {o : Oper} {a : Act} {K : Act → World → Prop} {r : Result Next} : o.upon P a K (oneBy S N Q) r = o.upon P a K Q r := by
  cases r with
  | ok n w' => cases n <;> rfl
  | halt x w' => cases x <;> rfl
theorem wpListS_step {o : Oper} {rest : List Oper} {a : Act} {w : World} (h : ∀ Q', (∀ a' w', S w' ∧ wpListS P ops S Q rest a' w' → Q' .normal a' w') → wpList P ops Q' [o] a w) (_hS : S w) : wpListS P ops S Q (o :: rest) a w := by
  have h1 := h (oneBy S (wpListS P ops S Q rest) Q) (fun _ _ h => h)
  rw [wpListS]
  rw [wpList] at h1
  split
  · rename_i hw
    rw [if_pos hw] at h1
    rcases h1 with h1 | h1
    · refine .inl ?_
      unfold Oper.wp at h1 ⊢
      rw [upon_oneBy] at h1
      exact h1
    · exact .inr h1
  · rename_i hw
    rw [if_neg hw] at h1
    exact h1.2
end
end Go.Proofs.Ytkbkndfonccekaa
namespace Go.Proofs.Ytkbkndfonccekaa
open Go.RowKit
section
variable {P : Program} {ops : Array Oper} {S : World → Prop} {Q : Exit → Act → World → Prop} {md : Region.Mode} {last : Nat}
def wpAnyT (P : Program) (md : Region.Mode) (ops : Array Oper) (Q : Exit → Act → World → Prop) (S : World → Prop) (last : Nat) : Nat → Array Bool → Act → World → Prop
  | 0, listed, a, w => Region.ready md ops listed = [] ∧ Q .normal a w
  | fuel + 1, listed, a, w =>
    (Region.ready md ops listed = [] → Q .normal a w) ∧
    ∀ i ∈ Region.ready md ops listed, wpOp P ops Q i (fun a' w' => (i = last ∨ S w') ∧ wpAnyT P md ops Q S last fuel (listed.setIfInBounds i true) a' w') a w
theorem anyT : ∀ (fuel : Nat) (listed : Array Bool) (a : Act) (w : World), wpAnyT P md ops Q S last fuel listed a w → wpAny P md ops Q fuel listed a w
  | 0, _, _, _, h => h
  | fuel + 1, _, _, _, h => ⟨h.1, fun i hi => wpOp_mono (fun a' w' h' => anyT fuel _ a' w' h'.2) (h.2 i hi)⟩
def waitsFor (md : Region.Mode) (ops : Array Oper) (last i : Nat) : Bool := match ops[last]? with
  | none => false
  | some o => o.after.any fun e => Region.binds md e && e.on == i
theorem anyT_first {i : Nat} {oi : Oper} {v : Value} (hi : ops[i]? = some oi) (hs : Region.noSelect ops = true) (hw : waitsFor md ops last i = true) (hQ : ∀ c a w, Q (.panic c) (a.put oi.dst v) w → Q (.panic c) a w) :
    ∀ (fuel : Nat) (listed : Array Bool) (a : Act) (w : World),
      (∀ j oj, ops[j]? = some oj → j ≠ i → listed.getD j true = false → (∀ e ∈ oj.after, Region.binds md e = true → e.on ≠ i) → oi.apart ops oj = true) →
      i ∈ Region.ready md ops listed → YieldsIf P ops S oi v a → S w → wpAnyT P md ops Q S last fuel (listed.setIfInBounds i true) (a.put oi.dst v) w → wpAnyT P md ops Q S last (fuel + 1) listed a w := by
  have hsel := Region.noSelect_spec hs
  have hnl : ∀ listed : Array Bool, i ∈ Region.ready md ops listed → last ∈ Region.ready md ops listed → False := by
    intro listed hir hlr
    obtain ⟨hun, _⟩ := mem_ready.1 hir
    obtain ⟨_, ol, hol, hall⟩ := mem_ready.1 hlr
    simp only [waitsFor, hol, Array.any_eq_true] at hw
    obtain ⟨k, hk, hbk⟩ := hw
    simp only [Bool.and_eq_true, beq_iff_eq] at hbk
    have h1 := hall _ (Array.getElem_mem hk) hbk.1
    rw [hbk.2] at h1
    rcases Nat.lt_or_ge i listed.size with hlt | hge
    · simp only [Array.getD_eq_getD_getElem?, Array.getElem?_eq_getElem hlt, Option.getD_some] at h1 hun
      rw [hun] at h1; cases h1
    · simp [Array.getElem?_eq_none hge] at h1
  intro fuel
  induction fuel with
  | zero =>
    intro listed a w _ hr hy hS H
    refine ⟨fun h0 => (by rw [h0] at hr; cases hr), fun j hj => ?_⟩
    by_cases hji : j = i
    · subst hji
      exact hy.wpOp hi hS ⟨.inr hS, H⟩
    · have h0 := ready_mono hj hji
      rw [H.1] at h0
      cases h0
  | succ fuel ih =>
    intro listed a w hfree hr hy hS H
    refine ⟨fun h0 => (by rw [h0] at hr; cases hr), fun j hj => ?_⟩
    by_cases hji : j = i
    · subst hji
      exact hy.wpOp hi hS ⟨.inr hS, H⟩
    · have hjl : j ≠ last := fun e => hnl listed hr (e ▸ hj)
      obtain ⟨hjun, oj, hoj, hall⟩ := mem_ready.1 hj
      have hnot : ∀ e ∈ oj.after, Region.binds md e = true → e.on ≠ i := fun e he hb heq => by
        have h1 := hall e he hb
        have h0 := (mem_ready.1 hr).1
        rw [heq] at h1
        rcases Nat.lt_or_ge i listed.size with hlt | hge
        · simp only [Array.getD_eq_getD_getElem?, Array.getElem?_eq_getElem hlt, Option.getD_some] at h1 h0
          rw [h0] at h1; cases h1
        · simp [Array.getElem?_eq_none hge] at h1
      have h2 := wpOp_putIf hoj (hfree j oj hoj hji hjun hnot) (fun cs b => hsel i oi cs b hi) (fun cs b => hsel j oj cs b hoj) hQ hy (H.2 j (ready_mono hj hji))
      refine wpOp_mono (fun a' w' h3 => ?_) h2
      have hSw : S w' := h3.2.1.resolve_left hjl
      refine ⟨.inr hSw, ih (listed.setIfInBounds j true) a' w' ?_ (ready_mono hr (Ne.symm hji)) h3.1 hSw ?_⟩
      · intro k ok hk hki hun hno
        refine hfree k ok hk hki ?_ hno
        by_cases hjk : j = k
        · exact hjk ▸ hjun
        · rwa [getD_set_ne true hjk] at hun
      · rw [Array.setIfInBounds_comm _ _ hji]
        exact h3.2.2
def readersT (md : Region.Mode) (ops : Array Oper) (last : Nat) : List Bool → Nat → Array Bool → Bool
  | [], _, _ => true
  | true :: m, k, listed => (Region.ready md ops listed).contains k && Region.free md ops listed k && ((ops[k]?).map rdr).getD false && waitsFor md ops last k && readersT md ops last m (k + 1) (listed.setIfInBounds k true)
  | false :: m, k, listed => readersT md ops last m (k + 1) listed
def splitT (md : Region.Mode) (ops : Array Oper) (m : List Bool) : Bool :=
  Region.noSelect ops && (m.length == ops.size) && readersT md ops (ops.size - 1) m 0 (Array.replicate ops.size false) && Jz md ops m 0 (listedB m 0 (Array.replicate ops.size false))
def Js (P : Program) (ops : Array Oper) (S : World → Prop) (Q : Exit → Act → World → Prop) : List Oper → Act → World → Prop
  | [], a, w => Q .normal a w
  | o :: rest, a, w => if Region.wanted o (yielded ops a.tmps) then o.wp P a w (fun a' w' => (rest = [] ∨ S w') ∧ Js P ops S Q rest a' w') Q ∨ (o.asks P a w ∧ LetsOut Q) else (rest = [] ∨ S w) ∧ Js P ops S Q rest (a.put o.dst undef) w
theorem mixT_readers {w : World} (hs : Region.noSelect ops = true) (hS : S w) (hQ : ∀ c a d v w, Q (.panic c) (Act.put a d v) w → Q (.panic c) a w) {G : Act → Prop} {n : Nat} :
    ∀ (m : List Bool) (l : List Oper) (k : Nat) (listed : Array Bool) (a : Act), (∀ j, l[j]? = ops[k + j]?) → m.length = l.length → readersT md ops last m k listed = true →
      (∀ a', G a' → wpAnyT P md ops Q S last n (listedB m k listed) a' w) → wpQuiet P ops S G (pickB m l) a → wpAnyT P md ops Q S last ((m.filter id).length + n) listed a w
  | [], l, k, listed, a, _, _, _, hG, h => by
    simp only [pickB] at h
    simpa [listedB] using hG a h
  | _ :: _, [], _, _, _, _, hm, _, _, _ => by simp at hm
  | true :: m, o :: l, k, listed, a, hl, hm, hB, hG, h => by
    have h0 : ops[k]? = some o := by simpa using (hl 0).symm
    simp only [readersT, Bool.and_eq_true, h0, Option.map_some, Option.getD_some] at hB
    obtain ⟨⟨⟨⟨hr, hf⟩, hrd⟩, hwt⟩, hB'⟩ := hB
    have hl' : ∀ j, l[j]? = ops[k + 1 + j]? := fun j => by have := hl (j + 1); simpa [Nat.add_assoc, Nat.add_comm 1 j] using this
    simp only [pickB, wpQuiet] at h
    rw [show ((true :: m).filter id).length + n = ((m.filter id).length + n) + 1 by simp; omega]
    by_cases hw : Region.wanted o (yielded ops a.tmps) = true
    · rw [if_pos hw] at h
      obtain ⟨v, hv, hn⟩ := h
      refine anyT_first (v := v) h0 hs hwt (fun c a w => hQ c a _ _ w) _ _ _ _ (Region.free_spec h0 hf) (by simpa using hr) (.inl ⟨hw, fun w' hw' => quiet_reads hrd (hv w' hw')⟩) hS ?_
      exact mixT_readers hs hS hQ m l (k + 1) _ _ hl' (by simpa using hm) hB' hG hn
    · rw [if_neg hw] at h
      refine anyT_first (v := undef) h0 hs hwt (fun c a w => hQ c a _ _ w) _ _ _ _ (Region.free_spec h0 hf) (by simpa using hr) (.inr ⟨by simpa using hw, rfl⟩) hS ?_
      exact mixT_readers hs hS hQ m l (k + 1) _ _ hl' (by simpa using hm) hB' hG h
  | false :: m, o :: l, k, listed, a, hl, hm, hB, hG, h => by
    have := mixT_readers hs hS hQ m l (k + 1) listed a (fun j => by have := hl (j + 1); simpa [Nat.add_assoc, Nat.add_comm 1 j] using this) (by simpa using hm) hB hG h
    simpa using this
theorem dropB_nil : ∀ (m : List Bool) (l : List Oper) (_k : Nat), m.length = l.length → dropB m l = [] → (m.filter (!·)) = []
  | [], _, _, _, _ => rfl
  | _ :: _, [], _, hm, _ => by simp at hm
  | true :: m, o :: l, k, hm, h => by simpa using dropB_nil m l k (by simpa using hm) h
  | false :: m, o :: l, k, hm, h => by simp [dropB] at h
theorem mixT_effects : ∀ (m : List Bool) (l : List Oper) (k : Nat) (listed : Array Bool) (a : Act) (w : World), m.length = l.length → (∀ j, l[j]? = ops[k + j]?) → k + l.length = ops.size → Jz md ops m k listed = true →
      m.getLast? ≠ some true → (dropB m l = [] ∨ S w) → Js P ops S Q (dropB m l) a w → wpAnyT P md ops Q S (ops.size - 1) ((m.filter (!·)).length) listed a w
  | [], [], k, listed, a, w, _, _, _, hB, _, _, h => by
    simp only [Jz, List.isEmpty_iff] at hB
    exact ⟨hB, h⟩
  | [], _ :: _, _, _, _, _, hm, _, _, _, _, _, _ => by simp at hm
  | _ :: _, [], _, _, _, _, hm, _, _, _, _, _, _ => by simp at hm
  | true :: m, o :: l, k, listed, a, w, hm, hl, hk, hB, hla, hS, h => by
    have := mixT_effects m l (k + 1) listed a w (by simpa using hm) (fun j => by have := hl (j + 1); simpa [Nat.add_assoc, Nat.add_comm 1 j] using this) (by simp at hk; omega) hB (by
      cases m with
      | nil => simp
      | cons b m => simpa using hla) hS h
    simpa using this
  | false :: m, o :: l, k, listed, a, w, hm, hl, hk, hB, hla, _, h => by
    have h0 : ops[k]? = some o := by simpa using (hl 0).symm
    simp only [Jz, Bool.and_eq_true, beq_iff_eq] at hB
    have hl' : ∀ j, l[j]? = ops[k + 1 + j]? := fun j => by have := hl (j + 1); simpa [Nat.add_assoc, Nat.add_comm 1 j] using this
    have hm' : m.length = l.length := by simpa using hm
    have hk' : k + 1 + l.length = ops.size := by simp at hk; omega
    have hla' : m.getLast? ≠ some true := by
      cases m with
      | nil => simp
      | cons b m => simpa using hla
    have hend : dropB m l = [] → k = ops.size - 1 := by
      intro hd
      have hf := dropB_nil m l k hm' hd
      cases m with
      | nil => simp only [List.length_nil] at hm'; omega
      | cons b m =>
        exfalso
        obtain ⟨x, hx⟩ : ∃ x, (b :: m).getLast? = some x := ⟨_, List.getLast?_eq_some_getLast (List.cons_ne_nil b m)⟩
        have hxm : x ∈ b :: m := List.mem_of_getLast? hx
        have hxt : x = true := by
          cases x with
          | true => rfl
          | false => exact absurd (List.mem_filter.2 ⟨hxm, rfl⟩) (by rw [hf]; simp)
        exact hla' (hxt ▸ hx)
    simp only [dropB, Js] at h
    rw [show ((false :: m).filter (!·)).length = (m.filter (!·)).length + 1 by simp]
    refine ⟨fun h' => absurd (hB.1 ▸ h') (by simp), fun i hi => ?_⟩
    rw [hB.1, List.mem_singleton] at hi
    subst hi
    unfold wpOp
    simp only [h0]
    by_cases hw : Region.wanted o (yielded ops a.tmps) = true
    · rw [if_pos hw] at h
      rw [if_pos hw]
      rcases h with h | h
      case inr => exact .inr h
      refine .inl (Oper.wp_mono (fun a' w' h' => ⟨h'.1.imp hend id, ?_⟩) h)
      exact mixT_effects m l _ _ a' w' hm' hl' hk' hB.2 hla' h'.1 h'.2
    · rw [if_neg hw] at h
      rw [if_neg hw]
      exact ⟨h.1.imp hend id, mixT_effects m l _ _ _ w hm' hl' hk' hB.2 hla' h.1 h.2⟩
theorem wp_region_splitT {id : Nat} {a : Act} {w : World} {l : List Oper} (S : World → Prop) (m : List Bool) (hm : P.follows .mixedOrders = true) (hB : splitT .any l.toArray m = true) (hla : m.getLast? ≠ some true) (hS : S w.drew)
    (hQ : ∀ c a d v w, Q (.panic c) (Act.put a d v) w → Q (.panic c) a w)
    (h : wpQuiet P l.toArray S (fun a' => Js P l.toArray S Q (dropB m l) a' w.drew) (pickB m l) a) : (Code.region id l.toArray true).wp P Q a w := by
  simp only [splitT, Bool.and_eq_true, beq_iff_eq] at hB
  obtain ⟨⟨⟨hs, hlen⟩, hR⟩, hE⟩ := hB
  have hlen' : m.length = l.length := by simpa using hlen
  refine wp_region_any hm (anyT (S := S) (last := l.toArray.size - 1) _ _ _ _ ?_)
  have key := mixT_readers (P := P) (Q := Q) (md := .any) (last := l.toArray.size - 1) (w := w.drew) (n := (m.filter (!·)).length) hs hS hQ m l 0 (Array.replicate l.toArray.size false) a (fun j => by simp) hlen' hR
    (fun a' ha' => mixT_effects m l 0 _ a' w.drew hlen' (fun j => by simp) (by simp) hE hla (.inr hS) ha') h
  rw [filter_both, hlen] at key
  exact key
def oneByT (S : Prop → World → Prop) (N : Act → World → Prop) (Q : Exit → Act → World → Prop) (E : Prop) : Exit → Act → World → Prop
  | .normal, a, w => S E w ∧ N a w
  | .exit i, a, w => Q (.exit i) a w
  | .goto l, a, w => Q (.goto l) a w
  | .ret, a, w => Q .ret a w
  | .panic c, a, w => Q (.panic c) a w
  | .outgrown, a, w => Q .outgrown a w
theorem upon_oneByT {S' : Prop → World → Prop} {E : Prop} {N : Act → World → Prop} {o : Oper} {a : Act} {K : Act → World → Prop} {r : Result Next} : o.upon P a K (oneByT S' N Q E) r = o.upon P a K Q r := by
  cases r with
  | ok n w' => cases n <;> rfl
  | halt x w' => cases x <;> rfl
theorem Jt {o o2 : Oper} {rest : List Oper} {a : Act} {w : World} (h : ∀ Q', (∀ a' w', S w' ∧ Js P ops S Q (o2 :: rest) a' w' → Q' .normal a' w') → wpList P ops Q' [o] a w) : Js P ops S Q (o :: o2 :: rest) a w := by
  have h1 := h (oneByT (fun _ w => S w) (Js P ops S Q (o2 :: rest)) Q True) (fun _ _ h => h)
  rw [Js]
  rw [wpList] at h1
  split
  · rename_i hw
    rw [if_pos hw] at h1
    rcases h1 with h1 | h1
    · refine .inl ?_
      unfold Oper.wp at h1 ⊢
      rw [upon_oneByT] at h1
      have : (wpList P ops (oneByT (fun _ w => S w) (Js P ops S Q (o2 :: rest)) Q True) []) = fun a' w' => S w' ∧ Js P ops S Q (o2 :: rest) a' w' := rfl
      rw [this] at h1
      exact Oper.wp_mono (fun a' w' h' => ⟨.inr h'.1, h'.2⟩) h1
    · exact .inr h1
  · rename_i hw
    rw [if_neg hw] at h1
    exact ⟨.inr h1.1, h1.2⟩
theorem wpListT_last {o : Oper} {a : Act} {w : World} (h : ∀ Q', (∀ a' w', Q .normal a' w' → Q' .normal a' w') → wpList P ops Q' [o] a w) : Js P ops S Q [o] a w := by
  have h1 := h (oneByT (fun _ _ => True) (Q .normal) Q True) (fun _ _ h => ⟨trivial, h⟩)
  rw [Js]
  rw [wpList] at h1
  split
  · rename_i hw
    rw [if_pos hw] at h1
    rcases h1 with h1 | h1
    · refine .inl ?_
      unfold Oper.wp at h1 ⊢
      rw [upon_oneByT] at h1
      have : (wpList P ops (oneByT (fun _ _ => True) (Q .normal) Q True) []) = fun a' w' => True ∧ Q .normal a' w' := rfl
      rw [this] at h1
      exact Oper.wp_mono (fun a' w' h' => ⟨.inl rfl, h'.2⟩) h1
    · exact .inr h1
  · rename_i hw
    rw [if_neg hw] at h1
    exact ⟨.inl rfl, h1.2⟩
end
end Go.Proofs.Ytkbkndfonccekaa
