/- Joined by this session's own program out of its texts: PFx35 Bits64 Lane Key Split SplitT Loads SplitA. -/
import Derived.Test.YtimjccfpobhpeaaG1
import Derived.Test.YtimjccfpobhpeaaG3
import Derived.Test.YtimjccfpobhpeaaG0
import Derived.Test.YtimjccfpobhpeaaG2
import Derived.Test.YtimjccfpobhpeaaProg
import Derived.DeepKeys4
import Derived.KernelRfl
import Derived.OrdersHeld
namespace Go.Proofs.Ytimjccfpobhpeaa.PF
open Go.RowKit Go.Proofs.YtimjccfpobhpeaaW.PrintWords Go.Proofs.YtimjccfpobhpeaaW.PrintLast Go.Proofs.YtimjccfpobhpeaaW.PrintMore
set_option linter.unusedVariables false
set_option linter.unusedSimpArgs false
def Qg.f (k : Nat) (l0_0 : List ByteArray) (l0_1 : List ByteArray) (l0_2 : List (S82)) (l0_3 : List (Ky)) (l0_4 : List Int) (l1 : List Int) (l2 : List Int) : Option (List Int × List Int × Int) := (Qw.f k l0_0 l0_1 l0_2 l0_3 l0_4 l1 l2).bind fun bt348 => (if bt348.2 = 0 then ((Zv.f k l0_0 l0_1 l0_2 l0_3 l0_4 bt348.1).bind fun bt352 => (some (bt352.1, bt352.2, 0))) else (some (([] : List Int), ([] : List Int), bt348.2)))
theorem Qg.mono : ∀ a0 a1 a2 a3 a4 a5 a6 k, Xz (Qg.f k a0 a1 a2 a3 a4 a5 a6) (Qg.f (k + 1) a0 a1 a2 a3 a4 a5 a6) := by
  intro a0 a1 a2 a3 a4 a5 a6 k
  unfold Qg.f
  repeat' first
      | (with_reducible exact Qw.mono _ _ _ _ _ _ _ _)
      | (with_reducible exact Zv.mono _ _ _ _ _ _ _)
      | (with_reducible exact Xz.refl _)
      | (with_reducible exact Xz.none _)
      | (with_reducible refine Xz.ite ?_ ?_)
      | (with_reducible refine Xz.bind ?_ (fun _ => ?_))
      | exact Qw.mono _ _ _ _ _ _ _ _
      | exact Zv.mono _ _ _ _ _ _ _
      | exact Xz.none _
      | refine Xz.ite ?_ ?_
      | refine Xz.bind ?_ (fun _ => ?_)
set_option maxHeartbeats 8000000 in
set_option maxRecDepth 100000 in
theorem Qg.calls (k : Nat) (A0_0 : Option Addr) (c0_0 : Nat) (l0_0 : List ByteArray) (A0_1 : Option Addr) (c0_1 : Nat) (l0_1 : List ByteArray) (A0_2 : Option Addr) (c0_2 : Nat) (l0_2 : List (S82)) (A0_3 : Option Addr) (c0_3 : Nat) (l0_3 : List (Ky)) (A0_4 : Option Addr) (c0_4 : Nat) (l0_4 : List Int) (A1 : Option Addr) (c1 : Nat) (l1 : List Int) (A2 : Option Addr) (c2 : Nat) (l2 : List Int) (r1 : List Int) (r2 : List Int) (r3 : Int) (w : World) (hr0_0 : Kd.C Kd.string w A0_0 l0_0.length l0_0) (hc0_0 : l0_0.length ≤ c0_0) (hr0_1 : Kd.C Kd.string w A0_1 l0_1.length l0_1) (hc0_1 : l0_1.length ≤ c0_1) (hr0_2 : Kd.C k82 w A0_2 l0_2.length l0_2) (hc0_2 : l0_2.length ≤ c0_2) (hr0_3 : Kd.C k80 w A0_3 l0_3.length l0_3) (hc0_3 : l0_3.length ≤ c0_3) (hr0_4 : Kd.C (Kd.int .i64) w A0_4 l0_4.length l0_4) (hc0_4 : l0_4.length ≤ c0_4) (hr1 : Kd.C (Kd.int .u64) w A1 l1.length l1) (hc1 : l1.length ≤ c1) (hr2 : Kd.C (Kd.int .u64) w A2 l2.length l2) (hc2 : l2.length ≤ c2) (h : Qg.f k l0_0 l0_1 l0_2 l0_3 l0_4 l1 l2 = some (r1, r2, r3)) :
 Calls Try.prog 50 #[.agg #[.slice A0_0 l0_0.length c0_0, .slice A0_1 l0_1.length c0_1, .slice A0_2 l0_2.length c0_2, .slice A0_3 l0_3.length c0_3, .slice A0_4 l0_4.length c0_4], .slice A1 l1.length c1, .slice A2 l2.length c2] w fun e w' => ∃ v0_ v1_ : Value, e = .returned (.tuple #[v0_, v1_, .int .i64 r3]) ∧ Kd.R (Kd.int .u64) 78 w' w.heap.size (fun k_ => some k_ ≠ (v1_ : Value).ownBlock) v0_ r1 ∧ Kd.R (Kd.int .u64) 78 w' w.heap.size (fun k_ => some k_ ≠ (v0_ : Value).ownBlock) v1_ r2 ∧ Below w.heap.size w w' := by
 have hu27 := Try.underlying27
 have HR0_0 := Za.mk hr0_0
 have HC0_0 := Za.mk hc0_0
 clear hr0_0 hc0_0
 have HR0_1 := Za.mk hr0_1
 have HC0_1 := Za.mk hc0_1
 clear hr0_1 hc0_1
 have HR0_2 := Za.mk hr0_2
 have HC0_2 := Za.mk hc0_2
 clear hr0_2 hc0_2
 have HR0_3 := Za.mk hr0_3
 have HC0_3 := Za.mk hc0_3
 clear hr0_3 hc0_3
 have HR0_4 := Za.mk hr0_4
 have HC0_4 := Za.mk hc0_4
 clear hr0_4 hc0_4
 have HR1 := Za.mk hr1
 have HC1 := Za.mk hc1
 clear hr1 hc1
 have HR2 := Za.mk hr2
 have HC2 := Za.mk hc2
 clear hr2 hc2
 have HB := Za.mk (Below.refl w.heap.size w)
 have H : ((Qw.f k l0_0 l0_1 l0_2 l0_3 l0_4 l1 l2).bind fun bt348 => (if bt348.2 = 0 then ((Zv.f k l0_0 l0_1 l0_2 l0_3 l0_4 bt348.1).bind fun bt352 => (some (bt352.1, bt352.2, 0))) else (some (([] : List Int), ([] : List Int), bt348.2)))) = some (r1, r2, r3) := h
 clear h
 replace H := Option.bind_eq_some_iff.mp H
 obtain ⟨⟨t348, t351⟩, A40, H⟩ := H
 replace H : (if t351 = 0 then ((Zv.f k l0_0 l0_1 l0_2 l0_3 l0_4 t348).bind fun bt352 => (some (bt352.1, bt352.2, 0))) else (some (([] : List Int), ([] : List Int), t351))) = some (r1, r2, r3) := H
 have A4 := Za.mk A40
 clear A40
 by_cases c5 : t351 = 0
 ·rw [if_pos c5] at H
  have c5b0 : (t351 == 0) = true := beq_iff_eq.mpr c5
  have c5b1 : (t351 != 0) = false := bne_eq_false_iff_eq.mpr c5
  clear c5
  replace H := Option.bind_eq_some_iff.mp H
  obtain ⟨⟨t352, t355⟩, A60, H⟩ := H
  replace H : (some (t352, t355, 0)) = some (r1, r2, r3) := H
  have A6 := Za.mk A60
  clear A60
  simp only [Option.some.injEq, Prod.mk.injEq] at H
  obtain ⟨rfl, rfl, rfl⟩ := H
  go_enter Try.func50, Try.ntmps50
  go_wp2_with (first | ((with_reducible refine Xl (N := 3) rfl ?_); refine Xr ?hg (N := 3) ?hd (cs := #[.slice A0_0 l0_0.length c0_0, .slice A0_1 l0_1.length c0_1, .slice A0_2 l0_2.length c0_2, .slice A0_3 l0_3.length c0_3, .slice A0_4 l0_4.length c0_4]) (t := 27) ?hr ?_; (case hd => rfl); (case hg => rfl); (case hr => first | (go_simp; done) | (go_simp; rfl)); intro gb347 hg w7 hbox hb; have n0_ := Za.mk (Zn HB.out hb); have n1_ := Za.mk (hbox); have n2_ := Za.mk ((by rw [hg]; exact (Zm HB.out) : w.heap.size ≤ gb347)); have n3_ := n2_; clear HB; have HB := n0_; have BK347 := n1_; have GW347 := n2_; have GE347 := n3_; clear n0_ n1_ n2_ n3_; clear hb hbox hg; have hcz8_0 : w7.cell? ⟨gb347, 0, none⟩ = some (.slice A0_0 l0_0.length c0_0) := (Zc BK347.out 0).trans rfl; have hcz8_1 : w7.cell? ⟨gb347, 1, none⟩ = some (.slice A0_1 l0_1.length c0_1) := (Zc BK347.out 1).trans rfl; have hcz8_2 : w7.cell? ⟨gb347, 2, none⟩ = some (.slice A0_2 l0_2.length c0_2) := (Zc BK347.out 2).trans rfl; have hcz8_3 : w7.cell? ⟨gb347, 3, none⟩ = some (.slice A0_3 l0_3.length c0_3) := (Zc BK347.out 3).trans rfl; have hcz8_4 : w7.cell? ⟨gb347, 4, none⟩ = some (.slice A0_4 l0_4.length c0_4) := (Zc BK347.out 4).trans rfl; have hfz8_0 := Zb BK347.out 0; have hfz8_1 := Zb BK347.out 1; have hfz8_2 := Zb BK347.out 2; have hfz8_3 := Zb BK347.out 3; have hfz8_4 := Zb BK347.out 4) | ((with_reducible refine Xo (f := 61) rfl ?_); refine Qp (some 14) rfl rfl Try.func61 (by kernel_rfl) rfl #[.agg #[.slice A0_0 l0_0.length c0_0, .slice A0_1 l0_1.length c0_1, .slice A0_2 l0_2.length c0_2, .slice A0_3 l0_3.length c0_3, .slice A0_4 l0_4.length c0_4], .slice A1 l1.length c1, .slice A2 l2.length c2] rfl (by (try simp only [List.map_toArray, List.map_cons, List.map_nil]); first | done | rfl | (simp only [List.length_drop, List.length_take]; rfl)) ?_; (with_reducible refine (Qw.calls k _ _ l0_0 _ _ l0_1 _ _ l0_2 _ _ l0_3 _ _ l0_4 _ _ l1 _ _ l2 t348 t351 _ ?side1 ?side2 ?side3 ?side4 ?side5 ?side6 ?side7 ?side8 ?side9 ?side10 ?side11 ?side12 ?side13 ?side14 A4.out).mono ?_); (case side1 => exact (Kd.Zk HR0_0.out HB.out)); (case side2 => exact HC0_0.out); (case side3 => exact (Kd.Zk HR0_1.out HB.out)); (case side4 => exact HC0_1.out); (case side5 => exact (Kd.Zk HR0_2.out HB.out)); (case side6 => exact HC0_2.out); (case side7 => exact (Kd.Zk HR0_3.out HB.out)); (case side8 => exact HC0_3.out); (case side9 => exact (Kd.Zk HR0_4.out HB.out)); (case side10 => exact HC0_4.out); (case side11 => exact (Kd.Zk HR1.out HB.out)); (case side12 => exact HC1.out); (case side13 => exact (Kd.Zk HR2.out HB.out)); (case side14 => exact HC2.out); rintro e w9 ⟨v349, rfl, ho0, hb⟩; refine ⟨_, rfl, ?_⟩; have n0_ := Za.mk (Kd.Xm ho0 (Zm HB.out)); have n1_ := Za.mk (Zq BK347.out hb); have n2_ := Za.mk (Zn HB.out hb); clear BK347; clear HB; have HO350 := n0_; have BK347 := n1_; have HB := n2_; clear n0_ n1_ n2_; (try clear hb); (try clear hb2); (try clear hk); (try clear hi); (try clear ho0); have hcz10_0 : w9.cell? ⟨gb347, 0, none⟩ = some (.slice A0_0 l0_0.length c0_0) := (Zc BK347.out 0).trans rfl; have hcz10_1 : w9.cell? ⟨gb347, 1, none⟩ = some (.slice A0_1 l0_1.length c0_1) := (Zc BK347.out 1).trans rfl; have hcz10_2 : w9.cell? ⟨gb347, 2, none⟩ = some (.slice A0_2 l0_2.length c0_2) := (Zc BK347.out 2).trans rfl; have hcz10_3 : w9.cell? ⟨gb347, 3, none⟩ = some (.slice A0_3 l0_3.length c0_3) := (Zc BK347.out 3).trans rfl; have hcz10_4 : w9.cell? ⟨gb347, 4, none⟩ = some (.slice A0_4 l0_4.length c0_4) := (Zc BK347.out 4).trans rfl; have hfz10_0 := Zb BK347.out 0; have hfz10_1 := Zb BK347.out 1; have hfz10_2 := Zb BK347.out 2; have hfz10_3 := Zb BK347.out 3; have hfz10_4 := Zb BK347.out 4; obtain ⟨Ao11, co11, eo11⟩ := Kd.Xi HO350.out; subst eo11) | ((with_reducible refine Xo (f := 62) rfl ?_); refine Qp (some 23) rfl rfl Try.func62 (by kernel_rfl) rfl #[.agg #[.slice A0_0 l0_0.length c0_0, .slice A0_1 l0_1.length c0_1, .slice A0_2 l0_2.length c0_2, .slice A0_3 l0_3.length c0_3, .slice A0_4 l0_4.length c0_4], .slice Ao11 t348.length co11] rfl (by (try simp only [List.map_toArray, List.map_cons, List.map_nil]); first | done | rfl | (simp only [List.length_drop, List.length_take]; rfl)) ?_; (with_reducible refine (Zv.calls k _ _ l0_0 _ _ l0_1 _ _ l0_2 _ _ l0_3 _ _ l0_4 _ _ t348 t352 t355 _ ?side1 ?side2 ?side3 ?side4 ?side5 ?side6 ?side7 ?side8 ?side9 ?side10 ?side11 ?side12 A6.out).mono ?_); (case side1 => exact (Kd.Zk HR0_0.out HB.out)); (case side2 => exact HC0_0.out); (case side3 => exact (Kd.Zk HR0_1.out HB.out)); (case side4 => exact HC0_1.out); (case side5 => exact (Kd.Zk HR0_2.out HB.out)); (case side6 => exact HC0_2.out); (case side7 => exact (Kd.Zk HR0_3.out HB.out)); (case side8 => exact HC0_3.out); (case side9 => exact (Kd.Zk HR0_4.out HB.out)); (case side10 => exact HC0_4.out); (case side11 => repeat (first | exact (Kd.Xd HO350.out).2.2 | (with_reducible refine Kd.C_alloc ?_ _) | (with_reducible refine Kd.C_drewN ?_ _) | (with_reducible refine Kd.C_drew ?_))); (case side12 => exact (Kd.Xd HO350.out).2.1); rintro e w12 ⟨v353, v356, rfl, ho0, ho1, hb⟩; refine ⟨_, rfl, ?_⟩; have n0_ := Za.mk (Kd.Xh (Kd.R_told (Kd.R_told (Kd.R_old HO350.out hb) (Kd.Xy ho0)) (Kd.Xy ho1)) (fun _ h_ => h_.1)); have n1_ := Za.mk (Kd.Xm (Kd.Qz ho0 (Kd.R_lt HO350.out)) (Zm HB.out)); have n2_ := Za.mk (Kd.Xm (Kd.Qz ho1 (Kd.R_lt HO350.out)) (Zm HB.out)); have n3_ := Za.mk (Zq BK347.out hb); have n4_ := Za.mk (Zn HB.out hb); clear HO350; clear BK347; clear HB; have HO350 := n0_; have HO354 := n1_; have HO357 := n2_; have BK347 := n3_; have HB := n4_; clear n0_ n1_ n2_ n3_ n4_; (try clear hb); (try clear hb2); (try clear hk); (try clear hi); (try clear ho0); (try clear ho1)))
  go_ret3
  exact ⟨_, _, by first | rfl | (simp [errW_none, errW_some] <;> rfl) | (simp [*, errW_none, errW_some] <;> rfl), by (with_reducible repeat (first | apply Kd.R_alloc | apply Kd.Zy | apply Kd.Xg)); exact Kd.Xh HO354.out (fun _ hk => hk.1), by (with_reducible repeat (first | apply Kd.R_alloc | apply Kd.Zy | apply Kd.Xg)); exact Kd.Xh HO357.out (fun _ hk => hk.1), HB.out⟩
 ·rw [if_neg c5] at H
  have c5b0 : (t351 == 0) = false := beq_eq_false_iff_ne.mpr c5
  have c5b1 : (t351 != 0) = true := bne_iff_ne.mpr c5
  simp only [Option.some.injEq, Prod.mk.injEq] at H
  obtain ⟨rfl, rfl, rfl⟩ := H
  go_enter Try.func50, Try.ntmps50
  go_wp2_with (first | ((with_reducible refine Xl (N := 3) rfl ?_); refine Xr ?hg (N := 3) ?hd (cs := #[.slice A0_0 l0_0.length c0_0, .slice A0_1 l0_1.length c0_1, .slice A0_2 l0_2.length c0_2, .slice A0_3 l0_3.length c0_3, .slice A0_4 l0_4.length c0_4]) (t := 27) ?hr ?_; (case hd => rfl); (case hg => rfl); (case hr => first | (go_simp; done) | (go_simp; rfl)); intro gb347 hg w13 hbox hb; have n0_ := Za.mk (Zn HB.out hb); have n1_ := Za.mk (hbox); have n2_ := Za.mk ((by rw [hg]; exact (Zm HB.out) : w.heap.size ≤ gb347)); have n3_ := n2_; clear HB; have HB := n0_; have BK347 := n1_; have GW347 := n2_; have GE347 := n3_; clear n0_ n1_ n2_ n3_; clear hb hbox hg; have hcz14_0 : w13.cell? ⟨gb347, 0, none⟩ = some (.slice A0_0 l0_0.length c0_0) := (Zc BK347.out 0).trans rfl; have hcz14_1 : w13.cell? ⟨gb347, 1, none⟩ = some (.slice A0_1 l0_1.length c0_1) := (Zc BK347.out 1).trans rfl; have hcz14_2 : w13.cell? ⟨gb347, 2, none⟩ = some (.slice A0_2 l0_2.length c0_2) := (Zc BK347.out 2).trans rfl; have hcz14_3 : w13.cell? ⟨gb347, 3, none⟩ = some (.slice A0_3 l0_3.length c0_3) := (Zc BK347.out 3).trans rfl; have hcz14_4 : w13.cell? ⟨gb347, 4, none⟩ = some (.slice A0_4 l0_4.length c0_4) := (Zc BK347.out 4).trans rfl; have hfz14_0 := Zb BK347.out 0; have hfz14_1 := Zb BK347.out 1; have hfz14_2 := Zb BK347.out 2; have hfz14_3 := Zb BK347.out 3; have hfz14_4 := Zb BK347.out 4) | ((with_reducible refine Xo (f := 61) rfl ?_); refine Qp (some 14) rfl rfl Try.func61 (by kernel_rfl) rfl #[.agg #[.slice A0_0 l0_0.length c0_0, .slice A0_1 l0_1.length c0_1, .slice A0_2 l0_2.length c0_2, .slice A0_3 l0_3.length c0_3, .slice A0_4 l0_4.length c0_4], .slice A1 l1.length c1, .slice A2 l2.length c2] rfl (by (try simp only [List.map_toArray, List.map_cons, List.map_nil]); first | done | rfl | (simp only [List.length_drop, List.length_take]; rfl)) ?_; (with_reducible refine (Qw.calls k _ _ l0_0 _ _ l0_1 _ _ l0_2 _ _ l0_3 _ _ l0_4 _ _ l1 _ _ l2 t348 t351 _ ?side1 ?side2 ?side3 ?side4 ?side5 ?side6 ?side7 ?side8 ?side9 ?side10 ?side11 ?side12 ?side13 ?side14 A4.out).mono ?_); (case side1 => exact (Kd.Zk HR0_0.out HB.out)); (case side2 => exact HC0_0.out); (case side3 => exact (Kd.Zk HR0_1.out HB.out)); (case side4 => exact HC0_1.out); (case side5 => exact (Kd.Zk HR0_2.out HB.out)); (case side6 => exact HC0_2.out); (case side7 => exact (Kd.Zk HR0_3.out HB.out)); (case side8 => exact HC0_3.out); (case side9 => exact (Kd.Zk HR0_4.out HB.out)); (case side10 => exact HC0_4.out); (case side11 => exact (Kd.Zk HR1.out HB.out)); (case side12 => exact HC1.out); (case side13 => exact (Kd.Zk HR2.out HB.out)); (case side14 => exact HC2.out); rintro e w15 ⟨v349, rfl, ho0, hb⟩; refine ⟨_, rfl, ?_⟩; have n0_ := Za.mk (Kd.Xm ho0 (Zm HB.out)); have n1_ := Za.mk (Zq BK347.out hb); have n2_ := Za.mk (Zn HB.out hb); clear BK347; clear HB; have HO350 := n0_; have BK347 := n1_; have HB := n2_; clear n0_ n1_ n2_; (try clear hb); (try clear hb2); (try clear hk); (try clear hi); (try clear ho0)))
  go_ret3
  exact ⟨_, _, by first | rfl | (simp [errW_none, errW_some] <;> rfl) | (simp [*, errW_none, errW_some] <;> rfl), by first | exact Kd.R_nil _ _ _ _ _ | exact Kd.N_nil _ _ _ _ _ | exact Kd.V_nil _ _ _ _ _ | exact Kd.Q_nil _ _ _ _ _ | exact Kd.S_nil _ _ _ _ _, by first | exact Kd.R_nil _ _ _ _ _ | exact Kd.N_nil _ _ _ _ _ | exact Kd.V_nil _ _ _ _ _ | exact Kd.Q_nil _ _ _ _ _ | exact Kd.S_nil _ _ _ _ _, HB.out⟩
def Qe.l0 : Nat → List Int → List Bool → Int → Int → Option (List Int)
  | 0, _, _, _, _ => none
  | k + 1, x3, x9, x10, x11 => if x11 < x10 then (if 0 ≤ x11 then (if x11 < (x9.length : Int) then (if rdOf false x9 x11 = true then (if x11 < (x3.length : Int) then (Qe.l0 k (x3.set (x11 : Int).toNat 1) x9 x10 (wrap64 (x11 + 1))) else (none)) else (Qe.l0 k x3 x9 x10 (wrap64 (x11 + 1)))) else (none)) else (none)) else (some x3)
def Qe.f (k : Nat) (l0 : List Bool) : Option (List Int) := if 0 ≤ (l0.length : Int) then (if ((l0.length : Int) : Int).toNat ≤ 35184372088832 then (Qe.l0 k (List.replicate ((l0.length : Int) : Int).toNat 0) l0 (l0.length : Int) 0) else (none)) else (none)
set_option maxHeartbeats 8000000 in
set_option maxRecDepth 100000 in
theorem Qe.calls (k : Nat) (A0 : Option Addr) (c0 : Nat) (l0 : List Bool) (r : List Int) (w : World) (hr0 : Kd.C Kd.bool w A0 l0.length l0) (hc0 : l0.length ≤ c0) (h : Qe.f k l0 = some r) :
 Calls Try.prog 58 #[.slice A0 l0.length c0] w fun e w' => ∃ v0_ : Value, e = .returned (v0_) ∧ Kd.R (Kd.int .u64) 78 w' w.heap.size (fun _ => True) v0_ r ∧ Below w.heap.size w w' := by
 have HR0 := Za.mk hr0
 have HC0 := Za.mk hc0
 clear hr0 hc0
 have HB := Za.mk (Below.refl w.heap.size w)
 have H : (if 0 ≤ (l0.length : Int) then (if ((l0.length : Int) : Int).toNat ≤ 35184372088832 then (Qe.l0 k (List.replicate ((l0.length : Int) : Int).toNat 0) l0 (l0.length : Int) 0) else (none)) else (none)) = some r := h
 clear h
 by_cases c2 : 0 ≤ (l0.length : Int)
 ·rw [if_pos c2] at H
  have c2b0 := eq_true c2
  have c2b1 : decide (0 ≤ (l0.length : Int)) = true := decide_eq_true c2
  clear c2
  by_cases c3 : ((l0.length : Int) : Int).toNat ≤ 35184372088832
  ·rw [if_pos c3] at H
   have c3b0 := eq_true c3
   have c3b1 : decide (((l0.length : Int) : Int).toNat ≤ 35184372088832) = true := decide_eq_true c3
   clear c3
   obtain ⟨y358, hy358⟩ : ∃ y_ : List Int, y_ = (List.replicate ((l0.length : Int) : Int).toNat 0) := ⟨_, rfl⟩
   replace H : (Qe.l0 k y358 l0 (l0.length : Int) 0) = some r := by first | (rw [hy358]; with_reducible exact H) | (have H2_ := (Option.bind_some _ _).symm.trans H; rw [hy358]; with_reducible exact H2_) | (have H2_ := (Option.bind_some _ _).symm.trans H; with_reducible exact H2_) | with_reducible exact H | (rw [hy358]; exact H) | exact H
   have Ny358 := Za.mk hy358
   clear hy358
   have H' := Za.mk H
   clear H
   go_enter Try.func58, Try.ntmps58
   go_wp2_with (first | ((with_reducible refine Xl (N := 8) rfl ?_); refine Kd.R_make (Kd.int .u64) _ 78 rfl (N := 8) rfl 110 _ _ rfl (l0.length : Int) rfl rfl Try.underlying110 (.int .u64 0) 8 info78 rfl (by decide) (by omega) 0 (ok := fun _ => True) (okp := fun _ => True) rfl (fun _ hk => hk) trivial (of_decide_eq_true (by first | (with_reducible assumption) | assumption)) (Nat.le_trans (Nat.mul_le_mul_right _ (of_decide_eq_true (by first | (with_reducible assumption) | assumption) : (l0.length : Int).toNat ≤ 35184372088832)) (by omega)) (Below.refl _ _) (Nat.le_refl _) ?_; intro v359 w4 ho5 hb hg_ hnew_; clear hg_ hnew_; (first | rw [← Ny358.out] at ho5 | (simp only [Int.reduceToNat] at ho5; rw [← Ny358.out] at ho5)); have n0_ := Za.mk (Kd.Xm ho5 (Zm (by repeat (first | (with_reducible first | exact HB.out | apply Zl | apply Zj | apply Zo) | exact HB.out)))); have n1_ := Za.mk (Zn (by repeat (first | (with_reducible first | exact HB.out | apply Zl | apply Zj | apply Zo) | exact HB.out)) hb); clear HB; have HO360 := n0_; have HB := n1_; clear n0_ n1_; clear hb ho5))
   go_loopg [11] k (fun kq v11 w' => ∃ (x3_1 : List Int) (x11_1 : Int), v11 = .int .i64 x11_1 ∧ Za (Qe.l0 kq x3_1 l0 (l0.length : Int) x11_1 = some r) ∧ Za (kq ≤ k) ∧ Za (Kd.R (Kd.int .u64) 78 w' w.heap.size (fun _ => True) v359 x3_1) ∧ Za (Below w.heap.size w w'))
   case atStart => exact ⟨(y358), (0), (by first | rfl | (simp; done) | (simp [*]; done)), H', ⟨Nat.le_refl _⟩, ⟨by (with_reducible repeat (first | apply Kd.R_alloc | apply Kd.Zy | apply Kd.Xg)); exact HO360.out⟩, ⟨by repeat (first | (with_reducible first | exact HB.out | apply Zl | apply Zj | apply Zo) | exact HB.out)⟩⟩
   case round =>
    clear H'
    try clear c2
    try clear c2b0
    try clear c2b1
    try clear p2
    try clear c3
    try clear c3b0
    try clear c3b1
    try clear c5
    obtain ⟨x3_1, x11_1, rfl, HA, HK1, HO_3, HB⟩ := hrel
    cases gk with
    | zero => exact absurd HA.out (by simp [Qe.l0])
    | succ k1 =>
     have H := HA.out
     clear HA
     simp only [Qe.l0] at H
     by_cases c6 : x11_1 < (l0.length : Int)
     ·rw [if_pos c6] at H
      have c6b0 : decide (x11_1 < (l0.length : Int)) = true := decide_eq_true c6
      clear c6
      by_cases c7 : 0 ≤ x11_1
      ·rw [if_pos c7] at H
       have c7b0 : decide (0 ≤ x11_1) = true := decide_eq_true c7
       clear c7
       by_cases c8 : x11_1 < (l0.length : Int)
       ·rw [if_pos c8] at H
        have c8b0 : decide (x11_1 < (l0.length : Int)) = true := decide_eq_true c8
        clear c8
        obtain ⟨bq9, hbq9⟩ : ∃ b_ : Bool, b_ = (rdOf false l0 x11_1) := ⟨_, rfl⟩
        replace H : (if bq9 = true then (if x11_1 < (x3_1.length : Int) then (Qe.l0 k1 (x3_1.set (x11_1 : Int).toNat 1) l0 (l0.length : Int) (wrap64 (x11_1 + 1))) else (none)) else (Qe.l0 k1 x3_1 l0 (l0.length : Int) (wrap64 (x11_1 + 1)))) = some r := by rw [← hbq9] at H; exact H
        have Nbq9 := Za.mk hbq9
        clear hbq9
        by_cases c10 : bq9 = true
        ·subst c10
         have H1 : (if x11_1 < (x3_1.length : Int) then (Qe.l0 k1 (x3_1.set (x11_1 : Int).toNat 1) l0 (l0.length : Int) (wrap64 (x11_1 + 1))) else (none)) = some r := by rw [if_pos rfl] at H; exact H
         clear H
         have H := H1
         clear H1
         by_cases c11 : x11_1 < (x3_1.length : Int)
         ·rw [if_pos c11] at H
          have c11b0 : decide (x11_1 < (x3_1.length : Int)) = true := decide_eq_true c11
          clear c11
          obtain ⟨y362, hy362⟩ : ∃ y_ : List Int, y_ = (x3_1.set (x11_1 : Int).toNat 1) := ⟨_, rfl⟩
          replace H : (Qe.l0 k1 y362 l0 (l0.length : Int) (wrap64 (x11_1 + 1))) = some r := by first | (rw [hy362]; with_reducible exact H) | (have H2_ := (Option.bind_some _ _).symm.trans H; rw [hy362]; with_reducible exact H2_) | (have H2_ := (Option.bind_some _ _).symm.trans H; with_reducible exact H2_) | with_reducible exact H | (rw [hy362]; exact H) | exact H
          have Ny362 := Za.mk hy362
          clear hy362
          have H' := Za.mk H
          clear H
          have p361 : 0 ≤ (x11_1 : Int) := of_decide_eq_true (by first | (with_reducible assumption) | assumption)
          have q361 : x11_1 < (l0.length : Int) := of_decide_eq_true (by first | (with_reducible assumption) | assumption)
          obtain ⟨ad361, e361, hx361_0⟩ := Kd.at_bool HR0.out x11_1 p361 q361
          (try rw [← Nbq9.out] at hx361_0)
          cases e361
          replace hx361_0 := (HB.out.cell (World.block_lt_of_cell? w _ hx361_0)).trans hx361_0
          replace p361 := eq_true p361
          replace q361 := eq_true q361
          have p12 : 0 ≤ (x11_1 : Int) := of_decide_eq_true (by first | (with_reducible assumption) | assumption)
          have q12 : (x11_1 : Int) < ((x3_1.length : Int) : Int) := of_decide_eq_true (by first | (with_reducible assumption) | assumption)
          obtain ⟨go12, co12, eo12, gb12, gl12, cl12, HG12⟩ := Kd.R_form HO_3.out (by omega)
          (first | cases eo12 | (injection eo12 with ea_ en_ ec_; (first | subst ea_ | (injection ea_ with ea_; subst ea_)); subst ec_; clear en_))
          have GB12 := Za.mk gb12
          have GG12 := Za.mk HG12
          clear gb12 gl12 HG12
          obtain ⟨hx12_0, hf12_0⟩ := Kd.R_celln 0 HO_3.out (x11_1 : Int) p12 q12
          replace p12 := eq_true p12
          replace q12 := eq_true q12
          have HP13 := Kd.R_putg HO_3.out (x11_1 : Int) 1
          go_wp2_with (first | ((with_reducible refine gate_store (t := 78) (p := 19) rfl ?_); refine store_event (t := 78) (p := 19) (v := ?vo_w14) (w1 := (wr.setCell ⟨go12, (x11_1 : Int).toNat, none⟩ (.int .u64 1))) ?hg ?ho ?hn ?hr ?_; (case ho => rfl); (case hg => rfl); (case hn => rfl); (case hr => first | (go_simp; done) | (go_simp; rfl)); intro w14 hw; have hg : wr.grownBy w14 (some go12) := (by rw [hw]; exact HP13.2); have hp_ : Kd.R (Kd.int .u64) 78 w14 w.heap.size (fun _ => True) (.slice (some ⟨go12, 0, none⟩) x3_1.length co12) y362 := (by rw [hw, Ny362.out]; exact HP13.1); clear HP13; have n0_ := Za.mk (hp_); have n1_ := Za.mk ((by rw [hw]; exact Zh HB.out GB12.out : Below w.heap.size w w14)); clear HO_3; clear HB; have HO_3 := n0_; have HB := n1_; clear n0_ n1_; clear hg hw hp_))
          go_roundg k1
          case measure => have := HK1.out; omega
          case rel => exact ⟨(y362), (wrap64 (x11_1 + 1)), (by first | rfl | (simp; done) | (simp [*]; done)), H', ⟨by have := HK1.out; omega⟩, ⟨by (with_reducible repeat (first | apply Kd.R_alloc | apply Kd.Zy | apply Kd.Xg)); exact HO_3.out⟩, ⟨by repeat (first | (with_reducible first | exact HB.out | apply Zl | apply Zj | apply Zo) | exact HB.out)⟩⟩
         ·rw [if_neg c11] at H
          exact absurd H (by simp)
        ·replace c10 := Bool.eq_false_iff.mpr c10
         subst c10
         have H1 : (Qe.l0 k1 x3_1 l0 (l0.length : Int) (wrap64 (x11_1 + 1))) = some r := by rw [if_neg (show ¬ (false = true) by decide)] at H; exact H
         clear H
         have H := H1
         clear H1
         have H' := Za.mk H
         clear H
         have p361 : 0 ≤ (x11_1 : Int) := of_decide_eq_true (by first | (with_reducible assumption) | assumption)
         have q361 : x11_1 < (l0.length : Int) := of_decide_eq_true (by first | (with_reducible assumption) | assumption)
         obtain ⟨ad361, e361, hx361_0⟩ := Kd.at_bool HR0.out x11_1 p361 q361
         (try rw [← Nbq9.out] at hx361_0)
         cases e361
         replace hx361_0 := (HB.out.cell (World.block_lt_of_cell? w _ hx361_0)).trans hx361_0
         replace p361 := eq_true p361
         replace q361 := eq_true q361
         go_wp2
         go_roundg k1
         case measure => have := HK1.out; omega
         case rel => exact ⟨(x3_1), (wrap64 (x11_1 + 1)), (by first | rfl | (simp; done) | (simp [*]; done)), H', ⟨by have := HK1.out; omega⟩, ⟨by (with_reducible repeat (first | apply Kd.R_alloc | apply Kd.Zy | apply Kd.Xg)); exact HO_3.out⟩, ⟨by repeat (first | (with_reducible first | exact HB.out | apply Zl | apply Zj | apply Zo) | exact HB.out)⟩⟩
       ·rw [if_neg c8] at H
        exact absurd H (by simp)
      ·rw [if_neg c7] at H
       exact absurd H (by simp)
     ·rw [if_neg c6] at H
      have c6b0 : decide (x11_1 < (l0.length : Int)) = false := decide_eq_false c6
      clear c6
      obtain rfl := Option.some.inj H
      go_wp2
      go_ret
      exact ⟨_, by first | rfl | (simp [errW_none, errW_some] <;> rfl) | (simp [*, errW_none, errW_some] <;> rfl), by (with_reducible repeat (first | apply Kd.R_alloc | apply Kd.Zy | apply Kd.Xg)); exact HO_3.out, by repeat (first | (with_reducible first | exact HB.out | apply Zl | apply Zj | apply Zo) | exact HB.out)⟩
  ·rw [if_neg c3] at H
   exact absurd H (by simp)
 ·rw [if_neg c2] at H
  exact absurd H (by simp)
def Qi.l0 : Nat → List Bool → List Int → Int → Int → Option (List Bool)
  | 0, _, _, _, _ => none
  | k + 1, x3, x9, x10, x11 => if x11 < x10 then (if 0 ≤ x11 then (if x11 < (x9.length : Int) then (if x11 < (x3.length : Int) then (Qi.l0 k (x3.set (x11 : Int).toNat ((Go.bits .and .u64 (rd x9 x11) 1) == 1)) x9 x10 (wrap64 (x11 + 1))) else (none)) else (none)) else (none)) else (some x3)
def Qi.f (k : Nat) (l0 : List Int) : Option (List Bool) := if 0 ≤ (l0.length : Int) then (if ((l0.length : Int) : Int).toNat ≤ 281474976710656 then (Qi.l0 k (List.replicate ((l0.length : Int) : Int).toNat false) l0 (l0.length : Int) 0) else (none)) else (none)
set_option maxHeartbeats 8000000 in
set_option maxRecDepth 100000 in
theorem Qi.calls (k : Nat) (A0 : Option Addr) (c0 : Nat) (l0 : List Int) (r : List Bool) (w : World) (hr0 : Kd.C (Kd.int .u64) w A0 l0.length l0) (hc0 : l0.length ≤ c0) (h : Qi.f k l0 = some r) :
 Calls Try.prog 59 #[.slice A0 l0.length c0] w fun e w' => ∃ v0_ : Value, e = .returned (v0_) ∧ Kd.R Kd.bool 4 w' w.heap.size (fun _ => True) v0_ r ∧ Below w.heap.size w w' := by
 have HR0 := Za.mk hr0
 have HC0 := Za.mk hc0
 clear hr0 hc0
 have HB := Za.mk (Below.refl w.heap.size w)
 have H : (if 0 ≤ (l0.length : Int) then (if ((l0.length : Int) : Int).toNat ≤ 281474976710656 then (Qi.l0 k (List.replicate ((l0.length : Int) : Int).toNat false) l0 (l0.length : Int) 0) else (none)) else (none)) = some r := h
 clear h
 by_cases c2 : 0 ≤ (l0.length : Int)
 ·rw [if_pos c2] at H
  have c2b0 := eq_true c2
  have c2b1 : decide (0 ≤ (l0.length : Int)) = true := decide_eq_true c2
  clear c2
  by_cases c3 : ((l0.length : Int) : Int).toNat ≤ 281474976710656
  ·rw [if_pos c3] at H
   have c3b0 := eq_true c3
   have c3b1 : decide (((l0.length : Int) : Int).toNat ≤ 281474976710656) = true := decide_eq_true c3
   clear c3
   obtain ⟨y363, hy363⟩ : ∃ y_ : List Bool, y_ = (List.replicate ((l0.length : Int) : Int).toNat false) := ⟨_, rfl⟩
   replace H : (Qi.l0 k y363 l0 (l0.length : Int) 0) = some r := by first | (rw [hy363]; with_reducible exact H) | (have H2_ := (Option.bind_some _ _).symm.trans H; rw [hy363]; with_reducible exact H2_) | (have H2_ := (Option.bind_some _ _).symm.trans H; with_reducible exact H2_) | with_reducible exact H | (rw [hy363]; exact H) | exact H
   have Ny363 := Za.mk hy363
   clear hy363
   have H' := Za.mk H
   clear H
   go_enter Try.func59, Try.ntmps59
   go_wp2_with (first | ((with_reducible refine Xl (N := 8) rfl ?_); refine Kd.R_make Kd.bool _ 4 rfl (N := 8) rfl 53 _ _ rfl (l0.length : Int) rfl rfl Try.underlying53 (.bool false) 1 info4 rfl (by decide) (by omega) false (ok := fun _ => True) (okp := fun _ => True) rfl (fun _ hk => hk) trivial (of_decide_eq_true (by first | (with_reducible assumption) | assumption)) (Nat.le_trans (Nat.mul_le_mul_right _ (of_decide_eq_true (by first | (with_reducible assumption) | assumption) : (l0.length : Int).toNat ≤ 281474976710656)) (by omega)) (Below.refl _ _) (Nat.le_refl _) ?_; intro v364 w4 ho5 hb hg_ hnew_; clear hg_ hnew_; (first | rw [← Ny363.out] at ho5 | (simp only [Int.reduceToNat] at ho5; rw [← Ny363.out] at ho5)); have n0_ := Za.mk (Kd.Xm ho5 (Zm (by repeat (first | (with_reducible first | exact HB.out | apply Zl | apply Zj | apply Zo) | exact HB.out)))); have n1_ := Za.mk (Zn (by repeat (first | (with_reducible first | exact HB.out | apply Zl | apply Zj | apply Zo) | exact HB.out)) hb); clear HB; have HO365 := n0_; have HB := n1_; clear n0_ n1_; clear hb ho5))
   go_loopg [11] k (fun kq v11 w' => ∃ (x3_1 : List Bool) (x11_1 : Int), v11 = .int .i64 x11_1 ∧ Za (Qi.l0 kq x3_1 l0 (l0.length : Int) x11_1 = some r) ∧ Za (kq ≤ k) ∧ Za (Kd.R Kd.bool 4 w' w.heap.size (fun _ => True) v364 x3_1) ∧ Za (Below w.heap.size w w'))
   case atStart => exact ⟨(y363), (0), (by first | rfl | (simp; done) | (simp [*]; done)), H', ⟨Nat.le_refl _⟩, ⟨by (with_reducible repeat (first | apply Kd.R_alloc | apply Kd.Zy | apply Kd.Xg)); exact HO365.out⟩, ⟨by repeat (first | (with_reducible first | exact HB.out | apply Zl | apply Zj | apply Zo) | exact HB.out)⟩⟩
   case round =>
    clear H'
    try clear c2
    try clear c2b0
    try clear c2b1
    try clear p2
    try clear c3
    try clear c3b0
    try clear c3b1
    try clear c5
    obtain ⟨x3_1, x11_1, rfl, HA, HK1, HO_3, HB⟩ := hrel
    cases gk with
    | zero => exact absurd HA.out (by simp [Qi.l0])
    | succ k1 =>
     have H := HA.out
     clear HA
     simp only [Qi.l0] at H
     by_cases c6 : x11_1 < (l0.length : Int)
     ·rw [if_pos c6] at H
      have c6b0 : decide (x11_1 < (l0.length : Int)) = true := decide_eq_true c6
      clear c6
      by_cases c7 : 0 ≤ x11_1
      ·rw [if_pos c7] at H
       have c7b0 : decide (0 ≤ x11_1) = true := decide_eq_true c7
       clear c7
       by_cases c8 : x11_1 < (l0.length : Int)
       ·rw [if_pos c8] at H
        have c8b0 : decide (x11_1 < (l0.length : Int)) = true := decide_eq_true c8
        clear c8
        by_cases c9 : x11_1 < (x3_1.length : Int)
        ·rw [if_pos c9] at H
         have c9b0 : decide (x11_1 < (x3_1.length : Int)) = true := decide_eq_true c9
         clear c9
         obtain ⟨y367, hy367⟩ : ∃ y_ : List Bool, y_ = (x3_1.set (x11_1 : Int).toNat ((Go.bits .and .u64 (rd l0 x11_1) 1) == 1)) := ⟨_, rfl⟩
         replace H : (Qi.l0 k1 y367 l0 (l0.length : Int) (wrap64 (x11_1 + 1))) = some r := by first | (rw [hy367]; with_reducible exact H) | (have H2_ := (Option.bind_some _ _).symm.trans H; rw [hy367]; with_reducible exact H2_) | (have H2_ := (Option.bind_some _ _).symm.trans H; with_reducible exact H2_) | with_reducible exact H | (rw [hy367]; exact H) | exact H
         have Ny367 := Za.mk hy367
         clear hy367
         have H' := Za.mk H
         clear H
         have p366 : 0 ≤ (x11_1 : Int) := of_decide_eq_true (by first | (with_reducible assumption) | assumption)
         have q366 : x11_1 < (l0.length : Int) := of_decide_eq_true (by first | (with_reducible assumption) | assumption)
         obtain ⟨ad366, e366, hx366_0⟩ := Kd.at_int HR0.out x11_1 p366 q366
         cases e366
         replace hx366_0 := (HB.out.cell (World.block_lt_of_cell? w _ hx366_0)).trans hx366_0
         replace p366 := eq_true p366
         replace q366 := eq_true q366
         have p10 : 0 ≤ (x11_1 : Int) := of_decide_eq_true (by first | (with_reducible assumption) | assumption)
         have q10 : (x11_1 : Int) < ((x3_1.length : Int) : Int) := of_decide_eq_true (by first | (with_reducible assumption) | assumption)
         obtain ⟨go10, co10, eo10, gb10, gl10, cl10, HG10⟩ := Kd.R_form HO_3.out (by omega)
         (first | cases eo10 | (injection eo10 with ea_ en_ ec_; (first | subst ea_ | (injection ea_ with ea_; subst ea_)); subst ec_; clear en_))
         have GB10 := Za.mk gb10
         have GG10 := Za.mk HG10
         clear gb10 gl10 HG10
         obtain ⟨hx10_0, hf10_0⟩ := Kd.R_celln false HO_3.out (x11_1 : Int) p10 q10
         replace p10 := eq_true p10
         replace q10 := eq_true q10
         have HP11 := Kd.R_putg HO_3.out (x11_1 : Int) ((Go.bits .and .u64 (rd l0 x11_1) 1) == 1)
         go_wp2_with (first | ((with_reducible refine gate_store (t := 4) (p := 21) rfl ?_); refine store_event (t := 4) (p := 21) (v := ?vo_w12) (w1 := (wr.setCell ⟨go10, (x11_1 : Int).toNat, none⟩ (.bool ((Go.bits .and .u64 (rd l0 x11_1) 1) == 1)))) ?hg ?ho ?hn ?hr ?_; (case ho => rfl); (case hg => rfl); (case hn => rfl); (case hr => first | (go_simp; done) | (go_simp; rfl)); intro w12 hw; have hg : wr.grownBy w12 (some go10) := (by rw [hw]; exact HP11.2); have hp_ : Kd.R Kd.bool 4 w12 w.heap.size (fun _ => True) (.slice (some ⟨go10, 0, none⟩) x3_1.length co10) y367 := (by rw [hw, Ny367.out]; exact HP11.1); clear HP11; have n0_ := Za.mk (hp_); have n1_ := Za.mk ((by rw [hw]; exact Zh HB.out GB10.out : Below w.heap.size w w12)); clear HO_3; clear HB; have HO_3 := n0_; have HB := n1_; clear n0_ n1_; clear hg hw hp_))
         go_roundg k1
         case measure => have := HK1.out; omega
         case rel => exact ⟨(y367), (wrap64 (x11_1 + 1)), (by first | rfl | (simp; done) | (simp [*]; done)), H', ⟨by have := HK1.out; omega⟩, ⟨by (with_reducible repeat (first | apply Kd.R_alloc | apply Kd.Zy | apply Kd.Xg)); exact HO_3.out⟩, ⟨by repeat (first | (with_reducible first | exact HB.out | apply Zl | apply Zj | apply Zo) | exact HB.out)⟩⟩
        ·rw [if_neg c9] at H
         exact absurd H (by simp)
       ·rw [if_neg c8] at H
        exact absurd H (by simp)
      ·rw [if_neg c7] at H
       exact absurd H (by simp)
     ·rw [if_neg c6] at H
      have c6b0 : decide (x11_1 < (l0.length : Int)) = false := decide_eq_false c6
      clear c6
      obtain rfl := Option.some.inj H
      go_wp2
      go_ret
      exact ⟨_, by first | rfl | (simp [errW_none, errW_some] <;> rfl) | (simp [*, errW_none, errW_some] <;> rfl), by (with_reducible repeat (first | apply Kd.R_alloc | apply Kd.Zy | apply Kd.Xg)); exact HO_3.out, by repeat (first | (with_reducible first | exact HB.out | apply Zl | apply Zj | apply Zo) | exact HB.out)⟩
  ·rw [if_neg c3] at H
   exact absurd H (by simp)
 ·rw [if_neg c2] at H
  exact absurd H (by simp)
end Go.Proofs.Ytimjccfpobhpeaa.PF
namespace Go.Proofs.Ytimjccfpobhpeaa
open Go.RowKit Go.Proofs.YtimjccfpobhpeaaW.PrintWords
def U64 (x : Int) : Prop := 0 ≤ x ∧ x < 18446744073709551616
def tb (x : Int) (j : Nat) : Bool := x.toNat.testBit j
theorem wrap_u64 {n : Nat} (h : n < 2 ^ 64) : IntKind.u64.wrap (n : Int) = (n : Int) := by
  simp [IntKind.wrap, IntKind.bits, IntKind.signed]
  omega
theorem tb_ofInt {a : Int} (ha : U64 a) (j : Nat) : (BitVec.ofInt 64 a).getLsbD j = tb a j := by
  obtain ⟨n, rfl⟩ := Int.eq_ofNat_of_zero_le ha.1
  have hn : n < 2 ^ 64 := by have := ha.2; omega
  rw [show BitVec.ofInt 64 (n : Int) = BitVec.ofNat 64 n from BitVec.ofInt_natCast 64 n, BitVec.getLsbD_ofNat]
  unfold tb
  rw [Int.toNat_natCast]
  by_cases hj : j < 64
  · simp [hj]
  · rw [Nat.testBit_lt_two_pow (Nat.lt_of_lt_of_le hn (Nat.pow_le_pow_right (by decide) (by omega)))]
    simp
theorem tb_ofBV (v : BitVec 64) (j : Nat) : tb (IntKind.u64.wrap (v.toNat : Int)) j = v.getLsbD j ∧ U64 (IntKind.u64.wrap (v.toNat : Int)) := by
  have h := v.isLt
  rw [wrap_u64 h]
  refine ⟨?_, by omega, by omega⟩
  unfold tb
  rw [Int.toNat_natCast]
  exact BitVec.testBit_toNat v
theorem tb_and {a b : Int} (ha : U64 a) (hb : U64 b) : U64 (Go.bits .and .u64 a b) ∧ ∀ j, tb (Go.bits .and .u64 a b) j = (tb a j && tb b j) := by
  have h := fun j => tb_ofBV (BitVec.ofInt 64 a &&& BitVec.ofInt 64 b) j
  refine ⟨(h 0).2, fun j => (h j).1.trans ?_⟩
  rw [BitVec.getLsbD_and, tb_ofInt ha, tb_ofInt hb]
theorem tb_or {a b : Int} (ha : U64 a) (hb : U64 b) : U64 (Go.bits .or .u64 a b) ∧ ∀ j, tb (Go.bits .or .u64 a b) j = (tb a j || tb b j) := by
  have h := fun j => tb_ofBV (BitVec.ofInt 64 a ||| BitVec.ofInt 64 b) j
  refine ⟨(h 0).2, fun j => (h j).1.trans ?_⟩
  rw [BitVec.getLsbD_or, tb_ofInt ha, tb_ofInt hb]
theorem tb_xor {a b : Int} (ha : U64 a) (hb : U64 b) : U64 (Go.bits .xor .u64 a b) ∧ ∀ j, tb (Go.bits .xor .u64 a b) j = (tb a j != tb b j) := by
  have h := fun j => tb_ofBV (BitVec.ofInt 64 a ^^^ BitVec.ofInt 64 b) j
  refine ⟨(h 0).2, fun j => (h j).1.trans ?_⟩
  rw [BitVec.getLsbD_xor, tb_ofInt ha, tb_ofInt hb]
theorem tb_andNot {a b : Int} (ha : U64 a) (hb : U64 b) : U64 (Go.bits .andNot .u64 a b) ∧ ∀ j, tb (Go.bits .andNot .u64 a b) j = (tb a j && !tb b j) := by
  have h := fun j => tb_ofBV (BitVec.ofInt 64 a &&& ~~~ BitVec.ofInt 64 b) j
  refine ⟨(h 0).2, fun j => (h j).1.trans ?_⟩
  rw [BitVec.getLsbD_and, BitVec.getLsbD_not, tb_ofInt ha, tb_ofInt hb]
  by_cases hj : j < 64
  · simp [hj]
  · obtain ⟨n, rfl⟩ := Int.eq_ofNat_of_zero_le ha.1
    have hn : n < 2 ^ 64 := by have := ha.2; omega
    have : tb (n : Int) j = false := by
      unfold tb
      rw [Int.toNat_natCast]
      exact Nat.testBit_lt_two_pow (Nat.lt_of_lt_of_le hn (Nat.pow_le_pow_right (by decide) (by omega)))
    rw [this]
    rfl
theorem tb_zero (j : Nat) : tb 0 j = false := by unfold tb; simp
theorem u64_zero : U64 0 := ⟨by decide, by decide⟩
theorem tb_ones {j : Nat} (h : j < 64) : tb 18446744073709551615 j = true := by
  unfold tb
  show (2 ^ 64 - 1 : Nat).testBit j = true
  rw [Nat.testBit_two_pow_sub_one]
  simpa using h
theorem u64_ones : U64 18446744073709551615 := ⟨by decide, by decide⟩
theorem tb_shl {k : Nat} (h : k < 64) : U64 (shl .u64 1 (k : Int)) ∧ ∀ j, tb (shl .u64 1 (k : Int)) j = decide (j = k) := by
  have e : shl .u64 1 (k : Int) = ((2 ^ k : Nat) : Int) := by
    unfold shl
    rw [Int.toNat_natCast, show IntKind.u64.bits = 64 from rfl, Nat.min_eq_left (by omega), Int.one_mul]
    have h2 : (2 ^ k : Nat) < 2 ^ 64 := Nat.pow_lt_pow_right (by decide) h
    have := wrap_u64 h2
    exact_mod_cast this
  have h2 : (2 ^ k : Nat) < 2 ^ 64 := Nat.pow_lt_pow_right (by decide) h
  rw [e]
  refine ⟨⟨Int.natCast_nonneg _, by generalize 2 ^ k = m at h2; omega⟩, fun j => ?_⟩
  unfold tb
  rw [Int.toNat_natCast, Nat.testBit_two_pow]
  exact decide_eq_decide.2 eq_comm
theorem tb_test {a : Int} (ha : U64 a) (i : Nat) : Go.bits .and .u64 (a / 2 ^ i) 1 = if tb a i then 1 else 0 := by
  obtain ⟨n, rfl⟩ := Int.eq_ofNat_of_zero_le ha.1
  have hn : n < 2 ^ 64 := by have := ha.2; omega
  have e : ((n : Int) / 2 ^ i) = ((n / 2 ^ i : Nat) : Int) := by simp
  have h1 : n / 2 ^ i < 2 ^ 64 := Nat.lt_of_le_of_lt (Nat.div_le_self _ _) hn
  have h2 := (bits_nat .u64 64 (by decide) (fun m h0 h1 => by obtain ⟨k, rfl⟩ := Int.eq_ofNat_of_zero_le h0; exact wrap_u64 (by omega)) (n / 2 ^ i) 1 h1 (by decide)).1
  rw [e]
  refine h2.trans ?_
  unfold tb
  rw [Int.toNat_natCast, Nat.and_one_is_mod, Nat.testBit_eq_decide_div_mod_eq]
  by_cases hb : n / 2 ^ i % 2 = 1
  · simp [hb]
  · have : n / 2 ^ i % 2 = 0 := by omega
    simp [this]
theorem tb_test_i64 {n : Nat} (hn : n ≤ 64) (i : Nat) (hi : i ≤ 64) : Go.bits .and .i64 (shr .i64 (n : Int) (i : Int)) 1 = if n.testBit i then 1 else 0 := by
  have e : shr .i64 (n : Int) (i : Int) = ((n / 2 ^ i : Nat) : Int) := by
    unfold shr
    rw [Int.toNat_natCast, show IntKind.i64.bits = 64 from rfl, Nat.min_eq_left hi]
    simp
  have h1 : n / 2 ^ i < 2 ^ 63 := Nat.lt_of_le_of_lt (Nat.div_le_self _ _) (by omega)
  have h2 := (bits_nat .i64 63 (by decide) (fun m h0 h1 => by rw [IntKind.wrap_i64]; omega) (n / 2 ^ i) 1 h1 (by decide)).1
  rw [e]
  refine h2.trans ?_
  rw [Nat.and_one_is_mod, Nat.testBit_eq_decide_div_mod_eq]
  by_cases hb : n / 2 ^ i % 2 = 1
  · simp [hb]
  · have : n / 2 ^ i % 2 = 0 := by omega
    simp [this]
end Go.Proofs.Ytimjccfpobhpeaa
namespace Go.Proofs.Ytimjccfpobhpeaa
open Go.RowKit Go.Proofs.YtimjccfpobhpeaaW.PrintWords Go.Proofs.Ytimjccfpobhpeaa.PF
set_option linter.unusedVariables false
def tT (a : Int) (i : Nat) : Bool := !decide (Go.bits .and .u64 (shr .u64 a (i : Int)) 1 = 0)
def idxB : List Bool → Nat
  | [] => 0
  | b :: r => b.toNat + 2 * idxB r
theorem idxB_bit : ∀ (bs : List Bool) (m : Nat), (idxB bs).testBit m = bs.getD m false
  | [], m => by simp [idxB]
  | b :: r, 0 => by
    unfold idxB
    rw [Nat.testBit_zero]
    cases b <;> simp <;> omega
  | b :: r, m + 1 => by
    unfold idxB
    rw [Nat.testBit_succ, show (b.toNat + 2 * idxB r) / 2 = idxB r by cases b <;> simp <;> omega, idxB_bit r m]
    rfl
theorem idxB_lt : ∀ bs : List Bool, idxB bs < 2 ^ bs.length
  | [] => by simp [idxB]
  | b :: r => by
    have := idxB_lt r
    unfold idxB
    rw [List.length_cons, Nat.pow_succ]
    cases b <;> simp <;> omega
def mt (x : Nat) (bs : List Bool) : Bool := (List.range bs.length).all fun m => x.testBit m == bs.getD m false
theorem mt_iff {x : Nat} {bs : List Bool} (hx : x < 2 ^ bs.length) : mt x bs = true ↔ x = idxB bs := by
  unfold mt
  constructor
  · intro h
    refine Nat.eq_of_testBit_eq fun m => ?_
    rw [idxB_bit]
    by_cases hm : m < bs.length
    · have := List.all_eq_true.1 h m (List.mem_range.2 hm)
      simpa using this
    · rw [Nat.testBit_lt_two_pow (Nat.lt_of_lt_of_le hx (Nat.pow_le_pow_right (by decide) (by omega)))]
      simp [List.getD, List.getElem?_eq_none (show bs.length ≤ m by omega)]
  · rintro rfl
    refine List.all_eq_true.2 fun m hm => ?_
    rw [idxB_bit]
    simp
def lane (ws : List Int) (j : Nat) : List Bool := ws.map (tb · j)
theorem lane_len (ws : List Int) (j : Nat) : (lane ws j).length = ws.length := List.length_map _
theorem lane_get (ws : List Int) (j m : Nat) (h : m < ws.length) : (lane ws j).getD m false = tb (rd ws m) j := by
  rw [rd_at (List.getElem?_eq_getElem h)]
  simp [lane, List.getD, List.getElem?_eq_getElem h]
theorem look1 (a x5 x12 x13 : Int) (l : List Int) (hl : l.length ≤ 64) (hu : ∀ y ∈ l, U64 y) (x : Nat) (hx : x ≤ 64) (R : Int → Prop)
    (H : ∀ y, U64 y → (∀ j, j < 64 → tb y j = mt x (lane l j)) → ∃ k r, Xf.l0 k a l (Go.bits .or .u64 x5 y) x12 (wrap64 (x13 + 1)) = some r ∧ R r) :
    ∀ (d i : Nat) (x7 : Int), i + d = l.length → U64 x7 → (∀ j, j < 64 → tb x7 j = (List.range i).all fun m => x.testBit m == (lane l j).getD m false) → ∃ k r, Xf.l1 k a l x5 x x7 x12 x13 l l.length i = some r ∧ R r
  | 0, i, x7, h, h7, hb => by
    obtain ⟨k, r, h1, h2⟩ := H x7 h7 (fun j hj => by rw [hb j hj]; unfold mt; rw [lane_len, show i = l.length by omega])
    exact ⟨k + 1, r, by rw [Xf.l1, if_neg (by omega)]; exact h1, h2⟩
  | d + 1, i, x7, h, h7, hb => by
    have hw : wrap64 ((i : Int) + 1) = ((i + 1 : Nat) : Int) := by rw [Ql (by omega) (by omega)]; rfl
    have hri : U64 (rd l i) := by
      rw [rd_at (List.getElem?_eq_getElem (show i < l.length by omega))]
      exact hu _ (List.getElem_mem _)
    have ht := tb_test_i64 hx i (by omega)
    have hstep : ∀ (y : Int), (∀ j, j < 64 → tb y j = (tb x7 j && (x.testBit i == tb (rd l i) j))) → ∀ j, j < 64 → tb y j = (List.range (i + 1)).all fun m => x.testBit m == (lane l j).getD m false := by
      intro y hy j hj
      rw [hy j hj, hb j hj, List.range_succ, List.all_append, List.all_cons, List.all_nil, Bool.and_true, lane_get l j i (by omega)]
    by_cases c : x.testBit i = true
    · rw [if_pos c] at ht
      obtain ⟨k, r, h1, h2⟩ := look1 a x5 x12 x13 l hl hu x hx R H d (i + 1) (Go.bits .and .u64 x7 (rd l i)) (by omega) (tb_and h7 hri).1 (hstep _ fun j hj => by rw [(tb_and h7 hri).2, c]; simp)
      exact ⟨k + 1, r, by rw [Xf.l1, if_pos (by omega), if_pos (by omega), if_pos (by omega), if_pos ht, hw]; exact h1, h2⟩
    · rw [if_neg c] at ht
      obtain ⟨k, r, h1, h2⟩ := look1 a x5 x12 x13 l hl hu x hx R H d (i + 1) (Go.bits .andNot .u64 x7 (rd l i)) (by omega) (tb_andNot h7 hri).1 (hstep _ fun j hj => by rw [(tb_andNot h7 hri).2, Bool.eq_false_iff.2 c]; simp)
      exact ⟨k + 1, r, by rw [Xf.l1, if_pos (by omega), if_pos (by omega), if_pos (by omega), if_neg (by rw [ht]; decide), hw]; exact h1, h2⟩
theorem look0 (a : Int) (l : List Int) (hl : l.length ≤ 64) (hu : ∀ y ∈ l, U64 y) (n : Nat) (hn : n ≤ 64) : ∀ (d i : Nat) (x5 : Int), i + d = n → U64 x5 → (∀ j, j < 64 → tb x5 j = (List.range i).any fun x => tT a x && mt x (lane l j)) →
    ∃ k r, Xf.l0 k a l x5 n i = some r ∧ U64 r ∧ ∀ j, j < 64 → tb r j = (List.range n).any fun x => tT a x && mt x (lane l j)
  | 0, i, x5, h, h5, hb => ⟨1, x5, by rw [Xf.l0, if_neg (by omega)], h5, by rw [show n = i by omega]; exact hb⟩
  | d + 1, i, x5, h, h5, hb => by
    have ih := fun x5' => look0 a l hl hu n hn d (i + 1) x5' (by omega)
    have hw : wrap64 ((i : Int) + 1) = ((i + 1 : Nat) : Int) := by rw [Ql (by omega) (by omega)]; rfl
    by_cases c : tT a i = true
    · have ht : ¬ Go.bits .and .u64 (shr .u64 a (i : Int)) 1 = 0 := by simpa [tT] using c
      obtain ⟨k, r, h1, h2⟩ := look1 a x5 n i l hl hu i (by omega) (fun r => U64 r ∧ ∀ j, j < 64 → tb r j = (List.range n).any fun x => tT a x && mt x (lane l j))
        (fun y hy hyb => by
          rw [hw]
          exact ih _ (tb_or h5 hy).1 (fun j hj => by rw [(tb_or h5 hy).2, hb j hj, hyb j hj, List.range_succ, List.any_append, List.any_cons, List.any_nil, Bool.or_false, c, Bool.true_and]))
        l.length 0 18446744073709551615 (by omega) u64_ones (fun j hj => by rw [tb_ones hj]; rfl)
      exact ⟨k + 1, r, by rw [Xf.l0, if_pos (by omega), if_pos (by omega), if_neg ht]; exact h1, h2⟩
    · have ht : Go.bits .and .u64 (shr .u64 a (i : Int)) 1 = 0 := by simpa [tT] using c
      obtain ⟨k, r, h1, h2⟩ := ih x5 h5 (fun j hj => by rw [hb j hj, List.range_succ, List.any_append, List.any_cons, List.any_nil, Bool.or_false, Bool.eq_false_iff.2 c, Bool.false_and, Bool.or_false])
      exact ⟨k + 1, r, by rw [Xf.l0, if_pos (by omega), if_pos (by omega), if_pos ht, hw]; exact h1, h2⟩
theorem shl_one2 (n : Nat) (h : n ≤ 6) : shl .i64 1 (n : Int) = ((2 ^ n : Nat) : Int) := by
  have hc : n = 0 ∨ n = 1 ∨ n = 2 ∨ n = 3 ∨ n = 4 ∨ n = 5 ∨ n = 6 := by omega
  rcases hc with rfl | rfl | rfl | rfl | rfl | rfl | rfl <;> decide
theorem look_lane (a : Int) (l : List Int) (hl : l.length ≤ 6) (hu : ∀ y ∈ l, U64 y) : ∃ k r, Xf.f k a l = some r ∧ U64 r ∧ ∀ j, j < 64 → tb r j = tT a (idxB (lane l j)) := by
  have hn : 2 ^ l.length ≤ 64 := by
    have : 2 ^ l.length ≤ 2 ^ 6 := Nat.pow_le_pow_right (by decide) hl
    omega
  obtain ⟨k, r, h1, h2, h3⟩ := look0 a l (by omega) hu (2 ^ l.length) hn (2 ^ l.length) 0 0 (by omega) u64_zero (fun j _ => by rw [tb_zero]; rfl)
  refine ⟨k, r, by unfold Xf.f; rw [shl_one2 _ hl]; exact h1, h2, fun j hj => ?_⟩
  rw [h3 j hj, Bool.eq_iff_iff, List.any_eq_true]
  have hlt : idxB (lane l j) < 2 ^ l.length := by have := idxB_lt (lane l j); rwa [lane_len] at this
  constructor
  · rintro ⟨x, hx, hb⟩
    rw [Bool.and_eq_true] at hb
    rw [← (mt_iff (by rw [lane_len]; exact List.mem_range.1 hx)).1 hb.2]
    exact hb.1
  · intro hb
    exact ⟨idxB (lane l j), List.mem_range.2 hlt, by rw [hb, (mt_iff (by rw [lane_len]; exact hlt)).2 rfl]; rfl⟩
def rdB (v : List Bool) (i : Int) : Bool := v.getD i.toNat false
def gateB (v : List Bool) (g : Ky) : Bool := tT g.f1 (idxB (g.f2.map (rdB v)))
def gatesB : List Ky → List Bool → List Bool
  | [], v => v
  | g :: r, v => gatesB r (v ++ [gateB v g])
theorem gatesB_snoc : ∀ (gs : List Ky) (g : Ky) (v : List Bool), gatesB (gs ++ [g]) v = gatesB gs v ++ [gateB (gatesB gs v) g]
  | [], _, _ => rfl
  | h :: gs, g, v => gatesB_snoc gs g (v ++ [gateB v h])
def outB (v : List Bool) (l4 : List Int) : List Bool := l4.map (rdB v)
theorem lane_rd (v : List Int) (y : Int) (h0 : 0 ≤ y) (h1 : y < v.length) (j : Nat) : tb (rd v y) j = rdB (lane v j) y := by
  obtain ⟨m, rfl⟩ := Int.eq_ofNat_of_zero_le h0
  unfold rdB
  rw [Int.toNat_natCast, lane_get v j m (by omega)]
section
variable {l0 l1 : List ByteArray} {l2 : List S82} {l3 : List Ky} {l4 : List Int}
theorem lvalues1 (R : List Int → Prop) (x7 : List Int) (hu7 : ∀ y ∈ x7, U64 y) (x20 : List Ky) (x21 x22 : Int) (g : Ky) (hx : g.f2.length ≤ 6) (hp : ∀ y ∈ g.f2, 0 ≤ y ∧ y < x7.length) (h7 : x7.length ≤ 1048576)
    (H : ∀ r, U64 r → (∀ j, j < 64 → tb r j = gateB (lane x7 j) g) → ∃ k v, Zz.l0 k (x7 ++ [r]) x20 x21 (wrap64 (x22 + 1)) = some v ∧ R v) :
    ∀ (d i : Nat), i + d = g.f2.length → ∃ k v, Zz.l1 k x7 ((g.f2.take i).map (rd x7)) x20 x21 x22 g.f2 g.f2.length i g.f0 g.f1 g.f2 = some v ∧ R v
  | 0, i, h => by
    have ht : g.f2.take i = g.f2 := List.take_of_length_le (by omega)
    rw [ht]
    have hin : ∀ y ∈ g.f2.map (rd x7), U64 y := by
      intro y hy
      obtain ⟨p, hp1, rfl⟩ := List.mem_map.1 hy
      obtain ⟨q1, q2⟩ := hp p hp1
      obtain ⟨m, rfl⟩ := Int.eq_ofNat_of_zero_le q1
      rw [rd_at (List.getElem?_eq_getElem (show m < x7.length by omega))]
      exact hu7 _ (List.getElem_mem _)
    obtain ⟨k1, r, h1, h2, h3⟩ := look_lane g.f1 (g.f2.map (rd x7)) (by simpa using hx) hin
    obtain ⟨k2, v, h4, h5⟩ := H r h2 (fun j hj => by
      rw [h3 j hj]
      unfold gateB
      congr 2
      unfold lane
      rw [List.map_map]
      exact List.map_congr_left fun y hy => lane_rd x7 y (hp y hy).1 (hp y hy).2 j)
    refine ⟨k1 + k2 + 1, v, ?_, h5⟩
    rw [Zz.l1, if_neg (by omega), upK (Xf.mono g.f1 (g.f2.map (rd x7))) (show k1 ≤ k1 + k2 by omega) h1, Option.bind_some, if_pos (by omega)]
    exact upK (f := fun k => Zz.l0 k (x7 ++ [r]) x20 x21 (wrap64 (x22 + 1))) (fun k => (Zz.mono_l k).1 _ _ _ _) (show k2 ≤ k1 + k2 by omega) h4
  | d + 1, i, h => by
    have hw : wrap64 ((i : Int) + 1) = ((i + 1 : Nat) : Int) := by rw [Ql (by omega) (by omega)]; rfl
    obtain ⟨y, hy⟩ := at_ex (xs := g.f2) (i := i) (by omega)
    obtain ⟨q1, q2⟩ := hp y (List.mem_of_getElem? hy)
    obtain ⟨k, v, h1, h2⟩ := lvalues1 R x7 hu7 x20 x21 x22 g hx hp h7 H d (i + 1) (by omega)
    refine ⟨k + 1, v, ?_, h2⟩
    rw [Zz.l1, if_pos (by omega), if_pos (by omega), if_pos (by omega), rd_at hy, if_pos q1, if_pos q2, if_pos (by rw [List.length_map, List.length_take]; omega), hw]
    have e : (g.f2.take i).map (rd x7) ++ [rd x7 y] = (g.f2.take (i + 1)).map (rd x7) := by
      rw [List.take_add_one, hy, List.map_append]
      rfl
    rw [e]
    exact h1
theorem lane_snoc (v : List Int) (r : Int) (j : Nat) : lane (v ++ [r]) j = lane v j ++ [tb r j] := by simp [lane]
theorem lvalues0 (ok : FormOk l0 l1 l2 l3 l4) (b0 : Nat → List Bool) : ∀ (d i : Nat) (x7 : List Int), i + d = l3.length → x7.length = 2 + l0.length + l2.length + i → (∀ y ∈ x7, U64 y) → (∀ j, j < 64 → lane x7 j = gatesB (l3.take i) (b0 j)) →
    ∃ k v, Zz.l0 k x7 l3 l3.length i = some v ∧ v.length = 2 + l0.length + l2.length + l3.length ∧ (∀ y ∈ v, U64 y) ∧ ∀ j, j < 64 → lane v j = gatesB l3 (b0 j)
  | 0, i, x7, h, h7, hu, hb => ⟨1, x7, by rw [Zz.l0, if_neg (by omega)], by omega, hu, fun j hj => by rw [hb j hj, List.take_of_length_le (by omega)]⟩
  | d + 1, i, x7, h, h7, hu, hb => by
    have c0 := ok.c0
    have c2 := ok.c2
    have c3 := ok.c3
    obtain ⟨x, hx⟩ := at_ex (show i < l3.length by omega)
    obtain ⟨hp1, hp2⟩ := ok.pins i x hx
    have hw : wrap64 ((i : Int) + 1) = ((i + 1 : Nat) : Int) := by rw [Ql (by omega) (by omega)]; rfl
    obtain ⟨k, v, h1, h2⟩ := lvalues1 (fun v => v.length = 2 + l0.length + l2.length + l3.length ∧ (∀ y ∈ v, U64 y) ∧ ∀ j, j < 64 → lane v j = gatesB l3 (b0 j)) x7 hu l3 l3.length i x hp1 (fun y hy => by have := hp2 y hy; omega) (by omega)
      (fun r hr hrb => by
        rw [hw]
        refine lvalues0 ok b0 d (i + 1) (x7 ++ [r]) (by omega) (by rw [List.length_append, h7]; rfl) (fun y hy => ?_) (fun j hj => ?_)
        · rcases List.mem_append.1 hy with hy | hy
          · exact hu y hy
          · rw [List.mem_singleton.1 hy]; exact hr
        · rw [lane_snoc, hrb j hj, hb j hj, List.take_add_one, hx]
          exact (gatesB_snoc _ _ _).symm) x.f2.length 0 (by omega)
    refine ⟨k + 1, v, ?_, h2⟩
    rw [Zz.l0, if_pos (by omega), if_pos (by omega), if_pos (by omega), rdG_at hx]
    exact h1
theorem lvalues_ex (ok : FormOk l0 l1 l2 l3 l4) (a b : List Int) (ha : a.length = l0.length) (hb : b.length = l2.length) (hua : ∀ y ∈ a, U64 y) (hub : ∀ y ∈ b, U64 y) :
    ∃ k v, Zz.f k l0 l1 l2 l3 l4 a b = some v ∧ v.length = 2 + l0.length + l2.length + l3.length ∧ (∀ y ∈ v, U64 y) ∧ ∀ j, j < 64 → lane v j = gatesB l3 ([false, true] ++ lane a j ++ lane b j) := by
  have b0 := ok.c0
  have b2 := ok.c2
  obtain ⟨k, v, h1, h2⟩ := lvalues0 ok (fun j => [false, true] ++ lane a j ++ lane b j) l3.length 0 ([0, 18446744073709551615] ++ a ++ b) (by omega) (by simp only [List.length_append, List.length_cons, List.length_nil]; omega)
    (fun y hy => by
      rcases List.mem_append.1 hy with hy | hy
      · rcases List.mem_append.1 hy with hy | hy
        · simp only [List.mem_cons, List.not_mem_nil, or_false] at hy
          rcases hy with rfl | rfl
          · exact u64_zero
          · exact u64_ones
        · exact hua y hy
      · exact hub y hy)
    (fun j hj => by simp [lane, tb_zero, tb_ones hj, gatesB])
  refine ⟨k, v, ?_, h2⟩
  unfold Zz.f
  show (if ([0, 18446744073709551615] : List Int).length + a.length < 17592186044416 then ((some ([0, 18446744073709551615] ++ a)).bind fun y310 => (if y310.length + b.length < 17592186044416 then (Zz.l0 k (y310 ++ b) l3 l3.length 0) else none)) else none) = some v
  rw [if_pos (by simp only [List.length_cons, List.length_nil]; omega), Option.bind_some, if_pos (by simp only [List.length_append, List.length_cons, List.length_nil]; omega)]
  exact h1
theorem gatesB_get : ∀ (gs : List Ky) (v : List Bool) (m : Nat), m < v.length → (gatesB gs v).getD m false = v.getD m false
  | [], _, _, _ => rfl
  | g :: gs, v, m, h => by
    rw [gatesB, gatesB_get gs _ m (by rw [List.length_append]; omega)]
    simp only [List.getD]
    rw [List.getElem?_append_left h]
theorem lresults_step (v x4 x5 : List Int) (i : Nat) (x : S82) (hx : l2[i]? = some x) (q1 : (i : Int) < (l2.length : Int)) (q2 : (0 : Int) ≤ i) (hw2 : wrap64 (wrap64 (2 + (l0.length : Int)) + i) = 2 + (l0.length : Int) + i) (q3 : 0 ≤ 2 + (l0.length : Int) + i) (q4 : 2 + (l0.length : Int) + i < (v.length : Int))
    (f3 : 0 ≤ x.f3) (q5 : x.f3 < (v.length : Int)) (f1 : 0 ≤ x.f2) (q6 : x.f2 < (v.length : Int)) (q7 : x5.length < 17592186044416) (ua : U64 (rd v x.f3)) (ub : U64 (rd v x.f2)) (uc : U64 (rd v (2 + (l0.length : Int) + i))) :
    ∃ e, (∀ k, Zv.l1 (k + 1) v x4 x5 l2 l2.length i l0 l1 l2 l3 l4 = Zv.l1 k v x4 (x5 ++ [e]) l2 l2.length (wrap64 ((i : Int) + 1)) l0 l1 l2 l3 l4) ∧ U64 e ∧ ∀ j, j < 64 → tb e j = if tb (rd v x.f3) j then tb (rd v x.f2) j else tb (rd v (2 + (l0.length : Int) + i)) j :=
  ⟨_, fun k => by rw [Zv.l1, if_pos q1, if_pos q2, if_pos q1, hw2, if_pos q3, if_pos q4, rdF_at hx, if_pos f3, if_pos q5, if_pos f1, if_pos q6, if_pos q7], (tb_or (tb_and ua ub).1 (tb_and (tb_xor u64_ones ua).1 uc).1).1, fun j hj => by
    rw [(tb_or (tb_and ua ub).1 (tb_and (tb_xor u64_ones ua).1 uc).1).2, (tb_and ua ub).2, (tb_and (tb_xor u64_ones ua).1 uc).2, (tb_xor u64_ones ua).2, tb_ones hj]
    cases tb (rd v x.f3) j <;> cases tb (rd v x.f2) j <;> cases tb (rd v (2 + (l0.length : Int) + i)) j <;> rfl⟩
theorem rd_u {v : List Int} (hu : ∀ y ∈ v, U64 y) {y : Int} (h0 : 0 ≤ y) (h1 : y < v.length) : U64 (rd v y) := by
  obtain ⟨m, rfl⟩ := Int.eq_ofNat_of_zero_le h0
  rw [rd_at (List.getElem?_eq_getElem (show m < v.length by omega))]
  exact hu _ (List.getElem_mem _)
def flopB (v st : List Bool) (i : Nat) (f : S82) : Bool := if rdB v f.f3 then rdB v f.f2 else st.getD i false
def nextF (v st : List Bool) : List S82 → Nat → List Bool
  | [], _ => []
  | f :: r, i => flopB v st i f :: nextF v st r (i + 1)
theorem nextF_snoc (v st : List Bool) : ∀ (fs : List S82) (f : S82) (i : Nat), nextF v st (fs ++ [f]) i = nextF v st fs i ++ [flopB v st (i + fs.length) f]
  | [], _, _ => rfl
  | g :: fs, f, i => by
    rw [List.cons_append, nextF, nextF_snoc v st fs f (i + 1), nextF, List.cons_append, List.length_cons, show i + 1 + fs.length = i + (fs.length + 1) by omega]
theorem nextF_len (v st : List Bool) : ∀ (fs : List S82) (i : Nat), (nextF v st fs i).length = fs.length
  | [], _ => rfl
  | f :: fs, i => by rw [nextF, List.length_cons, nextF_len v st fs, List.length_cons]
theorem lresults1 (ok : FormOk l0 l1 l2 l3 l4) (v x4 : List Int) (hv : v.length = 2 + l0.length + l2.length + l3.length) (hu : ∀ y ∈ v, U64 y) (st : Nat → List Bool) (hst : ∀ i, i < l2.length → ∀ j, j < 64 → tb (rd v (2 + (l0.length : Int) + i)) j = (st j).getD i false) :
    ∀ (d i : Nat) (x5 : List Int), i + d = l2.length → x5.length = i → (∀ y ∈ x5, U64 y) → (∀ j, j < 64 → lane x5 j = nextF (lane v j) (st j) (l2.take i) 0) → ∃ k n, Zv.l1 k v x4 x5 l2 l2.length i l0 l1 l2 l3 l4 = some (x4, n) ∧ n.length = l2.length ∧ (∀ y ∈ n, U64 y) ∧ ∀ j, j < 64 → lane n j = nextF (lane v j) (st j) l2 0
  | 0, i, x5, h, h5, h6, h7 => ⟨1, x5, by rw [Zv.l1, if_neg (by omega)], by omega, h6, fun j hj => by rw [h7 j hj, List.take_of_length_le (by omega)]⟩
  | d + 1, i, x5, h, h5, h6, h7 => by
    have b0 := ok.c0
    have b2 := ok.c2
    have b3 := ok.c3
    obtain ⟨x, hx⟩ := at_ex (show i < l2.length by omega)
    obtain ⟨f1, f2, f3, f4⟩ := ok.flops x (List.mem_of_getElem? hx)
    have hw2 : wrap64 (wrap64 (2 + (l0.length : Int)) + i) = 2 + (l0.length : Int) + i := by rw [Ql (x := 2 + (l0.length : Int)) (by omega) (by omega), Ql (by omega) (by omega)]
    obtain ⟨e, he, ue, be⟩ := lresults_step (l0 := l0) (l1 := l1) (l2 := l2) (l3 := l3) (l4 := l4) v x4 x5 i x hx (by clear hw2; omega) (by clear hw2; omega) hw2 (by clear hw2; omega) (by clear hw2; omega) f3 (by clear hw2; omega) f1 (by clear hw2; omega) (Nat.lt_of_le_of_lt (show x5.length ≤ 288 by clear hw2; omega) (by decide))
      (rd_u hu f3 (by clear hw2; omega)) (rd_u hu f1 (by clear hw2; omega)) (rd_u hu (by clear hw2; omega) (by clear hw2; omega))
    clear hw2
    obtain ⟨k, n, h1, h2⟩ := lresults1 ok v x4 hv hu st hst d (i + 1) (x5 ++ [e]) (by omega) (by rw [List.length_append, h5]; rfl)
      (fun y hy => by
        rcases List.mem_append.1 hy with hy | hy
        · exact h6 y hy
        · rw [List.mem_singleton.1 hy]; exact ue)
      (fun j hj => by
        rw [lane_snoc, h7 j hj, be j hj, List.take_add_one, hx]
        show _ = nextF _ _ (l2.take i ++ [x]) 0
        rw [nextF_snoc, List.length_take, Nat.min_eq_left (by omega), Nat.zero_add]
        unfold flopB
        rw [lane_rd v x.f3 f3 (by omega), lane_rd v x.f2 f1 (by omega), hst i (by omega) j hj])
    refine ⟨k + 1, n, ?_, h2⟩
    rw [he, Ql (by omega) (by omega)]
    exact h1
theorem lresults0 (ok : FormOk l0 l1 l2 l3 l4) (v : List Int) (hv : v.length = 2 + l0.length + l2.length + l3.length) (hu : ∀ y ∈ v, U64 y) (st : Nat → List Bool) (hst : ∀ i, i < l2.length → ∀ j, j < 64 → tb (rd v (2 + (l0.length : Int) + i)) j = (st j).getD i false) :
    ∀ (d i : Nat), i + d = l4.length → ∃ k n, Zv.l0 k v ((l4.take i).map (rd v)) l4 l4.length i l0 l1 l2 l3 l4 = some (l4.map (rd v), n) ∧ n.length = l2.length ∧ (∀ y ∈ n, U64 y) ∧ ∀ j, j < 64 → lane n j = nextF (lane v j) (st j) l2 0
  | 0, i, h => by
    obtain ⟨k, n, h1, h2⟩ := lresults1 ok v (l4.map (rd v)) hv hu st hst l2.length 0 [] (by omega) rfl (fun y hy => by cases hy) (fun j _ => rfl)
    have ht : l4.take i = l4 := List.take_of_length_le (by omega)
    have hlt : ¬ (i : Int) < (l4.length : Int) := by omega
    rw [ht]
    refine ⟨k + 1, n, ?_, h2⟩
    rw [Zv.l0, if_neg hlt]
    exact h1
  | d + 1, i, h => by
    have b0 := ok.c0
    have b1 := ok.c1
    have b2 := ok.c2
    have b3 := ok.c3
    have b4 := ok.c4
    obtain ⟨x, hx⟩ := at_ex (show i < l4.length by omega)
    obtain ⟨f1, f2⟩ := ok.outs x (List.mem_of_getElem? hx)
    obtain ⟨k, n, h1, h2⟩ := lresults0 ok v hv hu st hst d (i + 1) (by omega)
    have e : (l4.take i).map (rd v) ++ [rd v x] = (l4.take (i + 1)).map (rd v) := by
      rw [List.take_add_one, hx, List.map_append]
      rfl
    have q8 : ((l4.take i).map (rd v)).length ≤ 128 := by rw [List.length_map, List.length_take]; omega
    have q7 : ((l4.take i).map (rd v)).length < 17592186044416 := by clear h1 h2 hst; omega
    have g1 : (i : Int) < (l4.length : Int) := by omega
    have g2 : (0 : Int) ≤ (i : Int) := by omega
    have g3 : x < (v.length : Int) := by omega
    have hw : wrap64 ((i : Int) + 1) = ((i + 1 : Nat) : Int) := by rw [Ql (by omega) (by omega)]; rfl
    refine ⟨k + 1, n, ?_, h2⟩
    rw [Zv.l0, if_pos g1, if_pos g2, if_pos g1, rd_at hx, if_pos f1, if_pos g3, if_pos q7, hw, e]
    exact h1
def valB (l3 : List Ky) (a b : List Bool) : List Bool := gatesB l3 ([false, true] ++ a ++ b)
theorem lwords_ex (ok : FormOk l0 l1 l2 l3 l4) {kF : Nat} (hF : Ze.f kF l0 l1 l2 l3 l4 = some 0) (a b : List Int) (ha : a.length = l0.length) (hb : b.length = l2.length) (hua : ∀ y ∈ a, U64 y) (hub : ∀ y ∈ b, U64 y) :
    ∃ k o n, Qg.f k l0 l1 l2 l3 l4 a b = some (o, n, 0) ∧ o.length = l4.length ∧ n.length = l2.length ∧ (∀ y ∈ o, U64 y) ∧ (∀ y ∈ n, U64 y) ∧
      ∀ j, j < 64 → lane o j = outB (valB l3 (lane a j) (lane b j)) l4 ∧ lane n j = nextF (valB l3 (lane a j) (lane b j)) (lane b j) l2 0 := by
  obtain ⟨k1, v, h1, hv, hu, hlv⟩ := lvalues_ex ok a b ha hb hua hub
  have hst : ∀ i, i < l2.length → ∀ j, j < 64 → tb (rd v (2 + (l0.length : Int) + i)) j = (lane b j).getD i false := by
    intro i hi j hj
    rw [lane_rd v _ (by omega) (by omega), hlv j hj]
    unfold rdB
    rw [show (2 + (l0.length : Int) + i).toNat = 2 + l0.length + i by omega, gatesB_get _ _ _ (by simp only [List.length_append, lane_len, List.length_cons, List.length_nil]; omega)]
    simp only [List.getD]
    rw [List.getElem?_append_right (by simp only [List.length_append, lane_len, List.length_cons, List.length_nil]; omega)]
    congr 2
    simp only [List.length_append, lane_len, List.length_cons, List.length_nil]
    omega
  obtain ⟨k2, n, h2, hn, un, bn⟩ := lresults0 ok v hv hu (fun j => lane b j) hst l4.length 0 (by omega)
  refine ⟨kF + k1 + k2, l4.map (rd v), n, ?_, List.length_map _, hn, ?_, un, fun j hj => ⟨?_, ?_⟩⟩
  · have e1 := upK (Ze.mono l0 l1 l2 l3 l4) (show kF ≤ kF + k1 + k2 by omega) hF
    have e2 := upK (Zz.mono l0 l1 l2 l3 l4 a b) (show k1 ≤ kF + k1 + k2 by omega) h1
    have e3 := upK (f := fun k => Zv.f k l0 l1 l2 l3 l4 v) (Zv.mono l0 l1 l2 l3 l4 v) (show k2 ≤ kF + k1 + k2 by omega) h2
    unfold Qg.f Qw.f
    rw [e1, Option.bind_some, if_pos rfl, if_pos (by omega), if_pos (by omega), e2, Option.bind_some]
    show (if (0 : Int) = 0 then ((Zv.f (kF + k1 + k2) l0 l1 l2 l3 l4 v).bind fun bt352 => some (bt352.1, bt352.2, (0 : Int))) else some ([], [], 0)) = some (l4.map (rd v), n, 0)
    rw [if_pos rfl, e3, Option.bind_some]
  · intro y hy
    obtain ⟨p, hp, rfl⟩ := List.mem_map.1 hy
    obtain ⟨q1, q2⟩ := ok.outs p hp
    exact rd_u hu q1 (by omega)
  · unfold outB lane valB
    rw [List.map_map]
    refine List.map_congr_left fun y hy => ?_
    obtain ⟨q1, q2⟩ := ok.outs y hy
    show tb (rd v y) j = _
    rw [lane_rd v y q1 (by omega), hlv j hj]
    rfl
  · rw [bn j hj, hlv j hj]
    rfl
end
end Go.Proofs.Ytimjccfpobhpeaa
namespace Go.Proofs.Ytimjccfpobhpeaa
open Go.RowKit
set_option maxRecDepth 100000
theorem keyLits3 {P : Program} {k e : TypeId} (hu : P.underlying k = some (.array 3 e)) (he : P.underlying e = some (.int .i64)) (h1 : P.cellsOf k = 3) (h2 : P.cellsOf e = 1) (d : Nat) (a b c : Int) (ha : (Lit.int IntKind.i64 a).wf = true) (hb : (Lit.int IntKind.i64 b).wf = true) (hc : (Lit.int IntKind.i64 c).wf = true) :
    P.keyLits (d + 2) k [.int .i64 a, .int .i64 b, .int .i64 c] = some [.int .i64 a, .int .i64 b, .int .i64 c] := by
  have one : ∀ x, (Lit.int IntKind.i64 x).wf = true → P.keyLits (d + 1) e [.int .i64 x] = some [.int .i64 x] := fun x hx => by
    simp [Program.keyLits, he, hx]
  have hr : List.range 3 = [0, 1, 2] := by decide
  unfold Program.keyLits
  simp [hu, h1, h2, hr, one a ha, one b hb, one c hc]
theorem keyOf3 {P : Program} {k e : TypeId} (hu : P.underlying k = some (.array 3 e)) (he : P.underlying e = some (.int .i64)) (h1 : P.cellsOf k = 3) (h2 : P.cellsOf e = 1) (hk : P.keyType k = true) (hs : 1 ≤ P.types.size) (a b c : Int) (ha : (Lit.int IntKind.i64 a).wf = true) (hb : (Lit.int IntKind.i64 b).wf = true) (hc : (Lit.int IntKind.i64 c).wf = true) :
    ∃ l, keyOf P k (.agg #[.int .i64 a, .int .i64 b, .int .i64 c]) = some l := by
  obtain ⟨d, hd⟩ : ∃ d, P.types.size + 1 = d + 2 := ⟨P.types.size - 1, by omega⟩
  unfold keyOf
  rw [hu]
  simp [hk, Value.formed, hu, h1, Value.cells, hd, keyLits3 hu he h1 h2 d a b c ha hb hc]
theorem key3_of (a b c : Int) (ha : InK .i64 a) (hb : InK .i64 b) (hc : InK .i64 c) : ∃ l, keyOf Try.prog 95 (.agg #[.int .i64 a, .int .i64 b, .int .i64 c]) = some l :=
  keyOf3 Try.underlying95 Try.underlying3 (by kernel_rfl) (by kernel_rfl) (by kernel_rfl) (of_decide_eq_true (by kernel_rfl)) a b c (by simp only [Lit.wf, Bool.and_eq_true, decide_eq_true_eq]; exact ha) (by simp only [Lit.wf, Bool.and_eq_true, decide_eq_true_eq]; exact hb) (by simp only [Lit.wf, Bool.and_eq_true, decide_eq_true_eq]; exact hc)
theorem law3 : Maps.Keyed Try.prog 95 := Maps.Keyed.of_law (deep_law_laid (by kernel_rfl) (m := 2) (by omega) (of_decide_eq_true (by kernel_rfl)) (by kernel_rfl) (by kernel_rfl))
def key3 : KeyEnc Try.prog 95 (Int × Int × Int) where
  enc := fun k => .agg #[.int .i64 k.1, .int .i64 k.2.1, .int .i64 k.2.2]
  ok := fun k => InK .i64 k.1 ∧ InK .i64 k.2.1 ∧ InK .i64 k.2.2
  law := law3
  key := fun k h => key3_of _ _ _ h.1 h.2.1 h.2.2
  inj := fun a b h => by
    obtain ⟨a1, a2, a3⟩ := a
    obtain ⟨b1, b2, b3⟩ := b
    simpa using h
end Go.Proofs.Ytimjccfpobhpeaa
namespace Go.Proofs.Ytimjccfpobhpeaa
open Go.RowKit
def rdr (o : Oper) : Bool :=
  match o.op with
  | .move _ | .assign _ | .pick _ _ _ | .load _ _ | .binOp _ _ _ _ _ | .unOp _ _ _ | .convert _ _ _ | .slice _ _ _ _ _ | .fieldAddr _ _ _ | .field _ _ _ | .indexAddr _ _ _ | .index _ _ _
  | .lookup _ _ _ _ | .extract _ _ | .build _ _ | .makeFunc _ _ _ | .makeInterface _ _ => true
  | .call c => (match c.callee with | .builtin .len => true | _ => false)
  | _ => false
def pickB : List Bool → List Oper → List Oper
  | true :: m, o :: l => o :: pickB m l
  | false :: m, _ :: l => pickB m l
  | _, _ => []
def dropB : List Bool → List Oper → List Oper
  | true :: m, _ :: l => dropB m l
  | false :: m, o :: l => o :: dropB m l
  | _, _ => []
def readersB (md : Region.Mode) (ops : Array Oper) : List Bool → Nat → Array Bool → Bool
  | [], _, _ => true
  | true :: m, k, listed => (Region.ready md ops listed).contains k && Region.free md ops listed k && ((ops[k]?).map rdr).getD false && readersB md ops m (k + 1) (listed.setIfInBounds k true)
  | false :: m, k, listed => readersB md ops m (k + 1) listed
def listedB : List Bool → Nat → Array Bool → Array Bool
  | [], _, listed => listed
  | true :: m, k, listed => listedB m (k + 1) (listed.setIfInBounds k true)
  | false :: m, k, listed => listedB m (k + 1) listed
def effectsB (md : Region.Mode) (ops : Array Oper) : List Bool → Nat → Array Bool → Bool
  | [], _, listed => (Region.ready md ops listed).isEmpty
  | false :: m, k, listed => (Region.ready md ops listed == [k]) && effectsB md ops m (k + 1) (listed.setIfInBounds k true)
  | true :: m, k, listed => effectsB md ops m (k + 1) listed
section
variable {P : Program} {ops : Array Oper} {S : World → Prop} {Q : Exit → Act → World → Prop} {md : Region.Mode}
theorem quiet_reads {o : Oper} {a : Act} {w : World} {v : Value} (hr : rdr o = true) (h : o.quietAt P a S w v) : (execOp a.eval o).run P w = .ok (.value v) w := by
  have vform : ∀ (s : Sem Value), Oper.quietUpon P S w v ((do pure (Next.value (← s))).run P w) → ((do pure (Next.value (← s))).run P w) = .ok (.value v) w := by
    intro s hs
    simp only [Sem.run_bind, Sem.run_pure] at hs ⊢
    cases hsr : s.run P w with
    | ok u w' =>
      rw [hsr] at hs
      simp only [Result.andThen_ok, Oper.quietUpon] at hs ⊢
      rw [hs.1, hs.2]
    | halt x w' =>
      rw [hsr] at hs
      simp [Result.andThen, Oper.quietUpon] at hs
  unfold Oper.quietAt at h
  unfold rdr at hr
  unfold execOp at h ⊢
  cases hop : o.op
  all_goals rw [hop] at hr
  all_goals simp only [hop] at h ⊢
  all_goals first | (simp at hr; done) | exact vform _ h | skip
  case move x => simpa [Oper.quietUpon, eq_comm] using h
  case assign x => simpa [Oper.quietUpon, eq_comm] using h
  case pick c x y =>
    simp only [Sem.run_bind, Sem.run_pure] at h ⊢
    cases hsr : (asBool (a.eval c)).run P w with
    | ok u w' =>
      rw [hsr] at h
      simp only [Result.andThen_ok, Oper.quietUpon] at h ⊢
      rw [h.1, h.2]
    | halt x w' =>
      rw [hsr] at h
      simp [Result.andThen, Oper.quietUpon] at h
  case call c =>
    obtain ⟨callee, args, tys⟩ := c
    cases callee with
    | value f => simp at hr
    | invoke r m => simp at hr
    | builtin b =>
      cases b
      all_goals first | (simp at hr; done) | skip
      simp only [resolve, Sem.run_bind, Sem.run_pure, Result.andThen_ok, invoke, builtin] at h ⊢
      have hv := vform (Builtin.len_ tys o.type (args.map a.eval)) (by simp only [Sem.run_bind, Sem.run_pure]; exact h)
      simpa only [Sem.run_bind, Sem.run_pure] using hv
theorem filter_both (m : List Bool) : (m.filter id).length + (m.filter (!·)).length = m.length := by
  induction m with
  | nil => rfl
  | cons b m ih => cases b <;> simp only [List.filter_cons, id, Bool.not_true, Bool.not_false, if_true, Bool.false_eq_true, if_false, List.length_cons] <;> omega
end
end Go.Proofs.Ytimjccfpobhpeaa
namespace Go.Proofs.Ytimjccfpobhpeaa
open Go.RowKit
section
variable {P : Program} {ops : Array Oper} {S : World → Prop} {Q : Exit → Act → World → Prop} {md : Region.Mode} {last : Nat}
def wpAnyT (P : Program) (md : Region.Mode) (ops : Array Oper) (Q : Exit → Act → World → Prop) (S : World → Prop) (last : Nat) : Nat → Array Bool → Act → World → Prop
  | 0, listed, a, w => Region.ready md ops listed = [] ∧ Q .normal a w
  | fuel + 1, listed, a, w =>
    (Region.ready md ops listed = [] → Q .normal a w) ∧
    ∀ i ∈ Region.ready md ops listed, wpOp P ops Q i (fun a' w' => (i = last ∨ S w') ∧ wpAnyT P md ops Q S last fuel (listed.setIfInBounds i true) a' w') a w
theorem anyT : ∀ (fuel : Nat) (listed : Array Bool) (a : Act) (w : World), wpAnyT P md ops Q S last fuel listed a w → wpAny P md ops Q fuel listed a w
  | 0, _, _, _, h => h
  | fuel + 1, _, _, _, h => ⟨h.1, fun i hi => wpOp_mono (fun a' w' h' => anyT fuel _ a' w' h'.2) (h.2 i hi)⟩
def waitsFor (md : Region.Mode) (ops : Array Oper) (last i : Nat) : Bool := match ops[last]? with
  | none => false
  | some o => o.after.any fun e => Region.binds md e && e.on == i
theorem anyT_first {i : Nat} {oi : Oper} {v : Value} (hi : ops[i]? = some oi) (hs : Region.noSelect ops = true) (hw : waitsFor md ops last i = true) (hQ : ∀ c a w, Q (.panic c) (a.put oi.dst v) w → Q (.panic c) a w) :
    ∀ (fuel : Nat) (listed : Array Bool) (a : Act) (w : World),
      (∀ j oj, ops[j]? = some oj → j ≠ i → listed.getD j true = false → (∀ e ∈ oj.after, Region.binds md e = true → e.on ≠ i) → oi.apart ops oj = true) →
      i ∈ Region.ready md ops listed → YieldsIf P ops S oi v a → S w → wpAnyT P md ops Q S last fuel (listed.setIfInBounds i true) (a.put oi.dst v) w → wpAnyT P md ops Q S last (fuel + 1) listed a w := by
  have hsel := Region.noSelect_spec hs
  have hnl : ∀ listed : Array Bool, i ∈ Region.ready md ops listed → last ∈ Region.ready md ops listed → False := by
    intro listed hir hlr
    obtain ⟨hun, _⟩ := mem_ready.1 hir
    obtain ⟨_, ol, hol, hall⟩ := mem_ready.1 hlr
    simp only [waitsFor, hol, Array.any_eq_true] at hw
    obtain ⟨k, hk, hbk⟩ := hw
    simp only [Bool.and_eq_true, beq_iff_eq] at hbk
    have h1 := hall _ (Array.getElem_mem hk) hbk.1
    rw [hbk.2] at h1
    rcases Nat.lt_or_ge i listed.size with hlt | hge
    · simp only [Array.getD_eq_getD_getElem?, Array.getElem?_eq_getElem hlt, Option.getD_some] at h1 hun
      rw [hun] at h1; cases h1
    · simp [Array.getElem?_eq_none hge] at h1
  intro fuel
  induction fuel with
  | zero =>
    intro listed a w _ hr hy hS H
    refine ⟨fun h0 => (by rw [h0] at hr; cases hr), fun j hj => ?_⟩
    by_cases hji : j = i
    · subst hji
      exact hy.wpOp hi hS ⟨.inr hS, H⟩
    · have h0 := ready_mono hj hji
      rw [H.1] at h0
      cases h0
  | succ fuel ih =>
    intro listed a w hfree hr hy hS H
    refine ⟨fun h0 => (by rw [h0] at hr; cases hr), fun j hj => ?_⟩
    by_cases hji : j = i
    · subst hji
      exact hy.wpOp hi hS ⟨.inr hS, H⟩
    · have hjl : j ≠ last := fun e => hnl listed hr (e ▸ hj)
      obtain ⟨hjun, oj, hoj, hall⟩ := mem_ready.1 hj
      have hnot : ∀ e ∈ oj.after, Region.binds md e = true → e.on ≠ i := fun e he hb heq => by
        have h1 := hall e he hb
        have h0 := (mem_ready.1 hr).1
        rw [heq] at h1
        rcases Nat.lt_or_ge i listed.size with hlt | hge
        · simp only [Array.getD_eq_getD_getElem?, Array.getElem?_eq_getElem hlt, Option.getD_some] at h1 h0
          rw [h0] at h1; cases h1
        · simp [Array.getElem?_eq_none hge] at h1
      have h2 := wpOp_putIf hoj (hfree j oj hoj hji hjun hnot) (fun cs b => hsel i oi cs b hi) (fun cs b => hsel j oj cs b hoj) hQ hy (H.2 j (ready_mono hj hji))
      refine wpOp_mono (fun a' w' h3 => ?_) h2
      have hSw : S w' := h3.2.1.resolve_left hjl
      refine ⟨.inr hSw, ih (listed.setIfInBounds j true) a' w' ?_ (ready_mono hr (Ne.symm hji)) h3.1 hSw ?_⟩
      · intro k ok hk hki hun hno
        refine hfree k ok hk hki ?_ hno
        by_cases hjk : j = k
        · exact hjk ▸ hjun
        · rwa [getD_set_ne true hjk] at hun
      · rw [Array.setIfInBounds_comm _ _ hji]
        exact h3.2.2
def readersT (md : Region.Mode) (ops : Array Oper) (last : Nat) : List Bool → Nat → Array Bool → Bool
  | [], _, _ => true
  | true :: m, k, listed => (Region.ready md ops listed).contains k && Region.free md ops listed k && ((ops[k]?).map rdr).getD false && waitsFor md ops last k && readersT md ops last m (k + 1) (listed.setIfInBounds k true)
  | false :: m, k, listed => readersT md ops last m (k + 1) listed
def splitT (md : Region.Mode) (ops : Array Oper) (m : List Bool) : Bool :=
  Region.noSelect ops && (m.length == ops.size) && readersT md ops (ops.size - 1) m 0 (Array.replicate ops.size false) && effectsB md ops m 0 (listedB m 0 (Array.replicate ops.size false))
def wpListT (P : Program) (ops : Array Oper) (S : World → Prop) (Q : Exit → Act → World → Prop) : List Oper → Act → World → Prop
  | [], a, w => Q .normal a w
  | o :: rest, a, w => if Region.wanted o (yielded ops a.tmps) then o.wp P a w (fun a' w' => (rest = [] ∨ S w') ∧ wpListT P ops S Q rest a' w') Q ∨ (o.asks P a w ∧ LetsOut Q) else (rest = [] ∨ S w) ∧ wpListT P ops S Q rest (a.put o.dst undef) w
theorem mixT_readers {w : World} (hs : Region.noSelect ops = true) (hS : S w) (hQ : ∀ c a d v w, Q (.panic c) (Act.put a d v) w → Q (.panic c) a w) {G : Act → Prop} {n : Nat} :
    ∀ (m : List Bool) (l : List Oper) (k : Nat) (listed : Array Bool) (a : Act), (∀ j, l[j]? = ops[k + j]?) → m.length = l.length → readersT md ops last m k listed = true →
      (∀ a', G a' → wpAnyT P md ops Q S last n (listedB m k listed) a' w) → wpQuiet P ops S G (pickB m l) a → wpAnyT P md ops Q S last ((m.filter id).length + n) listed a w
  | [], l, k, listed, a, _, _, _, hG, h => by
    simp only [pickB] at h
    simpa [listedB] using hG a h
  | _ :: _, [], _, _, _, _, hm, _, _, _ => by simp at hm
  | true :: m, o :: l, k, listed, a, hl, hm, hB, hG, h => by
    have h0 : ops[k]? = some o := by simpa using (hl 0).symm
    simp only [readersT, Bool.and_eq_true, h0, Option.map_some, Option.getD_some] at hB
    obtain ⟨⟨⟨⟨hr, hf⟩, hrd⟩, hwt⟩, hB'⟩ := hB
    have hl' : ∀ j, l[j]? = ops[k + 1 + j]? := fun j => by have := hl (j + 1); simpa [Nat.add_assoc, Nat.add_comm 1 j] using this
    simp only [pickB, wpQuiet] at h
    rw [show ((true :: m).filter id).length + n = ((m.filter id).length + n) + 1 by simp; omega]
    by_cases hw : Region.wanted o (yielded ops a.tmps) = true
    · rw [if_pos hw] at h
      obtain ⟨v, hv, hn⟩ := h
      refine anyT_first (v := v) h0 hs hwt (fun c a w => hQ c a _ _ w) _ _ _ _ (Region.free_spec h0 hf) (by simpa using hr) (.inl ⟨hw, fun w' hw' => quiet_reads hrd (hv w' hw')⟩) hS ?_
      exact mixT_readers hs hS hQ m l (k + 1) _ _ hl' (by simpa using hm) hB' hG hn
    · rw [if_neg hw] at h
      refine anyT_first (v := undef) h0 hs hwt (fun c a w => hQ c a _ _ w) _ _ _ _ (Region.free_spec h0 hf) (by simpa using hr) (.inr ⟨by simpa using hw, rfl⟩) hS ?_
      exact mixT_readers hs hS hQ m l (k + 1) _ _ hl' (by simpa using hm) hB' hG h
  | false :: m, o :: l, k, listed, a, hl, hm, hB, hG, h => by
    have := mixT_readers hs hS hQ m l (k + 1) listed a (fun j => by have := hl (j + 1); simpa [Nat.add_assoc, Nat.add_comm 1 j] using this) (by simpa using hm) hB hG h
    simpa using this
theorem dropB_nil : ∀ (m : List Bool) (l : List Oper) (_k : Nat), m.length = l.length → dropB m l = [] → (m.filter (!·)) = []
  | [], _, _, _, _ => rfl
  | _ :: _, [], _, hm, _ => by simp at hm
  | true :: m, o :: l, k, hm, h => by simpa using dropB_nil m l k (by simpa using hm) h
  | false :: m, o :: l, k, hm, h => by simp [dropB] at h
theorem mixT_effects : ∀ (m : List Bool) (l : List Oper) (k : Nat) (listed : Array Bool) (a : Act) (w : World), m.length = l.length → (∀ j, l[j]? = ops[k + j]?) → k + l.length = ops.size → effectsB md ops m k listed = true →
      m.getLast? ≠ some true → (dropB m l = [] ∨ S w) → wpListT P ops S Q (dropB m l) a w → wpAnyT P md ops Q S (ops.size - 1) ((m.filter (!·)).length) listed a w
  | [], [], k, listed, a, w, _, _, _, hB, _, _, h => by
    simp only [effectsB, List.isEmpty_iff] at hB
    exact ⟨hB, h⟩
  | [], _ :: _, _, _, _, _, hm, _, _, _, _, _, _ => by simp at hm
  | _ :: _, [], _, _, _, _, hm, _, _, _, _, _, _ => by simp at hm
  | true :: m, o :: l, k, listed, a, w, hm, hl, hk, hB, hla, hS, h => by
    have := mixT_effects m l (k + 1) listed a w (by simpa using hm) (fun j => by have := hl (j + 1); simpa [Nat.add_assoc, Nat.add_comm 1 j] using this) (by simp at hk; omega) hB (by
      cases m with
      | nil => simp
      | cons b m => simpa using hla) hS h
    simpa using this
  | false :: m, o :: l, k, listed, a, w, hm, hl, hk, hB, hla, _, h => by
    have h0 : ops[k]? = some o := by simpa using (hl 0).symm
    simp only [effectsB, Bool.and_eq_true, beq_iff_eq] at hB
    have hl' : ∀ j, l[j]? = ops[k + 1 + j]? := fun j => by have := hl (j + 1); simpa [Nat.add_assoc, Nat.add_comm 1 j] using this
    have hm' : m.length = l.length := by simpa using hm
    have hk' : k + 1 + l.length = ops.size := by simp at hk; omega
    have hla' : m.getLast? ≠ some true := by
      cases m with
      | nil => simp
      | cons b m => simpa using hla
    have hend : dropB m l = [] → k = ops.size - 1 := by
      intro hd
      have hf := dropB_nil m l k hm' hd
      cases m with
      | nil => simp only [List.length_nil] at hm'; omega
      | cons b m =>
        exfalso
        obtain ⟨x, hx⟩ : ∃ x, (b :: m).getLast? = some x := ⟨_, List.getLast?_eq_some_getLast (List.cons_ne_nil b m)⟩
        have hxm : x ∈ b :: m := List.mem_of_getLast? hx
        have hxt : x = true := by
          cases x with
          | true => rfl
          | false => exact absurd (List.mem_filter.2 ⟨hxm, rfl⟩) (by rw [hf]; simp)
        exact hla' (hxt ▸ hx)
    simp only [dropB, wpListT] at h
    rw [show ((false :: m).filter (!·)).length = (m.filter (!·)).length + 1 by simp]
    refine ⟨fun h' => absurd (hB.1 ▸ h') (by simp), fun i hi => ?_⟩
    rw [hB.1, List.mem_singleton] at hi
    subst hi
    unfold wpOp
    simp only [h0]
    by_cases hw : Region.wanted o (yielded ops a.tmps) = true
    · rw [if_pos hw] at h
      rw [if_pos hw]
      rcases h with h | h
      case inr => exact .inr h
      refine .inl (Oper.wp_mono (fun a' w' h' => ⟨h'.1.imp hend id, ?_⟩) h)
      exact mixT_effects m l _ _ a' w' hm' hl' hk' hB.2 hla' h'.1 h'.2
    · rw [if_neg hw] at h
      rw [if_neg hw]
      exact ⟨h.1.imp hend id, mixT_effects m l _ _ _ w hm' hl' hk' hB.2 hla' h.1 h.2⟩
theorem wp_region_splitT {id : Nat} {a : Act} {w : World} {l : List Oper} (S : World → Prop) (m : List Bool) (hm : P.follows .mixedOrders = true) (hB : splitT .any l.toArray m = true) (hla : m.getLast? ≠ some true) (hS : S w.drew)
    (hQ : ∀ c a d v w, Q (.panic c) (Act.put a d v) w → Q (.panic c) a w)
    (h : wpQuiet P l.toArray S (fun a' => wpListT P l.toArray S Q (dropB m l) a' w.drew) (pickB m l) a) : (Code.region id l.toArray true).wp P Q a w := by
  simp only [splitT, Bool.and_eq_true, beq_iff_eq] at hB
  obtain ⟨⟨⟨hs, hlen⟩, hR⟩, hE⟩ := hB
  have hlen' : m.length = l.length := by simpa using hlen
  refine wp_region_any hm (anyT (S := S) (last := l.toArray.size - 1) _ _ _ _ ?_)
  have key := mixT_readers (P := P) (Q := Q) (md := .any) (last := l.toArray.size - 1) (w := w.drew) (n := (m.filter (!·)).length) hs hS hQ m l 0 (Array.replicate l.toArray.size false) a (fun j => by simp) hlen' hR
    (fun a' ha' => mixT_effects m l 0 _ a' w.drew hlen' (fun j => by simp) (by simp) hE hla (.inr hS) ha') h
  rw [filter_both, hlen] at key
  exact key
def oneByT (S : Prop → World → Prop) (N : Act → World → Prop) (Q : Exit → Act → World → Prop) (E : Prop) : Exit → Act → World → Prop
  | .normal, a, w => S E w ∧ N a w
  | .exit i, a, w => Q (.exit i) a w
  | .goto l, a, w => Q (.goto l) a w
  | .ret, a, w => Q .ret a w
  | .panic c, a, w => Q (.panic c) a w
  | .outgrown, a, w => Q .outgrown a w
theorem upon_oneByT {S' : Prop → World → Prop} {E : Prop} {N : Act → World → Prop} {o : Oper} {a : Act} {K : Act → World → Prop} {r : Result Next} : o.upon P a K (oneByT S' N Q E) r = o.upon P a K Q r := by
  cases r with
  | ok n w' => cases n <;> rfl
  | halt x w' => cases x <;> rfl
theorem wpListT_step {o o2 : Oper} {rest : List Oper} {a : Act} {w : World} (h : ∀ Q', (∀ a' w', S w' ∧ wpListT P ops S Q (o2 :: rest) a' w' → Q' .normal a' w') → wpList P ops Q' [o] a w) : wpListT P ops S Q (o :: o2 :: rest) a w := by
  have h1 := h (oneByT (fun _ w => S w) (wpListT P ops S Q (o2 :: rest)) Q True) (fun _ _ h => h)
  rw [wpListT]
  rw [wpList] at h1
  split
  · rename_i hw
    rw [if_pos hw] at h1
    rcases h1 with h1 | h1
    · refine .inl ?_
      unfold Oper.wp at h1 ⊢
      rw [upon_oneByT] at h1
      have : (wpList P ops (oneByT (fun _ w => S w) (wpListT P ops S Q (o2 :: rest)) Q True) []) = fun a' w' => S w' ∧ wpListT P ops S Q (o2 :: rest) a' w' := rfl
      rw [this] at h1
      exact Oper.wp_mono (fun a' w' h' => ⟨.inr h'.1, h'.2⟩) h1
    · exact .inr h1
  · rename_i hw
    rw [if_neg hw] at h1
    exact ⟨.inr h1.1, h1.2⟩
theorem wpListT_last {o : Oper} {a : Act} {w : World} (h : ∀ Q', (∀ a' w', Q .normal a' w' → Q' .normal a' w') → wpList P ops Q' [o] a w) : wpListT P ops S Q [o] a w := by
  have h1 := h (oneByT (fun _ _ => True) (Q .normal) Q True) (fun _ _ h => ⟨trivial, h⟩)
  rw [wpListT]
  rw [wpList] at h1
  split
  · rename_i hw
    rw [if_pos hw] at h1
    rcases h1 with h1 | h1
    · refine .inl ?_
      unfold Oper.wp at h1 ⊢
      rw [upon_oneByT] at h1
      have : (wpList P ops (oneByT (fun _ _ => True) (Q .normal) Q True) []) = fun a' w' => True ∧ Q .normal a' w' := rfl
      rw [this] at h1
      exact Oper.wp_mono (fun a' w' h' => ⟨.inl rfl, h'.2⟩) h1
    · exact .inr h1
  · rename_i hw
    rw [if_neg hw] at h1
    exact ⟨.inl rfl, h1.2⟩
end
end Go.Proofs.Ytimjccfpobhpeaa
namespace Go.Proofs.Ytimjccfpobhpeaa
open Go.RowKit Go.Proofs.YtimjccfpobhpeaaW.PrintWords Go.Proofs.Ytimjccfpobhpeaa.PF
set_option maxRecDepth 100000
abbrev kLoad := k77
abbrev Load := S77
theorem info_load : (Try.prog.info? 77).map (fun i => (i.zero, i.size, i.bytes)) = some (some (.agg #[.int .i64 0, .int .i64 0, .int .i64 0]), 3, 24) := by kernel_rfl
instance (w : World) (G : Nat → Prop) : Nonempty (But w G) := ⟨But.refl w G⟩
def useF (rows : List (List Load)) (net : Int) (l : Load) : List (List Load) := rows.set net.toNat (rows.getD net.toNat [] ++ [l])
set_option maxHeartbeats 4000000 in
theorem use_calls (g base : Nat) (w0 w : World) (v : Value) (rows : List (List Load)) (net : Int) (l : Load) (hb : w.heap[g]? = some (.cells #[v] 70 (0, 0)))
    (hS : Kd.S (Kd.slice 77 kLoad) 75 w base (fun _ => True) v rows) (h0 : 0 ≤ net) (h1 : net < rows.length) (hl : ((rows.getD net.toNat []).length + 1) * 24 ≤ 140737488355328) (hbase : base ≤ w.heap.size) (hB : Below base w0 w) :
    Calls Try.prog 53 #[.int .i64 net, .agg #[.int .i64 l.f0, .int .i64 l.f1, .int .i64 l.f2], .pointer (some ⟨g, 0, none⟩)] w fun e w' => e = .returned (.tuple #[]) ∧
      w'.heap[g]? = some (.cells #[v] 70 (0, 0)) ∧ Kd.S (Kd.slice 77 kLoad) 75 w' base (fun _ => True) v (useF rows net l) ∧ Below base w0 w' ∧ w.heap.size ≤ w'.heap.size ∧
      ∀ (k : Nat) (t : TypeId) (cs : Array Value), w.heap[k]? = some (.cells cs t (0, 0)) → t ≠ 75 → t ≠ 77 → w'.heap[k]? = w.heap[k]? := by
  have hu := Try.underlying77
  have hg : g < w.heap.size := (Array.getElem?_eq_some_iff.1 hb).1
  have hc0 := cell_of_row w g 0 _ _ _ hb
  simp at hc0
  have hpos : 0 < rows.length := by omega
  obtain ⟨gv, cap, rfl, hgv, hgvl, cells, hgvb⟩ := Kd.S_form hS hpos
  have hne : g ≠ gv := by
    rintro rfl
    rw [hb] at hgvb
    injection hgvb with hgvb
    injection hgvb with _ hgvb
    exact absurd hgvb (by decide)
  have hS1 := Kd.S_drew (Kd.S_alloc hS (.cells #[.int .i64 l.f0, .int .i64 l.f1, .int .i64 l.f2] 77))
  have hgvl2 : gv ≤ w.heap.size := by omega
  have hgvn : gv ≠ w.heap.size := by omega
  have hgn : g ≠ w.heap.size := by omega
  unfold useF
  obtain ⟨ri, hri⟩ : ∃ ri, rows.getD net.toNat [] = ri := ⟨_, rfl⟩
  rw [hri] at hl ⊢
  have hrih := Lib.hid hri
  obtain ⟨oki, c, hcl, hM, hcc, hfr, hoki, hH⟩ := Kd.S_elem hS [] net h0 h1
  rw [hri] at hM
  clear hri
  obtain ⟨vi, rfl, hR⟩ := hM
  have hci := hcc 0 vi rfl
  simp only [Kd.slice, Nat.mul_one, Nat.add_zero] at hci
  obtain ⟨oi, hoi⟩ : ∃ oi, vi.ownBlock = oi := ⟨_, rfl⟩
  have hoil : ∀ k, oi = some k → k < w.heap.size ∧ k ≠ gv ∧ k ≠ g := by
    intro k hk
    have h1 := hoki k (hR.1 k (hoi.trans hk))
    obtain ⟨cells, ht⟩ := Kd.R_typed hR k (hoi.trans hk)
    have hk0 := Kd.R_lt hR k (hoi.trans hk)
    refine ⟨hk0, h1.2, ?_⟩
    rintro rfl
    rw [hb] at ht
    injection ht with ht
    injection ht with _ ht
    exact absurd ht (by decide)
  have n1 : ¬ oi = some gv := fun e => (hoil _ e).2.1 rfl
  have n2 : ¬ oi = some g := fun e => (hoil _ e).2.2 rfl
  have n3 : ¬ oi = some w.heap.size := fun e => by have := (hoil _ e).1; omega
  obtain ⟨Ai, ci, rfl⟩ := Kd.Xi hR
  have hRh := Lib.hid hR
  have hoih := Lib.hid hoi
  clear hR hoi
  go_enter Try.func53, Try.ntmps53
  go_wp2
  refine wp_region_splitT (fun w' => ∃ x : But (w.alloc (.cells #[.int .i64 l.f0, .int .i64 l.f1, .int .i64 l.f2] 77)) (fun k => oi = some k), w' = x.val) [true, true, true, true, true, true, true, false, false, false, false] (by kernel_rfl) (by kernel_rfl) (by decide) ⟨(But.refl _ _).drew, rfl⟩ (fun _ _ d _ _ h => by cases d <;> exact h) ?_
  simp only [pickB, dropB]
  repeat (go_big_quiet_step (fail))
  refine wpQuiet_nil ?_
  refine wpListT_step (fun Q' hQ' => ?_)
  go_wp2_with fail
  refine ⟨⟨((But.refl _ _).drew).alloc _, rfl⟩, ?_⟩
  refine wpListT_step (fun Q' hQ' => ?_)
  have hW : Is w (w.alloc (.cells #[.int .i64 l.f0, .int .i64 l.f1, .int .i64 l.f2] 77)).drew := ((Is.refl w).alloc _).drew
  have hR2 := Kd.Zp hRh.out hW.below
  have hp : kLoad.M (w.alloc (.cells #[.int .i64 l.f0, .int .i64 l.f1, .int .i64 l.f2] 77)).drew base (fun _ => False) l [.int .i64 l.f0, .int .i64 l.f1, .int .i64 l.f2] := k77_mkM _ _ _ l
  rw [show ((w.alloc (.cells #[.int .i64 l.f0, .int .i64 l.f1, .int .i64 l.f2] 77)).alloc (.cells #[.int .i64 l.f0, .int .i64 l.f1, .int .i64 l.f2] 77)).drew = ((w.alloc (.cells #[.int .i64 l.f0, .int .i64 l.f1, .int .i64 l.f2] 77)).drew).alloc (.cells #[.int .i64 l.f0, .int .i64 l.f1, .int .i64 l.f2] 77) from rfl]
  have hwid := Kd.H_widen hH
  have hsz : (w.alloc (.cells #[.int .i64 l.f0, .int .i64 l.f1, .int .i64 l.f2] 77)).drew.heap.size = w.heap.size + 1 := by simp
  have hR2' := Kd.Xh (ok' := fun k => oki k ∨ True ∧ w.heap.size ≤ k) hR2 (fun k hk => .inl hk)
  refine Kd.R_append kLoad (w0 := w0) base rfl (.tmp 10) (.tmp 12) 75 77 _ 24 rfl Try.underlying75 info_load rfl (by decide) (by decide) _ _ l _ (fun k => oki k ∨ True ∧ w.heap.size ≤ k) (fun _ => False) rfl (by rw [hsz]; rfl) hp (fun k h => h.elim) (fun k hk => .inr ⟨trivial, by omega⟩) hR2' ((hB.alloc hbase _).drew) (by omega) hl ?_
  intro v1 w1 hR3 hB3 hg3 hat3
  refine wpList_nil ?_
  refine hQ' _ _ ⟨?_, ?_⟩
  · refine ⟨⟨w1, hg3.os.trans rfl, hg3.tape.trans rfl, hg3.output.trans rfl, Nat.le_trans (by simp) hg3.size, fun k hk hG => (hg3.block k hk (fun e => hG (hoih.out ▸ e.symm))).trans rfl⟩, rfl⟩
  have hH3 := Kd.H_grown (Kd.H_below hwid hW.below) hg3 (fun k hk => .inl ((hRh.out.1 k hk)))
  obtain ⟨A3, c3, rfl⟩ := Kd.Xi hR3
  rw [show (ri ++ [l]).length = ri.length + 1 by simp] at hR3
  have hgv3 : gv < w1.heap.size := Nat.lt_of_lt_of_le hgvl (Nat.le_trans (by simp) hg3.size)
  refine wpListT_step (fun Q' hQ' => ?_)
  go_wp2_with fail
  refine ⟨⟨⟨w1, hg3.os.trans rfl, hg3.tape.trans rfl, hg3.output.trans rfl, Nat.le_trans (by simp) hg3.size, fun k hk hG => (hg3.block k hk (fun e => hG (hoih.out ▸ e.symm))).trans rfl⟩, rfl⟩, ?_⟩
  refine wpListT_last (fun Q' hQ' => ?_)
  refine Kd.H_store (Kd.slice 77 kLoad) (w0 := w0) base rfl rfl 75 (.tmp 14) (.tmp 13) rfl 75 net 0 rows (ri ++ [l]) (.slice A3 (ri.length + 1) c3) [.slice A3 (ri.length + 1) c3] _ (fun _ => True) _ _ rfl (by simp [Kd.slice]) rfl rfl (by kernel_rfl) (by simp [Value.oneCell']) hH3 h0 h1 (by simp [Kd.slice]) ⟨_, rfl, hR3⟩ (fun k hk => hk) hB3 ?_
  intro w2 hS2 hB2 hg2
  refine wpList_nil ?_
  refine hQ' _ _ ?_
  go_end0
  refine ⟨rfl, ?_, hS2, hB2, Nat.le_trans (Nat.le_trans (by simp) hg3.size) hg2.size, fun k t cs hk ht1 ht2 => ?_⟩
  rotate_left
  · have hkl := (Array.getElem?_eq_some_iff.1 hk).1
    have e1 := hg2.block k (Nat.lt_of_lt_of_le hkl (Nat.le_trans (by simp) hg3.size)) (fun e => by
      injection e with e
      subst e
      rw [hgvb] at hk
      injection hk with hk
      injection hk with _ hk
      exact ht1 hk.symm)
    have e2 := hg3.block k (by rw [hsz]; omega) (fun e => by
      obtain ⟨_, ht⟩ := Kd.R_typed hRh.out k e.symm
      rw [hk] at ht
      injection ht with ht
      injection ht with _ ht
      exact ht2 ht)
    exact e1.trans (e2.trans (Below.heap_alloc w _ k hkl))
  have e1 := hg2.block g (Nat.lt_of_lt_of_le hg (Nat.le_trans (by simp) hg3.size)) (fun e => hne (by injection e))
  have e2 := hg3.block g (by rw [hsz]; omega) (fun e => n2 (hoih.out ▸ e.symm))
  exact e1.trans (e2.trans ((Below.heap_alloc w _ g hg).trans hb))
end Go.Proofs.Ytimjccfpobhpeaa
namespace Go.Proofs.Ytimjccfpobhpeaa
open Go.RowKit
section
variable {P : Program} {ops : Array Oper} {S : World → Prop} {Q : Exit → Act → World → Prop} {md : Region.Mode} {last : Nat}
theorem wpOp_of_list {o : Oper} {i : Nat} {a : Act} {w : World} {N : Act → World → Prop} (hi : ops[i]? = some o) (h : ∀ Q', (∀ a' w', N a' w' → Q' .normal a' w') → wpList P ops Q' [o] a w) : wpOp P ops Q i N a w := by
  have h1 := h (oneByT (fun _ _ => True) N Q True) (fun _ _ h => ⟨trivial, h⟩)
  unfold wpOp
  simp only [hi]
  rw [wpList] at h1
  split
  · rename_i hw
    rw [if_pos hw] at h1
    rcases h1 with h1 | h1
    · refine .inl ?_
      unfold Oper.wp at h1 ⊢
      rw [upon_oneByT] at h1
      have : (wpList P ops (oneByT (fun _ _ => True) N Q True) []) = fun a' w' => True ∧ N a' w' := rfl
      rw [this] at h1
      exact Oper.wp_mono (fun a' w' h' => h'.2) h1
    · exact .inr h1
  · rename_i hw
    rw [if_neg hw] at h1
    exact h1.2
theorem anyT_end {a : Act} {w : World} {L : Array Bool} (hr : Region.ready md ops L = []) (h : Q .normal a w) : wpAnyT P md ops Q S last 0 L a w := ⟨hr, h⟩
theorem Qu {i : Nat} {o : Oper} {fuel : Nat} {a : Act} {w : World} {L : Array Bool} (L' : Array Bool) (hr : Region.ready md ops L = [i]) (hi : ops.toList[i]? = some o) (hL : L.setIfInBounds i true = L')
    (h : ∀ Q', (∀ a' w', (i = last ∨ S w') ∧ wpAnyT P md ops Q S last fuel L' a' w' → Q' .normal a' w') → wpList P ops Q' [o] a w) : wpAnyT P md ops Q S last (fuel + 1) L a w := by
  refine ⟨fun h0 => absurd (hr ▸ h0) (by simp), fun k hk => ?_⟩
  rw [hr, List.mem_singleton] at hk
  subst hk
  rw [hL]
  exact wpOp_of_list (by simpa using hi) h
theorem anyT_two {i j : Nat} {o1 o2 : Oper} {fuel : Nat} {a : Act} {w : World} {L : Array Bool} (L1 L2 : Array Bool) (hr : Region.ready md ops L = [i, j]) (hi : ops.toList[i]? = some o1) (hj : ops.toList[j]? = some o2) (hL1 : L.setIfInBounds i true = L1) (hL2 : L.setIfInBounds j true = L2)
    (h1 : ∀ Q', (∀ a' w', (i = last ∨ S w') ∧ wpAnyT P md ops Q S last fuel L1 a' w' → Q' .normal a' w') → wpList P ops Q' [o1] a w)
    (h2 : ∀ Q', (∀ a' w', (j = last ∨ S w') ∧ wpAnyT P md ops Q S last fuel L2 a' w' → Q' .normal a' w') → wpList P ops Q' [o2] a w) : wpAnyT P md ops Q S last (fuel + 1) L a w := by
  refine ⟨fun h0 => absurd (hr ▸ h0) (by simp), fun k hk => ?_⟩
  rw [hr] at hk
  rcases List.mem_cons.1 hk with rfl | hk
  · rw [hL1]
    exact wpOp_of_list (by simpa using hi) h1
  · rw [List.mem_singleton] at hk
    subst hk
    rw [hL2]
    exact wpOp_of_list (by simpa using hj) h2
def splitA (md : Region.Mode) (ops : Array Oper) (m : List Bool) : Bool :=
  Region.noSelect ops && (m.length == ops.size) && readersT md ops (ops.size - 1) m 0 (Array.replicate ops.size false)
theorem wp_region_splitA {id : Nat} {a : Act} {w : World} {l : List Oper} (S : World → Prop) (m : List Bool) (n : Nat) (L : Array Bool) (hm : P.follows .mixedOrders = true) (hB : splitA .any l.toArray m = true)
    (hn : (m.filter (!·)).length = n) (hL : listedB m 0 (Array.replicate l.toArray.size false) = L) (hS : S w.drew)
    (hQ : ∀ c a d v w, Q (.panic c) (Act.put a d v) w → Q (.panic c) a w)
    (h : wpQuiet P l.toArray S (fun a' => wpAnyT P .any l.toArray Q S (l.length - 1) n L a' w.drew) (pickB m l) a) : (Code.region id l.toArray true).wp P Q a w := by
  simp only [splitA, Bool.and_eq_true, beq_iff_eq] at hB
  obtain ⟨⟨hs, hlen⟩, hR⟩ := hB
  have hlen' : m.length = l.length := by simpa using hlen
  refine wp_region_any hm (anyT (S := S) (last := l.toArray.size - 1) _ _ _ _ ?_)
  have key := mixT_readers (P := P) (Q := Q) (md := .any) (last := l.toArray.size - 1) (w := w.drew) (n := (m.filter (!·)).length) hs hS hQ m l 0 (Array.replicate l.toArray.size false) a (fun j => by simp) hlen' hR
    (G := fun a' => wpAnyT P .any l.toArray Q S (l.length - 1) n L a' w.drew) (fun a' ha' => by rw [hn, hL]; simpa using ha') h
  rw [filter_both, hlen] at key
  exact key
end
end Go.Proofs.Ytimjccfpobhpeaa
