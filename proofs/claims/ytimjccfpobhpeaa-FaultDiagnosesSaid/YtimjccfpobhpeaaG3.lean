/- Joined by this session's own program out of its texts: PFx32 PFx33 PFx34. -/
import Derived.Test.YtimjccfpobhpeaaG1
import Derived.Test.YtimjccfpobhpeaaG2
namespace Go.Proofs.Ytimjccfpobhpeaa.PF
open Go.RowKit Go.Proofs.YtimjccfpobhpeaaW.PrintWords Go.Proofs.YtimjccfpobhpeaaW.PrintLast Go.Proofs.YtimjccfpobhpeaaW.PrintMore
set_option linter.unusedVariables false
set_option linter.unusedSimpArgs false
mutual
def Zz.l0 : Nat → List Int → List (Ky) → Int → Int → Option (List Int)
  | 0, _, _, _, _ => none
  | k + 1, x7, x20, x21, x22 => if x22 < x21 then (if 0 ≤ x22 then (if x22 < (x20.length : Int) then (Zz.l1 k x7 ([] : List Int) x20 x21 x22 ((Xe x20 x22).f2) (((Xe x20 x22).f2).length : Int) 0 ((Xe x20 x22).f0) ((Xe x20 x22).f1) ((Xe x20 x22).f2)) else (none)) else (none)) else (some x7)
def Zz.l1 : Nat → List Int → List Int → List (Ky) → Int → Int → List Int → Int → Int → Int → Int → List Int → Option (List Int)
  | 0, _, _, _, _, _, _, _, _, _, _, _ => none
  | k + 1, x7, x10, x20, x21, x22, x27, x28, x29, x318000, x318001, x318002 => if x29 < x28 then (if 0 ≤ x29 then (if x29 < (x27.length : Int) then (if 0 ≤ (rd x27 x29) then (if (rd x27 x29) < (x7.length : Int) then (if x10.length < 17592186044416 then (Zz.l1 k x7 (x10 ++ [rd x7 (rd x27 x29)]) x20 x21 x22 x27 x28 (wrap64 (x29 + 1)) x318000 x318001 x318002) else (none)) else (none)) else (none)) else (none)) else (none)) else ((Xf.f k x318001 x10).bind fun t323 => (if x7.length < 17592186044416 then (Zz.l0 k (x7 ++ [t323]) x20 x21 (wrap64 (x22 + 1))) else (none)))
end
def Zz.f (k : Nat) (l0_0 : List ByteArray) (l0_1 : List ByteArray) (l0_2 : List (S82)) (l0_3 : List (Ky)) (l0_4 : List Int) (l1 : List Int) (l2 : List Int) : Option (List Int) := (some (([0, 18446744073709551615] : List Int) : List Int)).bind fun y307 => (if y307.length + l1.length < 17592186044416 then ((some (y307 ++ l1 : List Int)).bind fun y310 => (if y310.length + l2.length < 17592186044416 then (Zz.l0 k (y310 ++ l2) l0_3 (l0_3.length : Int) 0) else (none))) else (none))
theorem Zz.mono_l : ∀ k, (∀ y0 y1 y2 y3, Xz (Zz.l0 k y0 y1 y2 y3) (Zz.l0 (k + 1) y0 y1 y2 y3)) ∧ (∀ y0 y1 y2 y3 y4 y5 y6 y7 y8 y9 y10, Xz (Zz.l1 k y0 y1 y2 y3 y4 y5 y6 y7 y8 y9 y10) (Zz.l1 (k + 1) y0 y1 y2 y3 y4 y5 y6 y7 y8 y9 y10))
  | 0 => ⟨fun _ _ _ _ r h => by simp [Zz.l0] at h, fun _ _ _ _ _ _ _ _ _ _ _ r h => by simp [Zz.l1] at h⟩
  | k + 1 => by
    obtain ⟨ih0, ih1⟩ := Zz.mono_l k
    refine ⟨?_, ?_⟩
    · intro y0 y1 y2 y3
      unfold Zz.l0
      repeat' first
      | (with_reducible exact ih0 _ _ _ _)
      | (with_reducible exact ih1 _ _ _ _ _ _ _ _ _ _ _)
      | (with_reducible exact Xf.mono _ _ _)
      | (with_reducible exact Xz.refl _)
      | (with_reducible exact Xz.none _)
      | (with_reducible refine Xz.ite ?_ ?_)
      | (with_reducible refine Xz.bind ?_ (fun _ => ?_))
      | exact ih0 _ _ _ _
      | exact ih1 _ _ _ _ _ _ _ _ _ _ _
      | exact Xf.mono _ _ _
      | exact Xz.none _
      | refine Xz.ite ?_ ?_
      | refine Xz.bind ?_ (fun _ => ?_)
    · intro y0 y1 y2 y3 y4 y5 y6 y7 y8 y9 y10
      unfold Zz.l1
      repeat' first
      | (with_reducible exact ih0 _ _ _ _)
      | (with_reducible exact ih1 _ _ _ _ _ _ _ _ _ _ _)
      | (with_reducible exact Xf.mono _ _ _)
      | (with_reducible exact Xz.refl _)
      | (with_reducible exact Xz.none _)
      | (with_reducible refine Xz.ite ?_ ?_)
      | (with_reducible refine Xz.bind ?_ (fun _ => ?_))
      | exact ih0 _ _ _ _
      | exact ih1 _ _ _ _ _ _ _ _ _ _ _
      | exact Xf.mono _ _ _
      | exact Xz.none _
      | refine Xz.ite ?_ ?_
      | refine Xz.bind ?_ (fun _ => ?_)
theorem Zz.mono : ∀ a0 a1 a2 a3 a4 a5 a6 k, Xz (Zz.f k a0 a1 a2 a3 a4 a5 a6) (Zz.f (k + 1) a0 a1 a2 a3 a4 a5 a6) := by
  intro a0 a1 a2 a3 a4 a5 a6 k
  obtain ⟨ih0, ih1⟩ := Zz.mono_l k
  unfold Zz.f
  repeat' first
      | (with_reducible exact ih0 _ _ _ _)
      | (with_reducible exact ih1 _ _ _ _ _ _ _ _ _ _ _)
      | (with_reducible exact Xf.mono _ _ _)
      | (with_reducible exact Xz.refl _)
      | (with_reducible exact Xz.none _)
      | (with_reducible refine Xz.ite ?_ ?_)
      | (with_reducible refine Xz.bind ?_ (fun _ => ?_))
      | exact ih0 _ _ _ _
      | exact ih1 _ _ _ _ _ _ _ _ _ _ _
      | exact Xf.mono _ _ _
      | exact Xz.none _
      | refine Xz.ite ?_ ?_
      | refine Xz.bind ?_ (fun _ => ?_)
set_option maxHeartbeats 8000000 in
set_option maxRecDepth 100000 in
theorem Zz.calls (k : Nat) (A0_0 : Option Addr) (c0_0 : Nat) (l0_0 : List ByteArray) (A0_1 : Option Addr) (c0_1 : Nat) (l0_1 : List ByteArray) (A0_2 : Option Addr) (c0_2 : Nat) (l0_2 : List (S82)) (A0_3 : Option Addr) (c0_3 : Nat) (l0_3 : List (Ky)) (A0_4 : Option Addr) (c0_4 : Nat) (l0_4 : List Int) (A1 : Option Addr) (c1 : Nat) (l1 : List Int) (A2 : Option Addr) (c2 : Nat) (l2 : List Int) (r : List Int) (w : World) (hr0_0 : Kd.C Kd.string w A0_0 l0_0.length l0_0) (hc0_0 : l0_0.length ≤ c0_0) (hr0_1 : Kd.C Kd.string w A0_1 l0_1.length l0_1) (hc0_1 : l0_1.length ≤ c0_1) (hr0_2 : Kd.C k82 w A0_2 l0_2.length l0_2) (hc0_2 : l0_2.length ≤ c0_2) (hr0_3 : Kd.C k80 w A0_3 l0_3.length l0_3) (hc0_3 : l0_3.length ≤ c0_3) (hr0_4 : Kd.C (Kd.int .i64) w A0_4 l0_4.length l0_4) (hc0_4 : l0_4.length ≤ c0_4) (hr1 : Kd.C (Kd.int .u64) w A1 l1.length l1) (hc1 : l1.length ≤ c1) (hr2 : Kd.C (Kd.int .u64) w A2 l2.length l2) (hc2 : l2.length ≤ c2) (h : Zz.f k l0_0 l0_1 l0_2 l0_3 l0_4 l1 l2 = some r) :
 Calls Try.prog 63 #[.agg #[.slice A0_0 l0_0.length c0_0, .slice A0_1 l0_1.length c0_1, .slice A0_2 l0_2.length c0_2, .slice A0_3 l0_3.length c0_3, .slice A0_4 l0_4.length c0_4], .slice A1 l1.length c1, .slice A2 l2.length c2] w fun e w' => ∃ v0_ : Value, e = .returned (v0_) ∧ Kd.R (Kd.int .u64) 78 w' w.heap.size (fun _ => True) v0_ r ∧ Below w.heap.size w w' := by
 have hu27 := Try.underlying27
 have hu80 := Try.underlying80
 have HR0_0 := Za.mk hr0_0
 have HC0_0 := Za.mk hc0_0
 clear hr0_0 hc0_0
 have HR0_1 := Za.mk hr0_1
 have HC0_1 := Za.mk hc0_1
 clear hr0_1 hc0_1
 have HR0_2 := Za.mk hr0_2
 have HC0_2 := Za.mk hc0_2
 clear hr0_2 hc0_2
 have HR0_3 := Za.mk hr0_3
 have HC0_3 := Za.mk hc0_3
 clear hr0_3 hc0_3
 have HR0_4 := Za.mk hr0_4
 have HC0_4 := Za.mk hc0_4
 clear hr0_4 hc0_4
 have HR1 := Za.mk hr1
 have HC1 := Za.mk hc1
 clear hr1 hc1
 have HR2 := Za.mk hr2
 have HC2 := Za.mk hc2
 clear hr2 hc2
 have HB := Za.mk (Below.refl w.heap.size w)
 have H : ((some (([0, 18446744073709551615] : List Int) : List Int)).bind fun y307 => (if y307.length + l1.length < 17592186044416 then ((some (y307 ++ l1 : List Int)).bind fun y310 => (if y310.length + l2.length < 17592186044416 then (Zz.l0 k (y310 ++ l2) l0_3 (l0_3.length : Int) 0) else (none))) else (none))) = some r := h
 clear h
 obtain ⟨y307, hy307⟩ : ∃ y_ : List Int, y_ = (([0, 18446744073709551615] : List Int)) := ⟨_, rfl⟩
 replace H : (if y307.length + l1.length < 17592186044416 then ((some (y307 ++ l1 : List Int)).bind fun y310 => (if y310.length + l2.length < 17592186044416 then (Zz.l0 k (y310 ++ l2) l0_3 (l0_3.length : Int) 0) else (none))) else (none)) = some r := by first | (rw [hy307]; with_reducible exact H) | (have H2_ := (Option.bind_some _ _).symm.trans H; rw [hy307]; with_reducible exact H2_) | (have H2_ := (Option.bind_some _ _).symm.trans H; with_reducible exact H2_) | with_reducible exact H | (rw [hy307]; exact H) | exact H
 have Ny307 := Za.mk hy307
 clear hy307
 by_cases c4 : y307.length + l1.length < 17592186044416
 ·rw [if_pos c4] at H
  have LMc4 := Za.mk c4
  clear c4
  obtain ⟨y310, hy310⟩ : ∃ y_ : List Int, y_ = (y307 ++ l1) := ⟨_, rfl⟩
  replace H : (if y310.length + l2.length < 17592186044416 then (Zz.l0 k (y310 ++ l2) l0_3 (l0_3.length : Int) 0) else (none)) = some r := by first | (rw [hy310]; with_reducible exact H) | (have H2_ := (Option.bind_some _ _).symm.trans H; rw [hy310]; with_reducible exact H2_) | (have H2_ := (Option.bind_some _ _).symm.trans H; with_reducible exact H2_) | with_reducible exact H | (rw [hy310]; exact H) | exact H
  have Ny310 := Za.mk hy310
  clear hy310
  by_cases c5 : y310.length + l2.length < 17592186044416
  ·rw [if_pos c5] at H
   have LMc5 := Za.mk c5
   clear c5
   obtain ⟨y313, hy313⟩ : ∃ y_ : List Int, y_ = (y310 ++ l2) := ⟨_, rfl⟩
   replace H : (Zz.l0 k y313 l0_3 (l0_3.length : Int) 0) = some r := by first | (rw [hy313]; with_reducible exact H) | (have H2_ := (Option.bind_some _ _).symm.trans H; rw [hy313]; with_reducible exact H2_) | (have H2_ := (Option.bind_some _ _).symm.trans H; with_reducible exact H2_) | with_reducible exact H | (rw [hy313]; exact H) | exact H
   have Ny313 := Za.mk hy313
   clear hy313
   have H' := Za.mk H
   clear H
   go_enter Try.func63, Try.ntmps63
   go_wp2_with (first | ((with_reducible refine Xl (N := 3) rfl ?_); refine Xr ?hg (N := 3) ?hd (cs := #[.slice A0_0 l0_0.length c0_0, .slice A0_1 l0_1.length c0_1, .slice A0_2 l0_2.length c0_2, .slice A0_3 l0_3.length c0_3, .slice A0_4 l0_4.length c0_4]) (t := 27) ?hr ?_; (case hd => rfl); (case hg => rfl); (case hr => first | (go_simp; done) | (go_simp; rfl)); intro gb306 hg w6 hbox hb; have n0_ := Za.mk (Zn HB.out hb); have n1_ := Za.mk (hbox); have n2_ := Za.mk ((by rw [hg]; exact (Zm HB.out) : w.heap.size ≤ gb306)); have n3_ := n2_; clear HB; have HB := n0_; have BK306 := n1_; have GW306 := n2_; have GE306 := n3_; clear n0_ n1_ n2_ n3_; clear hb hbox hg) | ((with_reducible refine Xl (N := 13) rfl ?_); refine Kd.R_lit (Kd.int .u64) _ 78 ?hg (N := 13) ?hd (xs := ([0, 18446744073709551615] : List Int)) (inner := [.int .u64 0, .int .u64 18446744073709551615]) (ok := fun _ => True) (okp := fun _ => True) ?hr ?hp (fun _ hk => hk) trivial (Below.refl _ _) (Nat.le_refl _) (by simp) ?_; (case hd => rfl); (case hg => rfl); (case hr => first | (go_simp; done) | (go_simp; rfl)); (case hp => exact (Reps.one (show Kd.M (Kd.int .u64) _ _ _ 0 [.int .u64 0] from rfl) (Reps.one (show Kd.M (Kd.int .u64) _ _ _ 18446744073709551615 [.int .u64 18446744073709551615] from rfl) (Reps.none _ _)))); intro v308 w7 ho8 hb hg_ hnew_; clear hg_ hnew_; (first | rw [← Ny307.out] at ho8 | (simp only [Int.reduceToNat] at ho8; rw [← Ny307.out] at ho8)); have n0_ := Za.mk (Kd.Xm ho8 (Zm HB.out)); have n1_ := Za.mk (Zq BK306.out hb); have n2_ := Za.mk (Zn HB.out hb); clear BK306; clear HB; have HO309 := n0_; have BK306 := n1_; have HB := n2_; clear n0_ n1_ n2_; clear hb ho8) | ((with_reducible refine gate_builtin (b := .append) (xs := #[.tmp 13, .tmp 14]) rfl ?_); at_builtin; refine Kd.R_append_rows (Kd.int .u64) (w0 := w) w.heap.size rfl (.tmp 13) (.tmp 14) 110 78 (.int .u64 0) 8 rfl Try.underlying110 info78 rfl (by decide) (by omega) v308 y307 l1 _ _ _ (fun _ => True) (fun _ => False) rfl rfl ?aO ?aR (fun _ _ h => h) (fun _ h => h.elim) ?aF ?aB ?aS ?aL ?_; (case aR => exact (Kd.Zk HR1.out HB.out)); (case aB => exact HB.out); (case aF => exact (fun _ _ => trivial)); (case aO => exact HO309.out); (case aS => exact (Zm HB.out)); (case aL => have := LMc4.out; omega); intro v311 w9 ho hb hg hat; rw [← Ny310.out] at ho; have n0_ := Za.mk (blk_grown BK306.out hg (Kd.R_ne HO309.out BK306.out (by decide))); have n1_ := Za.mk (hb); have n2_ := Za.mk (ho); clear BK306; clear HB; clear HO309; have BK306 := n0_; have HB := n1_; have HO312 := n2_; clear n0_ n1_ n2_; clear ho hb hg hat) | ((with_reducible refine gate_builtin (b := .append) (xs := #[.tmp 16, .tmp 17]) rfl ?_); at_builtin; refine Kd.R_append_rows (Kd.int .u64) (w0 := w) w.heap.size rfl (.tmp 16) (.tmp 17) 110 78 (.int .u64 0) 8 rfl Try.underlying110 info78 rfl (by decide) (by omega) v311 y310 l2 _ _ _ (fun _ => True) (fun _ => False) rfl rfl ?aO ?aR (fun _ _ h => h) (fun _ h => h.elim) ?aF ?aB ?aS ?aL ?_; (case aR => exact (Kd.Zk HR2.out HB.out)); (case aB => exact HB.out); (case aF => exact (fun _ _ => trivial)); (case aO => exact HO312.out); (case aS => exact (Zm HB.out)); (case aL => have := LMc5.out; omega); intro v314 w10 ho hb hg hat; rw [← Ny313.out] at ho; have n0_ := Za.mk (blk_grown BK306.out hg (Kd.R_ne HO312.out BK306.out (by decide))); have n1_ := Za.mk (hb); have n2_ := Za.mk (ho); clear BK306; clear HB; clear HO312; have BK306 := n0_; have HB := n1_; have HO315 := n2_; clear n0_ n1_ n2_; clear ho hb hg hat; have hcz11_0 : w10.cell? ⟨gb306, 0, none⟩ = some (.slice A0_0 l0_0.length c0_0) := (Zc BK306.out 0).trans rfl; have hcz11_1 : w10.cell? ⟨gb306, 1, none⟩ = some (.slice A0_1 l0_1.length c0_1) := (Zc BK306.out 1).trans rfl; have hcz11_2 : w10.cell? ⟨gb306, 2, none⟩ = some (.slice A0_2 l0_2.length c0_2) := (Zc BK306.out 2).trans rfl; have hcz11_3 : w10.cell? ⟨gb306, 3, none⟩ = some (.slice A0_3 l0_3.length c0_3) := (Zc BK306.out 3).trans rfl; have hcz11_4 : w10.cell? ⟨gb306, 4, none⟩ = some (.slice A0_4 l0_4.length c0_4) := (Zc BK306.out 4).trans rfl; have hfz11_0 := Zb BK306.out 0; have hfz11_1 := Zb BK306.out 1; have hfz11_2 := Zb BK306.out 2; have hfz11_3 := Zb BK306.out 3; have hfz11_4 := Zb BK306.out 4))
   go_loopg [7, 22] k (fun kq v7 v22 w' => ∃ (x7_1 : List Int) (x22_1 : Int), v22 = .int .i64 x22_1 ∧ Za (Zz.l0 kq x7_1 l0_3 (l0_3.length : Int) x22_1 = some r) ∧ Za (kq ≤ k) ∧ Za (Kd.R (Kd.int .u64) 78 w' w.heap.size (fun _ => True) v7 x7_1) ∧ Za (w'.heap[gb306]? = some (.cells #[(.slice A0_0 l0_0.length c0_0), (.slice A0_1 l0_1.length c0_1), (.slice A0_2 l0_2.length c0_2), (.slice A0_3 l0_3.length c0_3), (.slice A0_4 l0_4.length c0_4)] 27 (0, 0))) ∧ Za (Below w.heap.size w w'))
   case atStart => exact ⟨(y313), (0), (by first | rfl | (simp; done) | (simp [*]; done)), H', ⟨Nat.le_refl _⟩, ⟨HO315.out⟩, ⟨BK306.out⟩, ⟨HB.out⟩⟩
   case round =>
    clear H'
    try clear hcz11_0
    try clear hcz11_1
    try clear hcz11_2
    try clear hcz11_3
    try clear hcz11_4
    try clear hfz11_0
    try clear hfz11_1
    try clear hfz11_2
    try clear hfz11_3
    try clear hfz11_4
    obtain ⟨x7_1, x22_1, rfl, HA, HK1, HO_7, BK306, HB⟩ := hrel
    cases gk with
    | zero => exact absurd HA.out (by simp [Zz.l0])
    | succ k1 =>
     have H := HA.out
     clear HA
     simp only [Zz.l0] at H
     by_cases c12 : x22_1 < (l0_3.length : Int)
     ·rw [if_pos c12] at H
      have c12b0 : decide (x22_1 < (l0_3.length : Int)) = true := decide_eq_true c12
      clear c12
      by_cases c13 : 0 ≤ x22_1
      ·rw [if_pos c13] at H
       have c13b0 : decide (0 ≤ x22_1) = true := decide_eq_true c13
       clear c13
       by_cases c14 : x22_1 < (l0_3.length : Int)
       ·rw [if_pos c14] at H
        have c14b0 : decide (x22_1 < (l0_3.length : Int)) = true := decide_eq_true c14
        clear c14
        have H' := Za.mk H
        clear H
        have p316 : 0 ≤ (x22_1 : Int) := of_decide_eq_true (by first | (with_reducible assumption) | assumption)
        have q316 : x22_1 < (l0_3.length : Int) := of_decide_eq_true (by first | (with_reducible assumption) | assumption)
        obtain ⟨ad316, A316_2, c316_2, e316, hx316_0, hx316_1, hx316_2, hl316_2, hi316_2⟩ := at_T80 HR0_3.out x22_1 p316 q316
        cases e316
        replace hx316_0 := (HB.out.cell (World.block_lt_of_cell? w _ hx316_0)).trans hx316_0
        replace hx316_1 := (HB.out.cell (World.block_lt_of_cell? w _ hx316_1)).trans hx316_1
        replace hx316_2 := (HB.out.cell (World.block_lt_of_cell? w _ hx316_2)).trans hx316_2
        have HR316_2 := Za.mk hi316_2
        have HC316_2 := Za.mk hl316_2
        clear hi316_2 hl316_2
        replace p316 := eq_true p316
        replace q316 := eq_true q316
        go_wp2_with (((with_reducible refine Xl (N := 9) rfl ?_); refine Xr ?hg (N := 9) ?hd (cs := #[.int .i64 0, .int .u64 0, .slice none 0 0]) (t := 80) ?hr ?_; (case hd => rfl); (case hg => rfl); (case hr => first | (go_simp; done) | (go_simp; rfl)); intro gb317 hg w15 hbox hb; have n0_ := Za.mk (Kd.Zp HO_7.out hb); have n1_ := Za.mk (Zq BK306.out hb); have n2_ := Za.mk (Zn HB.out hb); have n3_ := Za.mk (hbox); have n4_ := Za.mk ((by rw [hg]; exact (Zm HB.out) : w.heap.size ≤ gb317)); have n5_ := n4_; have n6_ := Za.mk ((by rw [hg]; exact Nat.ne_of_lt (Xx BK306.out) : gb306 ≠ gb317)); have n7_ := Za.mk ((by rw [hg]; exact Nat.ne_of_gt (Xx BK306.out) : gb317 ≠ gb306)); clear HO_7; clear BK306; clear HB; have HO_7 := n0_; have BK306 := n1_; have HB := n2_; have BK317 := n3_; have GW317 := n4_; have GE317 := n5_; have NB306_317 := n6_; have NB317_306 := n7_; clear n0_ n1_ n2_ n3_ n4_ n5_ n6_ n7_; clear hb hbox hg; have hnb16 := NB317_306.out; have hnc16 := NB306_317.out; have hcz17_0 : w15.cell? ⟨gb317, 0, none⟩ = some (.int .i64 0) := (Zc BK317.out 0).trans rfl; have hcz17_1 : w15.cell? ⟨gb317, 1, none⟩ = some (.int .u64 0) := (Zc BK317.out 1).trans rfl; have hcz17_2 : w15.cell? ⟨gb317, 2, none⟩ = some (.slice none 0 0) := (Zc BK317.out 2).trans rfl; have hfz17_0 := Zb BK317.out 0; have hfz17_1 := Zb BK317.out 1; have hfz17_2 := Zb BK317.out 2))
        go_loopg [10, 29] k1 (fun kq v10 v29 w' => ∃ (x10_2 : List Int) (x29_2 : Int), v29 = .int .i64 x29_2 ∧ Za (Zz.l1 kq x7_1 x10_2 l0_3 (l0_3.length : Int) x22_1 ((Xe l0_3 x22_1).f2) (((Xe l0_3 x22_1).f2).length : Int) x29_2 ((Xe l0_3 x22_1).f0) ((Xe l0_3 x22_1).f1) ((Xe l0_3 x22_1).f2) = some r) ∧ Za (kq ≤ k1) ∧ Za (Kd.R (Kd.int .u64) 78 w' w.heap.size (fun k_ => some k_ ≠ (v10 : Value).ownBlock) u7 x7_1) ∧ Za (Kd.R (Kd.int .u64) 78 w' w.heap.size (fun k_ => some k_ ≠ (u7 : Value).ownBlock) v10 x10_2) ∧ Za (w'.heap[gb306]? = some (.cells #[(.slice A0_0 l0_0.length c0_0), (.slice A0_1 l0_1.length c0_1), (.slice A0_2 l0_2.length c0_2), (.slice (some ad316) l0_3.length c0_3), (.slice A0_4 l0_4.length c0_4)] 27 (0, 0))) ∧ Za (w'.heap[gb317]? = some (.cells #[.int .i64 ((Xe l0_3 x22_1).f0), .int .u64 ((Xe l0_3 x22_1).f1), (.slice A316_2 ((Xe l0_3 x22_1).f2).length c316_2)] 80 (0, 0))) ∧ Za (Below w.heap.size w w'))
        case atStart => exact ⟨(([] : List Int)), (0), (by first | rfl | (simp; done) | (simp [*]; done)), H', ⟨Nat.le_refl _⟩, ⟨by (with_reducible repeat (first | apply Kd.R_alloc | apply Kd.Zy | apply Kd.Xg)); exact Kd.Xh (Kd.Xb (p := ⟨gb317, 2, none⟩) (Kd.Xb (p := ⟨gb317, 1, none⟩) (Kd.Xb (p := ⟨gb317, 0, none⟩) (Kd.Xv HO_7.out BK317.out (by decide)) (fun _ hk => hk.2) (.int .i64 ((Xe l0_3 x22_1).f0))) (fun _ hk => hk.2) (.int .u64 ((Xe l0_3 x22_1).f1))) (fun _ hk => hk.2) (.slice A316_2 ((Xe l0_3 x22_1).f2).length c316_2)) (fun _ hk => (by simp [Value.ownBlock]))⟩, ⟨by first | exact Kd.R_nil _ _ _ _ _ | exact Kd.N_nil _ _ _ _ _ | exact Kd.V_nil _ _ _ _ _ | exact Kd.Q_nil _ _ _ _ _ | exact Kd.S_nil _ _ _ _ _⟩, ⟨by (with_reducible repeat (first | refine Zg ?_ _ | refine Zi ?_ | refine Zf ?_ _)); refine Xp ?_ NB306_317.out _; (with_reducible repeat (first | refine Zg ?_ _ | refine Zi ?_ | refine Zf ?_ _)); refine Xp ?_ NB306_317.out _; (with_reducible repeat (first | refine Zg ?_ _ | refine Zi ?_ | refine Zf ?_ _)); refine Xp ?_ NB306_317.out _; (with_reducible repeat (first | refine Zg ?_ _ | refine Zi ?_ | refine Zf ?_ _)); exact BK306.out⟩, ⟨by (with_reducible repeat (first | refine Zg ?_ _ | refine Zi ?_ | refine Zf ?_ _)); refine Qa (cs := #[.int .i64 ((Xe l0_3 x22_1).f0), .int .u64 ((Xe l0_3 x22_1).f1), .slice none 0 0]) ?_ 2 _ rfl; (with_reducible repeat (first | refine Zg ?_ _ | refine Zi ?_ | refine Zf ?_ _)); refine Qa (cs := #[.int .i64 ((Xe l0_3 x22_1).f0), .int .u64 0, .slice none 0 0]) ?_ 1 _ rfl; (with_reducible repeat (first | refine Zg ?_ _ | refine Zi ?_ | refine Zf ?_ _)); refine Qa (cs := #[.int .i64 0, .int .u64 0, .slice none 0 0]) ?_ 0 _ rfl; (with_reducible repeat (first | refine Zg ?_ _ | refine Zi ?_ | refine Zf ?_ _)); exact BK317.out⟩, ⟨by repeat (first | (with_reducible first | exact HB.out | apply Zl | apply Zj | apply Zo | refine Zh ?_ GE306.out | refine Zh ?_ GE317.out) | exact HB.out)⟩⟩
        case round =>
         clear H'
         try clear c12b0
         try clear c13b0
         try clear c14b0
         try clear hcz17_0
         try clear hcz17_1
         try clear hcz17_2
         try clear hfz17_0
         try clear hfz17_1
         try clear hfz17_2
         try clear hx316_0
         try clear hx316_1
         try clear hx316_2
         try clear p316
         try clear q316
         obtain ⟨x10_2, x29_2, rfl, HA, HK2, HO_7, HO_10, BK306, BK317, HB⟩ := hrel
         cases gk with
         | zero => exact absurd HA.out (by simp [Zz.l1])
         | succ k2 =>
          have H := HA.out
          clear HA
          simp only [Zz.l1] at H
          by_cases c18 : x29_2 < (((Xe l0_3 x22_1).f2).length : Int)
          ·rw [if_pos c18] at H
           have c18b0 : decide (x29_2 < (((Xe l0_3 x22_1).f2).length : Int)) = true := decide_eq_true c18
           clear c18
           by_cases c19 : 0 ≤ x29_2
           ·rw [if_pos c19] at H
            have c19b0 : decide (0 ≤ x29_2) = true := decide_eq_true c19
            clear c19
            by_cases c20 : x29_2 < (((Xe l0_3 x22_1).f2).length : Int)
            ·rw [if_pos c20] at H
             have c20b0 : decide (x29_2 < (((Xe l0_3 x22_1).f2).length : Int)) = true := decide_eq_true c20
             clear c20
             by_cases c21 : 0 ≤ (rd ((Xe l0_3 x22_1).f2) x29_2)
             ·rw [if_pos c21] at H
              have c21b0 : decide (0 ≤ (rd ((Xe l0_3 x22_1).f2) x29_2)) = true := decide_eq_true c21
              clear c21
              by_cases c22 : (rd ((Xe l0_3 x22_1).f2) x29_2) < (x7_1.length : Int)
              ·rw [if_pos c22] at H
               have c22b0 : decide ((rd ((Xe l0_3 x22_1).f2) x29_2) < (x7_1.length : Int)) = true := decide_eq_true c22
               clear c22
               by_cases c23 : x10_2.length < 17592186044416
               ·rw [if_pos c23] at H
                have LMc23 := Za.mk c23
                clear c23
                obtain ⟨y320, hy320⟩ : ∃ y_ : List Int, y_ = (x10_2 ++ [rd x7_1 (rd ((Xe l0_3 x22_1).f2) x29_2)]) := ⟨_, rfl⟩
                replace H : (Zz.l1 k2 x7_1 y320 l0_3 (l0_3.length : Int) x22_1 ((Xe l0_3 x22_1).f2) (((Xe l0_3 x22_1).f2).length : Int) (wrap64 (x29_2 + 1)) ((Xe l0_3 x22_1).f0) ((Xe l0_3 x22_1).f1) ((Xe l0_3 x22_1).f2)) = some r := by first | (rw [hy320]; with_reducible exact H) | (have H2_ := (Option.bind_some _ _).symm.trans H; rw [hy320]; with_reducible exact H2_) | (have H2_ := (Option.bind_some _ _).symm.trans H; with_reducible exact H2_) | with_reducible exact H | (rw [hy320]; exact H) | exact H
                have Ny320 := Za.mk hy320
                clear hy320
                have H' := Za.mk H
                clear H
                have p318 : 0 ≤ (x29_2 : Int) := of_decide_eq_true (by first | (with_reducible assumption) | assumption)
                have q318 : x29_2 < (((Xe l0_3 x22_1).f2).length : Int) := of_decide_eq_true (by first | (with_reducible assumption) | assumption)
                obtain ⟨ad318, e318, hx318_0⟩ := Kd.at_int HR316_2.out x29_2 p318 q318
                cases e318
                replace hx318_0 := (HB.out.cell (World.block_lt_of_cell? w _ hx318_0)).trans hx318_0
                replace p318 := eq_true p318
                replace q318 := eq_true q318
                obtain ⟨Ao24, co24, eo24⟩ := Kd.Xi HO_7.out
                subst eo24
                have p319 : 0 ≤ ((rd ((Xe l0_3 x22_1).f2) x29_2) : Int) := of_decide_eq_true (by first | (with_reducible assumption) | assumption)
                have q319 : (rd ((Xe l0_3 x22_1).f2) x29_2) < (x7_1.length : Int) := of_decide_eq_true (by first | (with_reducible assumption) | assumption)
                obtain ⟨ad319, e319, hx319_0⟩ := Kd.at_int (Kd.Xd HO_7.out).2.2 (rd ((Xe l0_3 x22_1).f2) x29_2) p319 q319
                cases e319
                replace p319 := eq_true p319
                replace q319 := eq_true q319
                go_wp2_with (((with_reducible refine gate_builtin (b := .append) (xs := #[.tmp 33, .tmp 38]) rfl ?_); at_builtin; refine Kd.R_append (Kd.int .u64) (w0 := w) w.heap.size rfl (.tmp 33) (.tmp 38) 110 78 (.int .u64 0) 8 rfl Try.underlying110 info78 rfl (by decide) (by omega) u10 x10_2 (rd x7_1 (rd ((Xe l0_3 x22_1).f2) x29_2)) [.int .u64 (rd x7_1 (rd ((Xe l0_3 x22_1).f2) x29_2))] (fun k_ => some k_ ≠ (.slice (some ad319) x7_1.length co24 : Value).ownBlock) (fun _ => False) rfl rfl ?aP (fun _ hk => hk.elim) ?aF ?aO ?aB ?aS ?aL ?_; (case aP => exact rfl); (case aB => exact HB.out); (case aF => exact (fun k_ hk => Kd.fresh' (Kd.R_lt HO_7.out) k_ hk)); (case aO => exact HO_10.out); (case aS => exact (Zm HB.out)); (case aL => have := LMc23.out; omega); intro v321 w25 ho hb hg hat; rw [← Ny320.out] at ho; have n0_ := Za.mk (Kd.R_after (ok := (fun _ => True)) (by (with_reducible repeat (first | apply Kd.R_alloc | apply Kd.Zy | apply Kd.Xg)); exact Kd.Xh HO_7.out (fun _ hk => ⟨trivial, hk⟩)) hg hat); have n1_ := Za.mk (blk_grown BK306.out hg (Kd.R_ne HO_10.out BK306.out (by decide))); have n2_ := Za.mk (blk_grown BK317.out hg (Kd.R_ne HO_10.out BK317.out (by decide))); have n3_ := Za.mk (hb); have n4_ := Za.mk (ho); clear HO_7; clear BK306; clear BK317; clear HB; clear HO_10; have HO_7 := n0_; have BK306 := n1_; have BK317 := n2_; have HB := n3_; have HO322 := n4_; clear n0_ n1_ n2_ n3_ n4_; clear ho hb hg hat))
                go_roundg k2
                case measure => have := HK1.out; have := HK2.out; omega
                case rel => exact ⟨(y320), (wrap64 (x29_2 + 1)), (by first | rfl | (simp; done) | (simp [*]; done)), H', ⟨by have := HK1.out; have := HK2.out; omega⟩, ⟨by (with_reducible repeat (first | apply Kd.R_alloc | apply Kd.Zy | apply Kd.Xg)); exact Kd.Xh HO_7.out (fun _ hk => hk.2)⟩, ⟨HO322.out⟩, ⟨BK306.out⟩, ⟨BK317.out⟩, ⟨HB.out⟩⟩
               ·rw [if_neg c23] at H
                exact absurd H (by simp)
              ·rw [if_neg c22] at H
               exact absurd H (by simp)
             ·rw [if_neg c21] at H
              exact absurd H (by simp)
            ·rw [if_neg c20] at H
             exact absurd H (by simp)
           ·rw [if_neg c19] at H
            exact absurd H (by simp)
          ·rw [if_neg c18] at H
           have c18b0 : decide (x29_2 < (((Xe l0_3 x22_1).f2).length : Int)) = false := decide_eq_false c18
           clear c18
           replace H := Option.bind_eq_some_iff.mp H
           obtain ⟨t323, A260, H⟩ := H
           replace H : (if x7_1.length < 17592186044416 then (Zz.l0 k2 (x7_1 ++ [t323]) l0_3 (l0_3.length : Int) (wrap64 (x22_1 + 1))) else (none)) = some r := H
           have A26 := Za.mk A260
           clear A260
           by_cases c27 : x7_1.length < 17592186044416
           ·rw [if_pos c27] at H
            have LMc27 := Za.mk c27
            clear c27
            obtain ⟨y324, hy324⟩ : ∃ y_ : List Int, y_ = (x7_1 ++ [t323]) := ⟨_, rfl⟩
            replace H : (Zz.l0 k2 y324 l0_3 (l0_3.length : Int) (wrap64 (x22_1 + 1))) = some r := by first | (rw [hy324]; with_reducible exact H) | (have H2_ := (Option.bind_some _ _).symm.trans H; rw [hy324]; with_reducible exact H2_) | (have H2_ := (Option.bind_some _ _).symm.trans H; with_reducible exact H2_) | with_reducible exact H | (rw [hy324]; exact H) | exact H
            have Ny324 := Za.mk hy324
            clear hy324
            have H' := Za.mk H
            clear H
            have hnb28 := NB317_306.out
            have hnc28 := NB306_317.out
            have hcz29_0 : wr.cell? ⟨gb317, 0, none⟩ = some (.int .i64 ((Xe l0_3 x22_1).f0)) := (Zc BK317.out 0).trans rfl
            have hcz29_1 : wr.cell? ⟨gb317, 1, none⟩ = some (.int .u64 ((Xe l0_3 x22_1).f1)) := (Zc BK317.out 1).trans rfl
            have hcz29_2 : wr.cell? ⟨gb317, 2, none⟩ = some (.slice A316_2 ((Xe l0_3 x22_1).f2).length c316_2) := (Zc BK317.out 2).trans rfl
            have hfz29_0 := Zb BK317.out 0
            have hfz29_1 := Zb BK317.out 1
            have hfz29_2 := Zb BK317.out 2
            obtain ⟨Ao30, co30, eo30⟩ := Kd.Xi HO_10.out
            subst eo30
            go_wp2_with (first | ((with_reducible refine Xo (f := 64) rfl ?_); refine Qp (some 45) rfl rfl Try.func64 (by kernel_rfl) rfl #[.int .u64 ((Xe l0_3 x22_1).f1), .slice Ao30 x10_2.length co30] rfl (by (try simp only [List.map_toArray, List.map_cons, List.map_nil]); first | done | rfl | (simp only [List.length_drop, List.length_take]; rfl)) ?_; (with_reducible refine (Xf.calls k2 ((Xe l0_3 x22_1).f1) _ _ x10_2 t323 _ ?side1 ?side2 A26.out).mono ?_); (case side1 => repeat (first | exact (Kd.Xd HO_10.out).2.2 | (with_reducible refine Kd.C_alloc ?_ _) | (with_reducible refine Kd.C_drewN ?_ _) | (with_reducible refine Kd.C_drew ?_))); (case side2 => exact (Kd.Xd HO_10.out).2.1); rintro e w' ⟨rfl, ⟨nd, rfl⟩⟩; refine ⟨_, rfl, ?_⟩) | ((with_reducible refine gate_builtin (b := .append) (xs := #[.tmp 41, .tmp 46]) rfl ?_); at_builtin; refine Kd.R_append (Kd.int .u64) (w0 := w) w.heap.size rfl (.tmp 41) (.tmp 46) 110 78 (.int .u64 0) 8 rfl Try.underlying110 info78 rfl (by decide) (by omega) u7 x7_1 t323 [.int .u64 t323] (fun k_ => some k_ ≠ (.slice Ao30 x10_2.length co30 : Value).ownBlock) (fun _ => False) rfl rfl ?aP (fun _ hk => hk.elim) ?aF ?aO ?aB ?aS ?aL ?_; (case aP => exact rfl); (case aB => exact (by repeat (first | (with_reducible first | exact HB.out | apply Zl | apply Zj | apply Zo | refine Zh ?_ GE306.out | refine Zh ?_ GE317.out) | exact HB.out))); (case aF => exact (fun k_ hk => Kd.fresh' (Kd.R_lt (by (with_reducible repeat (first | apply Kd.R_alloc | apply Kd.Zy | apply Kd.Xg)); exact HO_10.out)) k_ hk)); (case aO => exact (by (with_reducible repeat (first | apply Kd.R_alloc | apply Kd.Zy | apply Kd.Xg)); exact HO_7.out)); (case aS => exact (Zm (by repeat (first | (with_reducible first | exact HB.out | apply Zl | apply Zj | apply Zo | refine Zh ?_ GE306.out | refine Zh ?_ GE317.out) | exact HB.out)))); (case aL => have := LMc27.out; omega); intro v325 w31 ho hb hg hat; rw [← Ny324.out] at ho; have n0_ := Za.mk (Kd.R_after (ok := (fun _ => True)) (by (with_reducible repeat (first | apply Kd.R_alloc | apply Kd.Zy | apply Kd.Xg)); exact Kd.Xh HO_10.out (fun _ hk => ⟨trivial, hk⟩)) hg hat); have n1_ := Za.mk (blk_grown (g := gb306) (o := .cells #[.slice A0_0 l0_0.length c0_0, .slice A0_1 l0_1.length c0_1, .slice A0_2 l0_2.length c0_2, .slice (some ad316) l0_3.length c0_3, .slice A0_4 l0_4.length c0_4] 27 (0, 0)) (by (with_reducible repeat (first | refine Zg ?_ _ | refine Zi ?_ | refine Zf ?_ _)); exact BK306.out) hg (Kd.R_ne HO_7.out BK306.out (by decide))); have n2_ := Za.mk (blk_grown (g := gb317) (o := .cells #[.int .i64 ((Xe l0_3 x22_1).f0), .int .u64 ((Xe l0_3 x22_1).f1), .slice A316_2 ((Xe l0_3 x22_1).f2).length c316_2] 80 (0, 0)) (by (with_reducible repeat (first | refine Zg ?_ _ | refine Zi ?_ | refine Zf ?_ _)); exact BK317.out) hg (Kd.R_ne HO_7.out BK317.out (by decide))); have n3_ := Za.mk (hb); have n4_ := Za.mk (ho); clear HO_10; clear BK306; clear BK317; clear HB; clear HO_7; have HO_10 := n0_; have BK306 := n1_; have BK317 := n2_; have HB := n3_; have HO326 := n4_; clear n0_ n1_ n2_ n3_ n4_; clear ho hb hg hat))
            go_roundg k2
            case measure => have := HK1.out; have := HK2.out; omega
            case rel => exact ⟨(y324), (wrap64 (x22_1 + 1)), (by first | rfl | (simp; done) | (simp [*]; done)), H', ⟨by have := HK1.out; have := HK2.out; omega⟩, ⟨by (with_reducible repeat (first | apply Kd.R_alloc | apply Kd.Zy | apply Kd.Xg)); exact Kd.Xh HO326.out (fun _ hk => trivial)⟩, ⟨BK306.out⟩, ⟨HB.out⟩⟩
           ·rw [if_neg c27] at H
            exact absurd H (by simp)
       ·rw [if_neg c14] at H
        exact absurd H (by simp)
      ·rw [if_neg c13] at H
       exact absurd H (by simp)
     ·rw [if_neg c12] at H
      have c12b0 : decide (x22_1 < (l0_3.length : Int)) = false := decide_eq_false c12
      clear c12
      obtain rfl := Option.some.inj H
      go_wp2
      go_ret
      exact ⟨_, by first | rfl | (simp [errW_none, errW_some] <;> rfl) | (simp [*, errW_none, errW_some] <;> rfl), by (with_reducible repeat (first | apply Kd.R_alloc | apply Kd.Zy | apply Kd.Xg)); exact HO_7.out, HB.out⟩
  ·rw [if_neg c5] at H
   exact absurd H (by simp)
 ·rw [if_neg c4] at H
  exact absurd H (by simp)
end Go.Proofs.Ytimjccfpobhpeaa.PF
namespace Go.Proofs.Ytimjccfpobhpeaa.PF
open Go.RowKit Go.Proofs.YtimjccfpobhpeaaW.PrintWords Go.Proofs.YtimjccfpobhpeaaW.PrintLast Go.Proofs.YtimjccfpobhpeaaW.PrintMore
set_option linter.unusedVariables false
set_option linter.unusedSimpArgs false
def Qw.f (k : Nat) (l0_0 : List ByteArray) (l0_1 : List ByteArray) (l0_2 : List (S82)) (l0_3 : List (Ky)) (l0_4 : List Int) (l1 : List Int) (l2 : List Int) : Option (List Int × Int) := (Ze.f k l0_0 l0_1 l0_2 l0_3 l0_4).bind fun t328 => (if t328 = 0 then (if (l1.length : Int) = (l0_0.length : Int) then (if (l2.length : Int) = (l0_2.length : Int) then ((Zz.f k l0_0 l0_1 l0_2 l0_3 l0_4 l1 l2).bind fun t329 => (some (t329, 0))) else (some (([] : List Int), 20))) else (some (([] : List Int), 20))) else (some (([] : List Int), t328)))
theorem Qw.mono : ∀ a0 a1 a2 a3 a4 a5 a6 k, Xz (Qw.f k a0 a1 a2 a3 a4 a5 a6) (Qw.f (k + 1) a0 a1 a2 a3 a4 a5 a6) := by
  intro a0 a1 a2 a3 a4 a5 a6 k
  unfold Qw.f
  repeat' first
      | (with_reducible exact Ze.mono _ _ _ _ _ _)
      | (with_reducible exact Zz.mono _ _ _ _ _ _ _ _)
      | (with_reducible exact Xz.refl _)
      | (with_reducible exact Xz.none _)
      | (with_reducible refine Xz.ite ?_ ?_)
      | (with_reducible refine Xz.bind ?_ (fun _ => ?_))
      | exact Ze.mono _ _ _ _ _ _
      | exact Zz.mono _ _ _ _ _ _ _ _
      | exact Xz.none _
      | refine Xz.ite ?_ ?_
      | refine Xz.bind ?_ (fun _ => ?_)
set_option maxHeartbeats 8000000 in
set_option maxRecDepth 100000 in
theorem Qw.calls (k : Nat) (A0_0 : Option Addr) (c0_0 : Nat) (l0_0 : List ByteArray) (A0_1 : Option Addr) (c0_1 : Nat) (l0_1 : List ByteArray) (A0_2 : Option Addr) (c0_2 : Nat) (l0_2 : List (S82)) (A0_3 : Option Addr) (c0_3 : Nat) (l0_3 : List (Ky)) (A0_4 : Option Addr) (c0_4 : Nat) (l0_4 : List Int) (A1 : Option Addr) (c1 : Nat) (l1 : List Int) (A2 : Option Addr) (c2 : Nat) (l2 : List Int) (r1 : List Int) (r2 : Int) (w : World) (hr0_0 : Kd.C Kd.string w A0_0 l0_0.length l0_0) (hc0_0 : l0_0.length ≤ c0_0) (hr0_1 : Kd.C Kd.string w A0_1 l0_1.length l0_1) (hc0_1 : l0_1.length ≤ c0_1) (hr0_2 : Kd.C k82 w A0_2 l0_2.length l0_2) (hc0_2 : l0_2.length ≤ c0_2) (hr0_3 : Kd.C k80 w A0_3 l0_3.length l0_3) (hc0_3 : l0_3.length ≤ c0_3) (hr0_4 : Kd.C (Kd.int .i64) w A0_4 l0_4.length l0_4) (hc0_4 : l0_4.length ≤ c0_4) (hr1 : Kd.C (Kd.int .u64) w A1 l1.length l1) (hc1 : l1.length ≤ c1) (hr2 : Kd.C (Kd.int .u64) w A2 l2.length l2) (hc2 : l2.length ≤ c2) (h : Qw.f k l0_0 l0_1 l0_2 l0_3 l0_4 l1 l2 = some (r1, r2)) :
 Calls Try.prog 61 #[.agg #[.slice A0_0 l0_0.length c0_0, .slice A0_1 l0_1.length c0_1, .slice A0_2 l0_2.length c0_2, .slice A0_3 l0_3.length c0_3, .slice A0_4 l0_4.length c0_4], .slice A1 l1.length c1, .slice A2 l2.length c2] w fun e w' => ∃ v0_ : Value, e = .returned (.tuple #[v0_, .int .i64 r2]) ∧ Kd.R (Kd.int .u64) 78 w' w.heap.size (fun _ => True) v0_ r1 ∧ Below w.heap.size w w' := by
 have hu27 := Try.underlying27
 have HR0_0 := Za.mk hr0_0
 have HC0_0 := Za.mk hc0_0
 clear hr0_0 hc0_0
 have HR0_1 := Za.mk hr0_1
 have HC0_1 := Za.mk hc0_1
 clear hr0_1 hc0_1
 have HR0_2 := Za.mk hr0_2
 have HC0_2 := Za.mk hc0_2
 clear hr0_2 hc0_2
 have HR0_3 := Za.mk hr0_3
 have HC0_3 := Za.mk hc0_3
 clear hr0_3 hc0_3
 have HR0_4 := Za.mk hr0_4
 have HC0_4 := Za.mk hc0_4
 clear hr0_4 hc0_4
 have HR1 := Za.mk hr1
 have HC1 := Za.mk hc1
 clear hr1 hc1
 have HR2 := Za.mk hr2
 have HC2 := Za.mk hc2
 clear hr2 hc2
 have HB := Za.mk (Below.refl w.heap.size w)
 have H : ((Ze.f k l0_0 l0_1 l0_2 l0_3 l0_4).bind fun t328 => (if t328 = 0 then (if (l1.length : Int) = (l0_0.length : Int) then (if (l2.length : Int) = (l0_2.length : Int) then ((Zz.f k l0_0 l0_1 l0_2 l0_3 l0_4 l1 l2).bind fun t329 => (some (t329, 0))) else (some (([] : List Int), 20))) else (some (([] : List Int), 20))) else (some (([] : List Int), t328)))) = some (r1, r2) := h
 clear h
 replace H := Option.bind_eq_some_iff.mp H
 obtain ⟨t328, A40, H⟩ := H
 replace H : (if t328 = 0 then (if (l1.length : Int) = (l0_0.length : Int) then (if (l2.length : Int) = (l0_2.length : Int) then ((Zz.f k l0_0 l0_1 l0_2 l0_3 l0_4 l1 l2).bind fun t329 => (some (t329, 0))) else (some (([] : List Int), 20))) else (some (([] : List Int), 20))) else (some (([] : List Int), t328))) = some (r1, r2) := H
 have A4 := Za.mk A40
 clear A40
 by_cases c5 : t328 = 0
 ·rw [if_pos c5] at H
  have c5b0 : (t328 == 0) = true := beq_iff_eq.mpr c5
  have c5b1 : (t328 != 0) = false := bne_eq_false_iff_eq.mpr c5
  clear c5
  by_cases c6 : (l1.length : Int) = (l0_0.length : Int)
  ·rw [if_pos c6] at H
   have c6b0 : ((l1.length : Int) == (l0_0.length : Int)) = true := beq_iff_eq.mpr c6
   have c6b1 : ((l1.length : Int) != (l0_0.length : Int)) = false := bne_eq_false_iff_eq.mpr c6
   have c6b2 : (l1.length == l0_0.length) = true := by first | simpa using c6 | (simp at c6 ⊢; omega)
   clear c6
   by_cases c7 : (l2.length : Int) = (l0_2.length : Int)
   ·rw [if_pos c7] at H
    have c7b0 : ((l2.length : Int) == (l0_2.length : Int)) = true := beq_iff_eq.mpr c7
    have c7b1 : ((l2.length : Int) != (l0_2.length : Int)) = false := bne_eq_false_iff_eq.mpr c7
    have c7b2 : (l2.length == l0_2.length) = true := by first | simpa using c7 | (simp at c7 ⊢; omega)
    clear c7
    replace H := Option.bind_eq_some_iff.mp H
    obtain ⟨t329, A80, H⟩ := H
    replace H : (some (t329, 0)) = some (r1, r2) := H
    have A8 := Za.mk A80
    clear A80
    simp only [Option.some.injEq, Prod.mk.injEq] at H
    obtain ⟨rfl, rfl⟩ := H
    go_enter Try.func61, Try.ntmps61
    go_wp2_with (first | ((with_reducible refine Xl (N := 3) rfl ?_); (try (refine Qd (by rfl) ?_; dsimp only)); refine Xr ?hg (N := 3) ?hd (cs := #[.slice A0_0 l0_0.length c0_0, .slice A0_1 l0_1.length c0_1, .slice A0_2 l0_2.length c0_2, .slice A0_3 l0_3.length c0_3, .slice A0_4 l0_4.length c0_4]) (t := 27) ?hr ?_; (case hd => rfl); (case hg => rfl); (case hr => first | (go_simp; done) | (go_simp; rfl)); intro gb327 hg w9 hbox hb; have n0_ := Za.mk (Zn HB.out hb); have n1_ := Za.mk (hbox); have n2_ := Za.mk ((by rw [hg]; exact (Zm HB.out) : w.heap.size ≤ gb327)); have n3_ := n2_; clear HB; have HB := n0_; have BK327 := n1_; have GW327 := n2_; have GE327 := n3_; clear n0_ n1_ n2_ n3_; clear hb hbox hg; have hcz10_0 : w9.cell? ⟨gb327, 0, none⟩ = some (.slice A0_0 l0_0.length c0_0) := (Zc BK327.out 0).trans rfl; have hcz10_1 : w9.cell? ⟨gb327, 1, none⟩ = some (.slice A0_1 l0_1.length c0_1) := (Zc BK327.out 1).trans rfl; have hcz10_2 : w9.cell? ⟨gb327, 2, none⟩ = some (.slice A0_2 l0_2.length c0_2) := (Zc BK327.out 2).trans rfl; have hcz10_3 : w9.cell? ⟨gb327, 3, none⟩ = some (.slice A0_3 l0_3.length c0_3) := (Zc BK327.out 3).trans rfl; have hcz10_4 : w9.cell? ⟨gb327, 4, none⟩ = some (.slice A0_4 l0_4.length c0_4) := (Zc BK327.out 4).trans rfl; have hfz10_0 := Zb BK327.out 0; have hfz10_1 := Zb BK327.out 1; have hfz10_2 := Zb BK327.out 2; have hfz10_3 := Zb BK327.out 3; have hfz10_4 := Zb BK327.out 4) | ((with_reducible refine Xo (f := 9) rfl ?_); refine Qp (some 10) rfl rfl Try.func9 (by kernel_rfl) rfl #[.agg #[.slice A0_0 l0_0.length c0_0, .slice A0_1 l0_1.length c0_1, .slice A0_2 l0_2.length c0_2, .slice A0_3 l0_3.length c0_3, .slice A0_4 l0_4.length c0_4]] rfl (by (try simp only [List.map_toArray, List.map_cons, List.map_nil]); first | done | rfl | (simp only [List.length_drop, List.length_take]; rfl)) ?_; (with_reducible refine (Ze.calls k _ _ l0_0 _ _ l0_1 _ _ l0_2 _ _ l0_3 _ _ l0_4 t328 _ ?side1 ?side2 ?side3 ?side4 ?side5 ?side6 ?side7 ?side8 ?side9 ?side10 A4.out).mono ?_); (case side1 => exact (Kd.Zk HR0_0.out HB.out)); (case side2 => exact HC0_0.out); (case side3 => exact (Kd.Zk HR0_1.out HB.out)); (case side4 => exact HC0_1.out); (case side5 => exact (Kd.Zk HR0_2.out HB.out)); (case side6 => exact HC0_2.out); (case side7 => exact (Kd.Zk HR0_3.out HB.out)); (case side8 => exact HC0_3.out); (case side9 => exact (Kd.Zk HR0_4.out HB.out)); (case side10 => exact HC0_4.out); rintro e w11 ⟨rfl, hb⟩; refine ⟨_, rfl, ?_⟩; have n0_ := Za.mk (Zq BK327.out hb); have n1_ := Za.mk (Zn HB.out hb); clear BK327; clear HB; have BK327 := n0_; have HB := n1_; clear n0_ n1_; (try clear hb); (try clear hb2); (try clear hk); (try clear hi); have hcz12_0 : w11.cell? ⟨gb327, 0, none⟩ = some (.slice A0_0 l0_0.length c0_0) := (Zc BK327.out 0).trans rfl; have hcz12_1 : w11.cell? ⟨gb327, 1, none⟩ = some (.slice A0_1 l0_1.length c0_1) := (Zc BK327.out 1).trans rfl; have hcz12_2 : w11.cell? ⟨gb327, 2, none⟩ = some (.slice A0_2 l0_2.length c0_2) := (Zc BK327.out 2).trans rfl; have hcz12_3 : w11.cell? ⟨gb327, 3, none⟩ = some (.slice A0_3 l0_3.length c0_3) := (Zc BK327.out 3).trans rfl; have hcz12_4 : w11.cell? ⟨gb327, 4, none⟩ = some (.slice A0_4 l0_4.length c0_4) := (Zc BK327.out 4).trans rfl; have hfz12_0 := Zb BK327.out 0; have hfz12_1 := Zb BK327.out 1; have hfz12_2 := Zb BK327.out 2; have hfz12_3 := Zb BK327.out 3; have hfz12_4 := Zb BK327.out 4) | ((with_reducible refine Xo (f := 63) rfl ?_); refine Qp (some 31) rfl rfl Try.func63 (by kernel_rfl) rfl #[.agg #[.slice A0_0 l0_0.length c0_0, .slice A0_1 l0_1.length c0_1, .slice A0_2 l0_2.length c0_2, .slice A0_3 l0_3.length c0_3, .slice A0_4 l0_4.length c0_4], .slice A1 l1.length c1, .slice A2 l2.length c2] rfl (by (try simp only [List.map_toArray, List.map_cons, List.map_nil]); first | done | rfl | (simp only [List.length_drop, List.length_take]; rfl)) ?_; (with_reducible refine (Zz.calls k _ _ l0_0 _ _ l0_1 _ _ l0_2 _ _ l0_3 _ _ l0_4 _ _ l1 _ _ l2 t329 _ ?side1 ?side2 ?side3 ?side4 ?side5 ?side6 ?side7 ?side8 ?side9 ?side10 ?side11 ?side12 ?side13 ?side14 A8.out).mono ?_); (case side1 => exact (Kd.Zk HR0_0.out HB.out)); (case side2 => exact HC0_0.out); (case side3 => exact (Kd.Zk HR0_1.out HB.out)); (case side4 => exact HC0_1.out); (case side5 => exact (Kd.Zk HR0_2.out HB.out)); (case side6 => exact HC0_2.out); (case side7 => exact (Kd.Zk HR0_3.out HB.out)); (case side8 => exact HC0_3.out); (case side9 => exact (Kd.Zk HR0_4.out HB.out)); (case side10 => exact HC0_4.out); (case side11 => exact (Kd.Zk HR1.out HB.out)); (case side12 => exact HC1.out); (case side13 => exact (Kd.Zk HR2.out HB.out)); (case side14 => exact HC2.out); rintro e w13 ⟨v330, rfl, ho0, hb⟩; refine ⟨_, rfl, ?_⟩; have n0_ := Za.mk (Kd.Xm ho0 (Zm HB.out)); have n1_ := Za.mk (Zq BK327.out hb); have n2_ := Za.mk (Zn HB.out hb); clear BK327; clear HB; have HO331 := n0_; have BK327 := n1_; have HB := n2_; clear n0_ n1_ n2_; (try clear hb); (try clear hb2); (try clear hk); (try clear hi); (try clear ho0)))
    go_ret2
    exact ⟨_, by first | rfl | (simp [errW_none, errW_some] <;> rfl) | (simp [*, errW_none, errW_some] <;> rfl), by (with_reducible repeat (first | apply Kd.R_alloc | apply Kd.Zy | apply Kd.Xg)); exact HO331.out, HB.out⟩
   ·rw [if_neg c7] at H
    have c7b0 : ((l2.length : Int) == (l0_2.length : Int)) = false := beq_eq_false_iff_ne.mpr c7
    have c7b1 : ((l2.length : Int) != (l0_2.length : Int)) = true := bne_iff_ne.mpr c7
    have c7b2 : (l2.length == l0_2.length) = false := by first | simpa using c7 | (simp at c7 ⊢; omega)
    simp only [Option.some.injEq, Prod.mk.injEq] at H
    obtain ⟨rfl, rfl⟩ := H
    go_enter Try.func61, Try.ntmps61
    go_wp2_with (first | ((with_reducible refine Xl (N := 3) rfl ?_); (try (refine Qd (by rfl) ?_; dsimp only)); refine Xr ?hg (N := 3) ?hd (cs := #[.slice A0_0 l0_0.length c0_0, .slice A0_1 l0_1.length c0_1, .slice A0_2 l0_2.length c0_2, .slice A0_3 l0_3.length c0_3, .slice A0_4 l0_4.length c0_4]) (t := 27) ?hr ?_; (case hd => rfl); (case hg => rfl); (case hr => first | (go_simp; done) | (go_simp; rfl)); intro gb327 hg w14 hbox hb; have n0_ := Za.mk (Zn HB.out hb); have n1_ := Za.mk (hbox); have n2_ := Za.mk ((by rw [hg]; exact (Zm HB.out) : w.heap.size ≤ gb327)); have n3_ := n2_; clear HB; have HB := n0_; have BK327 := n1_; have GW327 := n2_; have GE327 := n3_; clear n0_ n1_ n2_ n3_; clear hb hbox hg; have hcz15_0 : w14.cell? ⟨gb327, 0, none⟩ = some (.slice A0_0 l0_0.length c0_0) := (Zc BK327.out 0).trans rfl; have hcz15_1 : w14.cell? ⟨gb327, 1, none⟩ = some (.slice A0_1 l0_1.length c0_1) := (Zc BK327.out 1).trans rfl; have hcz15_2 : w14.cell? ⟨gb327, 2, none⟩ = some (.slice A0_2 l0_2.length c0_2) := (Zc BK327.out 2).trans rfl; have hcz15_3 : w14.cell? ⟨gb327, 3, none⟩ = some (.slice A0_3 l0_3.length c0_3) := (Zc BK327.out 3).trans rfl; have hcz15_4 : w14.cell? ⟨gb327, 4, none⟩ = some (.slice A0_4 l0_4.length c0_4) := (Zc BK327.out 4).trans rfl; have hfz15_0 := Zb BK327.out 0; have hfz15_1 := Zb BK327.out 1; have hfz15_2 := Zb BK327.out 2; have hfz15_3 := Zb BK327.out 3; have hfz15_4 := Zb BK327.out 4) | ((with_reducible refine Xo (f := 9) rfl ?_); refine Qp (some 10) rfl rfl Try.func9 (by kernel_rfl) rfl #[.agg #[.slice A0_0 l0_0.length c0_0, .slice A0_1 l0_1.length c0_1, .slice A0_2 l0_2.length c0_2, .slice A0_3 l0_3.length c0_3, .slice A0_4 l0_4.length c0_4]] rfl (by (try simp only [List.map_toArray, List.map_cons, List.map_nil]); first | done | rfl | (simp only [List.length_drop, List.length_take]; rfl)) ?_; (with_reducible refine (Ze.calls k _ _ l0_0 _ _ l0_1 _ _ l0_2 _ _ l0_3 _ _ l0_4 t328 _ ?side1 ?side2 ?side3 ?side4 ?side5 ?side6 ?side7 ?side8 ?side9 ?side10 A4.out).mono ?_); (case side1 => exact (Kd.Zk HR0_0.out HB.out)); (case side2 => exact HC0_0.out); (case side3 => exact (Kd.Zk HR0_1.out HB.out)); (case side4 => exact HC0_1.out); (case side5 => exact (Kd.Zk HR0_2.out HB.out)); (case side6 => exact HC0_2.out); (case side7 => exact (Kd.Zk HR0_3.out HB.out)); (case side8 => exact HC0_3.out); (case side9 => exact (Kd.Zk HR0_4.out HB.out)); (case side10 => exact HC0_4.out); rintro e w16 ⟨rfl, hb⟩; refine ⟨_, rfl, ?_⟩; have n0_ := Za.mk (Zq BK327.out hb); have n1_ := Za.mk (Zn HB.out hb); clear BK327; clear HB; have BK327 := n0_; have HB := n1_; clear n0_ n1_; (try clear hb); (try clear hb2); (try clear hk); (try clear hi); have hcz17_0 : w16.cell? ⟨gb327, 0, none⟩ = some (.slice A0_0 l0_0.length c0_0) := (Zc BK327.out 0).trans rfl; have hcz17_1 : w16.cell? ⟨gb327, 1, none⟩ = some (.slice A0_1 l0_1.length c0_1) := (Zc BK327.out 1).trans rfl; have hcz17_2 : w16.cell? ⟨gb327, 2, none⟩ = some (.slice A0_2 l0_2.length c0_2) := (Zc BK327.out 2).trans rfl; have hcz17_3 : w16.cell? ⟨gb327, 3, none⟩ = some (.slice A0_3 l0_3.length c0_3) := (Zc BK327.out 3).trans rfl; have hcz17_4 : w16.cell? ⟨gb327, 4, none⟩ = some (.slice A0_4 l0_4.length c0_4) := (Zc BK327.out 4).trans rfl; have hfz17_0 := Zb BK327.out 0; have hfz17_1 := Zb BK327.out 1; have hfz17_2 := Zb BK327.out 2; have hfz17_3 := Zb BK327.out 3; have hfz17_4 := Zb BK327.out 4))
    go_ret2
    exact ⟨_, by first | rfl | (simp [errW_none, errW_some] <;> rfl) | (simp [*, errW_none, errW_some] <;> rfl), by first | exact Kd.R_nil _ _ _ _ _ | exact Kd.N_nil _ _ _ _ _ | exact Kd.V_nil _ _ _ _ _ | exact Kd.Q_nil _ _ _ _ _ | exact Kd.S_nil _ _ _ _ _, HB.out⟩
  ·rw [if_neg c6] at H
   have c6b0 : ((l1.length : Int) == (l0_0.length : Int)) = false := beq_eq_false_iff_ne.mpr c6
   have c6b1 : ((l1.length : Int) != (l0_0.length : Int)) = true := bne_iff_ne.mpr c6
   have c6b2 : (l1.length == l0_0.length) = false := by first | simpa using c6 | (simp at c6 ⊢; omega)
   simp only [Option.some.injEq, Prod.mk.injEq] at H
   obtain ⟨rfl, rfl⟩ := H
   go_enter Try.func61, Try.ntmps61
   go_wp2_with (first | ((with_reducible refine Xl (N := 3) rfl ?_); (try (refine Qd (by rfl) ?_; dsimp only)); refine Xr ?hg (N := 3) ?hd (cs := #[.slice A0_0 l0_0.length c0_0, .slice A0_1 l0_1.length c0_1, .slice A0_2 l0_2.length c0_2, .slice A0_3 l0_3.length c0_3, .slice A0_4 l0_4.length c0_4]) (t := 27) ?hr ?_; (case hd => rfl); (case hg => rfl); (case hr => first | (go_simp; done) | (go_simp; rfl)); intro gb327 hg w18 hbox hb; have n0_ := Za.mk (Zn HB.out hb); have n1_ := Za.mk (hbox); have n2_ := Za.mk ((by rw [hg]; exact (Zm HB.out) : w.heap.size ≤ gb327)); have n3_ := n2_; clear HB; have HB := n0_; have BK327 := n1_; have GW327 := n2_; have GE327 := n3_; clear n0_ n1_ n2_ n3_; clear hb hbox hg; have hcz19_0 : w18.cell? ⟨gb327, 0, none⟩ = some (.slice A0_0 l0_0.length c0_0) := (Zc BK327.out 0).trans rfl; have hcz19_1 : w18.cell? ⟨gb327, 1, none⟩ = some (.slice A0_1 l0_1.length c0_1) := (Zc BK327.out 1).trans rfl; have hcz19_2 : w18.cell? ⟨gb327, 2, none⟩ = some (.slice A0_2 l0_2.length c0_2) := (Zc BK327.out 2).trans rfl; have hcz19_3 : w18.cell? ⟨gb327, 3, none⟩ = some (.slice A0_3 l0_3.length c0_3) := (Zc BK327.out 3).trans rfl; have hcz19_4 : w18.cell? ⟨gb327, 4, none⟩ = some (.slice A0_4 l0_4.length c0_4) := (Zc BK327.out 4).trans rfl; have hfz19_0 := Zb BK327.out 0; have hfz19_1 := Zb BK327.out 1; have hfz19_2 := Zb BK327.out 2; have hfz19_3 := Zb BK327.out 3; have hfz19_4 := Zb BK327.out 4) | ((with_reducible refine Xo (f := 9) rfl ?_); refine Qp (some 10) rfl rfl Try.func9 (by kernel_rfl) rfl #[.agg #[.slice A0_0 l0_0.length c0_0, .slice A0_1 l0_1.length c0_1, .slice A0_2 l0_2.length c0_2, .slice A0_3 l0_3.length c0_3, .slice A0_4 l0_4.length c0_4]] rfl (by (try simp only [List.map_toArray, List.map_cons, List.map_nil]); first | done | rfl | (simp only [List.length_drop, List.length_take]; rfl)) ?_; (with_reducible refine (Ze.calls k _ _ l0_0 _ _ l0_1 _ _ l0_2 _ _ l0_3 _ _ l0_4 t328 _ ?side1 ?side2 ?side3 ?side4 ?side5 ?side6 ?side7 ?side8 ?side9 ?side10 A4.out).mono ?_); (case side1 => exact (Kd.Zk HR0_0.out HB.out)); (case side2 => exact HC0_0.out); (case side3 => exact (Kd.Zk HR0_1.out HB.out)); (case side4 => exact HC0_1.out); (case side5 => exact (Kd.Zk HR0_2.out HB.out)); (case side6 => exact HC0_2.out); (case side7 => exact (Kd.Zk HR0_3.out HB.out)); (case side8 => exact HC0_3.out); (case side9 => exact (Kd.Zk HR0_4.out HB.out)); (case side10 => exact HC0_4.out); rintro e w20 ⟨rfl, hb⟩; refine ⟨_, rfl, ?_⟩; have n0_ := Za.mk (Zq BK327.out hb); have n1_ := Za.mk (Zn HB.out hb); clear BK327; clear HB; have BK327 := n0_; have HB := n1_; clear n0_ n1_; (try clear hb); (try clear hb2); (try clear hk); (try clear hi); have hcz21_0 : w20.cell? ⟨gb327, 0, none⟩ = some (.slice A0_0 l0_0.length c0_0) := (Zc BK327.out 0).trans rfl; have hcz21_1 : w20.cell? ⟨gb327, 1, none⟩ = some (.slice A0_1 l0_1.length c0_1) := (Zc BK327.out 1).trans rfl; have hcz21_2 : w20.cell? ⟨gb327, 2, none⟩ = some (.slice A0_2 l0_2.length c0_2) := (Zc BK327.out 2).trans rfl; have hcz21_3 : w20.cell? ⟨gb327, 3, none⟩ = some (.slice A0_3 l0_3.length c0_3) := (Zc BK327.out 3).trans rfl; have hcz21_4 : w20.cell? ⟨gb327, 4, none⟩ = some (.slice A0_4 l0_4.length c0_4) := (Zc BK327.out 4).trans rfl; have hfz21_0 := Zb BK327.out 0; have hfz21_1 := Zb BK327.out 1; have hfz21_2 := Zb BK327.out 2; have hfz21_3 := Zb BK327.out 3; have hfz21_4 := Zb BK327.out 4))
   go_ret2
   exact ⟨_, by first | rfl | (simp [errW_none, errW_some] <;> rfl) | (simp [*, errW_none, errW_some] <;> rfl), by first | exact Kd.R_nil _ _ _ _ _ | exact Kd.N_nil _ _ _ _ _ | exact Kd.V_nil _ _ _ _ _ | exact Kd.Q_nil _ _ _ _ _ | exact Kd.S_nil _ _ _ _ _, HB.out⟩
 ·rw [if_neg c5] at H
  have c5b0 : (t328 == 0) = false := beq_eq_false_iff_ne.mpr c5
  have c5b1 : (t328 != 0) = true := bne_iff_ne.mpr c5
  simp only [Option.some.injEq, Prod.mk.injEq] at H
  obtain ⟨rfl, rfl⟩ := H
  go_enter Try.func61, Try.ntmps61
  go_wp2_with (first | ((with_reducible refine Xl (N := 3) rfl ?_); (try (refine Qd (by rfl) ?_; dsimp only)); refine Xr ?hg (N := 3) ?hd (cs := #[.slice A0_0 l0_0.length c0_0, .slice A0_1 l0_1.length c0_1, .slice A0_2 l0_2.length c0_2, .slice A0_3 l0_3.length c0_3, .slice A0_4 l0_4.length c0_4]) (t := 27) ?hr ?_; (case hd => rfl); (case hg => rfl); (case hr => first | (go_simp; done) | (go_simp; rfl)); intro gb327 hg w22 hbox hb; have n0_ := Za.mk (Zn HB.out hb); have n1_ := Za.mk (hbox); have n2_ := Za.mk ((by rw [hg]; exact (Zm HB.out) : w.heap.size ≤ gb327)); have n3_ := n2_; clear HB; have HB := n0_; have BK327 := n1_; have GW327 := n2_; have GE327 := n3_; clear n0_ n1_ n2_ n3_; clear hb hbox hg; have hcz23_0 : w22.cell? ⟨gb327, 0, none⟩ = some (.slice A0_0 l0_0.length c0_0) := (Zc BK327.out 0).trans rfl; have hcz23_1 : w22.cell? ⟨gb327, 1, none⟩ = some (.slice A0_1 l0_1.length c0_1) := (Zc BK327.out 1).trans rfl; have hcz23_2 : w22.cell? ⟨gb327, 2, none⟩ = some (.slice A0_2 l0_2.length c0_2) := (Zc BK327.out 2).trans rfl; have hcz23_3 : w22.cell? ⟨gb327, 3, none⟩ = some (.slice A0_3 l0_3.length c0_3) := (Zc BK327.out 3).trans rfl; have hcz23_4 : w22.cell? ⟨gb327, 4, none⟩ = some (.slice A0_4 l0_4.length c0_4) := (Zc BK327.out 4).trans rfl; have hfz23_0 := Zb BK327.out 0; have hfz23_1 := Zb BK327.out 1; have hfz23_2 := Zb BK327.out 2; have hfz23_3 := Zb BK327.out 3; have hfz23_4 := Zb BK327.out 4) | ((with_reducible refine Xo (f := 9) rfl ?_); refine Qp (some 10) rfl rfl Try.func9 (by kernel_rfl) rfl #[.agg #[.slice A0_0 l0_0.length c0_0, .slice A0_1 l0_1.length c0_1, .slice A0_2 l0_2.length c0_2, .slice A0_3 l0_3.length c0_3, .slice A0_4 l0_4.length c0_4]] rfl (by (try simp only [List.map_toArray, List.map_cons, List.map_nil]); first | done | rfl | (simp only [List.length_drop, List.length_take]; rfl)) ?_; (with_reducible refine (Ze.calls k _ _ l0_0 _ _ l0_1 _ _ l0_2 _ _ l0_3 _ _ l0_4 t328 _ ?side1 ?side2 ?side3 ?side4 ?side5 ?side6 ?side7 ?side8 ?side9 ?side10 A4.out).mono ?_); (case side1 => exact (Kd.Zk HR0_0.out HB.out)); (case side2 => exact HC0_0.out); (case side3 => exact (Kd.Zk HR0_1.out HB.out)); (case side4 => exact HC0_1.out); (case side5 => exact (Kd.Zk HR0_2.out HB.out)); (case side6 => exact HC0_2.out); (case side7 => exact (Kd.Zk HR0_3.out HB.out)); (case side8 => exact HC0_3.out); (case side9 => exact (Kd.Zk HR0_4.out HB.out)); (case side10 => exact HC0_4.out); rintro e w24 ⟨rfl, hb⟩; refine ⟨_, rfl, ?_⟩; have n0_ := Za.mk (Zq BK327.out hb); have n1_ := Za.mk (Zn HB.out hb); clear BK327; clear HB; have BK327 := n0_; have HB := n1_; clear n0_ n1_; (try clear hb); (try clear hb2); (try clear hk); (try clear hi)))
  go_ret2
  exact ⟨_, by first | rfl | (simp [errW_none, errW_some] <;> rfl) | (simp [*, errW_none, errW_some] <;> rfl), by first | exact Kd.R_nil _ _ _ _ _ | exact Kd.N_nil _ _ _ _ _ | exact Kd.V_nil _ _ _ _ _ | exact Kd.Q_nil _ _ _ _ _ | exact Kd.S_nil _ _ _ _ _, HB.out⟩
end Go.Proofs.Ytimjccfpobhpeaa.PF
namespace Go.Proofs.Ytimjccfpobhpeaa.PF
open Go.RowKit Go.Proofs.YtimjccfpobhpeaaW.PrintWords Go.Proofs.YtimjccfpobhpeaaW.PrintLast Go.Proofs.YtimjccfpobhpeaaW.PrintMore
set_option linter.unusedVariables false
set_option linter.unusedSimpArgs false
mutual
def Zv.l0 : Nat → List Int → List Int → List Int → Int → Int → List ByteArray → List ByteArray → List (S82) → List (Ky) → List Int → Option (List Int × List Int)
  | 0, _, _, _, _, _, _, _, _, _, _ => none
  | k + 1, x1, x4, x12, x13, x14, x333000, x333001, x333002, x333003, x333004 => if x14 < x13 then (if 0 ≤ x14 then (if x14 < (x12.length : Int) then (if 0 ≤ (rd x12 x14) then (if (rd x12 x14) < (x1.length : Int) then (if x4.length < 17592186044416 then (Zv.l0 k x1 (x4 ++ [rd x1 (rd x12 x14)]) x12 x13 (wrap64 (x14 + 1)) x333000 x333001 x333002 x333003 x333004) else (none)) else (none)) else (none)) else (none)) else (none)) else (Zv.l1 k x1 x4 ([] : List Int) x333002 (x333002.length : Int) 0 x333000 x333001 x333002 x333003 x333004)
def Zv.l1 : Nat → List Int → List Int → List Int → List (S82) → Int → Int → List ByteArray → List ByteArray → List (S82) → List (Ky) → List Int → Option (List Int × List Int)
  | 0, _, _, _, _, _, _, _, _, _, _, _ => none
  | k + 1, x1, x4, x5, x27, x28, x29, x333000, x333001, x333002, x333003, x333004 => if x29 < x28 then (if 0 ≤ x29 then (if x29 < (x27.length : Int) then (if 0 ≤ (wrap64 ((wrap64 (2 + (x333000.length : Int))) + x29)) then (if (wrap64 ((wrap64 (2 + (x333000.length : Int))) + x29)) < (x1.length : Int) then (if 0 ≤ ((Xa x27 x29).f3) then (if ((Xa x27 x29).f3) < (x1.length : Int) then (if 0 ≤ ((Xa x27 x29).f2) then (if ((Xa x27 x29).f2) < (x1.length : Int) then (if x5.length < 17592186044416 then (Zv.l1 k x1 x4 (x5 ++ [Go.bits .or .u64 (Go.bits .and .u64 (rd x1 ((Xa x27 x29).f3)) (rd x1 ((Xa x27 x29).f2))) (Go.bits .and .u64 (Go.bits .xor .u64 18446744073709551615 (rd x1 ((Xa x27 x29).f3))) (rd x1 (wrap64 ((wrap64 (2 + (x333000.length : Int))) + x29))))]) x27 x28 (wrap64 (x29 + 1)) x333000 x333001 x333002 x333003 x333004) else (none)) else (none)) else (none)) else (none)) else (none)) else (none)) else (none)) else (none)) else (none)) else (some (x4, x5))
end
def Zv.f (k : Nat) (l0_0 : List ByteArray) (l0_1 : List ByteArray) (l0_2 : List (S82)) (l0_3 : List (Ky)) (l0_4 : List Int) (l1 : List Int) : Option (List Int × List Int) := Zv.l0 k l1 ([] : List Int) l0_4 (l0_4.length : Int) 0 l0_0 l0_1 l0_2 l0_3 l0_4
theorem Zv.mono_l : ∀ k, (∀ y0 y1 y2 y3 y4 y5 y6 y7 y8 y9, Xz (Zv.l0 k y0 y1 y2 y3 y4 y5 y6 y7 y8 y9) (Zv.l0 (k + 1) y0 y1 y2 y3 y4 y5 y6 y7 y8 y9)) ∧ (∀ y0 y1 y2 y3 y4 y5 y6 y7 y8 y9 y10, Xz (Zv.l1 k y0 y1 y2 y3 y4 y5 y6 y7 y8 y9 y10) (Zv.l1 (k + 1) y0 y1 y2 y3 y4 y5 y6 y7 y8 y9 y10))
  | 0 => ⟨fun _ _ _ _ _ _ _ _ _ _ r h => by simp [Zv.l0] at h, fun _ _ _ _ _ _ _ _ _ _ _ r h => by simp [Zv.l1] at h⟩
  | k + 1 => by
    obtain ⟨ih0, ih1⟩ := Zv.mono_l k
    refine ⟨?_, ?_⟩
    · intro y0 y1 y2 y3 y4 y5 y6 y7 y8 y9
      unfold Zv.l0
      repeat' first
      | (with_reducible exact ih0 _ _ _ _ _ _ _ _ _ _)
      | (with_reducible exact ih1 _ _ _ _ _ _ _ _ _ _ _)
      | (with_reducible exact Xz.refl _)
      | (with_reducible exact Xz.none _)
      | (with_reducible refine Xz.ite ?_ ?_)
      | (with_reducible refine Xz.bind ?_ (fun _ => ?_))
      | exact ih0 _ _ _ _ _ _ _ _ _ _
      | exact ih1 _ _ _ _ _ _ _ _ _ _ _
      | exact Xz.none _
      | refine Xz.ite ?_ ?_
      | refine Xz.bind ?_ (fun _ => ?_)
    · intro y0 y1 y2 y3 y4 y5 y6 y7 y8 y9 y10
      unfold Zv.l1
      repeat' first
      | (with_reducible exact ih0 _ _ _ _ _ _ _ _ _ _)
      | (with_reducible exact ih1 _ _ _ _ _ _ _ _ _ _ _)
      | (with_reducible exact Xz.refl _)
      | (with_reducible exact Xz.none _)
      | (with_reducible refine Xz.ite ?_ ?_)
      | (with_reducible refine Xz.bind ?_ (fun _ => ?_))
      | exact ih0 _ _ _ _ _ _ _ _ _ _
      | exact ih1 _ _ _ _ _ _ _ _ _ _ _
      | exact Xz.none _
      | refine Xz.ite ?_ ?_
      | refine Xz.bind ?_ (fun _ => ?_)
theorem Zv.mono : ∀ a0 a1 a2 a3 a4 a5 k, Xz (Zv.f k a0 a1 a2 a3 a4 a5) (Zv.f (k + 1) a0 a1 a2 a3 a4 a5) := by
  intro a0 a1 a2 a3 a4 a5 k
  obtain ⟨ih0, ih1⟩ := Zv.mono_l k
  unfold Zv.f
  repeat' first
      | (with_reducible exact ih0 _ _ _ _ _ _ _ _ _ _)
      | (with_reducible exact ih1 _ _ _ _ _ _ _ _ _ _ _)
      | (with_reducible exact Xz.refl _)
      | (with_reducible exact Xz.none _)
      | (with_reducible refine Xz.ite ?_ ?_)
      | (with_reducible refine Xz.bind ?_ (fun _ => ?_))
      | exact ih0 _ _ _ _ _ _ _ _ _ _
      | exact ih1 _ _ _ _ _ _ _ _ _ _ _
      | exact Xz.none _
      | refine Xz.ite ?_ ?_
      | refine Xz.bind ?_ (fun _ => ?_)
def Zv.T10 : Bool × List (List Nat × List Nat) := (true, [([], []), ([], []), ([], []), ([2], [2]), ([1, 3], [1, 3]), ([4], [4]), ([], []), ([], []), ([7], [7]), ([6, 8], [6, 8]), ([9], [9]), ([5, 10], [5, 10]), ([], []), ([], []), ([13], [13]), ([12, 14], [12, 14]), ([15], [15]), ([16], [16]), ([], []), ([17, 18], [17, 18]), ([11, 19], [11, 19]), ([20], [20]), ([0, 21], [0, 21]), ([22, 22, 0, 1, 2, 3, 4, 5, 6, 7, 8, 9, 10, 11, 12, 13, 14, 15, 16, 17, 18, 19, 20, 21, 22], [0, 22])])
def Zv.B10 : List Nat := [0, 0, 0, 4, 14, 30, 0, 0, 128, 448, 960, 2046, 0, 0, 8192, 28672, 61440, 126976, 0, 520192, 1048574, 2097150, 4194303, 8388607]
theorem Zv.tab10 : rtab .any (opsOf Try.f62 10) = Zv.T10 := by kernel_rfl
theorem Zv.bits10 : waitsOk Zv.T10.2 Zv.B10 = true := by kernel_rfl
set_option maxHeartbeats 8000000 in
set_option maxRecDepth 100000 in
theorem Zv.calls (k : Nat) (A0_0 : Option Addr) (c0_0 : Nat) (l0_0 : List ByteArray) (A0_1 : Option Addr) (c0_1 : Nat) (l0_1 : List ByteArray) (A0_2 : Option Addr) (c0_2 : Nat) (l0_2 : List (S82)) (A0_3 : Option Addr) (c0_3 : Nat) (l0_3 : List (Ky)) (A0_4 : Option Addr) (c0_4 : Nat) (l0_4 : List Int) (A1 : Option Addr) (c1 : Nat) (l1 : List Int) (r1 : List Int) (r2 : List Int) (w : World) (hr0_0 : Kd.C Kd.string w A0_0 l0_0.length l0_0) (hc0_0 : l0_0.length ≤ c0_0) (hr0_1 : Kd.C Kd.string w A0_1 l0_1.length l0_1) (hc0_1 : l0_1.length ≤ c0_1) (hr0_2 : Kd.C k82 w A0_2 l0_2.length l0_2) (hc0_2 : l0_2.length ≤ c0_2) (hr0_3 : Kd.C k80 w A0_3 l0_3.length l0_3) (hc0_3 : l0_3.length ≤ c0_3) (hr0_4 : Kd.C (Kd.int .i64) w A0_4 l0_4.length l0_4) (hc0_4 : l0_4.length ≤ c0_4) (hr1 : Kd.C (Kd.int .u64) w A1 l1.length l1) (hc1 : l1.length ≤ c1) (h : Zv.f k l0_0 l0_1 l0_2 l0_3 l0_4 l1 = some (r1, r2)) :
 Calls Try.prog 62 #[.agg #[.slice A0_0 l0_0.length c0_0, .slice A0_1 l0_1.length c0_1, .slice A0_2 l0_2.length c0_2, .slice A0_3 l0_3.length c0_3, .slice A0_4 l0_4.length c0_4], .slice A1 l1.length c1] w fun e w' => ∃ v0_ v1_ : Value, e = .returned (.tuple #[v0_, v1_]) ∧ Kd.R (Kd.int .u64) 78 w' w.heap.size (fun k_ => some k_ ≠ (v1_ : Value).ownBlock) v0_ r1 ∧ Kd.R (Kd.int .u64) 78 w' w.heap.size (fun k_ => some k_ ≠ (v0_ : Value).ownBlock) v1_ r2 ∧ Below w.heap.size w w' := by
 have hu27 := Try.underlying27
 have hu82 := Try.underlying82
 have HR0_0 := Za.mk hr0_0
 have HC0_0 := Za.mk hc0_0
 clear hr0_0 hc0_0
 have HR0_1 := Za.mk hr0_1
 have HC0_1 := Za.mk hc0_1
 clear hr0_1 hc0_1
 have HR0_2 := Za.mk hr0_2
 have HC0_2 := Za.mk hc0_2
 clear hr0_2 hc0_2
 have HR0_3 := Za.mk hr0_3
 have HC0_3 := Za.mk hc0_3
 clear hr0_3 hc0_3
 have HR0_4 := Za.mk hr0_4
 have HC0_4 := Za.mk hc0_4
 clear hr0_4 hc0_4
 have HR1 := Za.mk hr1
 have HC1 := Za.mk hc1
 clear hr1 hc1
 have HB := Za.mk (Below.refl w.heap.size w)
 have H : (Zv.l0 k l1 ([] : List Int) l0_4 (l0_4.length : Int) 0 l0_0 l0_1 l0_2 l0_3 l0_4) = some (r1, r2) := h
 clear h
 have H' := Za.mk H
 clear H
 go_enter Try.func62, Try.ntmps62
 go_wp2_with (((with_reducible refine Xl (N := 2) rfl ?_); refine Xr ?hg (N := 2) ?hd (cs := #[.slice A0_0 l0_0.length c0_0, .slice A0_1 l0_1.length c0_1, .slice A0_2 l0_2.length c0_2, .slice A0_3 l0_3.length c0_3, .slice A0_4 l0_4.length c0_4]) (t := 27) ?hr ?_; (case hd => rfl); (case hg => rfl); (case hr => first | (go_simp; done) | (go_simp; rfl)); intro gb332 hg w3 hbox hb; have n0_ := Za.mk (Zn HB.out hb); have n1_ := Za.mk (hbox); have n2_ := Za.mk ((by rw [hg]; exact (Zm HB.out) : w.heap.size ≤ gb332)); have n3_ := n2_; clear HB; have HB := n0_; have BK332 := n1_; have GW332 := n2_; have GE332 := n3_; clear n0_ n1_ n2_ n3_; clear hb hbox hg; have hcz4_0 : w3.cell? ⟨gb332, 0, none⟩ = some (.slice A0_0 l0_0.length c0_0) := (Zc BK332.out 0).trans rfl; have hcz4_1 : w3.cell? ⟨gb332, 1, none⟩ = some (.slice A0_1 l0_1.length c0_1) := (Zc BK332.out 1).trans rfl; have hcz4_2 : w3.cell? ⟨gb332, 2, none⟩ = some (.slice A0_2 l0_2.length c0_2) := (Zc BK332.out 2).trans rfl; have hcz4_3 : w3.cell? ⟨gb332, 3, none⟩ = some (.slice A0_3 l0_3.length c0_3) := (Zc BK332.out 3).trans rfl; have hcz4_4 : w3.cell? ⟨gb332, 4, none⟩ = some (.slice A0_4 l0_4.length c0_4) := (Zc BK332.out 4).trans rfl; have hfz4_0 := Zb BK332.out 0; have hfz4_1 := Zb BK332.out 1; have hfz4_2 := Zb BK332.out 2; have hfz4_3 := Zb BK332.out 3; have hfz4_4 := Zb BK332.out 4))
 go_loopg [4, 14] k (fun kq v4 v14 w' => ∃ (x4_1 : List Int) (x14_1 : Int), v14 = .int .i64 x14_1 ∧ Za (Zv.l0 kq l1 x4_1 l0_4 (l0_4.length : Int) x14_1 l0_0 l0_1 l0_2 l0_3 l0_4 = some (r1, r2)) ∧ Za (kq ≤ k) ∧ Za (Kd.R (Kd.int .u64) 78 w' w.heap.size (fun _ => True) v4 x4_1) ∧ Za (w'.heap[gb332]? = some (.cells #[(.slice A0_0 l0_0.length c0_0), (.slice A0_1 l0_1.length c0_1), (.slice A0_2 l0_2.length c0_2), (.slice A0_3 l0_3.length c0_3), (.slice A0_4 l0_4.length c0_4)] 27 (0, 0))) ∧ Za (Below w.heap.size w w'))
 case atStart => exact ⟨(([] : List Int)), (0), (by first | rfl | (simp; done) | (simp [*]; done)), H', ⟨Nat.le_refl _⟩, ⟨by first | exact Kd.R_nil _ _ _ _ _ | exact Kd.N_nil _ _ _ _ _ | exact Kd.V_nil _ _ _ _ _ | exact Kd.Q_nil _ _ _ _ _ | exact Kd.S_nil _ _ _ _ _⟩, ⟨BK332.out⟩, ⟨HB.out⟩⟩
 case round =>
  clear H'
  try clear hcz4_0
  try clear hcz4_1
  try clear hcz4_2
  try clear hcz4_3
  try clear hcz4_4
  try clear hfz4_0
  try clear hfz4_1
  try clear hfz4_2
  try clear hfz4_3
  try clear hfz4_4
  obtain ⟨x4_1, x14_1, rfl, HA, HK1, HO_4, BK332, HB⟩ := hrel
  cases gk with
  | zero => exact absurd HA.out (by simp [Zv.l0])
  | succ k1 =>
   have H := HA.out
   clear HA
   simp only [Zv.l0] at H
   by_cases c5 : x14_1 < (l0_4.length : Int)
   ·rw [if_pos c5] at H
    have c5b0 : decide (x14_1 < (l0_4.length : Int)) = true := decide_eq_true c5
    clear c5
    by_cases c6 : 0 ≤ x14_1
    ·rw [if_pos c6] at H
     have c6b0 : decide (0 ≤ x14_1) = true := decide_eq_true c6
     clear c6
     by_cases c7 : x14_1 < (l0_4.length : Int)
     ·rw [if_pos c7] at H
      have c7b0 : decide (x14_1 < (l0_4.length : Int)) = true := decide_eq_true c7
      clear c7
      by_cases c8 : 0 ≤ (rd l0_4 x14_1)
      ·rw [if_pos c8] at H
       have c8b0 : decide (0 ≤ (rd l0_4 x14_1)) = true := decide_eq_true c8
       clear c8
       by_cases c9 : (rd l0_4 x14_1) < (l1.length : Int)
       ·rw [if_pos c9] at H
        have c9b0 : decide ((rd l0_4 x14_1) < (l1.length : Int)) = true := decide_eq_true c9
        clear c9
        by_cases c10 : x4_1.length < 17592186044416
        ·rw [if_pos c10] at H
         have LMc10 := Za.mk c10
         clear c10
         obtain ⟨y335, hy335⟩ : ∃ y_ : List Int, y_ = (x4_1 ++ [rd l1 (rd l0_4 x14_1)]) := ⟨_, rfl⟩
         replace H : (Zv.l0 k1 l1 y335 l0_4 (l0_4.length : Int) (wrap64 (x14_1 + 1)) l0_0 l0_1 l0_2 l0_3 l0_4) = some (r1, r2) := by first | (rw [hy335]; with_reducible exact H) | (have H2_ := (Option.bind_some _ _).symm.trans H; rw [hy335]; with_reducible exact H2_) | (have H2_ := (Option.bind_some _ _).symm.trans H; with_reducible exact H2_) | with_reducible exact H | (rw [hy335]; exact H) | exact H
         have Ny335 := Za.mk hy335
         clear hy335
         have H' := Za.mk H
         clear H
         have p333 : 0 ≤ (x14_1 : Int) := of_decide_eq_true (by first | (with_reducible assumption) | assumption)
         have q333 : x14_1 < (l0_4.length : Int) := of_decide_eq_true (by first | (with_reducible assumption) | assumption)
         obtain ⟨ad333, e333, hx333_0⟩ := Kd.at_int HR0_4.out x14_1 p333 q333
         cases e333
         replace hx333_0 := (HB.out.cell (World.block_lt_of_cell? w _ hx333_0)).trans hx333_0
         replace p333 := eq_true p333
         replace q333 := eq_true q333
         have p334 : 0 ≤ ((rd l0_4 x14_1) : Int) := of_decide_eq_true (by first | (with_reducible assumption) | assumption)
         have q334 : (rd l0_4 x14_1) < (l1.length : Int) := of_decide_eq_true (by first | (with_reducible assumption) | assumption)
         obtain ⟨ad334, e334, hx334_0⟩ := Kd.at_int HR1.out (rd l0_4 x14_1) p334 q334
         cases e334
         replace hx334_0 := (HB.out.cell (World.block_lt_of_cell? w _ hx334_0)).trans hx334_0
         replace p334 := eq_true p334
         replace q334 := eq_true q334
         go_wp2_with (((with_reducible refine gate_builtin (b := .append) (xs := #[.tmp 18, .tmp 23]) rfl ?_); at_builtin; refine Kd.R_append (Kd.int .u64) (w0 := w) w.heap.size rfl (.tmp 18) (.tmp 23) 110 78 (.int .u64 0) 8 rfl Try.underlying110 info78 rfl (by decide) (by omega) u4 x4_1 (rd l1 (rd l0_4 x14_1)) [.int .u64 (rd l1 (rd l0_4 x14_1))] (fun _ => True) (fun _ => False) rfl rfl ?aP (fun _ hk => hk.elim) ?aF ?aO ?aB ?aS ?aL ?_; (case aP => exact rfl); (case aB => exact HB.out); (case aF => exact (fun _ _ => trivial)); (case aO => exact HO_4.out); (case aS => exact (Zm HB.out)); (case aL => have := LMc10.out; omega); intro v336 w11 ho hb hg hat; rw [← Ny335.out] at ho; have n0_ := Za.mk (blk_grown BK332.out hg (Kd.R_ne HO_4.out BK332.out (by decide))); have n1_ := Za.mk (hb); have n2_ := Za.mk (ho); clear BK332; clear HB; clear HO_4; have BK332 := n0_; have HB := n1_; have HO337 := n2_; clear n0_ n1_ n2_; clear ho hb hg hat))
         go_roundg k1
         case measure => have := HK1.out; omega
         case rel => exact ⟨(y335), (wrap64 (x14_1 + 1)), (by first | rfl | (simp; done) | (simp [*]; done)), H', ⟨by have := HK1.out; omega⟩, ⟨HO337.out⟩, ⟨BK332.out⟩, ⟨HB.out⟩⟩
        ·rw [if_neg c10] at H
         exact absurd H (by simp)
       ·rw [if_neg c9] at H
        exact absurd H (by simp)
      ·rw [if_neg c8] at H
       exact absurd H (by simp)
     ·rw [if_neg c7] at H
      exact absurd H (by simp)
    ·rw [if_neg c6] at H
     exact absurd H (by simp)
   ·rw [if_neg c5] at H
    have c5b0 : decide (x14_1 < (l0_4.length : Int)) = false := decide_eq_false c5
    clear c5
    have H' := Za.mk H
    clear H
    have hcz12_0 : wr.cell? ⟨gb332, 0, none⟩ = some (.slice A0_0 l0_0.length c0_0) := (Zc BK332.out 0).trans rfl
    have hcz12_1 : wr.cell? ⟨gb332, 1, none⟩ = some (.slice A0_1 l0_1.length c0_1) := (Zc BK332.out 1).trans rfl
    have hcz12_2 : wr.cell? ⟨gb332, 2, none⟩ = some (.slice A0_2 l0_2.length c0_2) := (Zc BK332.out 2).trans rfl
    have hcz12_3 : wr.cell? ⟨gb332, 3, none⟩ = some (.slice A0_3 l0_3.length c0_3) := (Zc BK332.out 3).trans rfl
    have hcz12_4 : wr.cell? ⟨gb332, 4, none⟩ = some (.slice A0_4 l0_4.length c0_4) := (Zc BK332.out 4).trans rfl
    have hfz12_0 := Zb BK332.out 0
    have hfz12_1 := Zb BK332.out 1
    have hfz12_2 := Zb BK332.out 2
    have hfz12_3 := Zb BK332.out 3
    have hfz12_4 := Zb BK332.out 4
    go_wp2
    go_loopg [5, 29] k1 (fun kq v5 v29 w' => ∃ (x5_2 : List Int) (x29_2 : Int), v29 = .int .i64 x29_2 ∧ Za (Zv.l1 kq l1 x4_1 x5_2 l0_2 (l0_2.length : Int) x29_2 l0_0 l0_1 l0_2 l0_3 l0_4 = some (r1, r2)) ∧ Za (kq ≤ k1) ∧ Za (Kd.R (Kd.int .u64) 78 w' w.heap.size (fun k_ => some k_ ≠ (v5 : Value).ownBlock) u4 x4_1) ∧ Za (Kd.R (Kd.int .u64) 78 w' w.heap.size (fun k_ => some k_ ≠ (u4 : Value).ownBlock) v5 x5_2) ∧ Za (w'.heap[gb332]? = some (.cells #[(.slice A0_0 l0_0.length c0_0), (.slice A0_1 l0_1.length c0_1), (.slice A0_2 l0_2.length c0_2), (.slice A0_3 l0_3.length c0_3), (.slice A0_4 l0_4.length c0_4)] 27 (0, 0))) ∧ Za (Below w.heap.size w w'))
    case atStart => exact ⟨(([] : List Int)), (0), (by first | rfl | (simp; done) | (simp [*]; done)), H', ⟨Nat.le_refl _⟩, ⟨by (with_reducible repeat (first | apply Kd.R_alloc | apply Kd.Zy | apply Kd.Xg)); exact Kd.Xh HO_4.out (fun _ hk => (by simp [Value.ownBlock]))⟩, ⟨by first | exact Kd.R_nil _ _ _ _ _ | exact Kd.N_nil _ _ _ _ _ | exact Kd.V_nil _ _ _ _ _ | exact Kd.Q_nil _ _ _ _ _ | exact Kd.S_nil _ _ _ _ _⟩, ⟨BK332.out⟩, ⟨HB.out⟩⟩
    case round =>
     clear H'
     try clear c5b0
     try clear hcz12_0
     try clear hcz12_1
     try clear hcz12_2
     try clear hcz12_3
     try clear hcz12_4
     try clear hfz12_0
     try clear hfz12_1
     try clear hfz12_2
     try clear hfz12_3
     try clear hfz12_4
     obtain ⟨x5_2, x29_2, rfl, HA, HK2, HO_4, HO_5, BK332, HB⟩ := hrel
     cases gk with
     | zero => exact absurd HA.out (by simp [Zv.l1])
     | succ k2 =>
      have H := HA.out
      clear HA
      simp only [Zv.l1] at H
      by_cases c13 : x29_2 < (l0_2.length : Int)
      ·rw [if_pos c13] at H
       have c13b0 : decide (x29_2 < (l0_2.length : Int)) = true := decide_eq_true c13
       clear c13
       by_cases c14 : 0 ≤ x29_2
       ·rw [if_pos c14] at H
        have c14b0 : decide (0 ≤ x29_2) = true := decide_eq_true c14
        clear c14
        by_cases c15 : x29_2 < (l0_2.length : Int)
        ·rw [if_pos c15] at H
         have c15b0 : decide (x29_2 < (l0_2.length : Int)) = true := decide_eq_true c15
         clear c15
         obtain ⟨ji16, hji16⟩ : ∃ j_ : Int, (wrap64 ((wrap64 (2 + (l0_0.length : Int))) + x29_2)) = j_ := ⟨_, rfl⟩
         replace H : (if 0 ≤ (ji16) then (if (ji16) < (l1.length : Int) then (if 0 ≤ ((Xa l0_2 x29_2).f3) then (if ((Xa l0_2 x29_2).f3) < (l1.length : Int) then (if 0 ≤ ((Xa l0_2 x29_2).f2) then (if ((Xa l0_2 x29_2).f2) < (l1.length : Int) then (if x5_2.length < 17592186044416 then (Zv.l1 k2 l1 x4_1 (x5_2 ++ [Go.bits .or .u64 (Go.bits .and .u64 (rd l1 ((Xa l0_2 x29_2).f3)) (rd l1 ((Xa l0_2 x29_2).f2))) (Go.bits .and .u64 (Go.bits .xor .u64 18446744073709551615 (rd l1 ((Xa l0_2 x29_2).f3))) (rd l1 (ji16)))]) l0_2 (l0_2.length : Int) (wrap64 (x29_2 + 1)) l0_0 l0_1 l0_2 l0_3 l0_4) else (none)) else (none)) else (none)) else (none)) else (none)) else (none)) else (none)) = some (r1, r2) := by first | (rw [hji16] at H; exact H) | (simp only [hji16] at H ⊢; exact H)
         have hji16w : (IntKind.i64.wrap ((wrap64 (2 + (l0_0.length : Int))) + x29_2)) = ji16 := (Qb _).trans hji16
         by_cases c17 : 0 ≤ (ji16)
         ·rw [if_pos c17] at H
          have c17b0 : decide (0 ≤ (ji16)) = true := decide_eq_true c17
          clear c17
          by_cases c18 : (ji16) < (l1.length : Int)
          ·rw [if_pos c18] at H
           have c18b0 : decide ((ji16) < (l1.length : Int)) = true := decide_eq_true c18
           clear c18
           by_cases c19 : 0 ≤ ((Xa l0_2 x29_2).f3)
           ·rw [if_pos c19] at H
            have c19b0 : decide (0 ≤ ((Xa l0_2 x29_2).f3)) = true := decide_eq_true c19
            clear c19
            by_cases c20 : ((Xa l0_2 x29_2).f3) < (l1.length : Int)
            ·rw [if_pos c20] at H
             have c20b0 : decide (((Xa l0_2 x29_2).f3) < (l1.length : Int)) = true := decide_eq_true c20
             clear c20
             by_cases c21 : 0 ≤ ((Xa l0_2 x29_2).f2)
             ·rw [if_pos c21] at H
              have c21b0 : decide (0 ≤ ((Xa l0_2 x29_2).f2)) = true := decide_eq_true c21
              clear c21
              by_cases c22 : ((Xa l0_2 x29_2).f2) < (l1.length : Int)
              ·rw [if_pos c22] at H
               have c22b0 : decide (((Xa l0_2 x29_2).f2) < (l1.length : Int)) = true := decide_eq_true c22
               clear c22
               by_cases c23 : x5_2.length < 17592186044416
               ·rw [if_pos c23] at H
                have LMc23 := Za.mk c23
                clear c23
                obtain ⟨y344, hy344⟩ : ∃ y_ : List Int, y_ = (x5_2 ++ [Go.bits .or .u64 (Go.bits .and .u64 (rd l1 ((Xa l0_2 x29_2).f3)) (rd l1 ((Xa l0_2 x29_2).f2))) (Go.bits .and .u64 (Go.bits .xor .u64 18446744073709551615 (rd l1 ((Xa l0_2 x29_2).f3))) (rd l1 (ji16)))]) := ⟨_, rfl⟩
                replace H : (Zv.l1 k2 l1 x4_1 y344 l0_2 (l0_2.length : Int) (wrap64 (x29_2 + 1)) l0_0 l0_1 l0_2 l0_3 l0_4) = some (r1, r2) := by first | (rw [hy344]; with_reducible exact H) | (have H2_ := (Option.bind_some _ _).symm.trans H; rw [hy344]; with_reducible exact H2_) | (have H2_ := (Option.bind_some _ _).symm.trans H; with_reducible exact H2_) | with_reducible exact H | (rw [hy344]; exact H) | exact H
                have Ny344 := Za.mk hy344
                clear hy344
                have H' := Za.mk H
                clear H
                have p338 : 0 ≤ (x29_2 : Int) := of_decide_eq_true (by first | (with_reducible assumption) | assumption)
                have q338 : x29_2 < (l0_2.length : Int) := of_decide_eq_true (by first | (with_reducible assumption) | assumption)
                obtain ⟨ad338, e338, hx338_0, hx338_1, hx338_2, hx338_3, hx338_4⟩ := at_T82 HR0_2.out x29_2 p338 q338
                cases e338
                replace hx338_0 := (HB.out.cell (World.block_lt_of_cell? w _ hx338_0)).trans hx338_0
                replace hx338_1 := (HB.out.cell (World.block_lt_of_cell? w _ hx338_1)).trans hx338_1
                replace hx338_2 := (HB.out.cell (World.block_lt_of_cell? w _ hx338_2)).trans hx338_2
                replace hx338_3 := (HB.out.cell (World.block_lt_of_cell? w _ hx338_3)).trans hx338_3
                replace hx338_4 := (HB.out.cell (World.block_lt_of_cell? w _ hx338_4)).trans hx338_4
                replace p338 := eq_true p338
                replace q338 := eq_true q338
                try go_wp2_with (((with_reducible refine Xl (N := 9) rfl ?_); refine Xr ?hg (N := 9) ?hd (cs := #[.string (⟨#[]⟩ : ByteArray), .int .i64 0, .int .i64 0, .int .i64 0, .bool false]) (t := 82) ?hr ?_; (case hd => rfl); (case hg => rfl); (case hr => first | (go_simp; done) | (go_simp; rfl)); intro gb339 hg w24 hbox hb; have n0_ := Za.mk (Kd.Zp HO_4.out hb); have n1_ := Za.mk (Kd.Zp HO_5.out hb); have n2_ := Za.mk (Zq BK332.out hb); have n3_ := Za.mk (Zn HB.out hb); have n4_ := Za.mk (hbox); have n5_ := Za.mk ((by rw [hg]; exact (Zm HB.out) : w.heap.size ≤ gb339)); have n6_ := n5_; have n7_ := Za.mk ((by rw [hg]; exact Nat.ne_of_lt (Xx BK332.out) : gb332 ≠ gb339)); have n8_ := Za.mk ((by rw [hg]; exact Nat.ne_of_gt (Xx BK332.out) : gb339 ≠ gb332)); clear HO_4; clear HO_5; clear BK332; clear HB; have HO_4 := n0_; have HO_5 := n1_; have BK332 := n2_; have HB := n3_; have BK339 := n4_; have GW339 := n5_; have GE339 := n6_; have NB332_339 := n7_; have NB339_332 := n8_; clear n0_ n1_ n2_ n3_ n4_ n5_ n6_ n7_ n8_; clear hb hbox hg; have hnb25 := NB339_332.out; have hnc25 := NB332_339.out; have hcz26_0 : w24.cell? ⟨gb339, 0, none⟩ = some (.string (⟨#[]⟩ : ByteArray)) := (Zc BK339.out 0).trans rfl; have hcz26_1 : w24.cell? ⟨gb339, 1, none⟩ = some (.int .i64 0) := (Zc BK339.out 1).trans rfl; have hcz26_2 : w24.cell? ⟨gb339, 2, none⟩ = some (.int .i64 0) := (Zc BK339.out 2).trans rfl; have hcz26_3 : w24.cell? ⟨gb339, 3, none⟩ = some (.int .i64 0) := (Zc BK339.out 3).trans rfl; have hcz26_4 : w24.cell? ⟨gb339, 4, none⟩ = some (.bool false) := (Zc BK339.out 4).trans rfl; have hfz26_0 := Zb BK339.out 0; have hfz26_1 := Zb BK339.out 1; have hfz26_2 := Zb BK339.out 2; have hfz26_3 := Zb BK339.out 3; have hfz26_4 := Zb BK339.out 4; have hcz27_0 : w24.cell? ⟨gb332, 0, none⟩ = some (.slice A0_0 l0_0.length c0_0) := (Zc BK332.out 0).trans rfl; have hcz27_1 : w24.cell? ⟨gb332, 1, none⟩ = some (.slice A0_1 l0_1.length c0_1) := (Zc BK332.out 1).trans rfl; have hcz27_2 : w24.cell? ⟨gb332, 2, none⟩ = some (.slice (some ad338) l0_2.length c0_2) := (Zc BK332.out 2).trans rfl; have hcz27_3 : w24.cell? ⟨gb332, 3, none⟩ = some (.slice A0_3 l0_3.length c0_3) := (Zc BK332.out 3).trans rfl; have hcz27_4 : w24.cell? ⟨gb332, 4, none⟩ = some (.slice A0_4 l0_4.length c0_4) := (Zc BK332.out 4).trans rfl; have hfz27_0 := Zb BK332.out 0; have hfz27_1 := Zb BK332.out 1; have hfz27_2 := Zb BK332.out 2; have hfz27_3 := Zb BK332.out 3; have hfz27_4 := Zb BK332.out 4; have p340 : 0 ≤ ((ji16) : Int) := of_decide_eq_true (by first | (with_reducible assumption) | assumption); have q340 : (ji16) < (l1.length : Int) := of_decide_eq_true (by first | (with_reducible assumption) | assumption); obtain ⟨ad340, e340, hx340_0⟩ := Kd.at_int HR1.out (ji16) p340 q340; cases e340; have hn340_0 : ad340.block ≠ gb339 := Nat.ne_of_lt (Nat.lt_of_lt_of_le (by have := World.block_lt_of_cell? _ _ hx340_0; first | rwa [add_block] at this | exact this) GW339.out); have hn340_1 : ad340.block ≠ gb339 := Nat.ne_of_lt (Nat.lt_of_lt_of_le (by have := World.block_lt_of_cell? _ _ hx340_0; first | rwa [add_block] at this | exact this) GW339.out); have hn340_2 : ad340.block ≠ gb339 := Nat.ne_of_lt (Nat.lt_of_lt_of_le (by have := World.block_lt_of_cell? _ _ hx340_0; first | rwa [add_block] at this | exact this) GW339.out); have hn340_3 : ad340.block ≠ gb339 := Nat.ne_of_lt (Nat.lt_of_lt_of_le (by have := World.block_lt_of_cell? _ _ hx340_0; first | rwa [add_block] at this | exact this) GW339.out); have hn340_4 : ad340.block ≠ gb339 := Nat.ne_of_lt (Nat.lt_of_lt_of_le (by have := World.block_lt_of_cell? _ _ hx340_0; first | rwa [add_block] at this | exact this) GW339.out); replace hx340_0 := (HB.out.cell (World.block_lt_of_cell? w _ hx340_0)).trans hx340_0; replace hx340_0 := (cell_far (p := ⟨gb339, 0, none⟩) (by first | (rw [add_block]; exact hn340_0) | (show (Addr.add _ _).block ≠ _; rw [add_block]; exact hn340_0) | exact hn340_0) (.string ((Xa l0_2 x29_2).f0))).trans hx340_0; replace hx340_0 := (cell_far (p := ⟨gb339, 1, none⟩) (by first | (rw [add_block]; exact hn340_1) | (show (Addr.add _ _).block ≠ _; rw [add_block]; exact hn340_1) | exact hn340_1) (.int .i64 ((Xa l0_2 x29_2).f1))).trans hx340_0; replace hx340_0 := (cell_far (p := ⟨gb339, 2, none⟩) (by first | (rw [add_block]; exact hn340_2) | (show (Addr.add _ _).block ≠ _; rw [add_block]; exact hn340_2) | exact hn340_2) (.int .i64 ((Xa l0_2 x29_2).f2))).trans hx340_0; replace hx340_0 := (cell_far (p := ⟨gb339, 3, none⟩) (by first | (rw [add_block]; exact hn340_3) | (show (Addr.add _ _).block ≠ _; rw [add_block]; exact hn340_3) | exact hn340_3) (.int .i64 ((Xa l0_2 x29_2).f3))).trans hx340_0; replace hx340_0 := (cell_far (p := ⟨gb339, 4, none⟩) (by first | (rw [add_block]; exact hn340_4) | (show (Addr.add _ _).block ≠ _; rw [add_block]; exact hn340_4) | exact hn340_4) (.bool ((Xa l0_2 x29_2).f4))).trans hx340_0; clear hn340_0; clear hn340_1; clear hn340_2; clear hn340_3; clear hn340_4; replace p340 := eq_true p340; replace q340 := eq_true q340))
                have n0_ : Za (Kd.R (Kd.int .u64) 78 (((((w24.setCell ⟨gb339, 0, none⟩ (.string ((Xa l0_2 x29_2).f0))).setCell ⟨gb339, 1, none⟩ (.int .i64 ((Xa l0_2 x29_2).f1))).setCell ⟨gb339, 2, none⟩ (.int .i64 ((Xa l0_2 x29_2).f2))).setCell ⟨gb339, 3, none⟩ (.int .i64 ((Xa l0_2 x29_2).f3))).setCell ⟨gb339, 4, none⟩ (.bool ((Xa l0_2 x29_2).f4))) w.heap.size (fun k_ => some k_ ≠ (u5 : Value).ownBlock) u4 x4_1) := ⟨by (with_reducible repeat (first | apply Kd.R_alloc | apply Kd.Zy | apply Kd.Xg)); exact Kd.Xh (Kd.Xb (p := ⟨gb339, 4, none⟩) (Kd.Xb (p := ⟨gb339, 3, none⟩) (Kd.Xb (p := ⟨gb339, 2, none⟩) (Kd.Xb (p := ⟨gb339, 1, none⟩) (Kd.Xb (p := ⟨gb339, 0, none⟩) (Kd.Xv HO_4.out BK339.out (by decide)) (fun _ hk => hk.2) (.string ((Xa l0_2 x29_2).f0))) (fun _ hk => hk.2) (.int .i64 ((Xa l0_2 x29_2).f1))) (fun _ hk => hk.2) (.int .i64 ((Xa l0_2 x29_2).f2))) (fun _ hk => hk.2) (.int .i64 ((Xa l0_2 x29_2).f3))) (fun _ hk => hk.2) (.bool ((Xa l0_2 x29_2).f4))) (fun _ hk => hk.1)⟩
                have n1_ : Za (Kd.R (Kd.int .u64) 78 (((((w24.setCell ⟨gb339, 0, none⟩ (.string ((Xa l0_2 x29_2).f0))).setCell ⟨gb339, 1, none⟩ (.int .i64 ((Xa l0_2 x29_2).f1))).setCell ⟨gb339, 2, none⟩ (.int .i64 ((Xa l0_2 x29_2).f2))).setCell ⟨gb339, 3, none⟩ (.int .i64 ((Xa l0_2 x29_2).f3))).setCell ⟨gb339, 4, none⟩ (.bool ((Xa l0_2 x29_2).f4))) w.heap.size (fun k_ => some k_ ≠ (u4 : Value).ownBlock) u5 x5_2) := ⟨by (with_reducible repeat (first | apply Kd.R_alloc | apply Kd.Zy | apply Kd.Xg)); exact Kd.Xh (Kd.Xb (p := ⟨gb339, 4, none⟩) (Kd.Xb (p := ⟨gb339, 3, none⟩) (Kd.Xb (p := ⟨gb339, 2, none⟩) (Kd.Xb (p := ⟨gb339, 1, none⟩) (Kd.Xb (p := ⟨gb339, 0, none⟩) (Kd.Xv HO_5.out BK339.out (by decide)) (fun _ hk => hk.2) (.string ((Xa l0_2 x29_2).f0))) (fun _ hk => hk.2) (.int .i64 ((Xa l0_2 x29_2).f1))) (fun _ hk => hk.2) (.int .i64 ((Xa l0_2 x29_2).f2))) (fun _ hk => hk.2) (.int .i64 ((Xa l0_2 x29_2).f3))) (fun _ hk => hk.2) (.bool ((Xa l0_2 x29_2).f4))) (fun _ hk => hk.1)⟩
                have n2_ : Za ((((((w24.setCell ⟨gb339, 0, none⟩ (.string ((Xa l0_2 x29_2).f0))).setCell ⟨gb339, 1, none⟩ (.int .i64 ((Xa l0_2 x29_2).f1))).setCell ⟨gb339, 2, none⟩ (.int .i64 ((Xa l0_2 x29_2).f2))).setCell ⟨gb339, 3, none⟩ (.int .i64 ((Xa l0_2 x29_2).f3))).setCell ⟨gb339, 4, none⟩ (.bool ((Xa l0_2 x29_2).f4))).heap[gb332]? = some (.cells #[.slice A0_0 l0_0.length c0_0, .slice A0_1 l0_1.length c0_1, .slice (some ad338) l0_2.length c0_2, .slice A0_3 l0_3.length c0_3, .slice A0_4 l0_4.length c0_4] 27 (0, 0))) := ⟨by (with_reducible repeat (first | refine Zg ?_ _ | refine Zi ?_ | refine Zf ?_ _)); refine Xp ?_ NB332_339.out _; (with_reducible repeat (first | refine Zg ?_ _ | refine Zi ?_ | refine Zf ?_ _)); refine Xp ?_ NB332_339.out _; (with_reducible repeat (first | refine Zg ?_ _ | refine Zi ?_ | refine Zf ?_ _)); refine Xp ?_ NB332_339.out _; (with_reducible repeat (first | refine Zg ?_ _ | refine Zi ?_ | refine Zf ?_ _)); refine Xp ?_ NB332_339.out _; (with_reducible repeat (first | refine Zg ?_ _ | refine Zi ?_ | refine Zf ?_ _)); refine Xp ?_ NB332_339.out _; (with_reducible repeat (first | refine Zg ?_ _ | refine Zi ?_ | refine Zf ?_ _)); exact BK332.out⟩
                have n3_ : Za ((((((w24.setCell ⟨gb339, 0, none⟩ (.string ((Xa l0_2 x29_2).f0))).setCell ⟨gb339, 1, none⟩ (.int .i64 ((Xa l0_2 x29_2).f1))).setCell ⟨gb339, 2, none⟩ (.int .i64 ((Xa l0_2 x29_2).f2))).setCell ⟨gb339, 3, none⟩ (.int .i64 ((Xa l0_2 x29_2).f3))).setCell ⟨gb339, 4, none⟩ (.bool ((Xa l0_2 x29_2).f4))).heap[gb339]? = some (.cells #[.string ((Xa l0_2 x29_2).f0), .int .i64 ((Xa l0_2 x29_2).f1), .int .i64 ((Xa l0_2 x29_2).f2), .int .i64 ((Xa l0_2 x29_2).f3), .bool ((Xa l0_2 x29_2).f4)] 82 (0, 0))) := ⟨by (with_reducible repeat (first | refine Zg ?_ _ | refine Zi ?_ | refine Zf ?_ _)); refine Qa (cs := #[.string ((Xa l0_2 x29_2).f0), .int .i64 ((Xa l0_2 x29_2).f1), .int .i64 ((Xa l0_2 x29_2).f2), .int .i64 ((Xa l0_2 x29_2).f3), .bool false]) ?_ 4 _ rfl; (with_reducible repeat (first | refine Zg ?_ _ | refine Zi ?_ | refine Zf ?_ _)); refine Qa (cs := #[.string ((Xa l0_2 x29_2).f0), .int .i64 ((Xa l0_2 x29_2).f1), .int .i64 ((Xa l0_2 x29_2).f2), .int .i64 0, .bool false]) ?_ 3 _ rfl; (with_reducible repeat (first | refine Zg ?_ _ | refine Zi ?_ | refine Zf ?_ _)); refine Qa (cs := #[.string ((Xa l0_2 x29_2).f0), .int .i64 ((Xa l0_2 x29_2).f1), .int .i64 0, .int .i64 0, .bool false]) ?_ 2 _ rfl; (with_reducible repeat (first | refine Zg ?_ _ | refine Zi ?_ | refine Zf ?_ _)); refine Qa (cs := #[.string ((Xa l0_2 x29_2).f0), .int .i64 0, .int .i64 0, .int .i64 0, .bool false]) ?_ 1 _ rfl; (with_reducible repeat (first | refine Zg ?_ _ | refine Zi ?_ | refine Zf ?_ _)); refine Qa (cs := #[.string (⟨#[]⟩ : ByteArray), .int .i64 0, .int .i64 0, .int .i64 0, .bool false]) ?_ 0 _ rfl; (with_reducible repeat (first | refine Zg ?_ _ | refine Zi ?_ | refine Zf ?_ _)); exact BK339.out⟩
                have n4_ : Za (Below w.heap.size w (((((w24.setCell ⟨gb339, 0, none⟩ (.string ((Xa l0_2 x29_2).f0))).setCell ⟨gb339, 1, none⟩ (.int .i64 ((Xa l0_2 x29_2).f1))).setCell ⟨gb339, 2, none⟩ (.int .i64 ((Xa l0_2 x29_2).f2))).setCell ⟨gb339, 3, none⟩ (.int .i64 ((Xa l0_2 x29_2).f3))).setCell ⟨gb339, 4, none⟩ (.bool ((Xa l0_2 x29_2).f4)))) := ⟨by repeat (first | (with_reducible first | exact HB.out | apply Zl | apply Zj | apply Zo | refine Zh ?_ GE332.out | refine Zh ?_ GE339.out) | exact HB.out)⟩
                (try clear HO_4)
                (try clear HO_5)
                (try clear BK332)
                (try clear BK339)
                (try clear HB)
                generalize (((((w24.setCell ⟨gb339, 0, none⟩ (.string ((Xa l0_2 x29_2).f0))).setCell ⟨gb339, 1, none⟩ (.int .i64 ((Xa l0_2 x29_2).f1))).setCell ⟨gb339, 2, none⟩ (.int .i64 ((Xa l0_2 x29_2).f2))).setCell ⟨gb339, 3, none⟩ (.int .i64 ((Xa l0_2 x29_2).f3))).setCell ⟨gb339, 4, none⟩ (.bool ((Xa l0_2 x29_2).f4))) = w28 at n0_ n1_ n2_ n3_ n4_ ⊢
                have HO_4 := n0_
                have HO_5 := n1_
                have BK332 := n2_
                have BK339 := n3_
                have HB := n4_
                clear n0_ n1_ n2_ n3_ n4_
                have n0_ := Za.mk (Kd.Xg HO_4.out)
                have n1_ := Za.mk (Kd.Xg HO_5.out)
                have n2_ := Za.mk (Zi BK332.out)
                have n3_ := Za.mk (Zi BK339.out)
                have n4_ := Za.mk (Zo HB.out)
                clear HO_4
                clear HO_5
                clear BK332
                clear BK339
                clear HB
                have HO_4 := n0_
                have HO_5 := n1_
                have BK332 := n2_
                have BK339 := n3_
                have HB := n4_
                clear n0_ n1_ n2_ n3_ n4_
                have p341 : 0 ≤ (((Xa l0_2 x29_2).f3) : Int) := of_decide_eq_true (by first | (with_reducible assumption) | assumption)
                have q341 : ((Xa l0_2 x29_2).f3) < (l1.length : Int) := of_decide_eq_true (by first | (with_reducible assumption) | assumption)
                obtain ⟨ad341, e341, hx341_0⟩ := Kd.at_int HR1.out ((Xa l0_2 x29_2).f3) p341 q341
                have hw341_0 := hx341_0
                obtain rfl : ad340 = ad341 := (by injection e341)
                replace hx341_0 := (HB.out.cell (World.block_lt_of_cell? w _ hx341_0)).trans hx341_0
                replace p341 := eq_true p341
                replace q341 := eq_true q341
                have p342 : 0 ≤ (((Xa l0_2 x29_2).f2) : Int) := of_decide_eq_true (by first | (with_reducible assumption) | assumption)
                have q342 : ((Xa l0_2 x29_2).f2) < (l1.length : Int) := of_decide_eq_true (by first | (with_reducible assumption) | assumption)
                obtain ⟨ad342, e342, hx342_0⟩ := Kd.at_int HR1.out ((Xa l0_2 x29_2).f2) p342 q342
                have hw342_0 := hx342_0
                obtain rfl : ad340 = ad342 := (by injection e342)
                replace hx342_0 := (HB.out.cell (World.block_lt_of_cell? w _ hx342_0)).trans hx342_0
                replace p342 := eq_true p342
                replace q342 := eq_true q342
                have p343 : 0 ≤ (((Xa l0_2 x29_2).f3) : Int) := of_decide_eq_true (by first | (with_reducible assumption) | assumption)
                have q343 : ((Xa l0_2 x29_2).f3) < (l1.length : Int) := of_decide_eq_true (by first | (with_reducible assumption) | assumption)
                obtain ⟨ad343, e343, hx343_0⟩ := Kd.at_int HR1.out ((Xa l0_2 x29_2).f3) p343 q343
                have hw343_0 := hx343_0
                obtain rfl : ad340 = ad343 := (by injection e343)
                replace hx343_0 := (HB.out.cell (World.block_lt_of_cell? w _ hx343_0)).trans hx343_0
                replace p343 := eq_true p343
                replace q343 := eq_true q343
                refine start_ (n := 24) (S := fun w' => w'.cell? ⟨gb339, 0, none⟩ = some (.string ((Xa l0_2 x29_2).f0)) ∧ w'.cell? ⟨gb339, 1, none⟩ = some (.int .i64 ((Xa l0_2 x29_2).f1)) ∧ w'.cell? ⟨gb339, 2, none⟩ = some (.int .i64 ((Xa l0_2 x29_2).f2)) ∧ w'.cell? ⟨gb339, 3, none⟩ = some (.int .i64 ((Xa l0_2 x29_2).f3)) ∧ w'.cell? ⟨gb339, 4, none⟩ = some (.bool ((Xa l0_2 x29_2).f4)) ∧ w'.cell? (ad340.add (((Xa l0_2 x29_2).f3)).toNat) = some (.int .u64 (rd l1 ((Xa l0_2 x29_2).f3))) ∧ w'.cell? (ad340.add (((Xa l0_2 x29_2).f2)).toNat) = some (.int .u64 (rd l1 ((Xa l0_2 x29_2).f2))) ∧ w'.cell? (ad340.add (((Xa l0_2 x29_2).f3)).toNat) = some (.int .u64 (rd l1 ((Xa l0_2 x29_2).f3)))) (ds := []) #[false, false, false, false, false, false, false, false, false, false, false, false, false, false, false, false, false, false, false, false, false, false, false, false] (by kernel_rfl) rfl rfl ⟨(Zc BK339.out 0).trans rfl, (Zc BK339.out 1).trans rfl, (Zc BK339.out 2).trans rfl, (Zc BK339.out 3).trans rfl, (Zc BK339.out 4).trans rfl, ((HB.out.cell (World.block_lt_of_cell? w _ hw341_0)).trans hw341_0), ((HB.out.cell (World.block_lt_of_cell? w _ hw342_0)).trans hw342_0), ((HB.out.cell (World.block_lt_of_cell? w _ hw343_0)).trans hw343_0)⟩ (fun hHeld => ?_); refine with_tabW Zv.tab10 Zv.bits10 (fun HT_ HW_ => ?_)
                generalize w28.drew = w29 at HO_4 HO_5 BK332 BK339 HB hx341_0 hx342_0 hx343_0 hHeld ⊢
                refine Kq (i := 0) (N := some 43) (v := ?_) (a' := ?_) #[true, false, false, false, false, false, false, false, false, false, false, false, false, false, false, false, false, false, false, false, false, false, false, false] rfl rfl (Qs HT_.out (by kernel_rfl)) (fun _ _ _ h => h) (Or.inl ⟨by rfl, ?_⟩) ?_ ?_
                rotate_left
                ·intro w'
                 go_simp
                 with_reducible rfl
                rotate_left
                ·simp only [Act.put, List.setIfInBounds_toArray, List.set_cons_zero, List.set_cons_succ, Qb, Qc]
                 rfl
                refine Kq (i := 1) (N := some 44) (v := ?_) (a' := ?_) #[true, true, false, false, false, false, false, false, false, false, false, false, false, false, false, false, false, false, false, false, false, false, false, false] rfl rfl (Qs HT_.out (by kernel_rfl)) (fun _ _ _ h => h) (Or.inl ⟨by rfl, ?_⟩) ?_ ?_
                rotate_left
                ·intro w'
                 go_simp
                 with_reducible rfl
                rotate_left
                ·simp only [Act.put, List.setIfInBounds_toArray, List.set_cons_zero, List.set_cons_succ, Qb, Qc]
                 rfl
                refine Kq (i := 2) (N := some 45) (v := ?_) (a' := ?_) #[true, true, true, false, false, false, false, false, false, false, false, false, false, false, false, false, false, false, false, false, false, false, false, false] rfl rfl (Qs HT_.out (by kernel_rfl)) (fun _ _ _ h => h) (Or.inl ⟨by rfl, ?_⟩) ?_ ?_
                rotate_left
                ·intro w'
                 go_simp
                 with_reducible rfl
                rotate_left
                ·simp only [Act.put, List.setIfInBounds_toArray, List.set_cons_zero, List.set_cons_succ, Qb, Qc]
                 rfl
                refine Kq (i := 6) (N := some 49) (v := ?_) (a' := ?_) #[true, true, true, false, false, false, true, false, false, false, false, false, false, false, false, false, false, false, false, false, false, false, false, false] rfl rfl (Qs HT_.out (by kernel_rfl)) (fun _ _ _ h => h) (Or.inl ⟨by rfl, ?_⟩) ?_ ?_
                rotate_left
                ·intro w'
                 go_simp
                 with_reducible rfl
                rotate_left
                ·simp only [Act.put, List.setIfInBounds_toArray, List.set_cons_zero, List.set_cons_succ, Qb, Qc]
                 rfl
                refine Kq (i := 7) (N := some 50) (v := ?_) (a' := ?_) #[true, true, true, false, false, false, true, true, false, false, false, false, false, false, false, false, false, false, false, false, false, false, false, false] rfl rfl (Qs HT_.out (by kernel_rfl)) (fun _ _ _ h => h) (Or.inl ⟨by rfl, ?_⟩) ?_ ?_
                rotate_left
                ·intro w'
                 go_simp
                 with_reducible rfl
                rotate_left
                ·simp only [Act.put, List.setIfInBounds_toArray, List.set_cons_zero, List.set_cons_succ, Qb, Qc]
                 rfl
                refine Kq (i := 12) (N := some 55) (v := ?_) (a' := ?_) #[true, true, true, false, false, false, true, true, false, false, false, false, true, false, false, false, false, false, false, false, false, false, false, false] rfl rfl (Qs HT_.out (by kernel_rfl)) (fun _ _ _ h => h) (Or.inl ⟨by rfl, ?_⟩) ?_ ?_
                rotate_left
                ·intro w'
                 go_simp
                 with_reducible rfl
                rotate_left
                ·simp only [Act.put, List.setIfInBounds_toArray, List.set_cons_zero, List.set_cons_succ, Qb, Qc]
                 rfl
                refine Kq (i := 13) (N := some 56) (v := ?_) (a' := ?_) #[true, true, true, false, false, false, true, true, false, false, false, false, true, true, false, false, false, false, false, false, false, false, false, false] rfl rfl (Qs HT_.out (by kernel_rfl)) (fun _ _ _ h => h) (Or.inl ⟨by rfl, ?_⟩) ?_ ?_
                rotate_left
                ·intro w'
                 go_simp
                 with_reducible rfl
                rotate_left
                ·simp only [Act.put, List.setIfInBounds_toArray, List.set_cons_zero, List.set_cons_succ, Qb, Qc]
                 rfl
                refine Kq (i := 18) (N := some 61) (v := ?_) (a' := ?_) #[true, true, true, false, false, false, true, true, false, false, false, false, true, true, false, false, false, false, true, false, false, false, false, false] rfl rfl (Qs HT_.out (by kernel_rfl)) (fun _ _ _ h => h) (Or.inl ⟨by rfl, ?_⟩) ?_ ?_
                rotate_left
                ·intro w'
                 go_simp
                 with_reducible rfl
                rotate_left
                ·simp only [Act.put, List.setIfInBounds_toArray, List.set_cons_zero, List.set_cons_succ, Qb, Qc]
                 rfl
                refine take_ (i := 3) (N := some 46) (v := ?_) (a' := ?_) #[true, true, true, true, false, false, true, true, false, false, false, false, true, true, false, false, false, false, true, false, false, false, false, false] rfl rfl (take_ofW HT_.out HW_.out (by kernel_rfl)) (fun _ _ _ h => h) (Or.inl ⟨by rfl, ?_⟩) hHeld ?_ ?_
                rotate_left
                ·rintro w' ⟨s0, s1, s2, s3, s4, s5, s6, s7⟩
                 go_simp
                 with_reducible rfl
                rotate_left
                ·simp only [Act.put, List.setIfInBounds_toArray, List.set_cons_zero, List.set_cons_succ, Qb, Qc]
                 rfl
                refine Kq (i := 4) (N := some 47) (v := ?_) (a' := ?_) #[true, true, true, true, true, false, true, true, false, false, false, false, true, true, false, false, false, false, true, false, false, false, false, false] rfl rfl (Qs HT_.out (by kernel_rfl)) (fun _ _ _ h => h) (Or.inl ⟨by rfl, ?_⟩) ?_ ?_
                rotate_left
                ·intro w'
                 go_simp
                 with_reducible rfl
                rotate_left
                ·simp only [Act.put, List.setIfInBounds_toArray, List.set_cons_zero, List.set_cons_succ, Qb, Qc]
                 rfl
                refine take_ (i := 5) (N := some 48) (v := ?_) (a' := ?_) #[true, true, true, true, true, true, true, true, false, false, false, false, true, true, false, false, false, false, true, false, false, false, false, false] rfl rfl (take_ofW HT_.out HW_.out (by kernel_rfl)) (fun _ _ _ h => h) (Or.inl ⟨by rfl, ?_⟩) hHeld ?_ ?_
                rotate_left
                ·rintro w' ⟨s0, s1, s2, s3, s4, s5, s6, s7⟩
                 go_simp
                 with_reducible rfl
                rotate_left
                ·simp only [Act.put, List.setIfInBounds_toArray, List.set_cons_zero, List.set_cons_succ, Qb, Qc]
                 rfl
                refine take_ (i := 8) (N := some 51) (v := ?_) (a' := ?_) #[true, true, true, true, true, true, true, true, true, false, false, false, true, true, false, false, false, false, true, false, false, false, false, false] rfl rfl (take_ofW HT_.out HW_.out (by kernel_rfl)) (fun _ _ _ h => h) (Or.inl ⟨by rfl, ?_⟩) hHeld ?_ ?_
                rotate_left
                ·rintro w' ⟨s0, s1, s2, s3, s4, s5, s6, s7⟩
                 go_simp
                 with_reducible rfl
                rotate_left
                ·simp only [Act.put, List.setIfInBounds_toArray, List.set_cons_zero, List.set_cons_succ, Qb, Qc]
                 rfl
                refine Kq (i := 9) (N := some 52) (v := ?_) (a' := ?_) #[true, true, true, true, true, true, true, true, true, true, false, false, true, true, false, false, false, false, true, false, false, false, false, false] rfl rfl (Qs HT_.out (by kernel_rfl)) (fun _ _ _ h => h) (Or.inl ⟨by rfl, ?_⟩) ?_ ?_
                rotate_left
                ·intro w'
                 go_simp
                 with_reducible rfl
                rotate_left
                ·simp only [Act.put, List.setIfInBounds_toArray, List.set_cons_zero, List.set_cons_succ, Qb, Qc]
                 rfl
                refine take_ (i := 10) (N := some 53) (v := ?_) (a' := ?_) #[true, true, true, true, true, true, true, true, true, true, true, false, true, true, false, false, false, false, true, false, false, false, false, false] rfl rfl (take_ofW HT_.out HW_.out (by kernel_rfl)) (fun _ _ _ h => h) (Or.inl ⟨by rfl, ?_⟩) hHeld ?_ ?_
                rotate_left
                ·rintro w' ⟨s0, s1, s2, s3, s4, s5, s6, s7⟩
                 go_simp
                 with_reducible rfl
                rotate_left
                ·simp only [Act.put, List.setIfInBounds_toArray, List.set_cons_zero, List.set_cons_succ, Qb, Qc]
                 rfl
                refine Kq (i := 11) (N := some 54) (v := ?_) (a' := ?_) #[true, true, true, true, true, true, true, true, true, true, true, true, true, true, false, false, false, false, true, false, false, false, false, false] rfl rfl (Qs HT_.out (by kernel_rfl)) (fun _ _ _ h => h) (Or.inl ⟨by rfl, ?_⟩) ?_ ?_
                rotate_left
                ·intro w'
                 go_simp
                 with_reducible rfl
                rotate_left
                ·simp only [Act.put, List.setIfInBounds_toArray, List.set_cons_zero, List.set_cons_succ, Qb, Qc]
                 rfl
                refine take_ (i := 14) (N := some 57) (v := ?_) (a' := ?_) #[true, true, true, true, true, true, true, true, true, true, true, true, true, true, true, false, false, false, true, false, false, false, false, false] rfl rfl (take_ofW HT_.out HW_.out (by kernel_rfl)) (fun _ _ _ h => h) (Or.inl ⟨by rfl, ?_⟩) hHeld ?_ ?_
                rotate_left
                ·rintro w' ⟨s0, s1, s2, s3, s4, s5, s6, s7⟩
                 go_simp
                 with_reducible rfl
                rotate_left
                ·simp only [Act.put, List.setIfInBounds_toArray, List.set_cons_zero, List.set_cons_succ, Qb, Qc]
                 rfl
                refine Kq (i := 15) (N := some 58) (v := ?_) (a' := ?_) #[true, true, true, true, true, true, true, true, true, true, true, true, true, true, true, true, false, false, true, false, false, false, false, false] rfl rfl (Qs HT_.out (by kernel_rfl)) (fun _ _ _ h => h) (Or.inl ⟨by rfl, ?_⟩) ?_ ?_
                rotate_left
                ·intro w'
                 go_simp
                 with_reducible rfl
                rotate_left
                ·simp only [Act.put, List.setIfInBounds_toArray, List.set_cons_zero, List.set_cons_succ, Qb, Qc]
                 rfl
                refine take_ (i := 16) (N := some 59) (v := ?_) (a' := ?_) #[true, true, true, true, true, true, true, true, true, true, true, true, true, true, true, true, true, false, true, false, false, false, false, false] rfl rfl (take_ofW HT_.out HW_.out (by kernel_rfl)) (fun _ _ _ h => h) (Or.inl ⟨by rfl, ?_⟩) hHeld ?_ ?_
                rotate_left
                ·rintro w' ⟨s0, s1, s2, s3, s4, s5, s6, s7⟩
                 go_simp
                 with_reducible rfl
                rotate_left
                ·simp only [Act.put, List.setIfInBounds_toArray, List.set_cons_zero, List.set_cons_succ, Qb, Qc]
                 rfl
                refine Kq (i := 17) (N := some 60) (v := ?_) (a' := ?_) #[true, true, true, true, true, true, true, true, true, true, true, true, true, true, true, true, true, true, true, false, false, false, false, false] rfl rfl (Qs HT_.out (by kernel_rfl)) (fun _ _ _ h => h) (Or.inl ⟨by rfl, ?_⟩) ?_ ?_
                rotate_left
                ·intro w'
                 go_simp
                 with_reducible rfl
                rotate_left
                ·simp only [Act.put, List.setIfInBounds_toArray, List.set_cons_zero, List.set_cons_succ, Qb, Qc]
                 rfl
                refine Kq (i := 19) (N := some 62) (v := ?_) (a' := ?_) #[true, true, true, true, true, true, true, true, true, true, true, true, true, true, true, true, true, true, true, true, false, false, false, false] rfl rfl (Qs HT_.out (by kernel_rfl)) (fun _ _ _ h => h) (Or.inl ⟨by rfl, ?_⟩) ?_ ?_
                rotate_left
                ·intro w'
                 go_simp
                 with_reducible rfl
                rotate_left
                ·simp only [Act.put, List.setIfInBounds_toArray, List.set_cons_zero, List.set_cons_succ, Qb, Qc]
                 rfl
                refine Kq (i := 20) (N := some 63) (v := ?_) (a' := ?_) #[true, true, true, true, true, true, true, true, true, true, true, true, true, true, true, true, true, true, true, true, true, false, false, false] rfl rfl (Qs HT_.out (by kernel_rfl)) (fun _ _ _ h => h) (Or.inl ⟨by rfl, ?_⟩) ?_ ?_
                rotate_left
                ·intro w'
                 go_simp
                 with_reducible rfl
                rotate_left
                ·simp only [Act.put, List.setIfInBounds_toArray, List.set_cons_zero, List.set_cons_succ, Qb, Qc]
                 rfl
                refine one_ (i := 21) (N := some 64) #[true, true, true, true, true, true, true, true, true, true, true, true, true, true, true, true, true, true, true, true, true, true, false, false] rfl rfl (one_of HT_.out (by kernel_rfl)) (by decide) (fun K hK => ?_)
                refine value_ (w1 := ?_) (v := ?_) (by rfl) rfl ?_ ?_
                rotate_left 2
                ·go_simp
                 constructor
                 ·rfl
                 ·rfl
                refine hK.out _ _ ⟨(Zc (Zf BK339.out _) 0).trans rfl, (Zc (Zf BK339.out _) 1).trans rfl, (Zc (Zf BK339.out _) 2).trans rfl, (Zc (Zf BK339.out _) 3).trans rfl, (Zc (Zf BK339.out _) 4).trans rfl, (World.cell?_alloc_lt _ _ _ (World.block_lt_of_cell? _ _ (((HB.out.cell (World.block_lt_of_cell? w _ hw341_0)).trans hw341_0)))).trans (((HB.out.cell (World.block_lt_of_cell? w _ hw341_0)).trans hw341_0)), (World.cell?_alloc_lt _ _ _ (World.block_lt_of_cell? _ _ (((HB.out.cell (World.block_lt_of_cell? w _ hw342_0)).trans hw342_0)))).trans (((HB.out.cell (World.block_lt_of_cell? w _ hw342_0)).trans hw342_0)), (World.cell?_alloc_lt _ _ _ (World.block_lt_of_cell? _ _ (((HB.out.cell (World.block_lt_of_cell? w _ hw343_0)).trans hw343_0)))).trans (((HB.out.cell (World.block_lt_of_cell? w _ hw343_0)).trans hw343_0))⟩ (fun hHeld => ?_)
                clear hK K
                refine norm_ (a' := ?_) ?_ ?_
                rotate_left
                ·show Act.put _ (some 64) _ = _
                 simp only [Act.put, List.setIfInBounds_toArray, List.set_cons_zero, List.set_cons_succ, Qb, Qc]
                 rfl
                refine one_ (i := 22) (N := some 65) #[true, true, true, true, true, true, true, true, true, true, true, true, true, true, true, true, true, true, true, true, true, true, true, false] rfl rfl (one_of HT_.out (by kernel_rfl)) (by decide) (fun K hK => ?_)
                refine Kd.R_append_step (Kd.int .u64) (w0 := w) w.heap.size (by rfl) (.tmp 43) (.tmp 64) 110 78 (.int .u64 0) 8 rfl Try.underlying110 info78 rfl (by decide) (by omega) u5 x5_2 (Go.bits .or .u64 (Go.bits .and .u64 (rd l1 ((Xa l0_2 x29_2).f3)) (rd l1 ((Xa l0_2 x29_2).f2))) (Go.bits .and .u64 (Go.bits .xor .u64 18446744073709551615 (rd l1 ((Xa l0_2 x29_2).f3))) (rd l1 (ji16)))) [.int .u64 (Go.bits .or .u64 (Go.bits .and .u64 (rd l1 ((Xa l0_2 x29_2).f3)) (rd l1 ((Xa l0_2 x29_2).f2))) (Go.bits .and .u64 (Go.bits .xor .u64 18446744073709551615 (rd l1 ((Xa l0_2 x29_2).f3))) (rd l1 (ji16))))] (fun k_ => some k_ ≠ (u4 : Value).ownBlock) (fun _ => False) rfl rfl ?aP (fun _ hk => hk.elim) ?aF ?aO ?aB ?aS ?aL ?_
                (case aP => exact rfl)
                (case aB => exact HB.out)
                (case aF => exact (fun k_ hk => Kd.fresh' (Kd.R_lt HO_4.out) k_ hk))
                (case aO => exact HO_5.out)
                (case aS => exact (Zm HB.out))
                (case aL => have := LMc23.out; omega)
                intro v345 w30 ho hb hg hat
                rw [← Ny344.out] at ho
                have n0_ := Za.mk (Kd.R_after (ok := (fun _ => True)) (by (with_reducible repeat (first | apply Kd.R_alloc | apply Kd.Zy | apply Kd.Xg)); exact Kd.Xh HO_4.out (fun _ hk => ⟨trivial, hk⟩)) hg hat)
                have n1_ := Za.mk (blk_grown BK332.out hg (Kd.R_ne HO_5.out BK332.out (by decide)))
                have n2_ := Za.mk (blk_grown BK339.out hg (Kd.R_ne HO_5.out BK339.out (by decide)))
                have n3_ := Za.mk (hb)
                have n4_ := Za.mk (ho)
                clear HO_4
                clear BK332
                clear BK339
                clear HB
                clear HO_5
                have HO_4 := n0_
                have BK332 := n1_
                have BK339 := n2_
                have HB := n3_
                have HO346 := n4_
                clear n0_ n1_ n2_ n3_ n4_
                clear ho hb hg hat
                refine hK.out _ _ ⟨(Zc BK339.out 0).trans rfl, (Zc BK339.out 1).trans rfl, (Zc BK339.out 2).trans rfl, (Zc BK339.out 3).trans rfl, (Zc BK339.out 4).trans rfl, ((HB.out.cell (World.block_lt_of_cell? w _ hw341_0)).trans hw341_0), ((HB.out.cell (World.block_lt_of_cell? w _ hw342_0)).trans hw342_0), ((HB.out.cell (World.block_lt_of_cell? w _ hw343_0)).trans hw343_0)⟩ (fun hHeld => ?_)
                clear hK K
                refine norm_ (a' := ?_) ?_ ?_
                rotate_left
                ·show Act.put _ (some 65) _ = _
                 simp only [Act.put, List.setIfInBounds_toArray, List.set_cons_zero, List.set_cons_succ, Qb, Qc]
                 rfl
                refine Kq (i := 23) (N := some 5) (v := ?_) (a' := ?_) #[true, true, true, true, true, true, true, true, true, true, true, true, true, true, true, true, true, true, true, true, true, true, true, true] rfl rfl (Qs HT_.out (by kernel_rfl)) (fun _ _ _ h => h) (Or.inl ⟨by rfl, ?_⟩) ?_ ?_
                rotate_left
                ·intro w'
                 go_simp
                 with_reducible rfl
                rotate_left
                ·simp only [Act.put, List.setIfInBounds_toArray, List.set_cons_zero, List.set_cons_succ, Qb, Qc]
                 rfl
                refine done_ (done_of HT_.out (by kernel_rfl)) ?_
                try go_wp2
                go_roundg k2
                case measure => have := HK1.out; have := HK2.out; omega
                case rel => exact ⟨(y344), (wrap64 (x29_2 + 1)), (by first | rfl | (simp; done) | (simp [*]; done)), H', ⟨by have := HK1.out; have := HK2.out; omega⟩, ⟨by (with_reducible repeat (first | apply Kd.R_alloc | apply Kd.Zy | apply Kd.Xg)); exact Kd.Xh HO_4.out (fun _ hk => hk.2)⟩, ⟨HO346.out⟩, ⟨BK332.out⟩, ⟨HB.out⟩⟩
               ·rw [if_neg c23] at H
                exact absurd H (by simp)
              ·rw [if_neg c22] at H
               exact absurd H (by simp)
             ·rw [if_neg c21] at H
              exact absurd H (by simp)
            ·rw [if_neg c20] at H
             exact absurd H (by simp)
           ·rw [if_neg c19] at H
            exact absurd H (by simp)
          ·rw [if_neg c18] at H
           exact absurd H (by simp)
         ·rw [if_neg c17] at H
          exact absurd H (by simp)
        ·rw [if_neg c15] at H
         exact absurd H (by simp)
       ·rw [if_neg c14] at H
        exact absurd H (by simp)
      ·rw [if_neg c13] at H
       have c13b0 : decide (x29_2 < (l0_2.length : Int)) = false := decide_eq_false c13
       clear c13
       simp only [Option.some.injEq, Prod.mk.injEq] at H
       obtain ⟨rfl, rfl⟩ := H
       go_wp2
       go_ret2
       exact ⟨_, _, by first | rfl | (simp [errW_none, errW_some] <;> rfl) | (simp [*, errW_none, errW_some] <;> rfl), by (with_reducible repeat (first | apply Kd.R_alloc | apply Kd.Zy | apply Kd.Xg)); exact HO_4.out, by (with_reducible repeat (first | apply Kd.R_alloc | apply Kd.Zy | apply Kd.Xg)); exact HO_5.out, HB.out⟩
end Go.Proofs.Ytimjccfpobhpeaa.PF
