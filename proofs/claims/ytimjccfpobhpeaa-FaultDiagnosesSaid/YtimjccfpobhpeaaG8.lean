/- Joined by this session's own program out of its texts: PFx20 DetLaw PFx36 Eval. -/
import Derived.Test.YtimjccfpobhpeaaG1
import Derived.Test.YtimjccfpobhpeaaG6
import Derived.Test.YtimjccfpobhpeaaG7
import Derived.Test.YtimjccfpobhpeaaG2
import Derived.Test.YtimjccfpobhpeaaG4
namespace Go.Proofs.Ytimjccfpobhpeaa.PF
open Go.RowKit Go.Proofs.YtimjccfpobhpeaaW.PrintWords Go.Proofs.YtimjccfpobhpeaaW.PrintLast Go.Proofs.YtimjccfpobhpeaaW.PrintMore
set_option linter.unusedVariables false
set_option linter.unusedSimpArgs false
def Zw.l0 : Nat → List Int → List Int → Int → Int → Option (Bool)
  | 0, _, _, _, _ => none
  | k + 1, x0, x1, x12, x13 => if x13 < x12 then (if 0 ≤ x13 then (if x13 < (x0.length : Int) then (if x13 < (x1.length : Int) then (if (rd x0 x13) = (rd x1 x13) then (Zw.l0 k x0 x1 x12 (wrap64 (x13 + 1))) else (some false)) else (none)) else (none)) else (none)) else (some true)
def Zw.f (k : Nat) (l0 : List Int) (l1 : List Int) : Option (Bool) := if (l0.length : Int) = (l1.length : Int) then (Zw.l0 k l0 l1 (l0.length : Int) 0) else (some false)
theorem Zw.mono_l : ∀ k, (∀ y0 y1 y2 y3, Xz (Zw.l0 k y0 y1 y2 y3) (Zw.l0 (k + 1) y0 y1 y2 y3))
  | 0 => fun _ _ _ _ r h => by simp [Zw.l0] at h
  | k + 1 => by
    have ih0 := Zw.mono_l k
    · intro y0 y1 y2 y3
      unfold Zw.l0
      repeat' first
      | (with_reducible exact ih0 _ _ _ _)
      | (with_reducible exact Xz.refl _)
      | (with_reducible exact Xz.none _)
      | (with_reducible refine Xz.ite ?_ ?_)
      | (with_reducible refine Xz.bind ?_ (fun _ => ?_))
      | exact ih0 _ _ _ _
      | exact Xz.none _
      | refine Xz.ite ?_ ?_
      | refine Xz.bind ?_ (fun _ => ?_)
theorem Zw.mono : ∀ a0 a1 k, Xz (Zw.f k a0 a1) (Zw.f (k + 1) a0 a1) := by
  intro a0 a1 k
  have ih0 := Zw.mono_l k
  unfold Zw.f
  repeat' first
      | (with_reducible exact ih0 _ _ _ _)
      | (with_reducible exact Xz.refl _)
      | (with_reducible exact Xz.none _)
      | (with_reducible refine Xz.ite ?_ ?_)
      | (with_reducible refine Xz.bind ?_ (fun _ => ?_))
      | exact ih0 _ _ _ _
      | exact Xz.none _
      | refine Xz.ite ?_ ?_
      | refine Xz.bind ?_ (fun _ => ?_)
set_option maxHeartbeats 8000000 in
set_option maxRecDepth 100000 in
theorem Zw.calls (k : Nat) (A0 : Option Addr) (c0 : Nat) (l0 : List Int) (A1 : Option Addr) (c1 : Nat) (l1 : List Int) (r : Bool) (w : World) (hr0 : Kd.C (Kd.int .i64) w A0 l0.length l0) (hc0 : l0.length ≤ c0) (hr1 : Kd.C (Kd.int .i64) w A1 l1.length l1) (hc1 : l1.length ≤ c1) (h : Zw.f k l0 l1 = some r) :
 Calls Try.prog 18 #[.slice A0 l0.length c0, .slice A1 l1.length c1] w fun e w' => e = .returned (.bool r) ∧ Qq w w' := by
 have HR0 := Za.mk hr0
 have HC0 := Za.mk hc0
 clear hr0 hc0
 have HR1 := Za.mk hr1
 have HC1 := Za.mk hc1
 clear hr1 hc1
 have H : (if (l0.length : Int) = (l1.length : Int) then (Zw.l0 k l0 l1 (l0.length : Int) 0) else (some false)) = some r := h
 clear h
 by_cases c3 : (l0.length : Int) = (l1.length : Int)
 ·rw [if_pos c3] at H
  have c3b0 : ((l0.length : Int) == (l1.length : Int)) = true := beq_iff_eq.mpr c3
  have c3b1 : ((l0.length : Int) != (l1.length : Int)) = false := bne_eq_false_iff_eq.mpr c3
  have c3b2 : (l0.length == l1.length) = true := by first | simpa using c3 | (simp at c3 ⊢; omega)
  clear c3
  have H' := Za.mk H
  clear H
  go_enter Try.func18, Try.ntmps18
  go_wp2
  repeat (go_quiet (fail); try go_wp2)
  go_loopg [13] k (fun kq v13 w' => ∃ (x13_1 : Int), v13 = .int .i64 x13_1 ∧ Za (Zw.l0 kq l0 l1 (l0.length : Int) x13_1 = some r) ∧ Za (kq ≤ k) ∧ Qq w w')
  case atStart => exact ⟨(0), (by first | rfl | (simp; done) | (simp [*]; done)), H', ⟨Nat.le_refl _⟩, by repeat (first | exact Qq.refl _ | apply Qq.step)⟩
  case round =>
   clear H'
   try clear c3b0
   try clear c3b1
   try clear c3b2
   obtain ⟨x13_1, rfl, HA, HK1, ⟨m1, rfl⟩⟩ := hrel
   cases gk with
   | zero => exact absurd HA.out (by simp [Zw.l0])
   | succ k1 =>
    have H := HA.out
    clear HA
    simp only [Zw.l0] at H
    by_cases c4 : x13_1 < (l0.length : Int)
    ·rw [if_pos c4] at H
     have c4b0 : decide (x13_1 < (l0.length : Int)) = true := decide_eq_true c4
     clear c4
     by_cases c5 : 0 ≤ x13_1
     ·rw [if_pos c5] at H
      have c5b0 : decide (0 ≤ x13_1) = true := decide_eq_true c5
      clear c5
      by_cases c6 : x13_1 < (l0.length : Int)
      ·rw [if_pos c6] at H
       have c6b0 : decide (x13_1 < (l0.length : Int)) = true := decide_eq_true c6
       clear c6
       by_cases c7 : x13_1 < (l1.length : Int)
       ·rw [if_pos c7] at H
        have c7b0 : decide (x13_1 < (l1.length : Int)) = true := decide_eq_true c7
        clear c7
        by_cases c8 : (rd l0 x13_1) = (rd l1 x13_1)
        ·rw [if_pos c8] at H
         have c8b0 : ((rd l0 x13_1) == (rd l1 x13_1)) = true := beq_iff_eq.mpr c8
         have c8b1 : ((rd l0 x13_1) != (rd l1 x13_1)) = false := bne_eq_false_iff_eq.mpr c8
         clear c8
         have H' := Za.mk H
         clear H
         have p153 : 0 ≤ (x13_1 : Int) := of_decide_eq_true (by first | (with_reducible assumption) | assumption)
         have q153 : x13_1 < (l0.length : Int) := of_decide_eq_true (by first | (with_reducible assumption) | assumption)
         obtain ⟨ad153, e153, hx153_0⟩ := Kd.at_int HR0.out x13_1 p153 q153
         cases e153
         replace p153 := eq_true p153
         replace q153 := eq_true q153
         have p154 : 0 ≤ (x13_1 : Int) := of_decide_eq_true (by first | (with_reducible assumption) | assumption)
         have q154 : x13_1 < (l1.length : Int) := of_decide_eq_true (by first | (with_reducible assumption) | assumption)
         obtain ⟨ad154, e154, hx154_0⟩ := Kd.at_int HR1.out x13_1 p154 q154
         cases e154
         replace p154 := eq_true p154
         replace q154 := eq_true q154
         go_wp2
         repeat (go_quiet (fail); try go_wp2)
         go_roundg k1
         case measure => have := HK1.out; omega
         case rel => exact ⟨(wrap64 (x13_1 + 1)), (by first | rfl | (simp; done) | (simp [*]; done)), H', ⟨by have := HK1.out; omega⟩, by repeat (first | exact Qq.refl _ | apply Qq.step)⟩
        ·rw [if_neg c8] at H
         have c8b0 : ((rd l0 x13_1) == (rd l1 x13_1)) = false := beq_eq_false_iff_ne.mpr c8
         have c8b1 : ((rd l0 x13_1) != (rd l1 x13_1)) = true := bne_iff_ne.mpr c8
         obtain rfl := Option.some.inj H
         have p153 : 0 ≤ (x13_1 : Int) := of_decide_eq_true (by first | (with_reducible assumption) | assumption)
         have q153 : x13_1 < (l0.length : Int) := of_decide_eq_true (by first | (with_reducible assumption) | assumption)
         obtain ⟨ad153, e153, hx153_0⟩ := Kd.at_int HR0.out x13_1 p153 q153
         cases e153
         replace p153 := eq_true p153
         replace q153 := eq_true q153
         have p154 : 0 ≤ (x13_1 : Int) := of_decide_eq_true (by first | (with_reducible assumption) | assumption)
         have q154 : x13_1 < (l1.length : Int) := of_decide_eq_true (by first | (with_reducible assumption) | assumption)
         obtain ⟨ad154, e154, hx154_0⟩ := Kd.at_int HR1.out x13_1 p154 q154
         cases e154
         replace p154 := eq_true p154
         replace q154 := eq_true q154
         go_wp2
         repeat (go_quiet (fail); try go_wp2)
         go_ret
         exact ⟨by first | rfl | (simp; done) | (simp [*]; done), by repeat (first | exact Qq.refl _ | apply Qq.step)⟩
       ·rw [if_neg c7] at H
        exact absurd H (by simp)
      ·rw [if_neg c6] at H
       exact absurd H (by simp)
     ·rw [if_neg c5] at H
      exact absurd H (by simp)
    ·rw [if_neg c4] at H
     have c4b0 : decide (x13_1 < (l0.length : Int)) = false := decide_eq_false c4
     clear c4
     obtain rfl := Option.some.inj H
     go_wp2
     repeat (go_quiet (fail); try go_wp2)
     go_ret
     exact ⟨by first | rfl | (simp; done) | (simp [*]; done), by repeat (first | exact Qq.refl _ | apply Qq.step)⟩
 ·rw [if_neg c3] at H
  have c3b0 : ((l0.length : Int) == (l1.length : Int)) = false := beq_eq_false_iff_ne.mpr c3
  have c3b1 : ((l0.length : Int) != (l1.length : Int)) = true := bne_iff_ne.mpr c3
  have c3b2 : (l0.length == l1.length) = false := by first | simpa using c3 | (simp at c3 ⊢; omega)
  obtain rfl := Option.some.inj H
  go_enter Try.func18, Try.ntmps18
  go_wp2
  repeat (go_quiet (fail); try go_wp2)
  go_ret
  exact ⟨by first | rfl | (simp; done) | (simp [*]; done), by repeat (first | exact Qq.refl _ | apply Qq.step)⟩
def masklaw2_single.f  : Option (List ByteArray × List ByteArray × (List (S82)) × (List (Ky)) × List Int) := some ((([(⟨#[97]⟩ : ByteArray)] : List ByteArray)), (([(⟨#[113]⟩ : ByteArray)] : List ByteArray)), (([(⟨(⟨#[114]⟩ : ByteArray), (-1), 4, 1, false⟩ : S82)] : List (S82))), (([(⟨(-1), 1, (([2] : List Int))⟩ : Ky)] : List (Ky))), (([3] : List Int)))
set_option maxHeartbeats 8000000 in
set_option maxRecDepth 100000 in
theorem masklaw2_single.calls  (r1 : List ByteArray) (r2 : List ByteArray) (r3 : List (S82)) (r4 : List (Ky)) (r5 : List Int) (w : World) (h : masklaw2_single.f  = some (r1, r2, r3, r4, r5)) :
 Calls Try.prog 35 #[] w fun e w' => ∃ v0_ v1_ v2_ v3_ v4_ : Value, e = .returned (.agg #[v0_, v1_, v2_, v3_, v4_]) ∧ Kd.R Kd.string 9 w' w.heap.size (fun k_ => (w.heap.size ≤ k_) ∧ some k_ ≠ (v1_ : Value).ownBlock) v0_ r1 ∧ Kd.R Kd.string 9 w' w.heap.size (fun k_ => (w.heap.size ≤ k_) ∧ some k_ ≠ (v0_ : Value).ownBlock) v1_ r2 ∧ Kd.R k82 82 w' w.heap.size (fun k_ => (w.heap.size ≤ k_)) v2_ r3 ∧ Kd.N k80 80 w' w.heap.size (fun k_ => (w.heap.size ≤ k_) ∧ some k_ ≠ (v0_ : Value).ownBlock ∧ some k_ ≠ (v1_ : Value).ownBlock ∧ some k_ ≠ (v2_ : Value).ownBlock ∧ some k_ ≠ (v4_ : Value).ownBlock) v3_ r4 ∧ Kd.R (Kd.int .i64) 3 w' w.heap.size (fun k_ => (w.heap.size ≤ k_)) v4_ r5 ∧ Below w.heap.size w w' := by
 have hu27 := Try.underlying27
 have hu82 := Try.underlying82
 have hu80 := Try.underlying80
 have HB := Za.mk (Below.refl w.heap.size w)
 have H : (some ((([(⟨#[97]⟩ : ByteArray)] : List ByteArray)), (([(⟨#[113]⟩ : ByteArray)] : List ByteArray)), (([(⟨(⟨#[114]⟩ : ByteArray), (-1), 4, 1, false⟩ : S82)] : List (S82))), (([(⟨(-1), 1, (([2] : List Int))⟩ : Ky)] : List (Ky))), (([3] : List Int)))) = some (r1, r2, r3, r4, r5) := h
 clear h
 obtain ⟨y156, hy156⟩ : ∃ y_ : List ByteArray, y_ = (([(⟨#[97]⟩ : ByteArray)] : List ByteArray)) := ⟨_, rfl⟩
 replace H : (some (y156, (([(⟨#[113]⟩ : ByteArray)] : List ByteArray)), (([(⟨(⟨#[114]⟩ : ByteArray), (-1), 4, 1, false⟩ : S82)] : List (S82))), (([(⟨(-1), 1, (([2] : List Int))⟩ : Ky)] : List (Ky))), (([3] : List Int)))) = some (r1, r2, r3, r4, r5) := by first | (rw [hy156]; with_reducible exact H) | (have H2_ := (Option.bind_some _ _).symm.trans H; rw [hy156]; with_reducible exact H2_) | (have H2_ := (Option.bind_some _ _).symm.trans H; with_reducible exact H2_) | with_reducible exact H | (rw [hy156]; exact H) | exact H
 have Ny156 := Za.mk hy156
 clear hy156
 obtain ⟨y159, hy159⟩ : ∃ y_ : List ByteArray, y_ = (([(⟨#[113]⟩ : ByteArray)] : List ByteArray)) := ⟨_, rfl⟩
 replace H : (some (y156, y159, (([(⟨(⟨#[114]⟩ : ByteArray), (-1), 4, 1, false⟩ : S82)] : List (S82))), (([(⟨(-1), 1, (([2] : List Int))⟩ : Ky)] : List (Ky))), (([3] : List Int)))) = some (r1, r2, r3, r4, r5) := by first | (rw [hy159]; with_reducible exact H) | (have H2_ := (Option.bind_some _ _).symm.trans H; rw [hy159]; with_reducible exact H2_) | (have H2_ := (Option.bind_some _ _).symm.trans H; with_reducible exact H2_) | with_reducible exact H | (rw [hy159]; exact H) | exact H
 have Ny159 := Za.mk hy159
 clear hy159
 obtain ⟨y162, hy162⟩ : ∃ y_ : List (S82), y_ = (([(⟨(⟨#[114]⟩ : ByteArray), (-1), 4, 1, false⟩ : S82)] : List (S82))) := ⟨_, rfl⟩
 replace H : (some (y156, y159, y162, (([(⟨(-1), 1, (([2] : List Int))⟩ : Ky)] : List (Ky))), (([3] : List Int)))) = some (r1, r2, r3, r4, r5) := by first | (rw [hy162]; with_reducible exact H) | (have H2_ := (Option.bind_some _ _).symm.trans H; rw [hy162]; with_reducible exact H2_) | (have H2_ := (Option.bind_some _ _).symm.trans H; with_reducible exact H2_) | with_reducible exact H | (rw [hy162]; exact H) | exact H
 have Ny162 := Za.mk hy162
 clear hy162
 obtain ⟨y165, hy165⟩ : ∃ y_ : List Int, y_ = (([2] : List Int)) := ⟨_, rfl⟩
 replace H : (some (y156, y159, y162, (([(⟨(-1), 1, y165⟩ : Ky)] : List (Ky))), (([3] : List Int)))) = some (r1, r2, r3, r4, r5) := by first | (rw [hy165]; with_reducible exact H) | (have H2_ := (Option.bind_some _ _).symm.trans H; rw [hy165]; with_reducible exact H2_) | (have H2_ := (Option.bind_some _ _).symm.trans H; with_reducible exact H2_) | with_reducible exact H | (rw [hy165]; exact H) | exact H
 have Ny165 := Za.mk hy165
 clear hy165
 obtain ⟨y168, hy168⟩ : ∃ y_ : List (Ky), y_ = (([(⟨(-1), 1, y165⟩ : Ky)] : List (Ky))) := ⟨_, rfl⟩
 replace H : (some (y156, y159, y162, y168, (([3] : List Int)))) = some (r1, r2, r3, r4, r5) := by first | (rw [hy168]; with_reducible exact H) | (have H2_ := (Option.bind_some _ _).symm.trans H; rw [hy168]; with_reducible exact H2_) | (have H2_ := (Option.bind_some _ _).symm.trans H; with_reducible exact H2_) | with_reducible exact H | (rw [hy168]; exact H) | exact H
 have Ny168 := Za.mk hy168
 clear hy168
 obtain ⟨y171, hy171⟩ : ∃ y_ : List Int, y_ = (([3] : List Int)) := ⟨_, rfl⟩
 replace H : (some (y156, y159, y162, y168, y171)) = some (r1, r2, r3, r4, r5) := by first | (rw [hy171]; with_reducible exact H) | (have H2_ := (Option.bind_some _ _).symm.trans H; rw [hy171]; with_reducible exact H2_) | (have H2_ := (Option.bind_some _ _).symm.trans H; with_reducible exact H2_) | with_reducible exact H | (rw [hy171]; exact H) | exact H
 have Ny171 := Za.mk hy171
 clear hy171
 simp only [Option.some.injEq, Prod.mk.injEq] at H
 obtain ⟨rfl, rfl, rfl, rfl, rfl⟩ := H
 go_enter Try.func35, Try.ntmps35
 go_wp2_with (first | ((with_reducible refine Xl (N := 0) rfl ?_); refine Xr ?hg (N := 0) ?hd (cs := #[.slice none 0 0, .slice none 0 0, .slice none 0 0, .slice none 0 0, .slice none 0 0]) (t := 27) ?hr ?_; (case hd => rfl); (case hg => rfl); (case hr => first | (go_simp; done) | (go_simp; rfl)); intro gb155 hg w1 hbox hb; have n0_ := Za.mk (Zn HB.out hb); have n1_ := Za.mk (hbox); have n2_ := Za.mk ((by rw [hg]; exact (Zm HB.out) : w.heap.size ≤ gb155)); have n3_ := n2_; clear HB; have HB := n0_; have BK155 := n1_; have GW155 := n2_; have GE155 := n3_; clear n0_ n1_ n2_ n3_; clear hb hbox hg) | ((with_reducible refine Xl (N := 1) rfl ?_); refine Kd.R_lit Kd.string _ 9 ?hg (N := 1) ?hd (xs := ([(⟨#[97]⟩ : ByteArray)] : List ByteArray)) (inner := [.string (⟨#[97]⟩ : ByteArray)]) (ok := fun _ => True) (okp := fun _ => True) ?hr ?hp (fun _ hk => hk) trivial (Below.refl _ _) (Nat.le_refl _) (by simp) ?_; (case hd => rfl); (case hg => rfl); (case hr => first | (go_simp; done) | (go_simp; rfl)); (case hp => exact (Reps.one (show Kd.M Kd.string _ _ _ (⟨#[97]⟩ : ByteArray) [.string (⟨#[97]⟩ : ByteArray)] from rfl) (Reps.none _ _))); intro v157 w2 ho3 hb hg_ hnew_; clear hg_ hnew_; (first | rw [← Ny156.out] at ho3 | (simp only [Int.reduceToNat] at ho3; rw [← Ny156.out] at ho3)); have n0_ := Za.mk (Kd.Xm (Kd.R_newM (M := fun k_ => (w.heap.size ≤ k_)) ho3 (Zm HB.out) (fun k_ h_ => h_)) (Zm HB.out)); have n1_ := Za.mk (Zq BK155.out hb); have n2_ := Za.mk (Zn HB.out hb); clear BK155; clear HB; have HO158 := n0_; have BK155 := n1_; have HB := n2_; clear n0_ n1_ n2_; clear hb ho3) | ((with_reducible refine Xl (N := 2) rfl ?_); refine Kd.R_lit Kd.string _ 9 ?hg (N := 2) ?hd (xs := ([(⟨#[113]⟩ : ByteArray)] : List ByteArray)) (inner := [.string (⟨#[113]⟩ : ByteArray)]) (ok := fun _ => True) (okp := fun _ => True) ?hr ?hp (fun _ hk => hk) trivial (Below.refl _ _) (Nat.le_refl _) (by simp) ?_; (case hd => rfl); (case hg => rfl); (case hr => first | (go_simp; done) | (go_simp; rfl)); (case hp => exact (Reps.one (show Kd.M Kd.string _ _ _ (⟨#[113]⟩ : ByteArray) [.string (⟨#[113]⟩ : ByteArray)] from rfl) (Reps.none _ _))); intro v160 w4 ho5 hb hg_ hnew_; clear hg_ hnew_; (first | rw [← Ny159.out] at ho5 | (simp only [Int.reduceToNat] at ho5; rw [← Ny159.out] at ho5)); have n0_ := Za.mk (Kd.R_elder' HO158.out (Kd.Xy ho5) hb); have n1_ := Za.mk (Kd.Xm (Kd.Qz (Kd.R_newM (M := fun k_ => (w.heap.size ≤ k_)) ho5 (Zm HB.out) (fun k_ h_ => h_)) (Kd.R_lt HO158.out)) (Zm HB.out)); have n2_ := Za.mk (Zq BK155.out hb); have n3_ := Za.mk (Zn HB.out hb); clear HO158; clear BK155; clear HB; have HO158 := n0_; have HO161 := n1_; have BK155 := n2_; have HB := n3_; clear n0_ n1_ n2_ n3_; clear hb ho5) | ((with_reducible refine Xl (N := 4) rfl ?_); refine Kd.R_lit k82 _ 82 ?hg (N := 4) ?hd (xs := ([(⟨(⟨#[114]⟩ : ByteArray), (-1), 4, 1, false⟩ : S82)] : List (S82))) (inner := [.string (⟨#[114]⟩ : ByteArray), .int .i64 (-1), .int .i64 4, .int .i64 1, .bool false]) (ok := fun _ => True) (okp := fun _ => True) ?hr ?hp (fun _ hk => hk) trivial (Below.refl _ _) (Nat.le_refl _) (by simp) ?_; (case hd => rfl); (case hg => rfl); (case hr => first | (go_simp; done) | (go_simp; rfl)); (case hp => exact (Reps.c5 (show Kd.M k82 _ _ _ (⟨(⟨#[114]⟩ : ByteArray), (-1), 4, 1, false⟩ : S82) [.string (⟨#[114]⟩ : ByteArray), .int .i64 (-1), .int .i64 4, .int .i64 1, .bool false] from (k82_mkM _ _ _ (⟨(⟨#[114]⟩ : ByteArray), (-1), 4, 1, false⟩ : S82) )) (Reps.none _ _))); intro v163 w6 ho7 hb hg_ hnew_; clear hg_ hnew_; (first | rw [← Ny162.out] at ho7 | (simp only [Int.reduceToNat] at ho7; rw [← Ny162.out] at ho7)); have n0_ := Za.mk (Kd.Zp HO158.out hb); have n1_ := Za.mk (Kd.Zp HO161.out hb); have n2_ := Za.mk (Kd.Xm (Kd.R_newM (M := fun k_ => (w.heap.size ≤ k_)) ho7 (Zm HB.out) (fun k_ h_ => h_)) (Zm HB.out)); have n3_ := Za.mk (Zq BK155.out hb); have n4_ := Za.mk (Zn HB.out hb); clear HO158; clear HO161; clear BK155; clear HB; have HO158 := n0_; have HO161 := n1_; have HO164 := n2_; have BK155 := n3_; have HB := n4_; clear n0_ n1_ n2_ n3_ n4_; clear hb ho7) | ((with_reducible refine Xl (N := 5) rfl ?_); refine Kd.R_lit (Kd.int .i64) _ 3 ?hg (N := 5) ?hd (xs := ([2] : List Int)) (inner := [.int .i64 2]) (ok := fun _ => True) (okp := fun _ => True) ?hr ?hp (fun _ hk => hk) trivial (Below.refl _ _) (Nat.le_refl _) (by simp) ?_; (case hd => rfl); (case hg => rfl); (case hr => first | (go_simp; done) | (go_simp; rfl)); (case hp => exact (Reps.one (show Kd.M (Kd.int .i64) _ _ _ 2 [.int .i64 2] from rfl) (Reps.none _ _))); intro v166 w8 ho9 hb hg_ hnew_; clear hg_ hnew_; (first | rw [← Ny165.out] at ho9 | (simp only [Int.reduceToNat] at ho9; rw [← Ny165.out] at ho9)); have n0_ := Za.mk (Kd.Zp HO158.out hb); have n1_ := Za.mk (Kd.Zp HO161.out hb); have n2_ := Za.mk (Kd.Zp HO164.out hb); have n3_ := Za.mk (Kd.Xm (Kd.R_newM (M := fun k_ => (w.heap.size ≤ k_)) ho9 (Zm HB.out) (fun k_ h_ => h_)) (Zm HB.out)); have n4_ := Za.mk (Zq BK155.out hb); have n5_ := Za.mk (Zn HB.out hb); clear HO158; clear HO161; clear HO164; clear BK155; clear HB; have HO158 := n0_; have HO161 := n1_; have HO164 := n2_; have HO167 := n3_; have BK155 := n4_; have HB := n5_; clear n0_ n1_ n2_ n3_ n4_ n5_; clear hb ho9; obtain ⟨Ao10, co10, eo10⟩ := Kd.Xi HO167.out; subst eo10) | ((with_reducible refine Xl (N := 7) rfl ?_); refine Kd.N_lit k80 _ 80 ?hg (N' := 7) ?hd (xs := ([(⟨(-1), 1, y165⟩ : Ky)] : List (Ky))) (inner := [.int .i64 (-1), .int .u64 1, .slice Ao10 y165.length co10]) (ok := (fun k_ => (w.heap.size ≤ k_) ∧ some k_ ≠ (v157 : Value).ownBlock ∧ some k_ ≠ (v160 : Value).ownBlock ∧ some k_ ≠ (v163 : Value).ownBlock ∧ k_ ≠ gb155)) (okp := (fun k_ => (w.heap.size ≤ k_) ∧ some k_ ≠ (v157 : Value).ownBlock ∧ some k_ ≠ (v160 : Value).ownBlock ∧ some k_ ≠ (v163 : Value).ownBlock ∧ k_ ≠ gb155)) ?hr ?hp (fun _ hk => hk) ((show ∀ k_, w8.heap.size ≤ k_ → (fun k_ => (w.heap.size ≤ k_) ∧ some k_ ≠ (v157 : Value).ownBlock ∧ some k_ ≠ (v160 : Value).ownBlock ∧ some k_ ≠ (v163 : Value).ownBlock ∧ k_ ≠ gb155) k_ from fun k_ hk => ⟨(Nat.le_trans (Zm HB.out) hk), Kd.fresh' (Kd.R_lt HO158.out) k_ hk, Kd.fresh' (Kd.R_lt HO161.out) k_ hk, Kd.fresh' (Kd.R_lt HO164.out) k_ hk, Kd.freshB BK155.out k_ hk⟩) _ (Nat.le_refl _)) (Below.refl _ _) (Nat.le_refl _) (by simp) ?_; (case hd => rfl); (case hg => rfl); (case hr => first | (go_simp; done) | (go_simp; rfl)); (case hp => exact (Reps.c3 (show Kd.FK k80 _ _ (⟨(-1), 1, y165⟩ : Ky) [.int .i64 (-1), .int .u64 1, .slice Ao10 y165.length co10] from (k80_mkF _ _ (⟨(-1), 1, y165⟩ : Ky) (Kd.Xd (Kd.Xh (ok' := (fun k_ => (w.heap.size ≤ k_) ∧ some k_ ≠ (v157 : Value).ownBlock ∧ some k_ ≠ (v160 : Value).ownBlock ∧ some k_ ≠ (v163 : Value).ownBlock ∧ k_ ≠ gb155)) (Kd.Xv (Kd.R_apart' (Kd.R_apart' (Kd.R_apart' HO167.out (Kd.R_typed HO158.out) (by decide)) (Kd.R_typed HO161.out) (by decide)) (Kd.R_typed HO164.out) (by decide)) BK155.out (by decide)) (fun k_ hk => ⟨hk.1.1.1.1.1, ⟨hk.1.1.1.2, ⟨hk.1.1.2, ⟨hk.1.2, hk.2⟩⟩⟩⟩))).2.1 (Kd.R_F (Kd.Xh (ok' := (fun k_ => (w.heap.size ≤ k_) ∧ some k_ ≠ (v157 : Value).ownBlock ∧ some k_ ≠ (v160 : Value).ownBlock ∧ some k_ ≠ (v163 : Value).ownBlock ∧ k_ ≠ gb155)) (Kd.Xv (Kd.R_apart' (Kd.R_apart' (Kd.R_apart' HO167.out (Kd.R_typed HO158.out) (by decide)) (Kd.R_typed HO161.out) (by decide)) (Kd.R_typed HO164.out) (by decide)) BK155.out (by decide)) (fun k_ hk => ⟨hk.1.1.1.1.1, ⟨hk.1.1.1.2, ⟨hk.1.1.2, ⟨hk.1.2, hk.2⟩⟩⟩⟩))))) (Reps.none _ _))); intro v169 w11 ho12 hb hg_ hnew_; clear hg_ hnew_; (first | rw [← Ny168.out] at ho12 | (simp only [Int.reduceToNat] at ho12; rw [← Ny168.out] at ho12)); have n0_ := Za.mk (Kd.Zp HO158.out hb); have n1_ := Za.mk (Kd.Zp HO161.out hb); have n2_ := Za.mk (Kd.Zp HO164.out hb); have n3_ := Za.mk (Kd.N_lower ho12 (Zm HB.out)); have n4_ := Za.mk (Zq BK155.out hb); have n5_ := Za.mk (Zn HB.out hb); clear HO158; clear HO161; clear HO164; clear BK155; clear HB; clear HO167; have HO158 := n0_; have HO161 := n1_; have HO164 := n2_; have HO170 := n3_; have BK155 := n4_; have HB := n5_; clear n0_ n1_ n2_ n3_ n4_ n5_; clear hb ho12) | ((with_reducible refine Xl (N := 8) rfl ?_); refine Kd.R_lit (Kd.int .i64) _ 3 ?hg (N := 8) ?hd (xs := ([3] : List Int)) (inner := [.int .i64 3]) (ok := fun _ => True) (okp := fun _ => True) ?hr ?hp (fun _ hk => hk) trivial (Below.refl _ _) (Nat.le_refl _) (by simp) ?_; (case hd => rfl); (case hg => rfl); (case hr => first | (go_simp; done) | (go_simp; rfl)); (case hp => exact (Reps.one (show Kd.M (Kd.int .i64) _ _ _ 3 [.int .i64 3] from rfl) (Reps.none _ _))); intro v172 w13 ho14 hb hg_ hnew_; clear hg_ hnew_; (first | rw [← Ny171.out] at ho14 | (simp only [Int.reduceToNat] at ho14; rw [← Ny171.out] at ho14)); have n0_ := Za.mk (Kd.Zp HO158.out hb); have n1_ := Za.mk (Kd.Zp HO161.out hb); have n2_ := Za.mk (Kd.Zp HO164.out hb); have n3_ := Za.mk (Kd.N_elder' HO170.out (Kd.Xy ho14) hb); have n4_ := Za.mk (Kd.Xm (Kd.R_newM (M := fun k_ => (w.heap.size ≤ k_)) ho14 (Zm HB.out) (fun k_ h_ => h_)) (Zm HB.out)); have n5_ := Za.mk (Zq BK155.out hb); have n6_ := Za.mk (Zn HB.out hb); clear HO158; clear HO161; clear HO164; clear HO170; clear BK155; clear HB; have HO158 := n0_; have HO161 := n1_; have HO164 := n2_; have HO170 := n3_; have HO173 := n4_; have BK155 := n5_; have HB := n6_; clear n0_ n1_ n2_ n3_ n4_ n5_ n6_; clear hb ho14; obtain ⟨Ao15, co15, eo15⟩ := Kd.Xi HO173.out; subst eo15; obtain ⟨Ao16, co16, eo16⟩ := Kd.N_slice HO170.out; subst eo16; obtain ⟨Ao17, co17, eo17⟩ := Kd.Xi HO164.out; subst eo17; obtain ⟨Ao18, co18, eo18⟩ := Kd.Xi HO161.out; subst eo18; obtain ⟨Ao19, co19, eo19⟩ := Kd.Xi HO158.out; subst eo19; have hcz20_0 : w13.cell? ⟨gb155, 0, none⟩ = some (.slice none 0 0) := (Zc BK155.out 0).trans rfl; have hcz20_1 : w13.cell? ⟨gb155, 1, none⟩ = some (.slice none 0 0) := (Zc BK155.out 1).trans rfl; have hcz20_2 : w13.cell? ⟨gb155, 2, none⟩ = some (.slice none 0 0) := (Zc BK155.out 2).trans rfl; have hcz20_3 : w13.cell? ⟨gb155, 3, none⟩ = some (.slice none 0 0) := (Zc BK155.out 3).trans rfl; have hcz20_4 : w13.cell? ⟨gb155, 4, none⟩ = some (.slice none 0 0) := (Zc BK155.out 4).trans rfl; have hfz20_0 := Zb BK155.out 0; have hfz20_1 := Zb BK155.out 1; have hfz20_2 := Zb BK155.out 2; have hfz20_3 := Zb BK155.out 3; have hfz20_4 := Zb BK155.out 4))
 refine bodyPost_ret (results_cell_row rfl _ _ gb155 27 #[.slice Ao19 y156.length co19, .slice Ao18 y159.length co18, .slice Ao17 y162.length co17, .slice Ao16 y168.length co16, .slice Ao15 y171.length co15] (0, 0) _ rfl (by (with_reducible repeat (first | refine Zg ?_ _ | refine Zi ?_ | refine Zf ?_ _)); refine Qa (cs := #[.slice Ao19 y156.length co19, .slice Ao18 y159.length co18, .slice Ao17 y162.length co17, .slice Ao16 y168.length co16, .slice none 0 0]) ?_ 4 _ rfl; (with_reducible repeat (first | refine Zg ?_ _ | refine Zi ?_ | refine Zf ?_ _)); refine Qa (cs := #[.slice Ao19 y156.length co19, .slice Ao18 y159.length co18, .slice Ao17 y162.length co17, .slice none 0 0, .slice none 0 0]) ?_ 3 _ rfl; (with_reducible repeat (first | refine Zg ?_ _ | refine Zi ?_ | refine Zf ?_ _)); refine Qa (cs := #[.slice Ao19 y156.length co19, .slice Ao18 y159.length co18, .slice none 0 0, .slice none 0 0, .slice none 0 0]) ?_ 2 _ rfl; (with_reducible repeat (first | refine Zg ?_ _ | refine Zi ?_ | refine Zf ?_ _)); refine Qa (cs := #[.slice Ao19 y156.length co19, .slice none 0 0, .slice none 0 0, .slice none 0 0, .slice none 0 0]) ?_ 1 _ rfl; (with_reducible repeat (first | refine Zg ?_ _ | refine Zi ?_ | refine Zf ?_ _)); refine Qa (cs := #[.slice none 0 0, .slice none 0 0, .slice none 0 0, .slice none 0 0, .slice none 0 0]) ?_ 0 _ rfl; (with_reducible repeat (first | refine Zg ?_ _ | refine Zi ?_ | refine Zf ?_ _)); exact BK155.out) Try.underlying27 rfl (by kernel_rfl)) rfl ?_
 exact ⟨_, _, _, _, _, by first | rfl | (simp [errW_none, errW_some] <;> rfl) | (simp [*, errW_none, errW_some] <;> rfl), by (with_reducible repeat (first | apply Kd.R_alloc | apply Kd.Zy | apply Kd.Xg)); exact Kd.Xh (Kd.Xb (p := ⟨gb155, 4, none⟩) (Kd.Xb (p := ⟨gb155, 3, none⟩) (Kd.Xb (p := ⟨gb155, 2, none⟩) (Kd.Xb (p := ⟨gb155, 1, none⟩) (Kd.Xb (p := ⟨gb155, 0, none⟩) (Kd.Xv HO158.out BK155.out (by decide)) (fun _ hk => hk.2) (.slice Ao19 y156.length co19)) (fun _ hk => hk.2) (.slice Ao18 y159.length co18)) (fun _ hk => hk.2) (.slice Ao17 y162.length co17)) (fun _ hk => hk.2) (.slice Ao16 y168.length co16)) (fun _ hk => hk.2) (.slice Ao15 y171.length co15)) (fun _ hk => ⟨hk.1.1.1, hk.1.2⟩), by (with_reducible repeat (first | apply Kd.R_alloc | apply Kd.Zy | apply Kd.Xg)); exact Kd.Xh (Kd.Xb (p := ⟨gb155, 4, none⟩) (Kd.Xb (p := ⟨gb155, 3, none⟩) (Kd.Xb (p := ⟨gb155, 2, none⟩) (Kd.Xb (p := ⟨gb155, 1, none⟩) (Kd.Xb (p := ⟨gb155, 0, none⟩) (Kd.Xv HO161.out BK155.out (by decide)) (fun _ hk => hk.2) (.slice Ao19 y156.length co19)) (fun _ hk => hk.2) (.slice Ao18 y159.length co18)) (fun _ hk => hk.2) (.slice Ao17 y162.length co17)) (fun _ hk => hk.2) (.slice Ao16 y168.length co16)) (fun _ hk => hk.2) (.slice Ao15 y171.length co15)) (fun _ hk => ⟨hk.1.1.1, hk.1.2⟩), by (with_reducible repeat (first | apply Kd.R_alloc | apply Kd.Zy | apply Kd.Xg)); exact Kd.Xh (Kd.Xb (p := ⟨gb155, 4, none⟩) (Kd.Xb (p := ⟨gb155, 3, none⟩) (Kd.Xb (p := ⟨gb155, 2, none⟩) (Kd.Xb (p := ⟨gb155, 1, none⟩) (Kd.Xb (p := ⟨gb155, 0, none⟩) (Kd.Xv HO164.out BK155.out (by decide)) (fun _ hk => hk.2) (.slice Ao19 y156.length co19)) (fun _ hk => hk.2) (.slice Ao18 y159.length co18)) (fun _ hk => hk.2) (.slice Ao17 y162.length co17)) (fun _ hk => hk.2) (.slice Ao16 y168.length co16)) (fun _ hk => hk.2) (.slice Ao15 y171.length co15)) (fun _ hk => hk.1.1), by (with_reducible repeat (first | apply Kd.N_alloc | apply Kd.N_drewN | apply Kd.N_drew)); exact Kd.N_mono (Kd.N_far (p := ⟨gb155, 4, none⟩) (Kd.N_far (p := ⟨gb155, 3, none⟩) (Kd.N_far (p := ⟨gb155, 2, none⟩) (Kd.N_far (p := ⟨gb155, 1, none⟩) (Kd.N_far (p := ⟨gb155, 0, none⟩) (Kd.N_mono HO170.out (fun k_ hk => (⟨hk, hk.1.2.2.2.2⟩ : _ ∧ k_ ≠ gb155))) (fun _ hk => hk.2) (.slice Ao19 y156.length co19)) (fun _ hk => hk.2) (.slice Ao18 y159.length co18)) (fun _ hk => hk.2) (.slice Ao17 y162.length co17)) (fun _ hk => hk.2) (.slice Ao16 y168.length co16)) (fun _ hk => hk.2) (.slice Ao15 y171.length co15)) (fun _ hk => ⟨hk.1.1.1, ⟨hk.1.1.2.1, ⟨hk.1.1.2.2.1, ⟨hk.1.1.2.2.2.1, hk.1.2⟩⟩⟩⟩), by (with_reducible repeat (first | apply Kd.R_alloc | apply Kd.Zy | apply Kd.Xg)); exact Kd.Xh (Kd.Xb (p := ⟨gb155, 4, none⟩) (Kd.Xb (p := ⟨gb155, 3, none⟩) (Kd.Xb (p := ⟨gb155, 2, none⟩) (Kd.Xb (p := ⟨gb155, 1, none⟩) (Kd.Xb (p := ⟨gb155, 0, none⟩) (Kd.Xv HO173.out BK155.out (by decide)) (fun _ hk => hk.2) (.slice Ao19 y156.length co19)) (fun _ hk => hk.2) (.slice Ao18 y159.length co18)) (fun _ hk => hk.2) (.slice Ao17 y162.length co17)) (fun _ hk => hk.2) (.slice Ao16 y168.length co16)) (fun _ hk => hk.2) (.slice Ao15 y171.length co15)) (fun _ hk => hk.1.1), by repeat (first | (with_reducible first | exact HB.out | apply Zl | apply Zj | apply Zo | refine Zh ?_ GE155.out) | exact HB.out)⟩
def Qn.f (k : Nat)  : Option (Bool) := (masklaw2_single.f).bind fun bt174 => ((Xu.f k bt174.1 bt174.2.1 bt174.2.2.1 bt174.2.2.2.1 bt174.2.2.2.2).bind fun bt189 => ((masklaw2_single.f).bind fun bt193 => ((Qk.f k bt193.1 bt193.2.1 bt193.2.2.1 bt193.2.2.2.1 bt193.2.2.2.2 2 (-1) true).bind fun bt208 => (if bt189.2 = 0 then (if bt208.2.2.2.2.2 = 0 then (if (bt189.1.length : Int) = 6 then (if (bt208.2.2.2.1.length : Int) = 1 then (if 0 < (bt208.2.2.2.1.length : Int) then ((Zw.f k ((Xe bt208.2.2.2.1 0).f2) (([1] : List Int))).bind fun t229 => (some t229)) else (none)) else (none)) else (none)) else (none)) else (none)))))
theorem Qn.mono : ∀ k, Xz (Qn.f k ) (Qn.f (k + 1) ) := by
  intro  k
  unfold Qn.f
  repeat' first
      | (with_reducible exact Qk.mono _ _ _ _ _ _ _ _ _)
      | (with_reducible exact Xu.mono _ _ _ _ _ _)
      | (with_reducible exact Zw.mono _ _ _)
      | (with_reducible exact Xz.refl _)
      | (with_reducible exact Xz.none _)
      | (with_reducible refine Xz.ite ?_ ?_)
      | (with_reducible refine Xz.bind ?_ (fun _ => ?_))
      | exact Qk.mono _ _ _ _ _ _ _ _ _
      | exact Xu.mono _ _ _ _ _ _
      | exact Zw.mono _ _ _
      | exact Xz.none _
      | refine Xz.ite ?_ ?_
      | refine Xz.bind ?_ (fun _ => ?_)
set_option maxHeartbeats 8000000 in
set_option maxRecDepth 100000 in
theorem Qn.calls (k : Nat)  (r : Bool) (w : World) (h : Qn.f k  = some r) :
 Calls Try.prog 11 #[] w fun e w' => e = .returned (.bool r) ∧ Below w.heap.size w w' := by
 have hu29 := Try.underlying29
 have hu27 := Try.underlying27
 have HB := Za.mk (Below.refl w.heap.size w)
 have H : ((masklaw2_single.f).bind fun bt174 => ((Xu.f k bt174.1 bt174.2.1 bt174.2.2.1 bt174.2.2.2.1 bt174.2.2.2.2).bind fun bt189 => ((masklaw2_single.f).bind fun bt193 => ((Qk.f k bt193.1 bt193.2.1 bt193.2.2.1 bt193.2.2.2.1 bt193.2.2.2.2 2 (-1) true).bind fun bt208 => (if bt189.2 = 0 then (if bt208.2.2.2.2.2 = 0 then (if (bt189.1.length : Int) = 6 then (if (bt208.2.2.2.1.length : Int) = 1 then (if 0 < (bt208.2.2.2.1.length : Int) then ((Zw.f k ((Xe bt208.2.2.2.1 0).f2) (([1] : List Int))).bind fun t229 => (some t229)) else (none)) else (none)) else (none)) else (none)) else (none)))))) = some r := h
 clear h
 replace H := Option.bind_eq_some_iff.mp H
 obtain ⟨⟨t174, t177, t180, t183, t186⟩, A10, H⟩ := H
 replace H : ((Xu.f k t174 t177 t180 t183 t186).bind fun bt189 => ((masklaw2_single.f).bind fun bt193 => ((Qk.f k bt193.1 bt193.2.1 bt193.2.2.1 bt193.2.2.2.1 bt193.2.2.2.2 2 (-1) true).bind fun bt208 => (if bt189.2 = 0 then (if bt208.2.2.2.2.2 = 0 then (if (bt189.1.length : Int) = 6 then (if (bt208.2.2.2.1.length : Int) = 1 then (if 0 < (bt208.2.2.2.1.length : Int) then ((Zw.f k ((Xe bt208.2.2.2.1 0).f2) (([1] : List Int))).bind fun t229 => (some t229)) else (none)) else (none)) else (none)) else (none)) else (none))))) = some r := H
 have A1 := Za.mk A10
 clear A10
 replace H := Option.bind_eq_some_iff.mp H
 obtain ⟨⟨t189, t192⟩, A20, H⟩ := H
 replace H : ((masklaw2_single.f).bind fun bt193 => ((Qk.f k bt193.1 bt193.2.1 bt193.2.2.1 bt193.2.2.2.1 bt193.2.2.2.2 2 (-1) true).bind fun bt208 => (if t192 = 0 then (if bt208.2.2.2.2.2 = 0 then (if (t189.length : Int) = 6 then (if (bt208.2.2.2.1.length : Int) = 1 then (if 0 < (bt208.2.2.2.1.length : Int) then ((Zw.f k ((Xe bt208.2.2.2.1 0).f2) (([1] : List Int))).bind fun t229 => (some t229)) else (none)) else (none)) else (none)) else (none)) else (none)))) = some r := H
 have A2 := Za.mk A20
 clear A20
 replace H := Option.bind_eq_some_iff.mp H
 obtain ⟨⟨t193, t196, t199, t202, t205⟩, A30, H⟩ := H
 replace H : ((Qk.f k t193 t196 t199 t202 t205 2 (-1) true).bind fun bt208 => (if t192 = 0 then (if bt208.2.2.2.2.2 = 0 then (if (t189.length : Int) = 6 then (if (bt208.2.2.2.1.length : Int) = 1 then (if 0 < (bt208.2.2.2.1.length : Int) then ((Zw.f k ((Xe bt208.2.2.2.1 0).f2) (([1] : List Int))).bind fun t229 => (some t229)) else (none)) else (none)) else (none)) else (none)) else (none))) = some r := H
 have A3 := Za.mk A30
 clear A30
 replace H := Option.bind_eq_some_iff.mp H
 obtain ⟨⟨t208, t211, t214, t217, t220, t223⟩, A40, H⟩ := H
 replace H : (if t192 = 0 then (if t223 = 0 then (if (t189.length : Int) = 6 then (if (t217.length : Int) = 1 then (if 0 < (t217.length : Int) then ((Zw.f k ((Xe t217 0).f2) (([1] : List Int))).bind fun t229 => (some t229)) else (none)) else (none)) else (none)) else (none)) else (none)) = some r := H
 have A4 := Za.mk A40
 clear A40
 by_cases c5 : t192 = 0
 ·rw [if_pos c5] at H
  have c5b0 : (t192 == 0) = true := beq_iff_eq.mpr c5
  have c5b1 : (t192 != 0) = false := bne_eq_false_iff_eq.mpr c5
  clear c5
  by_cases c6 : t223 = 0
  ·rw [if_pos c6] at H
   have c6b0 : (t223 == 0) = true := beq_iff_eq.mpr c6
   have c6b1 : (t223 != 0) = false := bne_eq_false_iff_eq.mpr c6
   clear c6
   by_cases c7 : (t189.length : Int) = 6
   ·rw [if_pos c7] at H
    have c7b0 : ((t189.length : Int) == 6) = true := beq_iff_eq.mpr c7
    have c7b1 : ((t189.length : Int) != 6) = false := bne_eq_false_iff_eq.mpr c7
    clear c7
    by_cases c8 : (t217.length : Int) = 1
    ·rw [if_pos c8] at H
     have c8b0 : ((t217.length : Int) == 1) = true := beq_iff_eq.mpr c8
     have c8b1 : ((t217.length : Int) != 1) = false := bne_eq_false_iff_eq.mpr c8
     clear c8
     by_cases c9 : 0 < (t217.length : Int)
     ·rw [if_pos c9] at H
      have c9b0 : decide (0 < (t217.length : Int)) = true := decide_eq_true c9
      have c9b1 : decide (0 < t217.length) = true := decide_eq_true (by omega)
      clear c9
      obtain ⟨y226, hy226⟩ : ∃ y_ : List Int, y_ = (([1] : List Int)) := ⟨_, rfl⟩
      replace H : ((Zw.f k ((Xe t217 0).f2) y226).bind fun t229 => (some t229)) = some r := by first | (rw [hy226]; with_reducible exact H) | (have H2_ := (Option.bind_some _ _).symm.trans H; rw [hy226]; with_reducible exact H2_) | (have H2_ := (Option.bind_some _ _).symm.trans H; with_reducible exact H2_) | with_reducible exact H | (rw [hy226]; exact H) | exact H
      have Ny226 := Za.mk hy226
      clear hy226
      replace H := Option.bind_eq_some_iff.mp H
      obtain ⟨t229, A100, H⟩ := H
      replace H : (some t229) = some r := H
      have A10 := Za.mk A100
      clear A100
      obtain rfl := Option.some.inj H
      go_enter Try.func11, Try.ntmps11
      go_wp2_with (first | ((with_reducible refine Xo (f := 35) rfl ?_); refine Qp (some 6) rfl rfl Try.func35 (by kernel_rfl) rfl #[] rfl (by (try simp only [List.map_toArray, List.map_cons, List.map_nil]); first | done | rfl | (simp only [List.length_drop, List.length_take]; rfl)) ?_; (with_reducible refine (masklaw2_single.calls  t174 t177 t180 t183 t186 _ A1.out).mono ?_); rintro e w11 ⟨v175, v178, v181, v184, v187, rfl, ho0, ho1, ho2, ho3, ho4, hb⟩; refine ⟨_, rfl, ?_⟩; have n0_ := Za.mk (Kd.Xm (Kd.Xh (ok' := fun k_ => some k_ ≠ (v178 : Value).ownBlock) ho0 (fun _ hk_ => hk_.2)) (Zm HB.out)); have n1_ := Za.mk (Kd.Xm (Kd.Xh (ok' := fun k_ => some k_ ≠ (v175 : Value).ownBlock) ho1 (fun _ hk_ => hk_.2)) (Zm HB.out)); have n2_ := Za.mk (Kd.Xm (Kd.Xh (ok' := fun k_ => True) ho2 (fun _ hk_ => trivial)) (Zm HB.out)); have n3_ := Za.mk (Kd.N_lower (Kd.N_mono (ok' := fun k_ => some k_ ≠ (v175 : Value).ownBlock ∧ some k_ ≠ (v178 : Value).ownBlock ∧ some k_ ≠ (v181 : Value).ownBlock ∧ some k_ ≠ (v187 : Value).ownBlock) ho3 (fun k_ hk_ => ⟨hk_.2.1, hk_.2.2.1, hk_.2.2.2.1, hk_.2.2.2.2⟩)) (Zm HB.out)); have n4_ := Za.mk (Kd.Xm (Kd.Xh (ok' := fun k_ => True) ho4 (fun _ hk_ => trivial)) (Zm HB.out)); have n5_ := Za.mk (Zn HB.out hb); clear HB; have HO176 := n0_; have HO179 := n1_; have HO182 := n2_; have HO185 := n3_; have HO188 := n4_; have HB := n5_; clear n0_ n1_ n2_ n3_ n4_ n5_; (try clear hb); (try clear hb2); (try clear hk); (try clear hi); (try clear ho0); (try clear ho1); (try clear ho2); (try clear ho3); (try clear ho4); obtain ⟨Ao12, co12, eo12⟩ := Kd.Xi HO176.out; subst eo12; obtain ⟨Ao13, co13, eo13⟩ := Kd.Xi HO179.out; subst eo13; obtain ⟨Ao14, co14, eo14⟩ := Kd.Xi HO182.out; subst eo14; obtain ⟨Ao15, co15, eo15⟩ := Kd.N_slice HO185.out; subst eo15; obtain ⟨Ao16, co16, eo16⟩ := Kd.Xi HO188.out; subst eo16) | ((with_reducible refine Xo (f := 14) rfl ?_); refine Qp (some 7) rfl rfl Try.func14 (by kernel_rfl) rfl #[.agg #[.slice Ao12 t174.length co12, .slice Ao13 t177.length co13, .slice Ao14 t180.length co14, .slice Ao15 t183.length co15, .slice Ao16 t186.length co16]] rfl (by (try simp only [List.map_toArray, List.map_cons, List.map_nil]); first | done | rfl | (simp only [List.length_drop, List.length_take]; rfl)) ?_; (with_reducible refine (Xu.calls k _ _ t174 _ _ t177 _ _ t180 _ _ t183 _ _ t186 t189 t192 _ ?side1 ?side2 ?side3 ?side4 ?side5 ?side6 ?side7 ?side8 ?side9 ?side10 A2.out).mono ?_); (case side1 => repeat (first | exact (Kd.Xd HO176.out).2.2 | (with_reducible refine Kd.C_alloc ?_ _) | (with_reducible refine Kd.C_drewN ?_ _) | (with_reducible refine Kd.C_drew ?_))); (case side2 => exact (Kd.Xd HO176.out).2.1); (case side3 => repeat (first | exact (Kd.Xd HO179.out).2.2 | (with_reducible refine Kd.C_alloc ?_ _) | (with_reducible refine Kd.C_drewN ?_ _) | (with_reducible refine Kd.C_drew ?_))); (case side4 => exact (Kd.Xd HO179.out).2.1); (case side5 => repeat (first | exact (Kd.Xd HO182.out).2.2 | (with_reducible refine Kd.C_alloc ?_ _) | (with_reducible refine Kd.C_drewN ?_ _) | (with_reducible refine Kd.C_drew ?_))); (case side6 => exact (Kd.Xd HO182.out).2.1); (case side7 => repeat (first | exact (Kd.N_reads' HO185.out).2.2 | (with_reducible refine Kd.C_alloc ?_ _) | (with_reducible refine Kd.C_drewN ?_ _) | (with_reducible refine Kd.C_drew ?_))); (case side8 => exact (Kd.N_reads' HO185.out).2.1); (case side9 => repeat (first | exact (Kd.Xd HO188.out).2.2 | (with_reducible refine Kd.C_alloc ?_ _) | (with_reducible refine Kd.C_drewN ?_ _) | (with_reducible refine Kd.C_drew ?_))); (case side10 => exact (Kd.Xd HO188.out).2.1); rintro e w17 ⟨v190, rfl, ho0, hb⟩; refine ⟨_, rfl, ?_⟩; have n0_ := Za.mk (Kd.Zp HO176.out hb); have n1_ := Za.mk (Kd.Zp HO179.out hb); have n2_ := Za.mk (Kd.Zp HO182.out hb); have n3_ := Za.mk (Kd.N_elder' HO185.out (Kd.Xy ho0) hb); have n4_ := Za.mk (Kd.Zp HO188.out hb); have n5_ := Za.mk (Kd.Xm ho0 (Zm HB.out)); have n6_ := Za.mk (Zn HB.out hb); clear HO176; clear HO179; clear HO182; clear HO185; clear HO188; clear HB; have HO176 := n0_; have HO179 := n1_; have HO182 := n2_; have HO185 := n3_; have HO188 := n4_; have HO191 := n5_; have HB := n6_; clear n0_ n1_ n2_ n3_ n4_ n5_ n6_; (try clear hb); (try clear hb2); (try clear hk); (try clear hi); (try clear ho0)) | ((with_reducible refine Xo (f := 35) rfl ?_); refine Qp (some 11) rfl rfl Try.func35 (by kernel_rfl) rfl #[] rfl (by (try simp only [List.map_toArray, List.map_cons, List.map_nil]); first | done | rfl | (simp only [List.length_drop, List.length_take]; rfl)) ?_; (with_reducible refine (masklaw2_single.calls  t193 t196 t199 t202 t205 _ A3.out).mono ?_); rintro e w18 ⟨v194, v197, v200, v203, v206, rfl, ho0, ho1, ho2, ho3, ho4, hb⟩; refine ⟨_, rfl, ?_⟩; have n0_ := Za.mk (Kd.Xh (Kd.R_told (Kd.R_told (Kd.R_old HO176.out hb) (Kd.Xy ho0)) (Kd.Xy ho1)) (fun _ h_ => h_.1)); have n1_ := Za.mk (Kd.Xh (Kd.R_told (Kd.R_told (Kd.R_old HO179.out hb) (Kd.Xy ho0)) (Kd.Xy ho1)) (fun _ h_ => h_.1)); have n2_ := Za.mk (Kd.R_elder' HO182.out (Kd.Xy ho2) hb); have n3_ := Za.mk (Kd.N_mono (Kd.N_told (Kd.N_told (Kd.N_told (Kd.N_told (Kd.N_told (Kd.N_old HO185.out hb) (Kd.Xy ho0)) (Kd.Xy ho1)) (Kd.Xy ho2)) (Kd.N_base ho3)) (Kd.Xy ho4)) (fun _ h_ => h_.1)); have n4_ := Za.mk (Kd.R_elder' HO188.out (Kd.Xy ho4) hb); have n5_ := Za.mk (Kd.Zp HO191.out hb); have n6_ := Za.mk (Kd.Xm (Kd.Qz (Kd.Qz (Kd.Xh (ok' := fun k_ => some k_ ≠ (v197 : Value).ownBlock) ho0 (fun _ hk_ => hk_.2)) (Kd.R_lt HO176.out)) (Kd.R_lt HO179.out)) (Zm HB.out)); have n7_ := Za.mk (Kd.Xm (Kd.Qz (Kd.Qz (Kd.Xh (ok' := fun k_ => some k_ ≠ (v194 : Value).ownBlock) ho1 (fun _ hk_ => hk_.2)) (Kd.R_lt HO176.out)) (Kd.R_lt HO179.out)) (Zm HB.out)); have n8_ := Za.mk (Kd.Xm (Kd.Qz (Kd.Xh (ok' := fun k_ => True) ho2 (fun _ hk_ => trivial)) (Kd.R_lt HO182.out)) (Zm HB.out)); have n9_ := Za.mk (Kd.N_lower (Kd.N_mono (ok' := fun k_ => some k_ ≠ (v194 : Value).ownBlock ∧ some k_ ≠ (v197 : Value).ownBlock ∧ some k_ ≠ (v200 : Value).ownBlock ∧ some k_ ≠ (v206 : Value).ownBlock ∧ some k_ ≠ (.slice Ao12 t174.length co12 : Value).ownBlock ∧ some k_ ≠ (.slice Ao13 t177.length co13 : Value).ownBlock ∧ some k_ ≠ (.slice Ao14 t180.length co14 : Value).ownBlock ∧ some k_ ≠ (.slice Ao15 t183.length co15 : Value).ownBlock ∧ some k_ ≠ (.slice Ao16 t186.length co16 : Value).ownBlock ∧ some k_ ≠ (v190 : Value).ownBlock) ho3 (fun k_ hk_ => ⟨hk_.2.1, hk_.2.2.1, hk_.2.2.2.1, hk_.2.2.2.2, (Kd.fresh' (Kd.R_lt HO176.out) k_ hk_.1), (Kd.fresh' (Kd.R_lt HO179.out) k_ hk_.1), (Kd.fresh' (Kd.R_lt HO182.out) k_ hk_.1), (Kd.fresh' (Kd.N_lt HO185.out) k_ hk_.1), (Kd.fresh' (Kd.R_lt HO188.out) k_ hk_.1), (Kd.fresh' (Kd.R_lt HO191.out) k_ hk_.1)⟩)) (Zm HB.out)); have n10_ := Za.mk (Kd.Xm (Kd.Qz (Kd.Xh (ok' := fun k_ => True) ho4 (fun _ hk_ => trivial)) (Kd.R_lt HO188.out)) (Zm HB.out)); have n11_ := Za.mk (Zn HB.out hb); clear HO176; clear HO179; clear HO182; clear HO185; clear HO188; clear HO191; clear HB; have HO176 := n0_; have HO179 := n1_; have HO182 := n2_; have HO185 := n3_; have HO188 := n4_; have HO191 := n5_; have HO195 := n6_; have HO198 := n7_; have HO201 := n8_; have HO204 := n9_; have HO207 := n10_; have HB := n11_; clear n0_ n1_ n2_ n3_ n4_ n5_ n6_ n7_ n8_ n9_ n10_ n11_; (try clear hb); (try clear hb2); (try clear hk); (try clear hi); (try clear ho0); (try clear ho1); (try clear ho2); (try clear ho3); (try clear ho4); obtain ⟨Ao19, co19, eo19⟩ := Kd.Xi HO195.out; subst eo19; obtain ⟨Ao20, co20, eo20⟩ := Kd.Xi HO198.out; subst eo20; obtain ⟨Ao21, co21, eo21⟩ := Kd.Xi HO201.out; subst eo21; obtain ⟨Ao22, co22, eo22⟩ := Kd.N_slice HO204.out; subst eo22; obtain ⟨Ao23, co23, eo23⟩ := Kd.Xi HO207.out; subst eo23) | ((with_reducible refine Xo (f := 8) rfl ?_); refine Qp (some 13) rfl rfl Try.func8 (by kernel_rfl) rfl #[.agg #[.slice Ao19 t193.length co19, .slice Ao20 t196.length co20, .slice Ao21 t199.length co21, .slice Ao22 t202.length co22, .slice Ao23 t205.length co23], .agg #[.int .i64 2, .int .i64 (-1), .bool true]] rfl (by (try simp only [List.map_toArray, List.map_cons, List.map_nil]); first | done | rfl | (simp only [List.length_drop, List.length_take]; rfl)) ?_; (with_reducible refine (Qk.calls k _ _ t193 _ _ t196 _ _ t199 _ _ t202 _ _ t205 2 (-1) true t208 t211 t214 t217 t220 t223 _ ?side1 ?side2 ?side3 ?side4 ?side5 ?side6 ?side7 ?side8 ?side9 ?side10 A4.out).mono ?_); (case side1 => repeat (first | exact (Kd.Xd HO195.out).2.2 | (with_reducible refine Kd.C_alloc ?_ _) | (with_reducible refine Kd.C_drewN ?_ _) | (with_reducible refine Kd.C_drew ?_))); (case side2 => exact (Kd.Xd HO195.out).2.1); (case side3 => repeat (first | exact (Kd.Xd HO198.out).2.2 | (with_reducible refine Kd.C_alloc ?_ _) | (with_reducible refine Kd.C_drewN ?_ _) | (with_reducible refine Kd.C_drew ?_))); (case side4 => exact (Kd.Xd HO198.out).2.1); (case side5 => repeat (first | exact (Kd.Xd HO201.out).2.2 | (with_reducible refine Kd.C_alloc ?_ _) | (with_reducible refine Kd.C_drewN ?_ _) | (with_reducible refine Kd.C_drew ?_))); (case side6 => exact (Kd.Xd HO201.out).2.1); (case side7 => repeat (first | exact (Kd.N_reads' HO204.out).2.2 | (with_reducible refine Kd.C_alloc ?_ _) | (with_reducible refine Kd.C_drewN ?_ _) | (with_reducible refine Kd.C_drew ?_))); (case side8 => exact (Kd.N_reads' HO204.out).2.1); (case side9 => repeat (first | exact (Kd.Xd HO207.out).2.2 | (with_reducible refine Kd.C_alloc ?_ _) | (with_reducible refine Kd.C_drewN ?_ _) | (with_reducible refine Kd.C_drew ?_))); (case side10 => exact (Kd.Xd HO207.out).2.1); rintro e w24 ⟨v209, v212, v215, v218, v221, rfl, ho0, ho1, ho2, ho3, ho4, hb⟩; refine ⟨_, rfl, ?_⟩; have n0_ := Za.mk (Kd.Xh (Kd.R_told (Kd.R_told (Kd.R_old HO176.out hb) (Kd.Xy ho0)) (Kd.Xy ho1)) (fun _ h_ => h_.1)); have n1_ := Za.mk (Kd.Xh (Kd.R_told (Kd.R_told (Kd.R_old HO179.out hb) (Kd.Xy ho0)) (Kd.Xy ho1)) (fun _ h_ => h_.1)); have n2_ := Za.mk (Kd.R_elder' HO182.out (Kd.Xy ho2) hb); have n3_ := Za.mk (Kd.N_mono (Kd.N_told (Kd.N_told (Kd.N_told (Kd.N_told (Kd.N_told (Kd.N_old HO185.out hb) (Kd.Xy ho0)) (Kd.Xy ho1)) (Kd.Xy ho2)) (Kd.S_base ho3)) (Kd.Xy ho4)) (fun _ h_ => h_.1)); have n4_ := Za.mk (Kd.R_elder' HO188.out (Kd.Xy ho4) hb); have n5_ := Za.mk (Kd.Zp HO191.out hb); have n6_ := Za.mk (Kd.Xh (Kd.R_told (Kd.R_told (Kd.R_old HO195.out hb) (Kd.Xy ho0)) (Kd.Xy ho1)) (fun _ h_ => h_.1)); have n7_ := Za.mk (Kd.Xh (Kd.R_told (Kd.R_told (Kd.R_old HO198.out hb) (Kd.Xy ho0)) (Kd.Xy ho1)) (fun _ h_ => h_.1)); have n8_ := Za.mk (Kd.R_elder' HO201.out (Kd.Xy ho2) hb); have n9_ := Za.mk (Kd.N_mono (Kd.N_told (Kd.N_told (Kd.N_told (Kd.N_told (Kd.N_told (Kd.N_old HO204.out hb) (Kd.Xy ho0)) (Kd.Xy ho1)) (Kd.Xy ho2)) (Kd.S_base ho3)) (Kd.Xy ho4)) (fun _ h_ => h_.1)); have n10_ := Za.mk (Kd.R_elder' HO207.out (Kd.Xy ho4) hb); have n11_ := Za.mk (Kd.Xm (Kd.Qz (Kd.Qz (Kd.Qz (Kd.Qz ho0 (Kd.R_lt HO176.out)) (Kd.R_lt HO179.out)) (Kd.R_lt HO195.out)) (Kd.R_lt HO198.out)) (Zm HB.out)); have n12_ := Za.mk (Kd.Xm (Kd.Qz (Kd.Qz (Kd.Qz (Kd.Qz ho1 (Kd.R_lt HO176.out)) (Kd.R_lt HO179.out)) (Kd.R_lt HO195.out)) (Kd.R_lt HO198.out)) (Zm HB.out)); have n13_ := Za.mk (Kd.Xm (Kd.Qz (Kd.Qz ho2 (Kd.R_lt HO182.out)) (Kd.R_lt HO201.out)) (Zm HB.out)); have n14_ := Za.mk (Kd.N_lower (Kd.N_mono (ok' := fun k_ => some k_ ≠ (v209 : Value).ownBlock ∧ some k_ ≠ (v212 : Value).ownBlock ∧ some k_ ≠ (v215 : Value).ownBlock ∧ some k_ ≠ (v221 : Value).ownBlock ∧ some k_ ≠ (.slice Ao12 t174.length co12 : Value).ownBlock ∧ some k_ ≠ (.slice Ao13 t177.length co13 : Value).ownBlock ∧ some k_ ≠ (.slice Ao14 t180.length co14 : Value).ownBlock ∧ some k_ ≠ (.slice Ao15 t183.length co15 : Value).ownBlock ∧ some k_ ≠ (.slice Ao16 t186.length co16 : Value).ownBlock ∧ some k_ ≠ (v190 : Value).ownBlock ∧ some k_ ≠ (.slice Ao19 t193.length co19 : Value).ownBlock ∧ some k_ ≠ (.slice Ao20 t196.length co20 : Value).ownBlock ∧ some k_ ≠ (.slice Ao21 t199.length co21 : Value).ownBlock ∧ some k_ ≠ (.slice Ao22 t202.length co22 : Value).ownBlock ∧ some k_ ≠ (.slice Ao23 t205.length co23 : Value).ownBlock) (Kd.S_N (Kd.S_bound (Kd.S_apart' (Kd.S_apart' (Kd.S_apart' ho3 (Kd.R_typed ho0) (by decide)) (Kd.R_typed ho1) (by decide)) (Kd.R_typed ho2) (by decide)))) (fun k_ hk_ => ⟨hk_.1.1.1.2, hk_.1.1.2, hk_.1.2, hk_.1.1.1.1, (Kd.fresh' (Kd.R_lt HO176.out) k_ hk_.2.1), (Kd.fresh' (Kd.R_lt HO179.out) k_ hk_.2.1), (Kd.fresh' (Kd.R_lt HO182.out) k_ hk_.2.1), (Kd.fresh' (Kd.N_lt HO185.out) k_ hk_.2.1), (Kd.fresh' (Kd.R_lt HO188.out) k_ hk_.2.1), (Kd.fresh' (Kd.R_lt HO191.out) k_ hk_.2.1), (Kd.fresh' (Kd.R_lt HO195.out) k_ hk_.2.1), (Kd.fresh' (Kd.R_lt HO198.out) k_ hk_.2.1), (Kd.fresh' (Kd.R_lt HO201.out) k_ hk_.2.1), (Kd.fresh' (Kd.N_lt HO204.out) k_ hk_.2.1), (Kd.fresh' (Kd.R_lt HO207.out) k_ hk_.2.1)⟩)) (Zm HB.out)); have n15_ := Za.mk (Kd.Xm (Kd.Qz (Kd.Qz ho4 (Kd.R_lt HO188.out)) (Kd.R_lt HO207.out)) (Zm HB.out)); have n16_ := Za.mk (Zn HB.out hb); clear HO176; clear HO179; clear HO182; clear HO185; clear HO188; clear HO191; clear HO195; clear HO198; clear HO201; clear HO204; clear HO207; clear HB; have HO176 := n0_; have HO179 := n1_; have HO182 := n2_; have HO185 := n3_; have HO188 := n4_; have HO191 := n5_; have HO195 := n6_; have HO198 := n7_; have HO201 := n8_; have HO204 := n9_; have HO207 := n10_; have HO210 := n11_; have HO213 := n12_; have HO216 := n13_; have HO219 := n14_; have HO222 := n15_; have HB := n16_; clear n0_ n1_ n2_ n3_ n4_ n5_ n6_ n7_ n8_ n9_ n10_ n11_ n12_ n13_ n14_ n15_ n16_; (try clear hb); (try clear hb2); (try clear hk); (try clear hi); (try clear ho0); (try clear ho1); (try clear ho2); (try clear ho3); (try clear ho4)) | ((with_reducible refine Xl (N := 3) rfl ?_); (try (refine Qd (by rfl) ?_; dsimp only)); refine Xr ?hg (N := 3) ?hd (cs := #[.slice none 0 0, .slice none 0 0, .slice none 0 0, .slice none 0 0, .slice none 0 0]) (t := 27) ?hr ?_; (case hd => rfl); (case hg => rfl); (case hr => first | (go_simp; done) | (go_simp; rfl)); intro gb224 hg w25 hbox hb; have n0_ := Za.mk (Kd.Zp HO176.out hb); have n1_ := Za.mk (Kd.Zp HO179.out hb); have n2_ := Za.mk (Kd.Zp HO182.out hb); have n3_ := Za.mk (Kd.N_below (Kd.N_elderB HO185.out gb224 (Nat.le_of_eq hg.symm)) hb); have n4_ := Za.mk (Kd.Zp HO188.out hb); have n5_ := Za.mk (Kd.Zp HO191.out hb); have n6_ := Za.mk (Kd.Zp HO195.out hb); have n7_ := Za.mk (Kd.Zp HO198.out hb); have n8_ := Za.mk (Kd.Zp HO201.out hb); have n9_ := Za.mk (Kd.N_below (Kd.N_elderB HO204.out gb224 (Nat.le_of_eq hg.symm)) hb); have n10_ := Za.mk (Kd.Zp HO207.out hb); have n11_ := Za.mk (Kd.Zp HO210.out hb); have n12_ := Za.mk (Kd.Zp HO213.out hb); have n13_ := Za.mk (Kd.Zp HO216.out hb); have n14_ := Za.mk (Kd.N_below (Kd.N_elderB HO219.out gb224 (Nat.le_of_eq hg.symm)) hb); have n15_ := Za.mk (Kd.Zp HO222.out hb); have n16_ := Za.mk (Zn HB.out hb); have n17_ := Za.mk (hbox); have n18_ := Za.mk ((by rw [hg]; exact (Zm HB.out) : w.heap.size ≤ gb224)); have n19_ := n18_; clear HO176; clear HO179; clear HO182; clear HO185; clear HO188; clear HO191; clear HO195; clear HO198; clear HO201; clear HO204; clear HO207; clear HO210; clear HO213; clear HO216; clear HO219; clear HO222; clear HB; have HO176 := n0_; have HO179 := n1_; have HO182 := n2_; have HO185 := n3_; have HO188 := n4_; have HO191 := n5_; have HO195 := n6_; have HO198 := n7_; have HO201 := n8_; have HO204 := n9_; have HO207 := n10_; have HO210 := n11_; have HO213 := n12_; have HO216 := n13_; have HO219 := n14_; have HO222 := n15_; have HB := n16_; have BK224 := n17_; have GW224 := n18_; have GE224 := n19_; clear n0_ n1_ n2_ n3_ n4_ n5_ n6_ n7_ n8_ n9_ n10_ n11_ n12_ n13_ n14_ n15_ n16_ n17_ n18_ n19_; clear hb hbox hg; obtain ⟨Ao26, co26, eo26⟩ := Kd.Xi HO210.out; subst eo26; have hcz27_0 : w25.cell? ⟨gb224, 0, none⟩ = some (.slice none 0 0) := (Zc BK224.out 0).trans rfl; have hcz27_1 : w25.cell? ⟨gb224, 1, none⟩ = some (.slice none 0 0) := (Zc BK224.out 1).trans rfl; have hcz27_2 : w25.cell? ⟨gb224, 2, none⟩ = some (.slice none 0 0) := (Zc BK224.out 2).trans rfl; have hcz27_3 : w25.cell? ⟨gb224, 3, none⟩ = some (.slice none 0 0) := (Zc BK224.out 3).trans rfl; have hcz27_4 : w25.cell? ⟨gb224, 4, none⟩ = some (.slice none 0 0) := (Zc BK224.out 4).trans rfl; have hfz27_0 := Zb BK224.out 0; have hfz27_1 := Zb BK224.out 1; have hfz27_2 := Zb BK224.out 2; have hfz27_3 := Zb BK224.out 3; have hfz27_4 := Zb BK224.out 4; obtain ⟨Ao28, co28, eo28⟩ := Kd.Xi HO213.out; subst eo28; obtain ⟨Ao29, co29, eo29⟩ := Kd.Xi HO216.out; subst eo29; obtain ⟨Ao30, co30, eo30⟩ := Kd.N_slice HO219.out; subst eo30; obtain ⟨Ao31, co31, eo31⟩ := Kd.Xi HO222.out; subst eo31) | ((with_reducible refine gate_store (t := 27) (p := 3) rfl ?_); refine store_event (t := 27) (p := 3) (v := ?vo_w32) (w1 := (((((w25.setCell ⟨gb224, 0, none⟩ (.slice Ao26 t208.length co26)).setCell ⟨gb224, 1, none⟩ (.slice Ao28 t211.length co28)).setCell ⟨gb224, 2, none⟩ (.slice Ao29 t214.length co29)).setCell ⟨gb224, 3, none⟩ (.slice Ao30 t217.length co30)).setCell ⟨gb224, 4, none⟩ (.slice Ao31 t220.length co31))) ?hg ?ho ?hn ?hr ?_; (case ho => rfl); (case hg => rfl); (case hn => rfl); (case hr => first | (go_simp; done) | (go_simp; rfl)); intro w32 hw; have n0_ : Za (Kd.R Kd.string 9 w32 w.heap.size (fun k_ => some k_ ≠ (.slice Ao13 t177.length co13 : Value).ownBlock ∧ some k_ ≠ (.slice Ao19 t193.length co19 : Value).ownBlock ∧ some k_ ≠ (.slice Ao20 t196.length co20 : Value).ownBlock ∧ some k_ ≠ (.slice Ao26 t208.length co26 : Value).ownBlock ∧ some k_ ≠ (.slice Ao28 t211.length co28 : Value).ownBlock) (.slice Ao12 t174.length co12) t174) := ⟨(by rw [hw]; exact (by (with_reducible repeat (first | apply Kd.R_alloc | apply Kd.Zy | apply Kd.Xg)); exact Kd.Xh (Kd.Xb (p := ⟨gb224, 4, none⟩) (Kd.Xb (p := ⟨gb224, 3, none⟩) (Kd.Xb (p := ⟨gb224, 2, none⟩) (Kd.Xb (p := ⟨gb224, 1, none⟩) (Kd.Xb (p := ⟨gb224, 0, none⟩) (Kd.Xv HO176.out BK224.out (by decide)) (fun _ hk => hk.2) (.slice Ao26 t208.length co26)) (fun _ hk => hk.2) (.slice Ao28 t211.length co28)) (fun _ hk => hk.2) (.slice Ao29 t214.length co29)) (fun _ hk => hk.2) (.slice Ao30 t217.length co30)) (fun _ hk => hk.2) (.slice Ao31 t220.length co31)) (fun _ hk => ⟨hk.1.1.1.1.1, ⟨hk.1.1.1.1.2, ⟨hk.1.1.1.2, ⟨hk.1.1.2, hk.1.2⟩⟩⟩⟩)))⟩; have n1_ : Za (Kd.R Kd.string 9 w32 w.heap.size (fun k_ => some k_ ≠ (.slice Ao12 t174.length co12 : Value).ownBlock ∧ some k_ ≠ (.slice Ao19 t193.length co19 : Value).ownBlock ∧ some k_ ≠ (.slice Ao20 t196.length co20 : Value).ownBlock ∧ some k_ ≠ (.slice Ao26 t208.length co26 : Value).ownBlock ∧ some k_ ≠ (.slice Ao28 t211.length co28 : Value).ownBlock) (.slice Ao13 t177.length co13) t177) := ⟨(by rw [hw]; exact (by (with_reducible repeat (first | apply Kd.R_alloc | apply Kd.Zy | apply Kd.Xg)); exact Kd.Xh (Kd.Xb (p := ⟨gb224, 4, none⟩) (Kd.Xb (p := ⟨gb224, 3, none⟩) (Kd.Xb (p := ⟨gb224, 2, none⟩) (Kd.Xb (p := ⟨gb224, 1, none⟩) (Kd.Xb (p := ⟨gb224, 0, none⟩) (Kd.Xv HO179.out BK224.out (by decide)) (fun _ hk => hk.2) (.slice Ao26 t208.length co26)) (fun _ hk => hk.2) (.slice Ao28 t211.length co28)) (fun _ hk => hk.2) (.slice Ao29 t214.length co29)) (fun _ hk => hk.2) (.slice Ao30 t217.length co30)) (fun _ hk => hk.2) (.slice Ao31 t220.length co31)) (fun _ hk => ⟨hk.1.1.1.1.1, ⟨hk.1.1.1.1.2, ⟨hk.1.1.1.2, ⟨hk.1.1.2, hk.1.2⟩⟩⟩⟩)))⟩; have n2_ : Za (Kd.R k82 82 w32 w.heap.size (fun k_ => some k_ ≠ (.slice Ao21 t199.length co21 : Value).ownBlock ∧ some k_ ≠ (.slice Ao29 t214.length co29 : Value).ownBlock) (.slice Ao14 t180.length co14) t180) := ⟨(by rw [hw]; exact (by (with_reducible repeat (first | apply Kd.R_alloc | apply Kd.Zy | apply Kd.Xg)); exact Kd.Xh (Kd.Xb (p := ⟨gb224, 4, none⟩) (Kd.Xb (p := ⟨gb224, 3, none⟩) (Kd.Xb (p := ⟨gb224, 2, none⟩) (Kd.Xb (p := ⟨gb224, 1, none⟩) (Kd.Xb (p := ⟨gb224, 0, none⟩) (Kd.Xv HO182.out BK224.out (by decide)) (fun _ hk => hk.2) (.slice Ao26 t208.length co26)) (fun _ hk => hk.2) (.slice Ao28 t211.length co28)) (fun _ hk => hk.2) (.slice Ao29 t214.length co29)) (fun _ hk => hk.2) (.slice Ao30 t217.length co30)) (fun _ hk => hk.2) (.slice Ao31 t220.length co31)) (fun _ hk => ⟨hk.1.1.2, hk.1.2⟩)))⟩; have n3_ : Za (Kd.N k80 80 w32 w.heap.size (fun k_ => some k_ ≠ (.slice Ao12 t174.length co12 : Value).ownBlock ∧ some k_ ≠ (.slice Ao13 t177.length co13 : Value).ownBlock ∧ some k_ ≠ (.slice Ao14 t180.length co14 : Value).ownBlock ∧ some k_ ≠ (.slice Ao16 t186.length co16 : Value).ownBlock ∧ some k_ ≠ (v190 : Value).ownBlock ∧ some k_ ≠ (.slice Ao19 t193.length co19 : Value).ownBlock ∧ some k_ ≠ (.slice Ao20 t196.length co20 : Value).ownBlock ∧ some k_ ≠ (.slice Ao21 t199.length co21 : Value).ownBlock ∧ some k_ ≠ (.slice Ao22 t202.length co22 : Value).ownBlock ∧ some k_ ≠ (.slice Ao23 t205.length co23 : Value).ownBlock ∧ some k_ ≠ (.slice Ao26 t208.length co26 : Value).ownBlock ∧ some k_ ≠ (.slice Ao28 t211.length co28 : Value).ownBlock ∧ some k_ ≠ (.slice Ao29 t214.length co29 : Value).ownBlock ∧ some k_ ≠ (.slice Ao30 t217.length co30 : Value).ownBlock ∧ some k_ ≠ (.slice Ao31 t220.length co31 : Value).ownBlock ∧ k_ ≠ gb224) (.slice Ao15 t183.length co15) t183) := ⟨(by rw [hw]; exact (by (with_reducible repeat (first | apply Kd.N_alloc | apply Kd.N_drewN | apply Kd.N_drew)); exact Kd.N_mono (Kd.N_far (p := ⟨gb224, 4, none⟩) (Kd.N_far (p := ⟨gb224, 3, none⟩) (Kd.N_far (p := ⟨gb224, 2, none⟩) (Kd.N_far (p := ⟨gb224, 1, none⟩) (Kd.N_far (p := ⟨gb224, 0, none⟩) (Kd.N_mono HO185.out (fun k_ hk => (⟨hk, hk.2⟩ : _ ∧ k_ ≠ gb224))) (fun _ hk => hk.2) (.slice Ao26 t208.length co26)) (fun _ hk => hk.2) (.slice Ao28 t211.length co28)) (fun _ hk => hk.2) (.slice Ao29 t214.length co29)) (fun _ hk => hk.2) (.slice Ao30 t217.length co30)) (fun _ hk => hk.2) (.slice Ao31 t220.length co31)) (fun _ hk => ⟨hk.1.1.1.1.1.1.1.1.1.1.1.1.1.1, ⟨hk.1.1.1.1.1.1.1.1.1.1.1.1.1.2.1, ⟨hk.1.1.1.1.1.1.1.1.1.1.1.1.1.2.2.1, ⟨hk.1.1.1.1.1.1.1.1.1.1.1.1.1.2.2.2, ⟨hk.1.1.1.1.1.1.1.1.1.1.1.1.2, ⟨hk.1.1.1.1.1.1.1.1.1.1.1.2, ⟨hk.1.1.1.1.1.1.1.1.1.1.2, ⟨hk.1.1.1.1.1.1.1.1.1.2, ⟨hk.1.1.1.1.1.1.1.1.2, ⟨hk.1.1.1.1.1.1.1.2, ⟨hk.1.1.1.1.1.1.2, ⟨hk.1.1.1.1.1.2, ⟨hk.1.1.1.1.2, ⟨hk.1.1.1.2, ⟨hk.1.1.2, hk.1.2⟩⟩⟩⟩⟩⟩⟩⟩⟩⟩⟩⟩⟩⟩⟩)))⟩; have n4_ : Za (Kd.R (Kd.int .i64) 3 w32 w.heap.size (fun k_ => some k_ ≠ (.slice Ao23 t205.length co23 : Value).ownBlock ∧ some k_ ≠ (.slice Ao31 t220.length co31 : Value).ownBlock) (.slice Ao16 t186.length co16) t186) := ⟨(by rw [hw]; exact (by (with_reducible repeat (first | apply Kd.R_alloc | apply Kd.Zy | apply Kd.Xg)); exact Kd.Xh (Kd.Xb (p := ⟨gb224, 4, none⟩) (Kd.Xb (p := ⟨gb224, 3, none⟩) (Kd.Xb (p := ⟨gb224, 2, none⟩) (Kd.Xb (p := ⟨gb224, 1, none⟩) (Kd.Xb (p := ⟨gb224, 0, none⟩) (Kd.Xv HO188.out BK224.out (by decide)) (fun _ hk => hk.2) (.slice Ao26 t208.length co26)) (fun _ hk => hk.2) (.slice Ao28 t211.length co28)) (fun _ hk => hk.2) (.slice Ao29 t214.length co29)) (fun _ hk => hk.2) (.slice Ao30 t217.length co30)) (fun _ hk => hk.2) (.slice Ao31 t220.length co31)) (fun _ hk => ⟨hk.1.1.2, hk.1.2⟩)))⟩; have n5_ : Za (Kd.R k29 29 w32 w.heap.size (fun _ => True) v190 t189) := ⟨(by rw [hw]; exact (by (with_reducible repeat (first | apply Kd.R_alloc | apply Kd.Zy | apply Kd.Xg)); exact Kd.Xh (Kd.Xb (p := ⟨gb224, 4, none⟩) (Kd.Xb (p := ⟨gb224, 3, none⟩) (Kd.Xb (p := ⟨gb224, 2, none⟩) (Kd.Xb (p := ⟨gb224, 1, none⟩) (Kd.Xb (p := ⟨gb224, 0, none⟩) (Kd.Xv HO191.out BK224.out (by decide)) (fun _ hk => hk.2) (.slice Ao26 t208.length co26)) (fun _ hk => hk.2) (.slice Ao28 t211.length co28)) (fun _ hk => hk.2) (.slice Ao29 t214.length co29)) (fun _ hk => hk.2) (.slice Ao30 t217.length co30)) (fun _ hk => hk.2) (.slice Ao31 t220.length co31)) (fun _ hk => trivial)))⟩; have n6_ : Za (Kd.R Kd.string 9 w32 w.heap.size (fun k_ => some k_ ≠ (.slice Ao12 t174.length co12 : Value).ownBlock ∧ some k_ ≠ (.slice Ao13 t177.length co13 : Value).ownBlock ∧ some k_ ≠ (.slice Ao20 t196.length co20 : Value).ownBlock ∧ some k_ ≠ (.slice Ao26 t208.length co26 : Value).ownBlock ∧ some k_ ≠ (.slice Ao28 t211.length co28 : Value).ownBlock) (.slice Ao19 t193.length co19) t193) := ⟨(by rw [hw]; exact (by (with_reducible repeat (first | apply Kd.R_alloc | apply Kd.Zy | apply Kd.Xg)); exact Kd.Xh (Kd.Xb (p := ⟨gb224, 4, none⟩) (Kd.Xb (p := ⟨gb224, 3, none⟩) (Kd.Xb (p := ⟨gb224, 2, none⟩) (Kd.Xb (p := ⟨gb224, 1, none⟩) (Kd.Xb (p := ⟨gb224, 0, none⟩) (Kd.Xv HO195.out BK224.out (by decide)) (fun _ hk => hk.2) (.slice Ao26 t208.length co26)) (fun _ hk => hk.2) (.slice Ao28 t211.length co28)) (fun _ hk => hk.2) (.slice Ao29 t214.length co29)) (fun _ hk => hk.2) (.slice Ao30 t217.length co30)) (fun _ hk => hk.2) (.slice Ao31 t220.length co31)) (fun _ hk => ⟨hk.1.1.1.1.2, ⟨hk.1.1.1.2, ⟨hk.1.1.1.1.1, ⟨hk.1.1.2, hk.1.2⟩⟩⟩⟩)))⟩; have n7_ : Za (Kd.R Kd.string 9 w32 w.heap.size (fun k_ => some k_ ≠ (.slice Ao12 t174.length co12 : Value).ownBlock ∧ some k_ ≠ (.slice Ao13 t177.length co13 : Value).ownBlock ∧ some k_ ≠ (.slice Ao19 t193.length co19 : Value).ownBlock ∧ some k_ ≠ (.slice Ao26 t208.length co26 : Value).ownBlock ∧ some k_ ≠ (.slice Ao28 t211.length co28 : Value).ownBlock) (.slice Ao20 t196.length co20) t196) := ⟨(by rw [hw]; exact (by (with_reducible repeat (first | apply Kd.R_alloc | apply Kd.Zy | apply Kd.Xg)); exact Kd.Xh (Kd.Xb (p := ⟨gb224, 4, none⟩) (Kd.Xb (p := ⟨gb224, 3, none⟩) (Kd.Xb (p := ⟨gb224, 2, none⟩) (Kd.Xb (p := ⟨gb224, 1, none⟩) (Kd.Xb (p := ⟨gb224, 0, none⟩) (Kd.Xv HO198.out BK224.out (by decide)) (fun _ hk => hk.2) (.slice Ao26 t208.length co26)) (fun _ hk => hk.2) (.slice Ao28 t211.length co28)) (fun _ hk => hk.2) (.slice Ao29 t214.length co29)) (fun _ hk => hk.2) (.slice Ao30 t217.length co30)) (fun _ hk => hk.2) (.slice Ao31 t220.length co31)) (fun _ hk => ⟨hk.1.1.1.1.2, ⟨hk.1.1.1.2, ⟨hk.1.1.1.1.1, ⟨hk.1.1.2, hk.1.2⟩⟩⟩⟩)))⟩; have n8_ : Za (Kd.R k82 82 w32 w.heap.size (fun k_ => some k_ ≠ (.slice Ao14 t180.length co14 : Value).ownBlock ∧ some k_ ≠ (.slice Ao29 t214.length co29 : Value).ownBlock) (.slice Ao21 t199.length co21) t199) := ⟨(by rw [hw]; exact (by (with_reducible repeat (first | apply Kd.R_alloc | apply Kd.Zy | apply Kd.Xg)); exact Kd.Xh (Kd.Xb (p := ⟨gb224, 4, none⟩) (Kd.Xb (p := ⟨gb224, 3, none⟩) (Kd.Xb (p := ⟨gb224, 2, none⟩) (Kd.Xb (p := ⟨gb224, 1, none⟩) (Kd.Xb (p := ⟨gb224, 0, none⟩) (Kd.Xv HO201.out BK224.out (by decide)) (fun _ hk => hk.2) (.slice Ao26 t208.length co26)) (fun _ hk => hk.2) (.slice Ao28 t211.length co28)) (fun _ hk => hk.2) (.slice Ao29 t214.length co29)) (fun _ hk => hk.2) (.slice Ao30 t217.length co30)) (fun _ hk => hk.2) (.slice Ao31 t220.length co31)) (fun _ hk => ⟨hk.1.1.2, hk.1.2⟩)))⟩; have n9_ : Za (Kd.N k80 80 w32 w.heap.size (fun k_ => some k_ ≠ (.slice Ao12 t174.length co12 : Value).ownBlock ∧ some k_ ≠ (.slice Ao13 t177.length co13 : Value).ownBlock ∧ some k_ ≠ (.slice Ao14 t180.length co14 : Value).ownBlock ∧ some k_ ≠ (.slice Ao15 t183.length co15 : Value).ownBlock ∧ some k_ ≠ (.slice Ao16 t186.length co16 : Value).ownBlock ∧ some k_ ≠ (v190 : Value).ownBlock ∧ some k_ ≠ (.slice Ao19 t193.length co19 : Value).ownBlock ∧ some k_ ≠ (.slice Ao20 t196.length co20 : Value).ownBlock ∧ some k_ ≠ (.slice Ao21 t199.length co21 : Value).ownBlock ∧ some k_ ≠ (.slice Ao23 t205.length co23 : Value).ownBlock ∧ some k_ ≠ (.slice Ao26 t208.length co26 : Value).ownBlock ∧ some k_ ≠ (.slice Ao28 t211.length co28 : Value).ownBlock ∧ some k_ ≠ (.slice Ao29 t214.length co29 : Value).ownBlock ∧ some k_ ≠ (.slice Ao30 t217.length co30 : Value).ownBlock ∧ some k_ ≠ (.slice Ao31 t220.length co31 : Value).ownBlock ∧ k_ ≠ gb224) (.slice Ao22 t202.length co22) t202) := ⟨(by rw [hw]; exact (by (with_reducible repeat (first | apply Kd.N_alloc | apply Kd.N_drewN | apply Kd.N_drew)); exact Kd.N_mono (Kd.N_far (p := ⟨gb224, 4, none⟩) (Kd.N_far (p := ⟨gb224, 3, none⟩) (Kd.N_far (p := ⟨gb224, 2, none⟩) (Kd.N_far (p := ⟨gb224, 1, none⟩) (Kd.N_far (p := ⟨gb224, 0, none⟩) (Kd.N_mono HO204.out (fun k_ hk => (⟨hk, hk.2⟩ : _ ∧ k_ ≠ gb224))) (fun _ hk => hk.2) (.slice Ao26 t208.length co26)) (fun _ hk => hk.2) (.slice Ao28 t211.length co28)) (fun _ hk => hk.2) (.slice Ao29 t214.length co29)) (fun _ hk => hk.2) (.slice Ao30 t217.length co30)) (fun _ hk => hk.2) (.slice Ao31 t220.length co31)) (fun _ hk => ⟨hk.1.1.1.1.1.1.1.2.2.2.2.1, ⟨hk.1.1.1.1.1.1.1.2.2.2.2.2.1, ⟨hk.1.1.1.1.1.1.1.2.2.2.2.2.2.1, ⟨hk.1.1.1.1.1.1.1.2.2.2.2.2.2.2.1, ⟨hk.1.1.1.1.1.1.1.2.2.2.2.2.2.2.2.1, ⟨hk.1.1.1.1.1.1.1.2.2.2.2.2.2.2.2.2, ⟨hk.1.1.1.1.1.1.1.1, ⟨hk.1.1.1.1.1.1.1.2.1, ⟨hk.1.1.1.1.1.1.1.2.2.1, ⟨hk.1.1.1.1.1.1.1.2.2.2.1, ⟨hk.1.1.1.1.1.1.2, ⟨hk.1.1.1.1.1.2, ⟨hk.1.1.1.1.2, ⟨hk.1.1.1.2, ⟨hk.1.1.2, hk.1.2⟩⟩⟩⟩⟩⟩⟩⟩⟩⟩⟩⟩⟩⟩⟩)))⟩; have n10_ : Za (Kd.R (Kd.int .i64) 3 w32 w.heap.size (fun k_ => some k_ ≠ (.slice Ao16 t186.length co16 : Value).ownBlock ∧ some k_ ≠ (.slice Ao31 t220.length co31 : Value).ownBlock) (.slice Ao23 t205.length co23) t205) := ⟨(by rw [hw]; exact (by (with_reducible repeat (first | apply Kd.R_alloc | apply Kd.Zy | apply Kd.Xg)); exact Kd.Xh (Kd.Xb (p := ⟨gb224, 4, none⟩) (Kd.Xb (p := ⟨gb224, 3, none⟩) (Kd.Xb (p := ⟨gb224, 2, none⟩) (Kd.Xb (p := ⟨gb224, 1, none⟩) (Kd.Xb (p := ⟨gb224, 0, none⟩) (Kd.Xv HO207.out BK224.out (by decide)) (fun _ hk => hk.2) (.slice Ao26 t208.length co26)) (fun _ hk => hk.2) (.slice Ao28 t211.length co28)) (fun _ hk => hk.2) (.slice Ao29 t214.length co29)) (fun _ hk => hk.2) (.slice Ao30 t217.length co30)) (fun _ hk => hk.2) (.slice Ao31 t220.length co31)) (fun _ hk => ⟨hk.1.1.2, hk.1.2⟩)))⟩; have n11_ : Za (Kd.R Kd.string 9 w32 w.heap.size (fun k_ => some k_ ≠ (.slice Ao12 t174.length co12 : Value).ownBlock ∧ some k_ ≠ (.slice Ao13 t177.length co13 : Value).ownBlock ∧ some k_ ≠ (.slice Ao19 t193.length co19 : Value).ownBlock ∧ some k_ ≠ (.slice Ao20 t196.length co20 : Value).ownBlock ∧ some k_ ≠ (.slice Ao28 t211.length co28 : Value).ownBlock) (.slice Ao26 t208.length co26) t208) := ⟨(by rw [hw]; exact (by (with_reducible repeat (first | apply Kd.R_alloc | apply Kd.Zy | apply Kd.Xg)); exact Kd.Xh (Kd.Xb (p := ⟨gb224, 4, none⟩) (Kd.Xb (p := ⟨gb224, 3, none⟩) (Kd.Xb (p := ⟨gb224, 2, none⟩) (Kd.Xb (p := ⟨gb224, 1, none⟩) (Kd.Xb (p := ⟨gb224, 0, none⟩) (Kd.Xv HO210.out BK224.out (by decide)) (fun _ hk => hk.2) (.slice Ao26 t208.length co26)) (fun _ hk => hk.2) (.slice Ao28 t211.length co28)) (fun _ hk => hk.2) (.slice Ao29 t214.length co29)) (fun _ hk => hk.2) (.slice Ao30 t217.length co30)) (fun _ hk => hk.2) (.slice Ao31 t220.length co31)) (fun _ hk => ⟨hk.1.1.1.1.2, ⟨hk.1.1.1.2, ⟨hk.1.1.2, ⟨hk.1.2, hk.1.1.1.1.1⟩⟩⟩⟩)))⟩; have n12_ : Za (Kd.R Kd.string 9 w32 w.heap.size (fun k_ => some k_ ≠ (.slice Ao12 t174.length co12 : Value).ownBlock ∧ some k_ ≠ (.slice Ao13 t177.length co13 : Value).ownBlock ∧ some k_ ≠ (.slice Ao19 t193.length co19 : Value).ownBlock ∧ some k_ ≠ (.slice Ao20 t196.length co20 : Value).ownBlock ∧ some k_ ≠ (.slice Ao26 t208.length co26 : Value).ownBlock) (.slice Ao28 t211.length co28) t211) := ⟨(by rw [hw]; exact (by (with_reducible repeat (first | apply Kd.R_alloc | apply Kd.Zy | apply Kd.Xg)); exact Kd.Xh (Kd.Xb (p := ⟨gb224, 4, none⟩) (Kd.Xb (p := ⟨gb224, 3, none⟩) (Kd.Xb (p := ⟨gb224, 2, none⟩) (Kd.Xb (p := ⟨gb224, 1, none⟩) (Kd.Xb (p := ⟨gb224, 0, none⟩) (Kd.Xv HO213.out BK224.out (by decide)) (fun _ hk => hk.2) (.slice Ao26 t208.length co26)) (fun _ hk => hk.2) (.slice Ao28 t211.length co28)) (fun _ hk => hk.2) (.slice Ao29 t214.length co29)) (fun _ hk => hk.2) (.slice Ao30 t217.length co30)) (fun _ hk => hk.2) (.slice Ao31 t220.length co31)) (fun _ hk => ⟨hk.1.1.1.1.2, ⟨hk.1.1.1.2, ⟨hk.1.1.2, ⟨hk.1.2, hk.1.1.1.1.1⟩⟩⟩⟩)))⟩; have n13_ : Za (Kd.R k82 82 w32 w.heap.size (fun k_ => some k_ ≠ (.slice Ao14 t180.length co14 : Value).ownBlock ∧ some k_ ≠ (.slice Ao21 t199.length co21 : Value).ownBlock) (.slice Ao29 t214.length co29) t214) := ⟨(by rw [hw]; exact (by (with_reducible repeat (first | apply Kd.R_alloc | apply Kd.Zy | apply Kd.Xg)); exact Kd.Xh (Kd.Xb (p := ⟨gb224, 4, none⟩) (Kd.Xb (p := ⟨gb224, 3, none⟩) (Kd.Xb (p := ⟨gb224, 2, none⟩) (Kd.Xb (p := ⟨gb224, 1, none⟩) (Kd.Xb (p := ⟨gb224, 0, none⟩) (Kd.Xv HO216.out BK224.out (by decide)) (fun _ hk => hk.2) (.slice Ao26 t208.length co26)) (fun _ hk => hk.2) (.slice Ao28 t211.length co28)) (fun _ hk => hk.2) (.slice Ao29 t214.length co29)) (fun _ hk => hk.2) (.slice Ao30 t217.length co30)) (fun _ hk => hk.2) (.slice Ao31 t220.length co31)) (fun _ hk => ⟨hk.1.1.2, hk.1.2⟩)))⟩; have n14_ : Za (Kd.N k80 80 w32 w.heap.size (fun k_ => some k_ ≠ (.slice Ao12 t174.length co12 : Value).ownBlock ∧ some k_ ≠ (.slice Ao13 t177.length co13 : Value).ownBlock ∧ some k_ ≠ (.slice Ao14 t180.length co14 : Value).ownBlock ∧ some k_ ≠ (.slice Ao15 t183.length co15 : Value).ownBlock ∧ some k_ ≠ (.slice Ao16 t186.length co16 : Value).ownBlock ∧ some k_ ≠ (v190 : Value).ownBlock ∧ some k_ ≠ (.slice Ao19 t193.length co19 : Value).ownBlock ∧ some k_ ≠ (.slice Ao20 t196.length co20 : Value).ownBlock ∧ some k_ ≠ (.slice Ao21 t199.length co21 : Value).ownBlock ∧ some k_ ≠ (.slice Ao22 t202.length co22 : Value).ownBlock ∧ some k_ ≠ (.slice Ao23 t205.length co23 : Value).ownBlock ∧ some k_ ≠ (.slice Ao26 t208.length co26 : Value).ownBlock ∧ some k_ ≠ (.slice Ao28 t211.length co28 : Value).ownBlock ∧ some k_ ≠ (.slice Ao29 t214.length co29 : Value).ownBlock ∧ some k_ ≠ (.slice Ao31 t220.length co31 : Value).ownBlock ∧ k_ ≠ gb224) (.slice Ao30 t217.length co30) t217) := ⟨(by rw [hw]; exact (by (with_reducible repeat (first | apply Kd.N_alloc | apply Kd.N_drewN | apply Kd.N_drew)); exact Kd.N_mono (Kd.N_far (p := ⟨gb224, 4, none⟩) (Kd.N_far (p := ⟨gb224, 3, none⟩) (Kd.N_far (p := ⟨gb224, 2, none⟩) (Kd.N_far (p := ⟨gb224, 1, none⟩) (Kd.N_far (p := ⟨gb224, 0, none⟩) (Kd.N_mono HO219.out (fun k_ hk => (⟨hk, hk.2⟩ : _ ∧ k_ ≠ gb224))) (fun _ hk => hk.2) (.slice Ao26 t208.length co26)) (fun _ hk => hk.2) (.slice Ao28 t211.length co28)) (fun _ hk => hk.2) (.slice Ao29 t214.length co29)) (fun _ hk => hk.2) (.slice Ao30 t217.length co30)) (fun _ hk => hk.2) (.slice Ao31 t220.length co31)) (fun _ hk => ⟨hk.1.1.2.2.2.2.1, ⟨hk.1.1.2.2.2.2.2.1, ⟨hk.1.1.2.2.2.2.2.2.1, ⟨hk.1.1.2.2.2.2.2.2.2.1, ⟨hk.1.1.2.2.2.2.2.2.2.2.1, ⟨hk.1.1.2.2.2.2.2.2.2.2.2.1, ⟨hk.1.1.2.2.2.2.2.2.2.2.2.2.1, ⟨hk.1.1.2.2.2.2.2.2.2.2.2.2.2.1, ⟨hk.1.1.2.2.2.2.2.2.2.2.2.2.2.2.1, ⟨hk.1.1.2.2.2.2.2.2.2.2.2.2.2.2.2.1, ⟨hk.1.1.2.2.2.2.2.2.2.2.2.2.2.2.2.2, ⟨hk.1.1.1, ⟨hk.1.1.2.1, ⟨hk.1.1.2.2.1, ⟨hk.1.1.2.2.2.1, hk.1.2⟩⟩⟩⟩⟩⟩⟩⟩⟩⟩⟩⟩⟩⟩⟩)))⟩; have n15_ : Za (Kd.R (Kd.int .i64) 3 w32 w.heap.size (fun k_ => some k_ ≠ (.slice Ao16 t186.length co16 : Value).ownBlock ∧ some k_ ≠ (.slice Ao23 t205.length co23 : Value).ownBlock) (.slice Ao31 t220.length co31) t220) := ⟨(by rw [hw]; exact (by (with_reducible repeat (first | apply Kd.R_alloc | apply Kd.Zy | apply Kd.Xg)); exact Kd.Xh (Kd.Xb (p := ⟨gb224, 4, none⟩) (Kd.Xb (p := ⟨gb224, 3, none⟩) (Kd.Xb (p := ⟨gb224, 2, none⟩) (Kd.Xb (p := ⟨gb224, 1, none⟩) (Kd.Xb (p := ⟨gb224, 0, none⟩) (Kd.Xv HO222.out BK224.out (by decide)) (fun _ hk => hk.2) (.slice Ao26 t208.length co26)) (fun _ hk => hk.2) (.slice Ao28 t211.length co28)) (fun _ hk => hk.2) (.slice Ao29 t214.length co29)) (fun _ hk => hk.2) (.slice Ao30 t217.length co30)) (fun _ hk => hk.2) (.slice Ao31 t220.length co31)) (fun _ hk => ⟨hk.1.1.2, hk.1.2⟩)))⟩; have n16_ : Za (w32.heap[gb224]? = some (.cells #[.slice Ao26 t208.length co26, .slice Ao28 t211.length co28, .slice Ao29 t214.length co29, .slice Ao30 t217.length co30, .slice Ao31 t220.length co31] 27 (0, 0))) := ⟨(by rw [hw]; exact (by (with_reducible repeat (first | refine Zg ?_ _ | refine Zi ?_ | refine Zf ?_ _)); refine Qa (cs := #[.slice Ao26 t208.length co26, .slice Ao28 t211.length co28, .slice Ao29 t214.length co29, .slice Ao30 t217.length co30, .slice none 0 0]) ?_ 4 _ rfl; (with_reducible repeat (first | refine Zg ?_ _ | refine Zi ?_ | refine Zf ?_ _)); refine Qa (cs := #[.slice Ao26 t208.length co26, .slice Ao28 t211.length co28, .slice Ao29 t214.length co29, .slice none 0 0, .slice none 0 0]) ?_ 3 _ rfl; (with_reducible repeat (first | refine Zg ?_ _ | refine Zi ?_ | refine Zf ?_ _)); refine Qa (cs := #[.slice Ao26 t208.length co26, .slice Ao28 t211.length co28, .slice none 0 0, .slice none 0 0, .slice none 0 0]) ?_ 2 _ rfl; (with_reducible repeat (first | refine Zg ?_ _ | refine Zi ?_ | refine Zf ?_ _)); refine Qa (cs := #[.slice Ao26 t208.length co26, .slice none 0 0, .slice none 0 0, .slice none 0 0, .slice none 0 0]) ?_ 1 _ rfl; (with_reducible repeat (first | refine Zg ?_ _ | refine Zi ?_ | refine Zf ?_ _)); refine Qa (cs := #[.slice none 0 0, .slice none 0 0, .slice none 0 0, .slice none 0 0, .slice none 0 0]) ?_ 0 _ rfl; (with_reducible repeat (first | refine Zg ?_ _ | refine Zi ?_ | refine Zf ?_ _)); exact BK224.out))⟩; have n17_ : Za (Below w.heap.size w w32) := ⟨(by rw [hw]; exact (by repeat (first | (with_reducible first | exact HB.out | apply Zl | apply Zj | apply Zo | refine Zh ?_ GE224.out) | exact HB.out)))⟩; clear hw; clear HO176; clear HO179; clear HO182; clear HO185; clear HO188; clear HO191; clear HO195; clear HO198; clear HO201; clear HO204; clear HO207; clear HO210; clear HO213; clear HO216; clear HO219; clear HO222; clear BK224; clear HB; have HO176 := n0_; have HO179 := n1_; have HO182 := n2_; have HO185 := n3_; have HO188 := n4_; have HO191 := n5_; have HO195 := n6_; have HO198 := n7_; have HO201 := n8_; have HO204 := n9_; have HO207 := n10_; have HO210 := n11_; have HO213 := n12_; have HO216 := n13_; have HO219 := n14_; have HO222 := n15_; have BK224 := n16_; have HB := n17_; clear n0_ n1_ n2_ n3_ n4_ n5_ n6_ n7_ n8_ n9_ n10_ n11_ n12_ n13_ n14_ n15_ n16_ n17_; obtain ⟨Ao33, co33, eo33⟩ := Kd.Xi HO191.out; subst eo33; have hcz34_0 : w32.cell? ⟨gb224, 0, none⟩ = some (.slice Ao26 t208.length co26) := (Zc BK224.out 0).trans rfl; have hcz34_1 : w32.cell? ⟨gb224, 1, none⟩ = some (.slice Ao28 t211.length co28) := (Zc BK224.out 1).trans rfl; have hcz34_2 : w32.cell? ⟨gb224, 2, none⟩ = some (.slice Ao29 t214.length co29) := (Zc BK224.out 2).trans rfl; have hcz34_3 : w32.cell? ⟨gb224, 3, none⟩ = some (.slice Ao30 t217.length co30) := (Zc BK224.out 3).trans rfl; have hcz34_4 : w32.cell? ⟨gb224, 4, none⟩ = some (.slice Ao31 t220.length co31) := (Zc BK224.out 4).trans rfl; have hfz34_0 := Zb BK224.out 0; have hfz34_1 := Zb BK224.out 1; have hfz34_2 := Zb BK224.out 2; have hfz34_3 := Zb BK224.out 3; have hfz34_4 := Zb BK224.out 4; have p225 : 0 ≤ (0 : Int) := (by omega); have q225 : 0 < (t217.length : Int) := of_decide_eq_true (by first | (with_reducible assumption) | assumption); obtain ⟨ad225, A225_2, c225_2, e225, hx225_0, hx225_1, hx225_2, hl225_2, hi225_2⟩ := at_T80 (Kd.N_reads' HO219.out).2.2 0 p225 q225; cases e225; obtain ⟨ce225, hce225, hMe225, hcc225⟩ := Kd.N_get HO219.out z80 0 p225 (by first | exact q225 | exact of_decide_eq_true (by first | (with_reducible assumption) | assumption) | (have e_ := (Kd.N_reads' HO219.out).1; omega)); obtain ⟨ua225_2, uc225_2, rfl, ul225_2, ge225_2⟩ := k80_openF hMe225; have hv225_2 := hcc225 2 _ rfl; rw [add_field _ _ 2 (by omega)] at hv225_2; replace hv225_2 := Option.some.inj (hv225_2.symm.trans hx225_2); injection hv225_2 with hva_ hvn_ hvc_; rw [hva_] at ge225_2; rw [hvc_] at ul225_2; have HL225_2 := Za.mk (show Kd.V (Kd.int .i64) 3 _ w.heap.size _ _ ((Xe t217 0).f2) from Kd.V_mk ul225_2 ge225_2); clear hva_ hvn_ hvc_ ge225_2 ul225_2; clear hcc225 hce225; have qi225 : (0 < t217.length) = True := eq_true (by omega); (try rw [show ((0 : Int)).toNat = 0 from rfl] at hx225_0); (try rw [show 0 * 3 = 0 from rfl] at hx225_0); (try rw [Addr.add_zero'] at hx225_0); (try rw [show ((0 : Int)).toNat = 0 from rfl] at hx225_1); (try rw [show 0 * 3 = 0 from rfl] at hx225_1); (try rw [Addr.add_zero'] at hx225_1); (try rw [show ((0 : Int)).toNat = 0 from rfl] at hx225_2); (try rw [show 0 * 3 = 0 from rfl] at hx225_2); (try rw [Addr.add_zero'] at hx225_2); have HR225_2 := Za.mk hi225_2; have HC225_2 := Za.mk hl225_2; clear hi225_2 hl225_2; replace p225 := eq_true p225; replace q225 := eq_true q225) | ((with_reducible refine Xl (N := 39) rfl ?_); (try (refine Qd (by rfl) ?_; dsimp only)); refine Kd.R_lit (Kd.int .i64) _ 3 ?hg (N := 39) ?hd (xs := ([1] : List Int)) (inner := [.int .i64 1]) (ok := fun _ => True) (okp := fun _ => True) ?hr ?hp (fun _ hk => hk) trivial (Below.refl _ _) (Nat.le_refl _) (by simp) ?_; (case hd => rfl); (case hg => rfl); (case hr => first | (go_simp; done) | (go_simp; rfl)); (case hp => exact (Reps.one (show Kd.M (Kd.int .i64) _ _ _ 1 [.int .i64 1] from rfl) (Reps.none _ _))); intro v227 w35 ho36 hb hg_ hnew_; clear hg_ hnew_; (first | rw [← Ny226.out] at ho36 | (simp only [Int.reduceToNat] at ho36; rw [← Ny226.out] at ho36)); have n0_ := Za.mk (Kd.Zp HO176.out hb); have n1_ := Za.mk (Kd.Zp HO179.out hb); have n2_ := Za.mk (Kd.Zp HO182.out hb); have n3_ := Za.mk (Kd.N_elder' HO185.out (Kd.Xy ho36) hb); have n4_ := Za.mk (Kd.R_elder' HO188.out (Kd.Xy ho36) hb); have n5_ := Za.mk (Kd.Zp HO191.out hb); have n6_ := Za.mk (Kd.Zp HO195.out hb); have n7_ := Za.mk (Kd.Zp HO198.out hb); have n8_ := Za.mk (Kd.Zp HO201.out hb); have n9_ := Za.mk (Kd.N_elder' HO204.out (Kd.Xy ho36) hb); have n10_ := Za.mk (Kd.R_elder' HO207.out (Kd.Xy ho36) hb); have n11_ := Za.mk (Kd.Zp HO210.out hb); have n12_ := Za.mk (Kd.Zp HO213.out hb); have n13_ := Za.mk (Kd.Zp HO216.out hb); have n14_ := Za.mk (Kd.N_elder' HO219.out (Kd.Xy ho36) hb); have n15_ := Za.mk (Kd.R_elder' HO222.out (Kd.Xy ho36) hb); have n16_ := Za.mk (Kd.V_elder' HL225_2.out (Kd.Xy ho36) hb); have n17_ := Za.mk (Kd.Xm (Kd.Qz (Kd.Qz (Kd.Qz ho36 (Kd.R_lt HO188.out)) (Kd.R_lt HO207.out)) (Kd.R_lt HO222.out)) (Zm HB.out)); have n18_ := Za.mk (Zq BK224.out hb); have n19_ := Za.mk (Kd.Zk (by repeat (first | (with_reducible exact HR225_2.out) | (with_reducible refine Kd.C_alloc ?_ _) | (with_reducible refine Kd.C_drewN ?_ _) | (with_reducible refine Kd.C_drew ?_) | exact HR225_2.out)) hb); have n20_ := Za.mk (Zn HB.out hb); clear HO176; clear HO179; clear HO182; clear HO185; clear HO188; clear HO191; clear HO195; clear HO198; clear HO201; clear HO204; clear HO207; clear HO210; clear HO213; clear HO216; clear HO219; clear HO222; clear HL225_2; clear BK224; clear HR225_2; clear HB; have HO176 := n0_; have HO179 := n1_; have HO182 := n2_; have HO185 := n3_; have HO188 := n4_; have HO191 := n5_; have HO195 := n6_; have HO198 := n7_; have HO201 := n8_; have HO204 := n9_; have HO207 := n10_; have HO210 := n11_; have HO213 := n12_; have HO216 := n13_; have HO219 := n14_; have HO222 := n15_; have HL225_2 := n16_; have HO228 := n17_; have BK224 := n18_; have HR225_2 := n19_; have HB := n20_; clear n0_ n1_ n2_ n3_ n4_ n5_ n6_ n7_ n8_ n9_ n10_ n11_ n12_ n13_ n14_ n15_ n16_ n17_ n18_ n19_ n20_; clear hb ho36; obtain ⟨Ao37, co37, eo37⟩ := Kd.Xi HO228.out; subst eo37) | (go_at_call 18; (with_reducible refine (Zw.calls k _ _ ((Xe t217 0).f2) _ _ y226 t229 _ ?side1 ?side2 ?side3 ?side4 A10.out).mono ?_); (case side1 => repeat (first | exact (by repeat (first | (with_reducible exact HR225_2.out) | (with_reducible refine Kd.C_alloc ?_ _) | (with_reducible refine Kd.C_drewN ?_ _) | (with_reducible refine Kd.C_drew ?_) | exact HR225_2.out)) | (with_reducible refine Kd.C_alloc ?_ _) | (with_reducible refine Kd.C_drewN ?_ _) | (with_reducible refine Kd.C_drew ?_))); (case side2 => exact HC225_2.out); (case side3 => repeat (first | exact (Kd.Xd HO228.out).2.2 | (with_reducible refine Kd.C_alloc ?_ _) | (with_reducible refine Kd.C_drewN ?_ _) | (with_reducible refine Kd.C_drew ?_))); (case side4 => exact (Kd.Xd HO228.out).2.1); rintro e w' ⟨rfl, ⟨nd, rfl⟩⟩))
      go_ret
      exact ⟨by first | rfl | (simp [errW_none, errW_some] <;> rfl) | (simp [*, errW_none, errW_some] <;> rfl), by repeat (first | (with_reducible first | exact HB.out | apply Zl | apply Zj | apply Zo | refine Zh ?_ GE224.out) | exact HB.out)⟩
     ·rw [if_neg c9] at H
      exact absurd H (by simp)
    ·rw [if_neg c8] at H
     exact absurd H (by simp)
   ·rw [if_neg c7] at H
    exact absurd H (by simp)
  ·rw [if_neg c6] at H
   exact absurd H (by simp)
 ·rw [if_neg c5] at H
  exact absurd H (by simp)
end Go.Proofs.Ytimjccfpobhpeaa.PF
namespace Go.Proofs.Ytimjccfpobhpeaa
open Go.RowKit Go.Proofs.YtimjccfpobhpeaaW.PrintWords Go.Proofs.Ytimjccfpobhpeaa.PF
set_option linter.unusedVariables false
set_option maxRecDepth 100000
theorem faultyD : Qn.f 60 = some true := by kernel_rfl
theorem faulty_ge {k : Nat} (h : 60 ≤ k) : Qn.f k = some true := upK Qn.mono h faultyD
theorem rdFa_at {xs : List Qr} {i : Nat} {x : Qr} (h : xs[i]? = some x) : Zr xs (i : Int) = x := by
  unfold Zr
  first
  | exact rdOf_at h
  | (have hi : i < xs.length := (List.getElem?_eq_some_iff.1 h).1
     simp [h])
theorem bne_notI (b : Int) : ¬ (b != b) = true := by simp
def Kt (ef : Qr → Int) : List Qr → Int
  | [] => 0
  | f :: r => if ef f = 0 then Kt ef r else ef f
theorem firstErr_zero {ef : Qr → Int} : ∀ {fs : List Qr}, Kt ef fs = 0 → ∀ f ∈ fs, ef f = 0
  | [], _, f, hf => by cases hf
  | g :: r, h, f, hf => by
    unfold Kt at h
    split at h
    · rename_i h0
      rcases List.mem_cons.1 hf with rfl | hf
      · exact h0
      · exact firstErr_zero h f hf
    · rename_i h0
      exact absurd h h0
end Go.Proofs.Ytimjccfpobhpeaa
namespace Go.Proofs.Ytimjccfpobhpeaa.PF
open Go.RowKit Go.Proofs.YtimjccfpobhpeaaW.PrintWords Go.Proofs.YtimjccfpobhpeaaW.PrintLast Go.Proofs.YtimjccfpobhpeaaW.PrintMore
set_option linter.unusedVariables false
set_option linter.unusedSimpArgs false
def Qh.f (k : Nat) (l0_0 : List ByteArray) (l0_1 : List ByteArray) (l0_2 : List (S82)) (l0_3 : List (Ky)) (l0_4 : List Int) (l1 : List Bool) (l2 : List Bool) : Option (List Bool × List Bool × Int) := (Qe.f k l1).bind fun t369 => ((Qe.f k l2).bind fun t372 => ((Qg.f k l0_0 l0_1 l0_2 l0_3 l0_4 t369 t372).bind fun bt375 => (if bt375.2.2 = 0 then ((Qi.f k bt375.1).bind fun t382 => ((Qi.f k bt375.2.1).bind fun t385 => (some (t382, t385, 0)))) else (some (([] : List Bool), ([] : List Bool), bt375.2.2)))))
def Qh.T1 : Bool × List (List Nat × List Nat) := (true, [([], []), ([], []), ([1], [1]), ([], []), ([3, 2], [3]), ([0, 2, 4, 4], [0, 2, 4]), ([5], [5]), ([6], [6]), ([6], [6]), ([6], [6]), ([7, 5, 0, 1, 2, 3, 4, 5, 6, 7], [7]), ([8, 10, 0, 1, 2, 3, 4, 5, 6, 7, 8, 10], [8]), ([9, 11, 0, 1, 2, 3, 4, 5, 6, 7, 8, 9, 10, 11], [9])])
def Qh.B1 : List Nat := [0, 0, 2, 0, 14, 31, 63, 127, 127, 127, 255, 1535, 4095]
theorem Qh.tab1 : rtab .any (opsOf Try.f46 1) = Qh.T1 := by kernel_rfl
theorem Qh.bits1 : waitsOk Qh.T1.2 Qh.B1 = true := by kernel_rfl
set_option maxHeartbeats 8000000 in
set_option maxRecDepth 100000 in
theorem Qh.calls (k : Nat) (A0_0 : Option Addr) (c0_0 : Nat) (l0_0 : List ByteArray) (A0_1 : Option Addr) (c0_1 : Nat) (l0_1 : List ByteArray) (A0_2 : Option Addr) (c0_2 : Nat) (l0_2 : List (S82)) (A0_3 : Option Addr) (c0_3 : Nat) (l0_3 : List (Ky)) (A0_4 : Option Addr) (c0_4 : Nat) (l0_4 : List Int) (A1 : Option Addr) (c1 : Nat) (l1 : List Bool) (A2 : Option Addr) (c2 : Nat) (l2 : List Bool) (r1 : List Bool) (r2 : List Bool) (r3 : Int) (w : World) (hr0_0 : Kd.C Kd.string w A0_0 l0_0.length l0_0) (hc0_0 : l0_0.length ≤ c0_0) (hr0_1 : Kd.C Kd.string w A0_1 l0_1.length l0_1) (hc0_1 : l0_1.length ≤ c0_1) (hr0_2 : Kd.C k82 w A0_2 l0_2.length l0_2) (hc0_2 : l0_2.length ≤ c0_2) (hr0_3 : Kd.C k80 w A0_3 l0_3.length l0_3) (hc0_3 : l0_3.length ≤ c0_3) (hr0_4 : Kd.C (Kd.int .i64) w A0_4 l0_4.length l0_4) (hc0_4 : l0_4.length ≤ c0_4) (hr1 : Kd.C Kd.bool w A1 l1.length l1) (hc1 : l1.length ≤ c1) (hr2 : Kd.C Kd.bool w A2 l2.length l2) (hc2 : l2.length ≤ c2) (h : Qh.f k l0_0 l0_1 l0_2 l0_3 l0_4 l1 l2 = some (r1, r2, r3)) :
 Calls Try.prog 46 #[.agg #[.slice A0_0 l0_0.length c0_0, .slice A0_1 l0_1.length c0_1, .slice A0_2 l0_2.length c0_2, .slice A0_3 l0_3.length c0_3, .slice A0_4 l0_4.length c0_4], .slice A1 l1.length c1, .slice A2 l2.length c2] w fun e w' => ∃ v0_ v1_ : Value, e = .returned (.tuple #[v0_, v1_, .int .i64 r3]) ∧ Kd.R Kd.bool 4 w' w.heap.size (fun k_ => some k_ ≠ (v1_ : Value).ownBlock) v0_ r1 ∧ Kd.R Kd.bool 4 w' w.heap.size (fun k_ => some k_ ≠ (v0_ : Value).ownBlock) v1_ r2 ∧ Below w.heap.size w w' := by
 have hu27 := Try.underlying27
 have HR0_0 := Za.mk hr0_0
 have HC0_0 := Za.mk hc0_0
 clear hr0_0 hc0_0
 have HR0_1 := Za.mk hr0_1
 have HC0_1 := Za.mk hc0_1
 clear hr0_1 hc0_1
 have HR0_2 := Za.mk hr0_2
 have HC0_2 := Za.mk hc0_2
 clear hr0_2 hc0_2
 have HR0_3 := Za.mk hr0_3
 have HC0_3 := Za.mk hc0_3
 clear hr0_3 hc0_3
 have HR0_4 := Za.mk hr0_4
 have HC0_4 := Za.mk hc0_4
 clear hr0_4 hc0_4
 have HR1 := Za.mk hr1
 have HC1 := Za.mk hc1
 clear hr1 hc1
 have HR2 := Za.mk hr2
 have HC2 := Za.mk hc2
 clear hr2 hc2
 have HB := Za.mk (Below.refl w.heap.size w)
 have H : ((Qe.f k l1).bind fun t369 => ((Qe.f k l2).bind fun t372 => ((Qg.f k l0_0 l0_1 l0_2 l0_3 l0_4 t369 t372).bind fun bt375 => (if bt375.2.2 = 0 then ((Qi.f k bt375.1).bind fun t382 => ((Qi.f k bt375.2.1).bind fun t385 => (some (t382, t385, 0)))) else (some (([] : List Bool), ([] : List Bool), bt375.2.2)))))) = some (r1, r2, r3) := h
 clear h
 replace H := Option.bind_eq_some_iff.mp H
 obtain ⟨t369, A40, H⟩ := H
 replace H : ((Qe.f k l2).bind fun t372 => ((Qg.f k l0_0 l0_1 l0_2 l0_3 l0_4 t369 t372).bind fun bt375 => (if bt375.2.2 = 0 then ((Qi.f k bt375.1).bind fun t382 => ((Qi.f k bt375.2.1).bind fun t385 => (some (t382, t385, 0)))) else (some (([] : List Bool), ([] : List Bool), bt375.2.2))))) = some (r1, r2, r3) := H
 have A4 := Za.mk A40
 clear A40
 replace H := Option.bind_eq_some_iff.mp H
 obtain ⟨t372, A50, H⟩ := H
 replace H : ((Qg.f k l0_0 l0_1 l0_2 l0_3 l0_4 t369 t372).bind fun bt375 => (if bt375.2.2 = 0 then ((Qi.f k bt375.1).bind fun t382 => ((Qi.f k bt375.2.1).bind fun t385 => (some (t382, t385, 0)))) else (some (([] : List Bool), ([] : List Bool), bt375.2.2)))) = some (r1, r2, r3) := H
 have A5 := Za.mk A50
 clear A50
 replace H := Option.bind_eq_some_iff.mp H
 obtain ⟨⟨t375, t378, t381⟩, A60, H⟩ := H
 replace H : (if t381 = 0 then ((Qi.f k t375).bind fun t382 => ((Qi.f k t378).bind fun t385 => (some (t382, t385, 0)))) else (some (([] : List Bool), ([] : List Bool), t381))) = some (r1, r2, r3) := H
 have A6 := Za.mk A60
 clear A60
 by_cases c7 : t381 = 0
 ·rw [if_pos c7] at H
  have c7b0 : (t381 == 0) = true := beq_iff_eq.mpr c7
  have c7b1 : (t381 != 0) = false := bne_eq_false_iff_eq.mpr c7
  clear c7
  replace H := Option.bind_eq_some_iff.mp H
  obtain ⟨t382, A80, H⟩ := H
  replace H : ((Qi.f k t378).bind fun t385 => (some (t382, t385, 0))) = some (r1, r2, r3) := H
  have A8 := Za.mk A80
  clear A80
  replace H := Option.bind_eq_some_iff.mp H
  obtain ⟨t385, A90, H⟩ := H
  replace H : (some (t382, t385, 0)) = some (r1, r2, r3) := H
  have A9 := Za.mk A90
  clear A90
  simp only [Option.some.injEq, Prod.mk.injEq] at H
  obtain ⟨rfl, rfl, rfl⟩ := H
  go_enter Try.func46, Try.ntmps46
  try go_wp2_with (first | ((with_reducible refine Xl (N := 3) rfl ?_); refine Xr ?hg (N := 3) ?hd (cs := #[.slice A0_0 l0_0.length c0_0, .slice A0_1 l0_1.length c0_1, .slice A0_2 l0_2.length c0_2, .slice A0_3 l0_3.length c0_3, .slice A0_4 l0_4.length c0_4]) (t := 27) ?hr ?_; (case hd => rfl); (case hg => rfl); (case hr => first | (go_simp; done) | (go_simp; rfl)); intro gb368 hg w10 hbox hb; have n0_ := Za.mk (Zn (by repeat (first | (with_reducible first | exact HB.out | apply Zl | apply Zj | apply Zo) | exact HB.out)) hb); have n1_ := Za.mk (hbox); have n2_ := Za.mk ((by rw [hg]; exact (Zm (by repeat (first | (with_reducible first | exact HB.out | apply Zl | apply Zj | apply Zo) | exact HB.out))) : w.heap.size ≤ gb368)); have n3_ := n2_; clear HB; have HB := n0_; have BK368 := n1_; have GW368 := n2_; have GE368 := n3_; clear n0_ n1_ n2_ n3_; clear hb hbox hg))
  have n0_ := Za.mk (Zi BK368.out)
  have n1_ := Za.mk (Zo HB.out)
  clear BK368
  clear HB
  have BK368 := n0_
  have HB := n1_
  clear n0_ n1_
  refine start_ (n := 13) (S := fun w' => w'.cell? ⟨gb368, 0, none⟩ = some (.slice A0_0 l0_0.length c0_0) ∧ w'.cell? ⟨gb368, 1, none⟩ = some (.slice A0_1 l0_1.length c0_1) ∧ w'.cell? ⟨gb368, 2, none⟩ = some (.slice A0_2 l0_2.length c0_2) ∧ w'.cell? ⟨gb368, 3, none⟩ = some (.slice A0_3 l0_3.length c0_3) ∧ w'.cell? ⟨gb368, 4, none⟩ = some (.slice A0_4 l0_4.length c0_4)) (ds := []) #[false, false, false, false, false, false, false, false, false, false, false, false, false] (by kernel_rfl) rfl rfl ⟨(Zc BK368.out 0).trans rfl, (Zc BK368.out 1).trans rfl, (Zc BK368.out 2).trans rfl, (Zc BK368.out 3).trans rfl, (Zc BK368.out 4).trans rfl⟩ (fun hHeld => ?_); refine with_tabW Qh.tab1 Qh.bits1 (fun HT_ HW_ => ?_)
  generalize w10.drew = w11 at BK368 HB hHeld ⊢
  refine Kq (i := 1) (N := some 13) (v := ?_) (a' := ?_) #[false, true, false, false, false, false, false, false, false, false, false, false, false] rfl rfl (Qs HT_.out (by kernel_rfl)) (fun _ _ _ h => h) (Or.inl ⟨by rfl, ?_⟩) ?_ ?_
  rotate_left
  ·intro w'
   go_simp
   with_reducible rfl
  rotate_left
  ·simp only [Act.put, List.setIfInBounds_toArray, List.set_cons_zero, List.set_cons_succ, Qb, Qc]
   rfl
  refine Kq (i := 3) (N := some 15) (v := ?_) (a' := ?_) #[false, true, false, true, false, false, false, false, false, false, false, false, false] rfl rfl (Qs HT_.out (by kernel_rfl)) (fun _ _ _ h => h) (Or.inl ⟨by rfl, ?_⟩) ?_ ?_
  rotate_left
  ·intro w'
   go_simp
   with_reducible rfl
  rotate_left
  ·simp only [Act.put, List.setIfInBounds_toArray, List.set_cons_zero, List.set_cons_succ, Qb, Qc]
   rfl
  refine take_ (i := 0) (N := some 12) (v := ?_) (a' := ?_) #[true, true, false, true, false, false, false, false, false, false, false, false, false] rfl rfl (take_ofW HT_.out HW_.out (by kernel_rfl)) (fun _ _ _ h => h) (Or.inl ⟨by rfl, ?_⟩) hHeld ?_ ?_
  rotate_left
  ·rintro w' ⟨s0, s1, s2, s3, s4⟩
   go_simp
   with_reducible rfl
  rotate_left
  ·simp only [Act.put, List.setIfInBounds_toArray, List.set_cons_zero, List.set_cons_succ, Qb, Qc]
   rfl
  refine one_ (i := 2) (N := some 14) #[true, true, true, true, false, false, false, false, false, false, false, false, false] rfl rfl (one_of HT_.out (by kernel_rfl)) (by decide) (fun K hK => ?_)
  refine goes_ Try.func58 (by kernel_rfl) rfl #[.slice A1 l1.length c1] (by rfl) rfl rfl (by (try simp only [List.map_toArray, List.map_cons, List.map_nil]); first | done | rfl | (simp only [List.length_drop, List.length_take]; rfl)) ?_
  with_reducible refine (Qe.calls k _ _ l1 t369 _ ?side1 ?side2 A4.out).mono ?_
  (case side1 => repeat (first | exact (Kd.Zk HR1.out HB.out) | (with_reducible refine Kd.C_alloc ?_ _) | (with_reducible refine Kd.C_drewN ?_ _) | (with_reducible refine Kd.C_drew ?_)))
  (case side2 => exact HC1.out)
  rintro e w12 ⟨v370, rfl, ho0, hb⟩
  refine ⟨_, rfl, ?_⟩
  have n0_ := Za.mk (Kd.Xm ho0 (Zm (by repeat (first | (with_reducible first | exact HB.out | apply Zl | apply Zj | apply Zo | refine Zh ?_ GE368.out) | exact HB.out))))
  have n1_ := Za.mk (Zq (g := gb368) (o := .cells #[.slice A0_0 l0_0.length c0_0, .slice A0_1 l0_1.length c0_1, .slice A0_2 l0_2.length c0_2, .slice A0_3 l0_3.length c0_3, .slice A0_4 l0_4.length c0_4] 27 (0, 0)) (by (with_reducible repeat (first | refine Zg ?_ _ | refine Zi ?_ | refine Zf ?_ _)); exact BK368.out) hb)
  have n2_ := Za.mk (Zn (by repeat (first | (with_reducible first | exact HB.out | apply Zl | apply Zj | apply Zo | refine Zh ?_ GE368.out) | exact HB.out)) hb)
  clear BK368
  clear HB
  have HO371 := n0_
  have BK368 := n1_
  have HB := n2_
  clear n0_ n1_ n2_
  (try clear hb)
  (try clear hb2)
  (try clear hk)
  (try clear hi)
  (try clear ho0)
  refine hK.out _ _ ⟨(Zc BK368.out 0).trans rfl, (Zc BK368.out 1).trans rfl, (Zc BK368.out 2).trans rfl, (Zc BK368.out 3).trans rfl, (Zc BK368.out 4).trans rfl⟩ (fun hHeld => ?_)
  clear hK K
  refine norm_ (a' := ?_) ?_ ?_
  rotate_left
  ·show Act.put _ (some 14) _ = _
   simp only [Act.put, List.setIfInBounds_toArray, List.set_cons_zero, List.set_cons_succ, Qb, Qc]
   rfl
  refine one_ (i := 4) (N := some 16) #[true, true, true, true, true, false, false, false, false, false, false, false, false] rfl rfl (one_of HT_.out (by kernel_rfl)) (by decide) (fun K hK => ?_)
  refine goes_ Try.func58 (by kernel_rfl) rfl #[.slice A2 l2.length c2] (by rfl) rfl rfl (by (try simp only [List.map_toArray, List.map_cons, List.map_nil]); first | done | rfl | (simp only [List.length_drop, List.length_take]; rfl)) ?_
  with_reducible refine (Qe.calls k _ _ l2 t372 _ ?side1 ?side2 A5.out).mono ?_
  (case side1 => repeat (first | exact (Kd.Zk HR2.out HB.out) | (with_reducible refine Kd.C_alloc ?_ _) | (with_reducible refine Kd.C_drewN ?_ _) | (with_reducible refine Kd.C_drew ?_)))
  (case side2 => exact HC2.out)
  rintro e w13 ⟨v373, rfl, ho0, hb⟩
  refine ⟨_, rfl, ?_⟩
  have n0_ := Za.mk (Kd.R_elder' (by (with_reducible repeat (first | apply Kd.R_alloc | apply Kd.Zy | apply Kd.Xg)); exact HO371.out) (Kd.Xy ho0) hb)
  have n1_ := Za.mk (Kd.Xm (Kd.Qz ho0 (Kd.R_lt (by (with_reducible repeat (first | apply Kd.R_alloc | apply Kd.Zy | apply Kd.Xg)); exact HO371.out))) (Zm (by repeat (first | (with_reducible first | exact HB.out | apply Zl | apply Zj | apply Zo | refine Zh ?_ GE368.out) | exact HB.out))))
  have n2_ := Za.mk (Zq (g := gb368) (o := .cells #[.slice A0_0 l0_0.length c0_0, .slice A0_1 l0_1.length c0_1, .slice A0_2 l0_2.length c0_2, .slice A0_3 l0_3.length c0_3, .slice A0_4 l0_4.length c0_4] 27 (0, 0)) (by (with_reducible repeat (first | refine Zg ?_ _ | refine Zi ?_ | refine Zf ?_ _)); exact BK368.out) hb)
  have n3_ := Za.mk (Zn (by repeat (first | (with_reducible first | exact HB.out | apply Zl | apply Zj | apply Zo | refine Zh ?_ GE368.out) | exact HB.out)) hb)
  clear HO371
  clear BK368
  clear HB
  have HO371 := n0_
  have HO374 := n1_
  have BK368 := n2_
  have HB := n3_
  clear n0_ n1_ n2_ n3_
  (try clear hb)
  (try clear hb2)
  (try clear hk)
  (try clear hi)
  (try clear ho0)
  obtain ⟨Ao14, co14, eo14⟩ := Kd.Xi HO371.out
  (first | subst eo14 | (injection eo14 with f1_ f2_ f3_; have f4_ := f1_.symm; have f5_ := f3_.symm; clear f1_ f2_ f3_; subst f4_; subst f5_))
  obtain ⟨Ao15, co15, eo15⟩ := Kd.Xi HO374.out
  (first | subst eo15 | (injection eo15 with f1_ f2_ f3_; have f4_ := f1_.symm; have f5_ := f3_.symm; clear f1_ f2_ f3_; subst f4_; subst f5_))
  refine hK.out _ _ ⟨(Zc BK368.out 0).trans rfl, (Zc BK368.out 1).trans rfl, (Zc BK368.out 2).trans rfl, (Zc BK368.out 3).trans rfl, (Zc BK368.out 4).trans rfl⟩ (fun hHeld => ?_)
  clear hK K
  refine norm_ (a' := ?_) ?_ ?_
  rotate_left
  ·show Act.put _ (some 16) _ = _
   simp only [Act.put, List.setIfInBounds_toArray, List.set_cons_zero, List.set_cons_succ, Qb, Qc]
   rfl
  refine one_ (i := 5) (N := some 17) #[true, true, true, true, true, true, false, false, false, false, false, false, false] rfl rfl (one_of HT_.out (by kernel_rfl)) (by decide) (fun K hK => ?_)
  refine goes_ Try.func50 (by kernel_rfl) rfl #[.agg #[.slice A0_0 l0_0.length c0_0, .slice A0_1 l0_1.length c0_1, .slice A0_2 l0_2.length c0_2, .slice A0_3 l0_3.length c0_3, .slice A0_4 l0_4.length c0_4], .slice Ao14 t369.length co14, .slice Ao15 t372.length co15] (by rfl) rfl rfl (by (try simp only [List.map_toArray, List.map_cons, List.map_nil]); first | done | rfl | (simp only [List.length_drop, List.length_take]; rfl)) ?_
  with_reducible refine (Qg.calls k _ _ l0_0 _ _ l0_1 _ _ l0_2 _ _ l0_3 _ _ l0_4 _ _ t369 _ _ t372 t375 t378 t381 _ ?side1 ?side2 ?side3 ?side4 ?side5 ?side6 ?side7 ?side8 ?side9 ?side10 ?side11 ?side12 ?side13 ?side14 A6.out).mono ?_
  (case side1 => repeat (first | exact (Kd.Zk HR0_0.out HB.out) | (with_reducible refine Kd.C_alloc ?_ _) | (with_reducible refine Kd.C_drewN ?_ _) | (with_reducible refine Kd.C_drew ?_)))
  (case side2 => exact HC0_0.out)
  (case side3 => repeat (first | exact (Kd.Zk HR0_1.out HB.out) | (with_reducible refine Kd.C_alloc ?_ _) | (with_reducible refine Kd.C_drewN ?_ _) | (with_reducible refine Kd.C_drew ?_)))
  (case side4 => exact HC0_1.out)
  (case side5 => repeat (first | exact (Kd.Zk HR0_2.out HB.out) | (with_reducible refine Kd.C_alloc ?_ _) | (with_reducible refine Kd.C_drewN ?_ _) | (with_reducible refine Kd.C_drew ?_)))
  (case side6 => exact HC0_2.out)
  (case side7 => repeat (first | exact (Kd.Zk HR0_3.out HB.out) | (with_reducible refine Kd.C_alloc ?_ _) | (with_reducible refine Kd.C_drewN ?_ _) | (with_reducible refine Kd.C_drew ?_)))
  (case side8 => exact HC0_3.out)
  (case side9 => repeat (first | exact (Kd.Zk HR0_4.out HB.out) | (with_reducible refine Kd.C_alloc ?_ _) | (with_reducible refine Kd.C_drewN ?_ _) | (with_reducible refine Kd.C_drew ?_)))
  (case side10 => exact HC0_4.out)
  (case side11 => repeat (first | exact (Kd.Xd HO371.out).2.2 | (with_reducible refine Kd.C_alloc ?_ _) | (with_reducible refine Kd.C_drewN ?_ _) | (with_reducible refine Kd.C_drew ?_)))
  (case side12 => exact (Kd.Xd HO371.out).2.1)
  (case side13 => repeat (first | exact (Kd.Xd HO374.out).2.2 | (with_reducible refine Kd.C_alloc ?_ _) | (with_reducible refine Kd.C_drewN ?_ _) | (with_reducible refine Kd.C_drew ?_)))
  (case side14 => exact (Kd.Xd HO374.out).2.1)
  rintro e w16 ⟨v376, v379, rfl, ho0, ho1, hb⟩
  refine ⟨_, rfl, ?_⟩
  have n0_ := Za.mk (Kd.Xh (Kd.R_told (Kd.R_told (Kd.R_old (by (with_reducible repeat (first | apply Kd.R_alloc | apply Kd.Zy | apply Kd.Xg)); exact HO371.out) hb) (Kd.Xy ho0)) (Kd.Xy ho1)) (fun _ h_ => h_.1))
  have n1_ := Za.mk (Kd.Xh (Kd.R_told (Kd.R_told (Kd.R_old (by (with_reducible repeat (first | apply Kd.R_alloc | apply Kd.Zy | apply Kd.Xg)); exact HO374.out) hb) (Kd.Xy ho0)) (Kd.Xy ho1)) (fun _ h_ => h_.1))
  have n2_ := Za.mk (Kd.Xm (Kd.Qz (Kd.Qz ho0 (Kd.R_lt (by (with_reducible repeat (first | apply Kd.R_alloc | apply Kd.Zy | apply Kd.Xg)); exact HO371.out))) (Kd.R_lt (by (with_reducible repeat (first | apply Kd.R_alloc | apply Kd.Zy | apply Kd.Xg)); exact HO374.out))) (Zm (by repeat (first | (with_reducible first | exact HB.out | apply Zl | apply Zj | apply Zo | refine Zh ?_ GE368.out) | exact HB.out))))
  have n3_ := Za.mk (Kd.Xm (Kd.Qz (Kd.Qz ho1 (Kd.R_lt (by (with_reducible repeat (first | apply Kd.R_alloc | apply Kd.Zy | apply Kd.Xg)); exact HO371.out))) (Kd.R_lt (by (with_reducible repeat (first | apply Kd.R_alloc | apply Kd.Zy | apply Kd.Xg)); exact HO374.out))) (Zm (by repeat (first | (with_reducible first | exact HB.out | apply Zl | apply Zj | apply Zo | refine Zh ?_ GE368.out) | exact HB.out))))
  have n4_ := Za.mk (Zq (g := gb368) (o := .cells #[.slice A0_0 l0_0.length c0_0, .slice A0_1 l0_1.length c0_1, .slice A0_2 l0_2.length c0_2, .slice A0_3 l0_3.length c0_3, .slice A0_4 l0_4.length c0_4] 27 (0, 0)) (by (with_reducible repeat (first | refine Zg ?_ _ | refine Zi ?_ | refine Zf ?_ _)); exact BK368.out) hb)
  have n5_ := Za.mk (Zn (by repeat (first | (with_reducible first | exact HB.out | apply Zl | apply Zj | apply Zo | refine Zh ?_ GE368.out) | exact HB.out)) hb)
  clear HO371
  clear HO374
  clear BK368
  clear HB
  have HO371 := n0_
  have HO374 := n1_
  have HO377 := n2_
  have HO380 := n3_
  have BK368 := n4_
  have HB := n5_
  clear n0_ n1_ n2_ n3_ n4_ n5_
  (try clear hb)
  (try clear hb2)
  (try clear hk)
  (try clear hi)
  (try clear ho0)
  (try clear ho1)
  refine hK.out _ _ ⟨(Zc BK368.out 0).trans rfl, (Zc BK368.out 1).trans rfl, (Zc BK368.out 2).trans rfl, (Zc BK368.out 3).trans rfl, (Zc BK368.out 4).trans rfl⟩ (fun hHeld => ?_)
  clear hK K
  refine norm_ (a' := ?_) ?_ ?_
  rotate_left
  ·show Act.put _ (some 17) _ = _
   simp only [Act.put, List.setIfInBounds_toArray, List.set_cons_zero, List.set_cons_succ, Qb, Qc]
   rfl
  refine Kq (i := 6) (N := some 11) (v := ?_) (a' := ?_) #[true, true, true, true, true, true, true, false, false, false, false, false, false] rfl rfl (Qs HT_.out (by kernel_rfl)) (fun _ _ _ h => h) (Or.inl ⟨by rfl, ?_⟩) ?_ ?_
  rotate_left
  ·intro w'
   go_simp
   with_reducible rfl
  rotate_left
  ·simp only [Act.put, List.setIfInBounds_toArray, List.set_cons_zero, List.set_cons_succ, Qb, Qc]
   rfl
  refine Kq (i := 7) (N := some 18) (v := ?_) (a' := ?_) #[true, true, true, true, true, true, true, true, false, false, false, false, false] rfl rfl (Qs HT_.out (by kernel_rfl)) (fun _ _ _ h => h) (Or.inl ⟨by rfl, ?_⟩) ?_ ?_
  rotate_left
  ·intro w'
   go_simp
   with_reducible rfl
  rotate_left
  ·simp only [Act.put, List.setIfInBounds_toArray, List.set_cons_zero, List.set_cons_succ, Qb, Qc]
   rfl
  refine Kq (i := 8) (N := some 19) (v := ?_) (a' := ?_) #[true, true, true, true, true, true, true, true, true, false, false, false, false] rfl rfl (Qs HT_.out (by kernel_rfl)) (fun _ _ _ h => h) (Or.inl ⟨by rfl, ?_⟩) ?_ ?_
  rotate_left
  ·intro w'
   go_simp
   with_reducible rfl
  rotate_left
  ·simp only [Act.put, List.setIfInBounds_toArray, List.set_cons_zero, List.set_cons_succ, Qb, Qc]
   rfl
  refine Kq (i := 9) (N := some 20) (v := ?_) (a' := ?_) #[true, true, true, true, true, true, true, true, true, true, false, false, false] rfl rfl (Qs HT_.out (by kernel_rfl)) (fun _ _ _ h => h) (Or.inl ⟨by rfl, ?_⟩) ?_ ?_
  rotate_left
  ·intro w'
   go_simp
   with_reducible rfl
  rotate_left
  ·simp only [Act.put, List.setIfInBounds_toArray, List.set_cons_zero, List.set_cons_succ, Qb, Qc]
   rfl
  refine Kq (i := 10) (N := some 9) (v := ?_) (a' := ?_) #[true, true, true, true, true, true, true, true, true, true, true, false, false] rfl rfl (Qs HT_.out (by kernel_rfl)) (fun _ _ _ h => h) (Or.inl ⟨by rfl, ?_⟩) ?_ ?_
  rotate_left
  ·intro w'
   go_simp
   with_reducible rfl
  rotate_left
  ·simp only [Act.put, List.setIfInBounds_toArray, List.set_cons_zero, List.set_cons_succ, Qb, Qc]
   rfl
  refine Kq (i := 11) (N := some 10) (v := ?_) (a' := ?_) #[true, true, true, true, true, true, true, true, true, true, true, true, false] rfl rfl (Qs HT_.out (by kernel_rfl)) (fun _ _ _ h => h) (Or.inl ⟨by rfl, ?_⟩) ?_ ?_
  rotate_left
  ·intro w'
   go_simp
   with_reducible rfl
  rotate_left
  ·simp only [Act.put, List.setIfInBounds_toArray, List.set_cons_zero, List.set_cons_succ, Qb, Qc]
   rfl
  refine Kq (i := 12) (N := some 8) (v := ?_) (a' := ?_) #[true, true, true, true, true, true, true, true, true, true, true, true, true] rfl rfl (Qs HT_.out (by kernel_rfl)) (fun _ _ _ h => h) (Or.inl ⟨by rfl, ?_⟩) ?_ ?_
  rotate_left
  ·intro w'
   go_simp
   with_reducible rfl
  rotate_left
  ·simp only [Act.put, List.setIfInBounds_toArray, List.set_cons_zero, List.set_cons_succ, Qb, Qc]
   rfl
  refine done_ (done_of HT_.out (by kernel_rfl)) ?_
  obtain ⟨Ao17, co17, eo17⟩ := Kd.Xi HO377.out
  subst eo17
  try go_wp2_with (first | ((with_reducible refine Xo (f := 59) rfl ?_); refine Qp (some 25) rfl rfl Try.func59 (by kernel_rfl) rfl #[.slice Ao17 t375.length co17] rfl (by (try simp only [List.map_toArray, List.map_cons, List.map_nil]); first | done | rfl | (simp only [List.length_drop, List.length_take]; rfl)) ?_; (with_reducible refine (Qi.calls k _ _ t375 t382 _ ?side1 ?side2 A8.out).mono ?_); (case side1 => repeat (first | exact (Kd.Xd HO377.out).2.2 | (with_reducible refine Kd.C_alloc ?_ _) | (with_reducible refine Kd.C_drewN ?_ _) | (with_reducible refine Kd.C_drew ?_))); (case side2 => exact (Kd.Xd HO377.out).2.1); rintro e w18 ⟨v383, rfl, ho0, hb⟩; refine ⟨_, rfl, ?_⟩; have n0_ := Za.mk (Kd.Zp (by (with_reducible repeat (first | apply Kd.R_alloc | apply Kd.Zy | apply Kd.Xg)); exact HO371.out) hb); have n1_ := Za.mk (Kd.Zp (by (with_reducible repeat (first | apply Kd.R_alloc | apply Kd.Zy | apply Kd.Xg)); exact HO374.out) hb); have n2_ := Za.mk (Kd.Zp (by (with_reducible repeat (first | apply Kd.R_alloc | apply Kd.Zy | apply Kd.Xg)); exact HO377.out) hb); have n3_ := Za.mk (Kd.Zp (by (with_reducible repeat (first | apply Kd.R_alloc | apply Kd.Zy | apply Kd.Xg)); exact HO380.out) hb); have n4_ := Za.mk (Kd.Xm ho0 (Zm (by repeat (first | (with_reducible first | exact HB.out | apply Zl | apply Zj | apply Zo | refine Zh ?_ GE368.out) | exact HB.out)))); have n5_ := Za.mk (Zq (g := gb368) (o := .cells #[.slice A0_0 l0_0.length c0_0, .slice A0_1 l0_1.length c0_1, .slice A0_2 l0_2.length c0_2, .slice A0_3 l0_3.length c0_3, .slice A0_4 l0_4.length c0_4] 27 (0, 0)) (by (with_reducible repeat (first | refine Zg ?_ _ | refine Zi ?_ | refine Zf ?_ _)); exact BK368.out) hb); have n6_ := Za.mk (Zn (by repeat (first | (with_reducible first | exact HB.out | apply Zl | apply Zj | apply Zo | refine Zh ?_ GE368.out) | exact HB.out)) hb); clear HO371; clear HO374; clear HO377; clear HO380; clear BK368; clear HB; have HO371 := n0_; have HO374 := n1_; have HO377 := n2_; have HO380 := n3_; have HO384 := n4_; have BK368 := n5_; have HB := n6_; clear n0_ n1_ n2_ n3_ n4_ n5_ n6_; (try clear hb); (try clear hb2); (try clear hk); (try clear hi); (try clear ho0); obtain ⟨Ao19, co19, eo19⟩ := Kd.Xi HO380.out; subst eo19) | ((with_reducible refine Xo (f := 59) rfl ?_); refine Qp (some 27) rfl rfl Try.func59 (by kernel_rfl) rfl #[.slice Ao19 t378.length co19] rfl (by (try simp only [List.map_toArray, List.map_cons, List.map_nil]); first | done | rfl | (simp only [List.length_drop, List.length_take]; rfl)) ?_; (with_reducible refine (Qi.calls k _ _ t378 t385 _ ?side1 ?side2 A9.out).mono ?_); (case side1 => repeat (first | exact (Kd.Xd HO380.out).2.2 | (with_reducible refine Kd.C_alloc ?_ _) | (with_reducible refine Kd.C_drewN ?_ _) | (with_reducible refine Kd.C_drew ?_))); (case side2 => exact (Kd.Xd HO380.out).2.1); rintro e w20 ⟨v386, rfl, ho0, hb⟩; refine ⟨_, rfl, ?_⟩; have n0_ := Za.mk (Kd.Zp (by (with_reducible repeat (first | apply Kd.R_alloc | apply Kd.Zy | apply Kd.Xg)); exact HO371.out) hb); have n1_ := Za.mk (Kd.Zp (by (with_reducible repeat (first | apply Kd.R_alloc | apply Kd.Zy | apply Kd.Xg)); exact HO374.out) hb); have n2_ := Za.mk (Kd.Zp (by (with_reducible repeat (first | apply Kd.R_alloc | apply Kd.Zy | apply Kd.Xg)); exact HO377.out) hb); have n3_ := Za.mk (Kd.Zp (by (with_reducible repeat (first | apply Kd.R_alloc | apply Kd.Zy | apply Kd.Xg)); exact HO380.out) hb); have n4_ := Za.mk (Kd.R_elder' (by (with_reducible repeat (first | apply Kd.R_alloc | apply Kd.Zy | apply Kd.Xg)); exact HO384.out) (Kd.Xy ho0) hb); have n5_ := Za.mk (Kd.Xm (Kd.Qz ho0 (Kd.R_lt (by (with_reducible repeat (first | apply Kd.R_alloc | apply Kd.Zy | apply Kd.Xg)); exact HO384.out))) (Zm (by repeat (first | (with_reducible first | exact HB.out | apply Zl | apply Zj | apply Zo | refine Zh ?_ GE368.out) | exact HB.out)))); have n6_ := Za.mk (Zq (g := gb368) (o := .cells #[.slice A0_0 l0_0.length c0_0, .slice A0_1 l0_1.length c0_1, .slice A0_2 l0_2.length c0_2, .slice A0_3 l0_3.length c0_3, .slice A0_4 l0_4.length c0_4] 27 (0, 0)) (by (with_reducible repeat (first | refine Zg ?_ _ | refine Zi ?_ | refine Zf ?_ _)); exact BK368.out) hb); have n7_ := Za.mk (Zn (by repeat (first | (with_reducible first | exact HB.out | apply Zl | apply Zj | apply Zo | refine Zh ?_ GE368.out) | exact HB.out)) hb); clear HO371; clear HO374; clear HO377; clear HO380; clear HO384; clear BK368; clear HB; have HO371 := n0_; have HO374 := n1_; have HO377 := n2_; have HO380 := n3_; have HO384 := n4_; have HO387 := n5_; have BK368 := n6_; have HB := n7_; clear n0_ n1_ n2_ n3_ n4_ n5_ n6_ n7_; (try clear hb); (try clear hb2); (try clear hk); (try clear hi); (try clear ho0)))
  go_ret3
  exact ⟨_, _, by first | rfl | (simp [errW_none, errW_some] <;> rfl) | (simp [*, errW_none, errW_some] <;> rfl), by (with_reducible repeat (first | apply Kd.R_alloc | apply Kd.Zy | apply Kd.Xg)); exact Kd.Xh HO384.out (fun _ hk => hk.2), by (with_reducible repeat (first | apply Kd.R_alloc | apply Kd.Zy | apply Kd.Xg)); exact Kd.Xh HO387.out (fun _ hk => hk.2), by repeat (first | (with_reducible first | exact HB.out | apply Zl | apply Zj | apply Zo | refine Zh ?_ GE368.out) | exact HB.out)⟩
 ·rw [if_neg c7] at H
  have c7b0 : (t381 == 0) = false := beq_eq_false_iff_ne.mpr c7
  have c7b1 : (t381 != 0) = true := bne_iff_ne.mpr c7
  simp only [Option.some.injEq, Prod.mk.injEq] at H
  obtain ⟨rfl, rfl, rfl⟩ := H
  go_enter Try.func46, Try.ntmps46
  try go_wp2_with (first | ((with_reducible refine Xl (N := 3) rfl ?_); refine Xr ?hg (N := 3) ?hd (cs := #[.slice A0_0 l0_0.length c0_0, .slice A0_1 l0_1.length c0_1, .slice A0_2 l0_2.length c0_2, .slice A0_3 l0_3.length c0_3, .slice A0_4 l0_4.length c0_4]) (t := 27) ?hr ?_; (case hd => rfl); (case hg => rfl); (case hr => first | (go_simp; done) | (go_simp; rfl)); intro gb368 hg w21 hbox hb; have n0_ := Za.mk (Zn (by repeat (first | (with_reducible first | exact HB.out | apply Zl | apply Zj | apply Zo) | exact HB.out)) hb); have n1_ := Za.mk (hbox); have n2_ := Za.mk ((by rw [hg]; exact (Zm (by repeat (first | (with_reducible first | exact HB.out | apply Zl | apply Zj | apply Zo) | exact HB.out))) : w.heap.size ≤ gb368)); have n3_ := n2_; clear HB; have HB := n0_; have BK368 := n1_; have GW368 := n2_; have GE368 := n3_; clear n0_ n1_ n2_ n3_; clear hb hbox hg))
  have n0_ := Za.mk (Zi BK368.out)
  have n1_ := Za.mk (Zo HB.out)
  clear BK368
  clear HB
  have BK368 := n0_
  have HB := n1_
  clear n0_ n1_
  refine start_ (n := 13) (S := fun w' => w'.cell? ⟨gb368, 0, none⟩ = some (.slice A0_0 l0_0.length c0_0) ∧ w'.cell? ⟨gb368, 1, none⟩ = some (.slice A0_1 l0_1.length c0_1) ∧ w'.cell? ⟨gb368, 2, none⟩ = some (.slice A0_2 l0_2.length c0_2) ∧ w'.cell? ⟨gb368, 3, none⟩ = some (.slice A0_3 l0_3.length c0_3) ∧ w'.cell? ⟨gb368, 4, none⟩ = some (.slice A0_4 l0_4.length c0_4)) (ds := []) #[false, false, false, false, false, false, false, false, false, false, false, false, false] (by kernel_rfl) rfl rfl ⟨(Zc BK368.out 0).trans rfl, (Zc BK368.out 1).trans rfl, (Zc BK368.out 2).trans rfl, (Zc BK368.out 3).trans rfl, (Zc BK368.out 4).trans rfl⟩ (fun hHeld => ?_); refine with_tabW Qh.tab1 Qh.bits1 (fun HT_ HW_ => ?_)
  generalize w21.drew = w22 at BK368 HB hHeld ⊢
  refine Kq (i := 1) (N := some 13) (v := ?_) (a' := ?_) #[false, true, false, false, false, false, false, false, false, false, false, false, false] rfl rfl (Qs HT_.out (by kernel_rfl)) (fun _ _ _ h => h) (Or.inl ⟨by rfl, ?_⟩) ?_ ?_
  rotate_left
  ·intro w'
   go_simp
   with_reducible rfl
  rotate_left
  ·simp only [Act.put, List.setIfInBounds_toArray, List.set_cons_zero, List.set_cons_succ, Qb, Qc]
   rfl
  refine Kq (i := 3) (N := some 15) (v := ?_) (a' := ?_) #[false, true, false, true, false, false, false, false, false, false, false, false, false] rfl rfl (Qs HT_.out (by kernel_rfl)) (fun _ _ _ h => h) (Or.inl ⟨by rfl, ?_⟩) ?_ ?_
  rotate_left
  ·intro w'
   go_simp
   with_reducible rfl
  rotate_left
  ·simp only [Act.put, List.setIfInBounds_toArray, List.set_cons_zero, List.set_cons_succ, Qb, Qc]
   rfl
  refine take_ (i := 0) (N := some 12) (v := ?_) (a' := ?_) #[true, true, false, true, false, false, false, false, false, false, false, false, false] rfl rfl (take_ofW HT_.out HW_.out (by kernel_rfl)) (fun _ _ _ h => h) (Or.inl ⟨by rfl, ?_⟩) hHeld ?_ ?_
  rotate_left
  ·rintro w' ⟨s0, s1, s2, s3, s4⟩
   go_simp
   with_reducible rfl
  rotate_left
  ·simp only [Act.put, List.setIfInBounds_toArray, List.set_cons_zero, List.set_cons_succ, Qb, Qc]
   rfl
  refine one_ (i := 2) (N := some 14) #[true, true, true, true, false, false, false, false, false, false, false, false, false] rfl rfl (one_of HT_.out (by kernel_rfl)) (by decide) (fun K hK => ?_)
  refine goes_ Try.func58 (by kernel_rfl) rfl #[.slice A1 l1.length c1] (by rfl) rfl rfl (by (try simp only [List.map_toArray, List.map_cons, List.map_nil]); first | done | rfl | (simp only [List.length_drop, List.length_take]; rfl)) ?_
  with_reducible refine (Qe.calls k _ _ l1 t369 _ ?side1 ?side2 A4.out).mono ?_
  (case side1 => repeat (first | exact (Kd.Zk HR1.out HB.out) | (with_reducible refine Kd.C_alloc ?_ _) | (with_reducible refine Kd.C_drewN ?_ _) | (with_reducible refine Kd.C_drew ?_)))
  (case side2 => exact HC1.out)
  rintro e w23 ⟨v370, rfl, ho0, hb⟩
  refine ⟨_, rfl, ?_⟩
  have n0_ := Za.mk (Kd.Xm ho0 (Zm (by repeat (first | (with_reducible first | exact HB.out | apply Zl | apply Zj | apply Zo | refine Zh ?_ GE368.out) | exact HB.out))))
  have n1_ := Za.mk (Zq (g := gb368) (o := .cells #[.slice A0_0 l0_0.length c0_0, .slice A0_1 l0_1.length c0_1, .slice A0_2 l0_2.length c0_2, .slice A0_3 l0_3.length c0_3, .slice A0_4 l0_4.length c0_4] 27 (0, 0)) (by (with_reducible repeat (first | refine Zg ?_ _ | refine Zi ?_ | refine Zf ?_ _)); exact BK368.out) hb)
  have n2_ := Za.mk (Zn (by repeat (first | (with_reducible first | exact HB.out | apply Zl | apply Zj | apply Zo | refine Zh ?_ GE368.out) | exact HB.out)) hb)
  clear BK368
  clear HB
  have HO371 := n0_
  have BK368 := n1_
  have HB := n2_
  clear n0_ n1_ n2_
  (try clear hb)
  (try clear hb2)
  (try clear hk)
  (try clear hi)
  (try clear ho0)
  refine hK.out _ _ ⟨(Zc BK368.out 0).trans rfl, (Zc BK368.out 1).trans rfl, (Zc BK368.out 2).trans rfl, (Zc BK368.out 3).trans rfl, (Zc BK368.out 4).trans rfl⟩ (fun hHeld => ?_)
  clear hK K
  refine norm_ (a' := ?_) ?_ ?_
  rotate_left
  ·show Act.put _ (some 14) _ = _
   simp only [Act.put, List.setIfInBounds_toArray, List.set_cons_zero, List.set_cons_succ, Qb, Qc]
   rfl
  refine one_ (i := 4) (N := some 16) #[true, true, true, true, true, false, false, false, false, false, false, false, false] rfl rfl (one_of HT_.out (by kernel_rfl)) (by decide) (fun K hK => ?_)
  refine goes_ Try.func58 (by kernel_rfl) rfl #[.slice A2 l2.length c2] (by rfl) rfl rfl (by (try simp only [List.map_toArray, List.map_cons, List.map_nil]); first | done | rfl | (simp only [List.length_drop, List.length_take]; rfl)) ?_
  with_reducible refine (Qe.calls k _ _ l2 t372 _ ?side1 ?side2 A5.out).mono ?_
  (case side1 => repeat (first | exact (Kd.Zk HR2.out HB.out) | (with_reducible refine Kd.C_alloc ?_ _) | (with_reducible refine Kd.C_drewN ?_ _) | (with_reducible refine Kd.C_drew ?_)))
  (case side2 => exact HC2.out)
  rintro e w24 ⟨v373, rfl, ho0, hb⟩
  refine ⟨_, rfl, ?_⟩
  have n0_ := Za.mk (Kd.R_elder' (by (with_reducible repeat (first | apply Kd.R_alloc | apply Kd.Zy | apply Kd.Xg)); exact HO371.out) (Kd.Xy ho0) hb)
  have n1_ := Za.mk (Kd.Xm (Kd.Qz ho0 (Kd.R_lt (by (with_reducible repeat (first | apply Kd.R_alloc | apply Kd.Zy | apply Kd.Xg)); exact HO371.out))) (Zm (by repeat (first | (with_reducible first | exact HB.out | apply Zl | apply Zj | apply Zo | refine Zh ?_ GE368.out) | exact HB.out))))
  have n2_ := Za.mk (Zq (g := gb368) (o := .cells #[.slice A0_0 l0_0.length c0_0, .slice A0_1 l0_1.length c0_1, .slice A0_2 l0_2.length c0_2, .slice A0_3 l0_3.length c0_3, .slice A0_4 l0_4.length c0_4] 27 (0, 0)) (by (with_reducible repeat (first | refine Zg ?_ _ | refine Zi ?_ | refine Zf ?_ _)); exact BK368.out) hb)
  have n3_ := Za.mk (Zn (by repeat (first | (with_reducible first | exact HB.out | apply Zl | apply Zj | apply Zo | refine Zh ?_ GE368.out) | exact HB.out)) hb)
  clear HO371
  clear BK368
  clear HB
  have HO371 := n0_
  have HO374 := n1_
  have BK368 := n2_
  have HB := n3_
  clear n0_ n1_ n2_ n3_
  (try clear hb)
  (try clear hb2)
  (try clear hk)
  (try clear hi)
  (try clear ho0)
  obtain ⟨Ao25, co25, eo25⟩ := Kd.Xi HO371.out
  (first | subst eo25 | (injection eo25 with f1_ f2_ f3_; have f4_ := f1_.symm; have f5_ := f3_.symm; clear f1_ f2_ f3_; subst f4_; subst f5_))
  obtain ⟨Ao26, co26, eo26⟩ := Kd.Xi HO374.out
  (first | subst eo26 | (injection eo26 with f1_ f2_ f3_; have f4_ := f1_.symm; have f5_ := f3_.symm; clear f1_ f2_ f3_; subst f4_; subst f5_))
  refine hK.out _ _ ⟨(Zc BK368.out 0).trans rfl, (Zc BK368.out 1).trans rfl, (Zc BK368.out 2).trans rfl, (Zc BK368.out 3).trans rfl, (Zc BK368.out 4).trans rfl⟩ (fun hHeld => ?_)
  clear hK K
  refine norm_ (a' := ?_) ?_ ?_
  rotate_left
  ·show Act.put _ (some 16) _ = _
   simp only [Act.put, List.setIfInBounds_toArray, List.set_cons_zero, List.set_cons_succ, Qb, Qc]
   rfl
  refine one_ (i := 5) (N := some 17) #[true, true, true, true, true, true, false, false, false, false, false, false, false] rfl rfl (one_of HT_.out (by kernel_rfl)) (by decide) (fun K hK => ?_)
  refine goes_ Try.func50 (by kernel_rfl) rfl #[.agg #[.slice A0_0 l0_0.length c0_0, .slice A0_1 l0_1.length c0_1, .slice A0_2 l0_2.length c0_2, .slice A0_3 l0_3.length c0_3, .slice A0_4 l0_4.length c0_4], .slice Ao25 t369.length co25, .slice Ao26 t372.length co26] (by rfl) rfl rfl (by (try simp only [List.map_toArray, List.map_cons, List.map_nil]); first | done | rfl | (simp only [List.length_drop, List.length_take]; rfl)) ?_
  with_reducible refine (Qg.calls k _ _ l0_0 _ _ l0_1 _ _ l0_2 _ _ l0_3 _ _ l0_4 _ _ t369 _ _ t372 t375 t378 t381 _ ?side1 ?side2 ?side3 ?side4 ?side5 ?side6 ?side7 ?side8 ?side9 ?side10 ?side11 ?side12 ?side13 ?side14 A6.out).mono ?_
  (case side1 => repeat (first | exact (Kd.Zk HR0_0.out HB.out) | (with_reducible refine Kd.C_alloc ?_ _) | (with_reducible refine Kd.C_drewN ?_ _) | (with_reducible refine Kd.C_drew ?_)))
  (case side2 => exact HC0_0.out)
  (case side3 => repeat (first | exact (Kd.Zk HR0_1.out HB.out) | (with_reducible refine Kd.C_alloc ?_ _) | (with_reducible refine Kd.C_drewN ?_ _) | (with_reducible refine Kd.C_drew ?_)))
  (case side4 => exact HC0_1.out)
  (case side5 => repeat (first | exact (Kd.Zk HR0_2.out HB.out) | (with_reducible refine Kd.C_alloc ?_ _) | (with_reducible refine Kd.C_drewN ?_ _) | (with_reducible refine Kd.C_drew ?_)))
  (case side6 => exact HC0_2.out)
  (case side7 => repeat (first | exact (Kd.Zk HR0_3.out HB.out) | (with_reducible refine Kd.C_alloc ?_ _) | (with_reducible refine Kd.C_drewN ?_ _) | (with_reducible refine Kd.C_drew ?_)))
  (case side8 => exact HC0_3.out)
  (case side9 => repeat (first | exact (Kd.Zk HR0_4.out HB.out) | (with_reducible refine Kd.C_alloc ?_ _) | (with_reducible refine Kd.C_drewN ?_ _) | (with_reducible refine Kd.C_drew ?_)))
  (case side10 => exact HC0_4.out)
  (case side11 => repeat (first | exact (Kd.Xd HO371.out).2.2 | (with_reducible refine Kd.C_alloc ?_ _) | (with_reducible refine Kd.C_drewN ?_ _) | (with_reducible refine Kd.C_drew ?_)))
  (case side12 => exact (Kd.Xd HO371.out).2.1)
  (case side13 => repeat (first | exact (Kd.Xd HO374.out).2.2 | (with_reducible refine Kd.C_alloc ?_ _) | (with_reducible refine Kd.C_drewN ?_ _) | (with_reducible refine Kd.C_drew ?_)))
  (case side14 => exact (Kd.Xd HO374.out).2.1)
  rintro e w27 ⟨v376, v379, rfl, ho0, ho1, hb⟩
  refine ⟨_, rfl, ?_⟩
  have n0_ := Za.mk (Kd.Xh (Kd.R_told (Kd.R_told (Kd.R_old (by (with_reducible repeat (first | apply Kd.R_alloc | apply Kd.Zy | apply Kd.Xg)); exact HO371.out) hb) (Kd.Xy ho0)) (Kd.Xy ho1)) (fun _ h_ => h_.1))
  have n1_ := Za.mk (Kd.Xh (Kd.R_told (Kd.R_told (Kd.R_old (by (with_reducible repeat (first | apply Kd.R_alloc | apply Kd.Zy | apply Kd.Xg)); exact HO374.out) hb) (Kd.Xy ho0)) (Kd.Xy ho1)) (fun _ h_ => h_.1))
  have n2_ := Za.mk (Kd.Xm (Kd.Qz (Kd.Qz ho0 (Kd.R_lt (by (with_reducible repeat (first | apply Kd.R_alloc | apply Kd.Zy | apply Kd.Xg)); exact HO371.out))) (Kd.R_lt (by (with_reducible repeat (first | apply Kd.R_alloc | apply Kd.Zy | apply Kd.Xg)); exact HO374.out))) (Zm (by repeat (first | (with_reducible first | exact HB.out | apply Zl | apply Zj | apply Zo | refine Zh ?_ GE368.out) | exact HB.out))))
  have n3_ := Za.mk (Kd.Xm (Kd.Qz (Kd.Qz ho1 (Kd.R_lt (by (with_reducible repeat (first | apply Kd.R_alloc | apply Kd.Zy | apply Kd.Xg)); exact HO371.out))) (Kd.R_lt (by (with_reducible repeat (first | apply Kd.R_alloc | apply Kd.Zy | apply Kd.Xg)); exact HO374.out))) (Zm (by repeat (first | (with_reducible first | exact HB.out | apply Zl | apply Zj | apply Zo | refine Zh ?_ GE368.out) | exact HB.out))))
  have n4_ := Za.mk (Zq (g := gb368) (o := .cells #[.slice A0_0 l0_0.length c0_0, .slice A0_1 l0_1.length c0_1, .slice A0_2 l0_2.length c0_2, .slice A0_3 l0_3.length c0_3, .slice A0_4 l0_4.length c0_4] 27 (0, 0)) (by (with_reducible repeat (first | refine Zg ?_ _ | refine Zi ?_ | refine Zf ?_ _)); exact BK368.out) hb)
  have n5_ := Za.mk (Zn (by repeat (first | (with_reducible first | exact HB.out | apply Zl | apply Zj | apply Zo | refine Zh ?_ GE368.out) | exact HB.out)) hb)
  clear HO371
  clear HO374
  clear BK368
  clear HB
  have HO371 := n0_
  have HO374 := n1_
  have HO377 := n2_
  have HO380 := n3_
  have BK368 := n4_
  have HB := n5_
  clear n0_ n1_ n2_ n3_ n4_ n5_
  (try clear hb)
  (try clear hb2)
  (try clear hk)
  (try clear hi)
  (try clear ho0)
  (try clear ho1)
  refine hK.out _ _ ⟨(Zc BK368.out 0).trans rfl, (Zc BK368.out 1).trans rfl, (Zc BK368.out 2).trans rfl, (Zc BK368.out 3).trans rfl, (Zc BK368.out 4).trans rfl⟩ (fun hHeld => ?_)
  clear hK K
  refine norm_ (a' := ?_) ?_ ?_
  rotate_left
  ·show Act.put _ (some 17) _ = _
   simp only [Act.put, List.setIfInBounds_toArray, List.set_cons_zero, List.set_cons_succ, Qb, Qc]
   rfl
  refine Kq (i := 6) (N := some 11) (v := ?_) (a' := ?_) #[true, true, true, true, true, true, true, false, false, false, false, false, false] rfl rfl (Qs HT_.out (by kernel_rfl)) (fun _ _ _ h => h) (Or.inl ⟨by rfl, ?_⟩) ?_ ?_
  rotate_left
  ·intro w'
   go_simp
   with_reducible rfl
  rotate_left
  ·simp only [Act.put, List.setIfInBounds_toArray, List.set_cons_zero, List.set_cons_succ, Qb, Qc]
   rfl
  refine Kq (i := 7) (N := some 18) (v := ?_) (a' := ?_) #[true, true, true, true, true, true, true, true, false, false, false, false, false] rfl rfl (Qs HT_.out (by kernel_rfl)) (fun _ _ _ h => h) (Or.inl ⟨by rfl, ?_⟩) ?_ ?_
  rotate_left
  ·intro w'
   go_simp
   with_reducible rfl
  rotate_left
  ·simp only [Act.put, List.setIfInBounds_toArray, List.set_cons_zero, List.set_cons_succ, Qb, Qc]
   rfl
  refine Kq (i := 8) (N := some 19) (v := ?_) (a' := ?_) #[true, true, true, true, true, true, true, true, true, false, false, false, false] rfl rfl (Qs HT_.out (by kernel_rfl)) (fun _ _ _ h => h) (Or.inl ⟨by rfl, ?_⟩) ?_ ?_
  rotate_left
  ·intro w'
   go_simp
   with_reducible rfl
  rotate_left
  ·simp only [Act.put, List.setIfInBounds_toArray, List.set_cons_zero, List.set_cons_succ, Qb, Qc]
   rfl
  refine Kq (i := 9) (N := some 20) (v := ?_) (a' := ?_) #[true, true, true, true, true, true, true, true, true, true, false, false, false] rfl rfl (Qs HT_.out (by kernel_rfl)) (fun _ _ _ h => h) (Or.inl ⟨by rfl, ?_⟩) ?_ ?_
  rotate_left
  ·intro w'
   go_simp
   with_reducible rfl
  rotate_left
  ·simp only [Act.put, List.setIfInBounds_toArray, List.set_cons_zero, List.set_cons_succ, Qb, Qc]
   rfl
  refine Kq (i := 10) (N := some 9) (v := ?_) (a' := ?_) #[true, true, true, true, true, true, true, true, true, true, true, false, false] rfl rfl (Qs HT_.out (by kernel_rfl)) (fun _ _ _ h => h) (Or.inl ⟨by rfl, ?_⟩) ?_ ?_
  rotate_left
  ·intro w'
   go_simp
   with_reducible rfl
  rotate_left
  ·simp only [Act.put, List.setIfInBounds_toArray, List.set_cons_zero, List.set_cons_succ, Qb, Qc]
   rfl
  refine Kq (i := 11) (N := some 10) (v := ?_) (a' := ?_) #[true, true, true, true, true, true, true, true, true, true, true, true, false] rfl rfl (Qs HT_.out (by kernel_rfl)) (fun _ _ _ h => h) (Or.inl ⟨by rfl, ?_⟩) ?_ ?_
  rotate_left
  ·intro w'
   go_simp
   with_reducible rfl
  rotate_left
  ·simp only [Act.put, List.setIfInBounds_toArray, List.set_cons_zero, List.set_cons_succ, Qb, Qc]
   rfl
  refine Kq (i := 12) (N := some 8) (v := ?_) (a' := ?_) #[true, true, true, true, true, true, true, true, true, true, true, true, true] rfl rfl (Qs HT_.out (by kernel_rfl)) (fun _ _ _ h => h) (Or.inl ⟨by rfl, ?_⟩) ?_ ?_
  rotate_left
  ·intro w'
   go_simp
   with_reducible rfl
  rotate_left
  ·simp only [Act.put, List.setIfInBounds_toArray, List.set_cons_zero, List.set_cons_succ, Qb, Qc]
   rfl
  refine done_ (done_of HT_.out (by kernel_rfl)) ?_
  try go_wp2
  go_ret3
  exact ⟨_, _, by first | rfl | (simp [errW_none, errW_some] <;> rfl) | (simp [*, errW_none, errW_some] <;> rfl), by first | exact Kd.R_nil _ _ _ _ _ | exact Kd.N_nil _ _ _ _ _ | exact Kd.V_nil _ _ _ _ _ | exact Kd.Q_nil _ _ _ _ _ | exact Kd.S_nil _ _ _ _ _, by first | exact Kd.R_nil _ _ _ _ _ | exact Kd.N_nil _ _ _ _ _ | exact Kd.V_nil _ _ _ _ _ | exact Kd.Q_nil _ _ _ _ _ | exact Kd.S_nil _ _ _ _ _, by repeat (first | (with_reducible first | exact HB.out | apply Zl | apply Zj | apply Zo | refine Zh ?_ GE368.out) | exact HB.out)⟩
end Go.Proofs.Ytimjccfpobhpeaa.PF
namespace Go.Proofs.Ytimjccfpobhpeaa
open Go.RowKit Go.Proofs.YtimjccfpobhpeaaW.PrintWords Go.Proofs.Ytimjccfpobhpeaa.PF
set_option linter.unusedVariables false
def w1 (b : Bool) : Int := if b = true then 1 else 0
theorem u64_w1 (b : Bool) : U64 (w1 b) := by
  unfold w1
  split
  · exact ⟨by decide, by decide⟩
  · exact u64_zero
theorem tb_w1 (b : Bool) : tb (w1 b) 0 = b := by cases b <;> rfl
theorem lane_w1 (y : List Bool) : lane (y.map w1) 0 = y := by
  unfold lane
  rw [List.map_map]
  conv => rhs; rw [← List.map_id y]
  exact List.map_congr_left fun b _ => tb_w1 b
theorem set_mid {α : Type} (a : List α) (x y : α) (b : List α) : (a ++ x :: b).set a.length y = a ++ y :: b := by
  rw [List.set_append_right _ _ (Nat.le_refl _), Nat.sub_self]
  rfl
theorem getD_mid {α : Type} (a : List α) (x z : α) (b : List α) : (a ++ x :: b).getD a.length z = x := by
  rw [List.getD_eq_getElem?_getD, List.getElem?_append_right (Nat.le_refl _), Nat.sub_self]
  rfl
theorem glanes : ∀ (b a : List Bool), a.length + b.length ≤ 1048576 → ∀ k, b.length < k → Qe.l0 k (a.map w1 ++ List.replicate b.length 0) (a ++ b) ((a.length + b.length : Nat) : Int) (a.length : Int) = some ((a ++ b).map w1)
  | [], a, h, k, hk => by
    obtain ⟨m, rfl⟩ : ∃ m, k = m + 1 := ⟨k - 1, by simp only [List.length_nil] at hk; omega⟩
    rw [Qe.l0, if_neg (by simp only [List.length_nil]; omega)]
    simp
  | c :: b, a, h, k, hk => by
    rw [List.length_cons] at h hk
    obtain ⟨m, rfl⟩ : ∃ m, k = m + 1 := ⟨k - 1, by omega⟩
    have ih := glanes b (a ++ [c]) (by rw [List.length_append, List.length_singleton]; omega) m (by omega)
    have e1 : rdOf false (a ++ c :: b) (a.length : Int) = c := by rw [rdOf_get _ _ (by rw [List.length_append, List.length_cons]; omega), getD_mid]
    have e2 : (a ++ [c]).length + b.length = a.length + (b.length + 1) := by rw [List.length_append, List.length_singleton]; omega
    rw [e2, List.append_assoc, List.singleton_append, List.map_append, List.append_assoc] at ih
    have e3 : ((a ++ [c]).length : Int) = ((a.length + 1 : Nat) : Int) := by rw [List.length_append, List.length_singleton]
    rw [e3] at ih
    have q0 : ((a.map w1 ++ List.replicate (b.length + 1) 0).length : Int) = ((a.length + (b.length + 1) : Nat) : Int) := by rw [List.length_append, List.length_map, List.length_replicate]
    have q1 : ((a ++ c :: b).length : Int) = ((a.length + (b.length + 1) : Nat) : Int) := by rw [List.length_append, List.length_cons]
    have q2 : (a.length : Int) < ((a.length + (b.length + 1) : Nat) : Int) := by omega
    have q3 : (0 : Int) ≤ (a.length : Int) := by omega
    have hw : wrap64 ((a.length : Int) + 1) = ((a.length + 1 : Nat) : Int) := by rw [Ql (by omega) (by omega)]; rfl
    rw [List.length_cons, Qe.l0, if_pos q2, if_pos q3, q1, if_pos q2, e1, q0, if_pos q2, hw]
    cases c
    · rw [if_neg (by decide)]
      exact ih
    · have e5 : (a.map w1 ++ 0 :: List.replicate b.length 0).set a.length 1 = a.map w1 ++ 1 :: List.replicate b.length 0 := by
        have := set_mid (a.map w1) 0 1 (List.replicate b.length 0)
        rwa [List.length_map] at this
      rw [if_pos rfl, Int.toNat_natCast, List.replicate_succ, e5]
      exact ih
theorem glanes_f (y : List Bool) (h : y.length ≤ 1048576) : ∀ k, y.length < k → Qe.f k y = some (y.map w1) := fun k hk => by
  have := glanes y [] (by simpa using h) k hk
  rw [Qe.f, if_pos (by omega), if_pos (by omega), Int.toNat_natCast]
  simpa using this
theorem one_tb {a : Int} (ha : U64 a) : ((Go.bits .and .u64 a 1) == 1) = tb a 0 := by
  have h := tb_test ha 0
  rw [Int.pow_zero, Int.ediv_one] at h
  rw [h]
  cases tb a 0 <;> rfl
theorem glane : ∀ (b a : List Int), (∀ y ∈ b, U64 y) → a.length + b.length ≤ 1048576 → ∀ k, b.length < k → Qi.l0 k (lane a 0 ++ List.replicate b.length false) (a ++ b) ((a.length + b.length : Nat) : Int) (a.length : Int) = some (lane (a ++ b) 0)
  | [], a, hu, h, k, hk => by
    obtain ⟨m, rfl⟩ : ∃ m, k = m + 1 := ⟨k - 1, by simp only [List.length_nil] at hk; omega⟩
    rw [Qi.l0, if_neg (by simp only [List.length_nil]; omega)]
    simp
  | c :: b, a, hu, h, k, hk => by
    rw [List.length_cons] at h hk
    obtain ⟨m, rfl⟩ : ∃ m, k = m + 1 := ⟨k - 1, by omega⟩
    have ih := glane b (a ++ [c]) (fun y hy => hu y (List.mem_cons_of_mem _ hy)) (by rw [List.length_append, List.length_singleton]; omega) m (by omega)
    have e1 : rd (a ++ c :: b) (a.length : Int) = c := by unfold rd; rw [Int.toNat_natCast, getD_mid]
    have e2 : (a ++ [c]).length + b.length = a.length + (b.length + 1) := by rw [List.length_append, List.length_singleton]; omega
    have e4 : lane (a ++ [c]) 0 ++ List.replicate b.length false = lane a 0 ++ tb c 0 :: List.replicate b.length false := by rw [lane_snoc, List.append_assoc]; rfl
    rw [e2, e4, List.append_assoc, List.singleton_append] at ih
    have e3 : ((a ++ [c]).length : Int) = ((a.length + 1 : Nat) : Int) := by rw [List.length_append, List.length_singleton]
    rw [e3] at ih
    have q0 : ((lane a 0 ++ List.replicate (b.length + 1) false).length : Int) = ((a.length + (b.length + 1) : Nat) : Int) := by rw [List.length_append, lane_len, List.length_replicate]
    have q1 : ((a ++ c :: b).length : Int) = ((a.length + (b.length + 1) : Nat) : Int) := by rw [List.length_append, List.length_cons]
    have q2 : (a.length : Int) < ((a.length + (b.length + 1) : Nat) : Int) := by omega
    have q3 : (0 : Int) ≤ (a.length : Int) := by omega
    have hw : wrap64 ((a.length : Int) + 1) = ((a.length + 1 : Nat) : Int) := by rw [Ql (by omega) (by omega)]; rfl
    rw [List.length_cons, Qi.l0, if_pos q2, if_pos q3, q1, if_pos q2, q0, if_pos q2, e1, hw, one_tb (hu c List.mem_cons_self), Int.toNat_natCast, List.replicate_succ]
    have e5 : (lane a 0 ++ false :: List.replicate b.length false).set a.length (tb c 0) = lane a 0 ++ tb c 0 :: List.replicate b.length false := by
      have := set_mid (lane a 0) false (tb c 0) (List.replicate b.length false)
      rwa [lane_len] at this
    rw [e5]
    exact ih
theorem glane_f (y : List Int) (hu : ∀ x ∈ y, U64 x) (h : y.length ≤ 1048576) : ∀ k, y.length < k → Qi.f k y = some (lane y 0) := fun k hk => by
  have := glane y [] hu (by simpa using h) k hk
  rw [Qi.f, if_pos (by omega), if_pos (by omega), Int.toNat_natCast]
  simpa [lane] using this
section
variable {l0 l1 : List ByteArray} {l2 : List FlopS} {l3 : List GateS} {l4 : List Int}
theorem eval_ex (ok : FormOk l0 l1 l2 l3 l4) {kF : Nat} (hF : Ze.f kF l0 l1 l2 l3 l4 = some 0) (p : PatS) (h0 : p.f0.length = l0.length) (h2 : p.f1.length = l2.length) :
    ∃ K, ∀ k, K ≤ k → Qh.f k l0 l1 l2 l3 l4 p.f0 p.f1 = some ((showB l2 l3 l4 p).1, (showB l2 l3 l4 p).2, 0) := by
  have b0 := ok.c0
  have b2 := ok.c2
  have b1 := ok.c1
  have b4 := ok.c4
  obtain ⟨kW, o, n, hW, ho, hn, uo, un, hlane⟩ := lwords_ex ok hF (p.f0.map w1) (p.f1.map w1) (by rw [List.length_map, h0]) (by rw [List.length_map, h2]) (fun y hy => by obtain ⟨b, _, rfl⟩ := List.mem_map.1 hy; exact u64_w1 b) (fun y hy => by obtain ⟨b, _, rfl⟩ := List.mem_map.1 hy; exact u64_w1 b)
  obtain ⟨hl1, hl2⟩ := hlane 0 (by decide)
  rw [lane_w1, lane_w1] at hl1 hl2
  refine ⟨kW + p.f0.length + p.f1.length + o.length + n.length + 1, fun k hk => ?_⟩
  rw [Qh.f, glanes_f _ (by omega) k (by omega), Option.bind_some, glanes_f _ (by omega) k (by omega), Option.bind_some, upK (Qg.mono l0 l1 l2 l3 l4 _ _) (show kW ≤ k by omega) hW, Option.bind_some]
  show (if (0 : Int) = 0 then ((Qi.f k o).bind fun t382 => ((Qi.f k n).bind fun t385 => (some (t382, t385, (0 : Int))))) else _) = _
  rw [if_pos rfl, glane_f o uo (by omega) k (by omega), Option.bind_some, glane_f n un (by omega) k (by omega), Option.bind_some, hl1, hl2]
  rfl
variable (l0 l2 l3 l4)
abbrev showF (f : Qr) (p : PatS) : List Bool × List Bool := showB (Ko (nvOf l0 l2 l3 l4 f.f0 f.f1 f.f2) l2 0) (Kv (nvOf l0 l2 l3 l4 f.f0 f.f1 f.f2) l3 0) (brOuts (nvOf l0 l2 l3 l4 f.f0 f.f1 f.f2) l4 0) p
theorem showF_len (f : Qr) (p : PatS) : (showF l0 l2 l3 l4 f p).1.length = l4.length ∧ (showF l0 l2 l3 l4 f p).2.length = l2.length := by
  obtain ⟨h1, h2⟩ := showB_len (l2 := Ko (nvOf l0 l2 l3 l4 f.f0 f.f1 f.f2) l2 0) (l3 := Kv (nvOf l0 l2 l3 l4 f.f0 f.f1 f.f2) l3 0) (l4 := brOuts (nvOf l0 l2 l3 l4 f.f0 f.f1 f.f2) l4 0) p
  exact ⟨h1.trans (brOuts_len _ _ _), h2.trans (brFlops_len _ _ _)⟩
variable {l0 l2 l3 l4}
theorem evalF_ex (ok : FormOk l0 l1 l2 l3 l4) {kF : Nat} (hF : Ze.f kF l0 l1 l2 l3 l4 = some 0) (f : Qr) (p : PatS) (h0 : p.f0.length = l0.length) (h2 : p.f1.length = l2.length) :
    ∃ K, ∀ k, K ≤ k → Qh.f k l0 l1 (Ko (nvOf l0 l2 l3 l4 f.f0 f.f1 f.f2) l2 0) (Kv (nvOf l0 l2 l3 l4 f.f0 f.f1 f.f2) l3 0) (brOuts (nvOf l0 l2 l3 l4 f.f0 f.f1 f.f2) l4 0) p.f0 p.f1 = some ((showF l0 l2 l3 l4 f p).1, (showF l0 l2 l3 l4 f p).2, 0) := by
  have nm := (form_nm hF).2
  obtain ⟨okb, nmb⟩ := br_form (newv_ok f.f0 f.f1 f.f2 (numsOf l0 l2 l3 l4)) ok nm
  obtain ⟨kB, hB⟩ := form_zero _ _ _ _ _ okb nmb
  exact eval_ex okb hB p h0 (h2.trans (brFlops_len _ _ _).symm)
end
theorem bound_ex {α : Type} (Kf : α → Nat) : ∀ l : List α, ∃ K, ∀ x ∈ l, Kf x ≤ K
  | [] => ⟨0, fun x hx => by cases hx⟩
  | a :: r => by
    obtain ⟨K, h⟩ := bound_ex Kf r
    refine ⟨K + Kf a, fun x hx => ?_⟩
    rcases List.mem_cons.1 hx with rfl | hx
    · omega
    · have := h x hx; omega
theorem equalI_l0 (x : List Int) (hx : x.length ≤ 1048576) : ∀ (d i : Nat), i + d = x.length → ∀ k, d < k → Zw.l0 k x x x.length i = some true
  | 0, i, h, k, hk => by
    obtain ⟨n, rfl⟩ : ∃ n, k = n + 1 := ⟨k - 1, by omega⟩
    rw [Zw.l0, if_neg (by omega)]
  | d + 1, i, h, k, hk => by
    obtain ⟨n, rfl⟩ : ∃ n, k = n + 1 := ⟨k - 1, by omega⟩
    have hw : wrap64 ((i : Int) + 1) = ((i + 1 : Nat) : Int) := by rw [Ql (by omega) (by omega)]; rfl
    rw [Zw.l0, if_pos (by omega), if_pos (by omega), if_pos (by omega), if_pos (by omega), if_pos rfl, hw]
    exact equalI_l0 x hx d (i + 1) (by omega) n (by omega)
theorem equalI (x : List Int) (hx : x.length ≤ 1048576) : ∀ k, x.length < k → Zw.f k x x = some true := fun k hk => by
  rw [Zw.f, if_pos rfl]
  exact equalI_l0 x hx x.length 0 (by omega) k hk
end Go.Proofs.Ytimjccfpobhpeaa
