/- Joined by this session's own program out of its texts: PFx20 KeyF Join Classes PFx27 PFx1 PFx28. -/
import Derived.Test.YtimjccfpobhpeaaL1
import Derived.Test.YtimjccfpobhpeaaL4
import Derived.Test.YtimjccfpobhpeaaL3
import Derived.Test.YtimjccfpobhpeaaProg
import Derived.DeepKeys4
import Derived.KernelRfl
import Derived.Laws.ResultCell
namespace Go.Proofs.Ytimjccfpobhpeaa.PF
open Go.RowKit Go.Proofs.YtimjccfpobhpeaaW.PrintWords Go.Proofs.YtimjccfpobhpeaaW.PrintLast Go.Proofs.YtimjccfpobhpeaaW.PrintMore
set_option linter.unusedVariables false
set_option linter.unusedSimpArgs false
def slices_Equal_int_int.l0 : Nat → List Int → List Int → Int → Int → Option (Bool)
  | 0, _, _, _, _ => none
  | k + 1, x0, x1, x12, x13 => if x13 < x12 then (if 0 ≤ x13 then (if x13 < (x0.length : Int) then (if x13 < (x1.length : Int) then (if (rd x0 x13) = (rd x1 x13) then (slices_Equal_int_int.l0 k x0 x1 x12 (wrap64 (x13 + 1))) else (some false)) else (none)) else (none)) else (none)) else (some true)
def slices_Equal_int_int.f (k : Nat) (l0 : List Int) (l1 : List Int) : Option (Bool) := if (l0.length : Int) = (l1.length : Int) then (slices_Equal_int_int.l0 k l0 l1 (l0.length : Int) 0) else (some false)
theorem slices_Equal_int_int.mono_l : ∀ k, (∀ y0 y1 y2 y3, LeO (slices_Equal_int_int.l0 k y0 y1 y2 y3) (slices_Equal_int_int.l0 (k + 1) y0 y1 y2 y3))
  | 0 => fun _ _ _ _ r h => by simp [slices_Equal_int_int.l0] at h
  | k + 1 => by
    have ih0 := slices_Equal_int_int.mono_l k
    · intro y0 y1 y2 y3
      unfold slices_Equal_int_int.l0
      repeat' first
      | (with_reducible exact ih0 _ _ _ _)
      | (with_reducible exact LeO.refl _)
      | (with_reducible exact LeO.none _)
      | (with_reducible refine LeO.ite ?_ ?_)
      | (with_reducible refine LeO.bind ?_ (fun _ => ?_))
      | exact ih0 _ _ _ _
      | exact LeO.none _
      | refine LeO.ite ?_ ?_
      | refine LeO.bind ?_ (fun _ => ?_)
theorem slices_Equal_int_int.mono : ∀ a0 a1 k, LeO (slices_Equal_int_int.f k a0 a1) (slices_Equal_int_int.f (k + 1) a0 a1) := by
  intro a0 a1 k
  have ih0 := slices_Equal_int_int.mono_l k
  unfold slices_Equal_int_int.f
  repeat' first
      | (with_reducible exact ih0 _ _ _ _)
      | (with_reducible exact LeO.refl _)
      | (with_reducible exact LeO.none _)
      | (with_reducible refine LeO.ite ?_ ?_)
      | (with_reducible refine LeO.bind ?_ (fun _ => ?_))
      | exact ih0 _ _ _ _
      | exact LeO.none _
      | refine LeO.ite ?_ ?_
      | refine LeO.bind ?_ (fun _ => ?_)
set_option maxHeartbeats 8000000 in
set_option maxRecDepth 100000 in
theorem slices_Equal_int_int.calls (k : Nat) (A0 : Option Addr) (c0 : Nat) (l0 : List Int) (A1 : Option Addr) (c1 : Nat) (l1 : List Int) (r : Bool) (w : World) (hr0 : Kd.C (Kd.int .i64) w A0 l0.length l0) (hc0 : l0.length ≤ c0) (hr1 : Kd.C (Kd.int .i64) w A1 l1.length l1) (hc1 : l1.length ≤ c1) (h : slices_Equal_int_int.f k l0 l1 = some r) :
    Calls Try.prog 18 #[.slice A0 l0.length c0, .slice A1 l1.length c1] w fun e w' => e = .returned (.bool r) ∧ Drawn0 w w' := by
  have HR0 := Aside0.mk hr0
  have HC0 := Aside0.mk hc0
  clear hr0 hc0
  have HR1 := Aside0.mk hr1
  have HC1 := Aside0.mk hc1
  clear hr1 hc1
  have H : (if (l0.length : Int) = (l1.length : Int) then (slices_Equal_int_int.l0 k l0 l1 (l0.length : Int) 0) else (some false)) = some r := h
  clear h
  by_cases c3 : (l0.length : Int) = (l1.length : Int)
  · rw [if_pos c3] at H
    have c3b0 : ((l0.length : Int) == (l1.length : Int)) = true := beq_iff_eq.mpr c3
    have c3b1 : ((l0.length : Int) != (l1.length : Int)) = false := bne_eq_false_iff_eq.mpr c3
    have c3b2 : (l0.length == l1.length) = true := by first | simpa using c3 | (simp at c3 ⊢; omega)
    clear c3
    have H' := Aside0.mk H
    clear H
    go_enter Try.func18, Try.ntmps18
    go_wp2
    repeat (go_quiet (fail); try go_wp2)
    go_loopg [13] k (fun kq v13 w' => ∃ (x13_1 : Int), v13 = .int .i64 x13_1 ∧ Aside0 (slices_Equal_int_int.l0 kq l0 l1 (l0.length : Int) x13_1 = some r) ∧ Aside0 (kq ≤ k) ∧ Drawn0 w w')
    case atStart => exact ⟨(0), (by first | rfl | (simp; done) | (simp [*]; done)), H', ⟨Nat.le_refl _⟩, by repeat (first | exact Drawn0.refl _ | apply Drawn0.step)⟩
    case round =>
      clear H'
      try clear c1
      try clear p2
      try clear c3
      try clear c3b0
      try clear c3b1
      try clear c3b2
      obtain ⟨x13_1, rfl, HA, HK1, ⟨m1, rfl⟩⟩ := hrel
      cases gk with
      | zero => exact absurd HA.out (by simp [slices_Equal_int_int.l0])
      | succ k1 =>
        have H := HA.out
        clear HA
        simp only [slices_Equal_int_int.l0] at H
        by_cases c4 : x13_1 < (l0.length : Int)
        · rw [if_pos c4] at H
          have c4b0 : decide (x13_1 < (l0.length : Int)) = true := decide_eq_true c4
          clear c4
          by_cases c5 : 0 ≤ x13_1
          · rw [if_pos c5] at H
            have c5b0 : decide (0 ≤ x13_1) = true := decide_eq_true c5
            clear c5
            by_cases c6 : x13_1 < (l0.length : Int)
            · rw [if_pos c6] at H
              have c6b0 : decide (x13_1 < (l0.length : Int)) = true := decide_eq_true c6
              clear c6
              by_cases c7 : x13_1 < (l1.length : Int)
              · rw [if_pos c7] at H
                have c7b0 : decide (x13_1 < (l1.length : Int)) = true := decide_eq_true c7
                clear c7
                by_cases c8 : (rd l0 x13_1) = (rd l1 x13_1)
                · rw [if_pos c8] at H
                  have c8b0 : ((rd l0 x13_1) == (rd l1 x13_1)) = true := beq_iff_eq.mpr c8
                  have c8b1 : ((rd l0 x13_1) != (rd l1 x13_1)) = false := bne_eq_false_iff_eq.mpr c8
                  clear c8
                  have H' := Aside0.mk H
                  clear H
                  have p153 : 0 ≤ (x13_1 : Int) := of_decide_eq_true (by first | (with_reducible assumption) | assumption)
                  have q153 : x13_1 < (l0.length : Int) := of_decide_eq_true (by first | (with_reducible assumption) | assumption)
                  obtain ⟨ad153, e153, hx153_0⟩ := Kd.at_int HR0.out x13_1 p153 q153
                  cases e153
                  replace p153 := eq_true p153
                  replace q153 := eq_true q153
                  have p154 : 0 ≤ (x13_1 : Int) := of_decide_eq_true (by first | (with_reducible assumption) | assumption)
                  have q154 : x13_1 < (l1.length : Int) := of_decide_eq_true (by first | (with_reducible assumption) | assumption)
                  obtain ⟨ad154, e154, hx154_0⟩ := Kd.at_int HR1.out x13_1 p154 q154
                  cases e154
                  replace p154 := eq_true p154
                  replace q154 := eq_true q154
                  go_wp2
                  repeat (go_quiet (fail); try go_wp2)
                  go_roundg k1
                  case measure => have := HK1.out; omega
                  case rel => exact ⟨(wrap64 (x13_1 + 1)), (by first | rfl | (simp; done) | (simp [*]; done)), H', ⟨by have := HK1.out; omega⟩, by repeat (first | exact Drawn0.refl _ | apply Drawn0.step)⟩
                · rw [if_neg c8] at H
                  have c8b0 : ((rd l0 x13_1) == (rd l1 x13_1)) = false := beq_eq_false_iff_ne.mpr c8
                  have c8b1 : ((rd l0 x13_1) != (rd l1 x13_1)) = true := bne_iff_ne.mpr c8
                  obtain rfl := Option.some.inj H
                  have p153 : 0 ≤ (x13_1 : Int) := of_decide_eq_true (by first | (with_reducible assumption) | assumption)
                  have q153 : x13_1 < (l0.length : Int) := of_decide_eq_true (by first | (with_reducible assumption) | assumption)
                  obtain ⟨ad153, e153, hx153_0⟩ := Kd.at_int HR0.out x13_1 p153 q153
                  cases e153
                  replace p153 := eq_true p153
                  replace q153 := eq_true q153
                  have p154 : 0 ≤ (x13_1 : Int) := of_decide_eq_true (by first | (with_reducible assumption) | assumption)
                  have q154 : x13_1 < (l1.length : Int) := of_decide_eq_true (by first | (with_reducible assumption) | assumption)
                  obtain ⟨ad154, e154, hx154_0⟩ := Kd.at_int HR1.out x13_1 p154 q154
                  cases e154
                  replace p154 := eq_true p154
                  replace q154 := eq_true q154
                  go_wp2
                  repeat (go_quiet (fail); try go_wp2)
                  go_ret
                  exact ⟨by first | rfl | (simp; done) | (simp [*]; done), by repeat (first | exact Drawn0.refl _ | apply Drawn0.step)⟩
              · rw [if_neg c7] at H
                exact absurd H (by simp)
            · rw [if_neg c6] at H
              exact absurd H (by simp)
          · rw [if_neg c5] at H
            exact absurd H (by simp)
        · rw [if_neg c4] at H
          have c4b0 : decide (x13_1 < (l0.length : Int)) = false := decide_eq_false c4
          clear c4
          obtain rfl := Option.some.inj H
          go_wp2
          repeat (go_quiet (fail); try go_wp2)
          go_ret
          exact ⟨by first | rfl | (simp; done) | (simp [*]; done), by repeat (first | exact Drawn0.refl _ | apply Drawn0.step)⟩
  · rw [if_neg c3] at H
    have c3b0 : ((l0.length : Int) == (l1.length : Int)) = false := beq_eq_false_iff_ne.mpr c3
    have c3b1 : ((l0.length : Int) != (l1.length : Int)) = true := bne_iff_ne.mpr c3
    have c3b2 : (l0.length == l1.length) = false := by first | simpa using c3 | (simp at c3 ⊢; omega)
    obtain rfl := Option.some.inj H
    go_enter Try.func18, Try.ntmps18
    go_wp2
    repeat (go_quiet (fail); try go_wp2)
    go_ret
    exact ⟨by first | rfl | (simp; done) | (simp [*]; done), by repeat (first | exact Drawn0.refl _ | apply Drawn0.step)⟩
def masklaw2_single.f  : Option (List ByteArray × List ByteArray × (List (S82)) × (List (S80)) × List Int) := some ((([(⟨#[97]⟩ : ByteArray)] : List ByteArray)), (([(⟨#[113]⟩ : ByteArray)] : List ByteArray)), (([(⟨(⟨#[114]⟩ : ByteArray), (-1), 4, 1, false⟩ : S82)] : List (S82))), (([(⟨(-1), 1, (([2] : List Int))⟩ : S80)] : List (S80))), (([3] : List Int)))
set_option maxHeartbeats 8000000 in
set_option maxRecDepth 100000 in
theorem masklaw2_single.calls  (r1 : List ByteArray) (r2 : List ByteArray) (r3 : List (S82)) (r4 : List (S80)) (r5 : List Int) (w : World) (h : masklaw2_single.f  = some (r1, r2, r3, r4, r5)) :
    Calls Try.prog 35 #[] w fun e w' => ∃ v0_ v1_ v2_ v3_ v4_ : Value, e = .returned (.agg #[v0_, v1_, v2_, v3_, v4_]) ∧ Kd.R Kd.string 9 w' w.heap.size (fun k_ => (w.heap.size ≤ k_) ∧ some k_ ≠ (v1_ : Value).ownBlock) v0_ r1 ∧ Kd.R Kd.string 9 w' w.heap.size (fun k_ => (w.heap.size ≤ k_) ∧ some k_ ≠ (v0_ : Value).ownBlock) v1_ r2 ∧ Kd.R k82 82 w' w.heap.size (fun k_ => (w.heap.size ≤ k_)) v2_ r3 ∧ Kd.N k80 80 w' w.heap.size (fun k_ => (w.heap.size ≤ k_) ∧ some k_ ≠ (v0_ : Value).ownBlock ∧ some k_ ≠ (v1_ : Value).ownBlock ∧ some k_ ≠ (v2_ : Value).ownBlock ∧ some k_ ≠ (v4_ : Value).ownBlock) v3_ r4 ∧ Kd.R (Kd.int .i64) 3 w' w.heap.size (fun k_ => (w.heap.size ≤ k_)) v4_ r5 ∧ Below w.heap.size w w' := by
  have hu27 := Try.underlying27
  have hu82 := Try.underlying82
  have hu80 := Try.underlying80
  have HB := Aside0.mk (Below.refl w.heap.size w)
  have H : (some ((([(⟨#[97]⟩ : ByteArray)] : List ByteArray)), (([(⟨#[113]⟩ : ByteArray)] : List ByteArray)), (([(⟨(⟨#[114]⟩ : ByteArray), (-1), 4, 1, false⟩ : S82)] : List (S82))), (([(⟨(-1), 1, (([2] : List Int))⟩ : S80)] : List (S80))), (([3] : List Int)))) = some (r1, r2, r3, r4, r5) := h
  clear h
  obtain ⟨y156, hy156⟩ : ∃ y_ : List ByteArray, y_ = (([(⟨#[97]⟩ : ByteArray)] : List ByteArray)) := ⟨_, rfl⟩
  replace H : (some (y156, (([(⟨#[113]⟩ : ByteArray)] : List ByteArray)), (([(⟨(⟨#[114]⟩ : ByteArray), (-1), 4, 1, false⟩ : S82)] : List (S82))), (([(⟨(-1), 1, (([2] : List Int))⟩ : S80)] : List (S80))), (([3] : List Int)))) = some (r1, r2, r3, r4, r5) := by first | (rw [hy156]; with_reducible exact H) | (have H2_ := (Option.bind_some _ _).symm.trans H; rw [hy156]; with_reducible exact H2_) | (have H2_ := (Option.bind_some _ _).symm.trans H; with_reducible exact H2_) | with_reducible exact H | (rw [hy156]; exact H) | exact H
  have Ny156 := Aside0.mk hy156
  clear hy156
  obtain ⟨y159, hy159⟩ : ∃ y_ : List ByteArray, y_ = (([(⟨#[113]⟩ : ByteArray)] : List ByteArray)) := ⟨_, rfl⟩
  replace H : (some (y156, y159, (([(⟨(⟨#[114]⟩ : ByteArray), (-1), 4, 1, false⟩ : S82)] : List (S82))), (([(⟨(-1), 1, (([2] : List Int))⟩ : S80)] : List (S80))), (([3] : List Int)))) = some (r1, r2, r3, r4, r5) := by first | (rw [hy159]; with_reducible exact H) | (have H2_ := (Option.bind_some _ _).symm.trans H; rw [hy159]; with_reducible exact H2_) | (have H2_ := (Option.bind_some _ _).symm.trans H; with_reducible exact H2_) | with_reducible exact H | (rw [hy159]; exact H) | exact H
  have Ny159 := Aside0.mk hy159
  clear hy159
  obtain ⟨y162, hy162⟩ : ∃ y_ : List (S82), y_ = (([(⟨(⟨#[114]⟩ : ByteArray), (-1), 4, 1, false⟩ : S82)] : List (S82))) := ⟨_, rfl⟩
  replace H : (some (y156, y159, y162, (([(⟨(-1), 1, (([2] : List Int))⟩ : S80)] : List (S80))), (([3] : List Int)))) = some (r1, r2, r3, r4, r5) := by first | (rw [hy162]; with_reducible exact H) | (have H2_ := (Option.bind_some _ _).symm.trans H; rw [hy162]; with_reducible exact H2_) | (have H2_ := (Option.bind_some _ _).symm.trans H; with_reducible exact H2_) | with_reducible exact H | (rw [hy162]; exact H) | exact H
  have Ny162 := Aside0.mk hy162
  clear hy162
  obtain ⟨y165, hy165⟩ : ∃ y_ : List Int, y_ = (([2] : List Int)) := ⟨_, rfl⟩
  replace H : (some (y156, y159, y162, (([(⟨(-1), 1, y165⟩ : S80)] : List (S80))), (([3] : List Int)))) = some (r1, r2, r3, r4, r5) := by first | (rw [hy165]; with_reducible exact H) | (have H2_ := (Option.bind_some _ _).symm.trans H; rw [hy165]; with_reducible exact H2_) | (have H2_ := (Option.bind_some _ _).symm.trans H; with_reducible exact H2_) | with_reducible exact H | (rw [hy165]; exact H) | exact H
  have Ny165 := Aside0.mk hy165
  clear hy165
  obtain ⟨y168, hy168⟩ : ∃ y_ : List (S80), y_ = (([(⟨(-1), 1, y165⟩ : S80)] : List (S80))) := ⟨_, rfl⟩
  replace H : (some (y156, y159, y162, y168, (([3] : List Int)))) = some (r1, r2, r3, r4, r5) := by first | (rw [hy168]; with_reducible exact H) | (have H2_ := (Option.bind_some _ _).symm.trans H; rw [hy168]; with_reducible exact H2_) | (have H2_ := (Option.bind_some _ _).symm.trans H; with_reducible exact H2_) | with_reducible exact H | (rw [hy168]; exact H) | exact H
  have Ny168 := Aside0.mk hy168
  clear hy168
  obtain ⟨y171, hy171⟩ : ∃ y_ : List Int, y_ = (([3] : List Int)) := ⟨_, rfl⟩
  replace H : (some (y156, y159, y162, y168, y171)) = some (r1, r2, r3, r4, r5) := by first | (rw [hy171]; with_reducible exact H) | (have H2_ := (Option.bind_some _ _).symm.trans H; rw [hy171]; with_reducible exact H2_) | (have H2_ := (Option.bind_some _ _).symm.trans H; with_reducible exact H2_) | with_reducible exact H | (rw [hy171]; exact H) | exact H
  have Ny171 := Aside0.mk hy171
  clear hy171
  simp only [Option.some.injEq, Prod.mk.injEq] at H
  obtain ⟨rfl, rfl, rfl, rfl, rfl⟩ := H
  go_enter Try.func35, Try.ntmps35
  go_wp2_with (first | ((with_reducible refine gate_dst (N := 0) rfl ?_); refine box_event ?hg (N := 0) ?hd (cs := #[.slice none 0 0, .slice none 0 0, .slice none 0 0, .slice none 0 0, .slice none 0 0]) (t := 27) ?hr ?_; (case hd => rfl); (case hg => rfl); (case hr => first | (go_simp; done) | (go_simp; rfl)); intro gb155 hg w1 hbox hb; have n0_ := Aside0.mk (below_step (by repeat (first | (with_reducible first | exact HB.out | apply below_alloc | apply pw_below_drewN | apply below_drew1) | exact HB.out)) hb); have n1_ := Aside0.mk (hbox); have n2_ := Aside0.mk ((by rw [hg]; exact (below_size (by repeat (first | (with_reducible first | exact HB.out | apply below_alloc | apply pw_below_drewN | apply below_drew1) | exact HB.out))) : w.heap.size ≤ gb155)); have n3_ := Aside0.mk ((by rw [hg]; exact (below_size (by repeat (first | (with_reducible first | exact HB.out | apply below_alloc | apply pw_below_drewN | apply below_drew1) | exact HB.out))) : w.heap.size ≤ gb155)); clear HB; have HB := n0_; have BK155 := n1_; have GW155 := n2_; have GE155 := n3_; clear n0_ n1_ n2_ n3_; clear hb hbox hg) | ((with_reducible refine gate_dst (N := 1) rfl ?_); refine Kd.R_lit Kd.string _ 9 ?hg (N := 1) ?hd (xs := ([(⟨#[97]⟩ : ByteArray)] : List ByteArray)) (inner := [.string (⟨#[97]⟩ : ByteArray)]) (ok := fun _ => True) (okp := fun _ => True) ?hr ?hp (fun _ hk => hk) trivial (Below.refl _ _) (Nat.le_refl _) (by simp) ?_; (case hd => rfl); (case hg => rfl); (case hr => first | (go_simp; done) | (go_simp; rfl)); (case hp => exact (Reps.one (show Kd.M Kd.string _ _ _ (⟨#[97]⟩ : ByteArray) [.string (⟨#[97]⟩ : ByteArray)] from rfl) (Reps.none _ _))); intro v157 w2 ho3 hb hg_ hnew_; clear hg_ hnew_; (first | rw [← Ny156.out] at ho3 | (simp only [Int.reduceToNat] at ho3; rw [← Ny156.out] at ho3)); have n0_ := Aside0.mk (Kd.R_lower (Kd.R_newM (M := fun k_ => (w.heap.size ≤ k_)) ho3 (below_size (by repeat (first | (with_reducible first | exact HB.out | apply below_alloc | apply pw_below_drewN | apply below_drew1 | refine below_set ?_ GE155.out) | exact HB.out))) (fun k_ h_ => h_)) (below_size (by repeat (first | (with_reducible first | exact HB.out | apply below_alloc | apply pw_below_drewN | apply below_drew1 | refine below_set ?_ GE155.out) | exact HB.out)))); have n1_ := Aside0.mk (blk_below (g := gb155) (o := .cells #[.slice none 0 0, .slice none 0 0, .slice none 0 0, .slice none 0 0, .slice none 0 0] 27 (0, 0)) (by (with_reducible repeat (first | refine blk_drewN ?_ _ | refine blk_drew ?_ | refine blk_alloc ?_ _)); exact BK155.out) hb); have n2_ := Aside0.mk (below_step (by repeat (first | (with_reducible first | exact HB.out | apply below_alloc | apply pw_below_drewN | apply below_drew1 | refine below_set ?_ GE155.out) | exact HB.out)) hb); clear BK155; clear HB; have HO158 := n0_; have BK155 := n1_; have HB := n2_; clear n0_ n1_ n2_; clear hb ho3) | ((with_reducible refine gate_dst (N := 2) rfl ?_); refine Kd.R_lit Kd.string _ 9 ?hg (N := 2) ?hd (xs := ([(⟨#[113]⟩ : ByteArray)] : List ByteArray)) (inner := [.string (⟨#[113]⟩ : ByteArray)]) (ok := fun _ => True) (okp := fun _ => True) ?hr ?hp (fun _ hk => hk) trivial (Below.refl _ _) (Nat.le_refl _) (by simp) ?_; (case hd => rfl); (case hg => rfl); (case hr => first | (go_simp; done) | (go_simp; rfl)); (case hp => exact (Reps.one (show Kd.M Kd.string _ _ _ (⟨#[113]⟩ : ByteArray) [.string (⟨#[113]⟩ : ByteArray)] from rfl) (Reps.none _ _))); intro v160 w4 ho5 hb hg_ hnew_; clear hg_ hnew_; (first | rw [← Ny159.out] at ho5 | (simp only [Int.reduceToNat] at ho5; rw [← Ny159.out] at ho5)); have n0_ := Aside0.mk (Kd.R_elder' (by (with_reducible repeat (first | apply Kd.R_alloc | apply Kd.R_drewN | apply Kd.R_drew)); exact HO158.out) (Kd.R_base ho5) hb); have n1_ := Aside0.mk (Kd.R_lower (Kd.R_new' (Kd.R_newM (M := fun k_ => (w.heap.size ≤ k_)) ho5 (below_size (by repeat (first | (with_reducible first | exact HB.out | apply below_alloc | apply pw_below_drewN | apply below_drew1 | refine below_set ?_ GE155.out) | exact HB.out))) (fun k_ h_ => h_)) (Kd.R_lt (by (with_reducible repeat (first | apply Kd.R_alloc | apply Kd.R_drewN | apply Kd.R_drew)); exact HO158.out))) (below_size (by repeat (first | (with_reducible first | exact HB.out | apply below_alloc | apply pw_below_drewN | apply below_drew1 | refine below_set ?_ GE155.out) | exact HB.out)))); have n2_ := Aside0.mk (blk_below (g := gb155) (o := .cells #[.slice none 0 0, .slice none 0 0, .slice none 0 0, .slice none 0 0, .slice none 0 0] 27 (0, 0)) (by (with_reducible repeat (first | refine blk_drewN ?_ _ | refine blk_drew ?_ | refine blk_alloc ?_ _)); exact BK155.out) hb); have n3_ := Aside0.mk (below_step (by repeat (first | (with_reducible first | exact HB.out | apply below_alloc | apply pw_below_drewN | apply below_drew1 | refine below_set ?_ GE155.out) | exact HB.out)) hb); clear HO158; clear BK155; clear HB; have HO158 := n0_; have HO161 := n1_; have BK155 := n2_; have HB := n3_; clear n0_ n1_ n2_ n3_; clear hb ho5) | ((with_reducible refine gate_dst (N := 4) rfl ?_); refine Kd.R_lit k82 _ 82 ?hg (N := 4) ?hd (xs := ([(⟨(⟨#[114]⟩ : ByteArray), (-1), 4, 1, false⟩ : S82)] : List (S82))) (inner := [.string (⟨#[114]⟩ : ByteArray), .int .i64 (-1), .int .i64 4, .int .i64 1, .bool false]) (ok := fun _ => True) (okp := fun _ => True) ?hr ?hp (fun _ hk => hk) trivial (Below.refl _ _) (Nat.le_refl _) (by simp) ?_; (case hd => rfl); (case hg => rfl); (case hr => first | (go_simp; done) | (go_simp; rfl)); (case hp => exact (Reps.c5 (show Kd.M k82 _ _ _ (⟨(⟨#[114]⟩ : ByteArray), (-1), 4, 1, false⟩ : S82) [.string (⟨#[114]⟩ : ByteArray), .int .i64 (-1), .int .i64 4, .int .i64 1, .bool false] from (k82_mkM _ _ _ (⟨(⟨#[114]⟩ : ByteArray), (-1), 4, 1, false⟩ : S82) )) (Reps.none _ _))); intro v163 w6 ho7 hb hg_ hnew_; clear hg_ hnew_; (first | rw [← Ny162.out] at ho7 | (simp only [Int.reduceToNat] at ho7; rw [← Ny162.out] at ho7)); have n0_ := Aside0.mk (Kd.R_below (by (with_reducible repeat (first | apply Kd.R_alloc | apply Kd.R_drewN | apply Kd.R_drew)); exact HO158.out) hb); have n1_ := Aside0.mk (Kd.R_below (by (with_reducible repeat (first | apply Kd.R_alloc | apply Kd.R_drewN | apply Kd.R_drew)); exact HO161.out) hb); have n2_ := Aside0.mk (Kd.R_lower (Kd.R_newM (M := fun k_ => (w.heap.size ≤ k_)) ho7 (below_size (by repeat (first | (with_reducible first | exact HB.out | apply below_alloc | apply pw_below_drewN | apply below_drew1 | refine below_set ?_ GE155.out) | exact HB.out))) (fun k_ h_ => h_)) (below_size (by repeat (first | (with_reducible first | exact HB.out | apply below_alloc | apply pw_below_drewN | apply below_drew1 | refine below_set ?_ GE155.out) | exact HB.out)))); have n3_ := Aside0.mk (blk_below (g := gb155) (o := .cells #[.slice none 0 0, .slice none 0 0, .slice none 0 0, .slice none 0 0, .slice none 0 0] 27 (0, 0)) (by (with_reducible repeat (first | refine blk_drewN ?_ _ | refine blk_drew ?_ | refine blk_alloc ?_ _)); exact BK155.out) hb); have n4_ := Aside0.mk (below_step (by repeat (first | (with_reducible first | exact HB.out | apply below_alloc | apply pw_below_drewN | apply below_drew1 | refine below_set ?_ GE155.out) | exact HB.out)) hb); clear HO158; clear HO161; clear BK155; clear HB; have HO158 := n0_; have HO161 := n1_; have HO164 := n2_; have BK155 := n3_; have HB := n4_; clear n0_ n1_ n2_ n3_ n4_; clear hb ho7) | ((with_reducible refine gate_dst (N := 5) rfl ?_); refine Kd.R_lit (Kd.int .i64) _ 3 ?hg (N := 5) ?hd (xs := ([2] : List Int)) (inner := [.int .i64 2]) (ok := fun _ => True) (okp := fun _ => True) ?hr ?hp (fun _ hk => hk) trivial (Below.refl _ _) (Nat.le_refl _) (by simp) ?_; (case hd => rfl); (case hg => rfl); (case hr => first | (go_simp; done) | (go_simp; rfl)); (case hp => exact (Reps.one (show Kd.M (Kd.int .i64) _ _ _ 2 [.int .i64 2] from rfl) (Reps.none _ _))); intro v166 w8 ho9 hb hg_ hnew_; clear hg_ hnew_; (first | rw [← Ny165.out] at ho9 | (simp only [Int.reduceToNat] at ho9; rw [← Ny165.out] at ho9)); have n0_ := Aside0.mk (Kd.R_below (by (with_reducible repeat (first | apply Kd.R_alloc | apply Kd.R_drewN | apply Kd.R_drew)); exact HO158.out) hb); have n1_ := Aside0.mk (Kd.R_below (by (with_reducible repeat (first | apply Kd.R_alloc | apply Kd.R_drewN | apply Kd.R_drew)); exact HO161.out) hb); have n2_ := Aside0.mk (Kd.R_below (by (with_reducible repeat (first | apply Kd.R_alloc | apply Kd.R_drewN | apply Kd.R_drew)); exact HO164.out) hb); have n3_ := Aside0.mk (Kd.R_lower (Kd.R_newM (M := fun k_ => (w.heap.size ≤ k_)) ho9 (below_size (by repeat (first | (with_reducible first | exact HB.out | apply below_alloc | apply pw_below_drewN | apply below_drew1 | refine below_set ?_ GE155.out) | exact HB.out))) (fun k_ h_ => h_)) (below_size (by repeat (first | (with_reducible first | exact HB.out | apply below_alloc | apply pw_below_drewN | apply below_drew1 | refine below_set ?_ GE155.out) | exact HB.out)))); have n4_ := Aside0.mk (blk_below (g := gb155) (o := .cells #[.slice none 0 0, .slice none 0 0, .slice none 0 0, .slice none 0 0, .slice none 0 0] 27 (0, 0)) (by (with_reducible repeat (first | refine blk_drewN ?_ _ | refine blk_drew ?_ | refine blk_alloc ?_ _)); exact BK155.out) hb); have n5_ := Aside0.mk (below_step (by repeat (first | (with_reducible first | exact HB.out | apply below_alloc | apply pw_below_drewN | apply below_drew1 | refine below_set ?_ GE155.out) | exact HB.out)) hb); clear HO158; clear HO161; clear HO164; clear BK155; clear HB; have HO158 := n0_; have HO161 := n1_; have HO164 := n2_; have HO167 := n3_; have BK155 := n4_; have HB := n5_; clear n0_ n1_ n2_ n3_ n4_ n5_; clear hb ho9; obtain ⟨Ao10, co10, eo10⟩ := Kd.R_slice HO167.out; subst eo10) | ((with_reducible refine gate_dst (N := 7) rfl ?_); refine Kd.N_lit k80 _ 80 ?hg (N' := 7) ?hd (xs := ([(⟨(-1), 1, y165⟩ : S80)] : List (S80))) (inner := [.int .i64 (-1), .int .u64 1, .slice Ao10 y165.length co10]) (ok := (fun k_ => (w.heap.size ≤ k_) ∧ some k_ ≠ (v157 : Value).ownBlock ∧ some k_ ≠ (v160 : Value).ownBlock ∧ some k_ ≠ (v163 : Value).ownBlock ∧ k_ ≠ gb155)) (okp := (fun k_ => (w.heap.size ≤ k_) ∧ some k_ ≠ (v157 : Value).ownBlock ∧ some k_ ≠ (v160 : Value).ownBlock ∧ some k_ ≠ (v163 : Value).ownBlock ∧ k_ ≠ gb155)) ?hr ?hp (fun _ hk => hk) ((show ∀ k_, w8.heap.size ≤ k_ → (fun k_ => (w.heap.size ≤ k_) ∧ some k_ ≠ (v157 : Value).ownBlock ∧ some k_ ≠ (v160 : Value).ownBlock ∧ some k_ ≠ (v163 : Value).ownBlock ∧ k_ ≠ gb155) k_ from fun k_ hk => ⟨(Nat.le_trans (below_size (by repeat (first | (with_reducible first | exact HB.out | apply below_alloc | apply pw_below_drewN | apply below_drew1 | refine below_set ?_ GE155.out) | exact HB.out))) hk), Kd.fresh' (Kd.R_lt (by (with_reducible repeat (first | apply Kd.R_alloc | apply Kd.R_drewN | apply Kd.R_drew)); exact HO158.out)) k_ hk, Kd.fresh' (Kd.R_lt (by (with_reducible repeat (first | apply Kd.R_alloc | apply Kd.R_drewN | apply Kd.R_drew)); exact HO161.out)) k_ hk, Kd.fresh' (Kd.R_lt (by (with_reducible repeat (first | apply Kd.R_alloc | apply Kd.R_drewN | apply Kd.R_drew)); exact HO164.out)) k_ hk, Kd.freshB (g := gb155) (o := .cells #[.slice none 0 0, .slice none 0 0, .slice none 0 0, .slice none 0 0, .slice none 0 0] 27 (0, 0)) (by (with_reducible repeat (first | refine blk_drewN ?_ _ | refine blk_drew ?_ | refine blk_alloc ?_ _)); exact BK155.out) k_ hk⟩) _ (Nat.le_refl _)) (Below.refl _ _) (Nat.le_refl _) (by simp) ?_; (case hd => rfl); (case hg => rfl); (case hr => first | (go_simp; done) | (go_simp; rfl)); (case hp => exact (Reps.c3 (show Kd.FK k80 _ _ (⟨(-1), 1, y165⟩ : S80) [.int .i64 (-1), .int .u64 1, .slice Ao10 y165.length co10] from (k80_mkF _ _ (⟨(-1), 1, y165⟩ : S80) (Kd.R_reads' (Kd.R_mono (ok' := (fun k_ => (w.heap.size ≤ k_) ∧ some k_ ≠ (v157 : Value).ownBlock ∧ some k_ ≠ (v160 : Value).ownBlock ∧ some k_ ≠ (v163 : Value).ownBlock ∧ k_ ≠ gb155)) (Kd.R_types (Kd.R_apart' (Kd.R_apart' (Kd.R_apart' (HO167.out) (Kd.R_typed HO158.out) (by decide)) (Kd.R_typed HO161.out) (by decide)) (Kd.R_typed HO164.out) (by decide)) BK155.out (by decide)) (fun k_ hk => ⟨hk.1.1.1.1.1, ⟨hk.1.1.1.2, ⟨hk.1.1.2, ⟨hk.1.2, hk.2⟩⟩⟩⟩))).2.1 (Kd.R_F (Kd.R_mono (ok' := (fun k_ => (w.heap.size ≤ k_) ∧ some k_ ≠ (v157 : Value).ownBlock ∧ some k_ ≠ (v160 : Value).ownBlock ∧ some k_ ≠ (v163 : Value).ownBlock ∧ k_ ≠ gb155)) (Kd.R_types (Kd.R_apart' (Kd.R_apart' (Kd.R_apart' (HO167.out) (Kd.R_typed HO158.out) (by decide)) (Kd.R_typed HO161.out) (by decide)) (Kd.R_typed HO164.out) (by decide)) BK155.out (by decide)) (fun k_ hk => ⟨hk.1.1.1.1.1, ⟨hk.1.1.1.2, ⟨hk.1.1.2, ⟨hk.1.2, hk.2⟩⟩⟩⟩))))) (Reps.none _ _))); intro v169 w11 ho12 hb hg_ hnew_; clear hg_ hnew_; (first | rw [← Ny168.out] at ho12 | (simp only [Int.reduceToNat] at ho12; rw [← Ny168.out] at ho12)); have n0_ := Aside0.mk (Kd.R_below (by (with_reducible repeat (first | apply Kd.R_alloc | apply Kd.R_drewN | apply Kd.R_drew)); exact HO158.out) hb); have n1_ := Aside0.mk (Kd.R_below (by (with_reducible repeat (first | apply Kd.R_alloc | apply Kd.R_drewN | apply Kd.R_drew)); exact HO161.out) hb); have n2_ := Aside0.mk (Kd.R_below (by (with_reducible repeat (first | apply Kd.R_alloc | apply Kd.R_drewN | apply Kd.R_drew)); exact HO164.out) hb); have n3_ := Aside0.mk (Kd.N_lower ho12 (below_size (by repeat (first | (with_reducible first | exact HB.out | apply below_alloc | apply pw_below_drewN | apply below_drew1 | refine below_set ?_ GE155.out) | exact HB.out)))); have n4_ := Aside0.mk (blk_below (g := gb155) (o := .cells #[.slice none 0 0, .slice none 0 0, .slice none 0 0, .slice none 0 0, .slice none 0 0] 27 (0, 0)) (by (with_reducible repeat (first | refine blk_drewN ?_ _ | refine blk_drew ?_ | refine blk_alloc ?_ _)); exact BK155.out) hb); have n5_ := Aside0.mk (below_step (by repeat (first | (with_reducible first | exact HB.out | apply below_alloc | apply pw_below_drewN | apply below_drew1 | refine below_set ?_ GE155.out) | exact HB.out)) hb); clear HO158; clear HO161; clear HO164; clear BK155; clear HB; clear HO167; have HO158 := n0_; have HO161 := n1_; have HO164 := n2_; have HO170 := n3_; have BK155 := n4_; have HB := n5_; clear n0_ n1_ n2_ n3_ n4_ n5_; clear hb ho12) | ((with_reducible refine gate_dst (N := 8) rfl ?_); refine Kd.R_lit (Kd.int .i64) _ 3 ?hg (N := 8) ?hd (xs := ([3] : List Int)) (inner := [.int .i64 3]) (ok := fun _ => True) (okp := fun _ => True) ?hr ?hp (fun _ hk => hk) trivial (Below.refl _ _) (Nat.le_refl _) (by simp) ?_; (case hd => rfl); (case hg => rfl); (case hr => first | (go_simp; done) | (go_simp; rfl)); (case hp => exact (Reps.one (show Kd.M (Kd.int .i64) _ _ _ 3 [.int .i64 3] from rfl) (Reps.none _ _))); intro v172 w13 ho14 hb hg_ hnew_; clear hg_ hnew_; (first | rw [← Ny171.out] at ho14 | (simp only [Int.reduceToNat] at ho14; rw [← Ny171.out] at ho14)); have n0_ := Aside0.mk (Kd.R_below (by (with_reducible repeat (first | apply Kd.R_alloc | apply Kd.R_drewN | apply Kd.R_drew)); exact HO158.out) hb); have n1_ := Aside0.mk (Kd.R_below (by (with_reducible repeat (first | apply Kd.R_alloc | apply Kd.R_drewN | apply Kd.R_drew)); exact HO161.out) hb); have n2_ := Aside0.mk (Kd.R_below (by (with_reducible repeat (first | apply Kd.R_alloc | apply Kd.R_drewN | apply Kd.R_drew)); exact HO164.out) hb); have n3_ := Aside0.mk (Kd.N_elder' (by (with_reducible repeat (first | apply Kd.N_alloc | apply Kd.N_drewN | apply Kd.N_drew)); exact HO170.out) (Kd.R_base ho14) hb); have n4_ := Aside0.mk (Kd.R_lower (Kd.R_newM (M := fun k_ => (w.heap.size ≤ k_)) ho14 (below_size (by repeat (first | (with_reducible first | exact HB.out | apply below_alloc | apply pw_below_drewN | apply below_drew1 | refine below_set ?_ GE155.out) | exact HB.out))) (fun k_ h_ => h_)) (below_size (by repeat (first | (with_reducible first | exact HB.out | apply below_alloc | apply pw_below_drewN | apply below_drew1 | refine below_set ?_ GE155.out) | exact HB.out)))); have n5_ := Aside0.mk (blk_below (g := gb155) (o := .cells #[.slice none 0 0, .slice none 0 0, .slice none 0 0, .slice none 0 0, .slice none 0 0] 27 (0, 0)) (by (with_reducible repeat (first | refine blk_drewN ?_ _ | refine blk_drew ?_ | refine blk_alloc ?_ _)); exact BK155.out) hb); have n6_ := Aside0.mk (below_step (by repeat (first | (with_reducible first | exact HB.out | apply below_alloc | apply pw_below_drewN | apply below_drew1 | refine below_set ?_ GE155.out) | exact HB.out)) hb); clear HO158; clear HO161; clear HO164; clear HO170; clear BK155; clear HB; have HO158 := n0_; have HO161 := n1_; have HO164 := n2_; have HO170 := n3_; have HO173 := n4_; have BK155 := n5_; have HB := n6_; clear n0_ n1_ n2_ n3_ n4_ n5_ n6_; clear hb ho14; obtain ⟨Ao15, co15, eo15⟩ := Kd.R_slice HO173.out; subst eo15; obtain ⟨Ao16, co16, eo16⟩ := Kd.N_slice HO170.out; subst eo16; obtain ⟨Ao17, co17, eo17⟩ := Kd.R_slice HO164.out; subst eo17; obtain ⟨Ao18, co18, eo18⟩ := Kd.R_slice HO161.out; subst eo18; obtain ⟨Ao19, co19, eo19⟩ := Kd.R_slice HO158.out; subst eo19; have hcz20_0 : w13.cell? ⟨gb155, 0, none⟩ = some (.slice none 0 0) := (blk_cell BK155.out 0).trans rfl; have hcz20_1 : w13.cell? ⟨gb155, 1, none⟩ = some (.slice none 0 0) := (blk_cell BK155.out 1).trans rfl; have hcz20_2 : w13.cell? ⟨gb155, 2, none⟩ = some (.slice none 0 0) := (blk_cell BK155.out 2).trans rfl; have hcz20_3 : w13.cell? ⟨gb155, 3, none⟩ = some (.slice none 0 0) := (blk_cell BK155.out 3).trans rfl; have hcz20_4 : w13.cell? ⟨gb155, 4, none⟩ = some (.slice none 0 0) := (blk_cell BK155.out 4).trans rfl; have hfz20_0 := blk_frozen BK155.out 0; have hfz20_1 := blk_frozen BK155.out 1; have hfz20_2 := blk_frozen BK155.out 2; have hfz20_3 := blk_frozen BK155.out 3; have hfz20_4 := blk_frozen BK155.out 4))
  refine bodyPost_ret (results_cell_row rfl _ _ gb155 27 #[.slice Ao19 y156.length co19, .slice Ao18 y159.length co18, .slice Ao17 y162.length co17, .slice Ao16 y168.length co16, .slice Ao15 y171.length co15] (0, 0) _ rfl (by (with_reducible repeat (first | refine blk_drewN ?_ _ | refine blk_drew ?_ | refine blk_alloc ?_ _)); refine blk_put (cs := #[.slice Ao19 y156.length co19, .slice Ao18 y159.length co18, .slice Ao17 y162.length co17, .slice Ao16 y168.length co16, .slice none 0 0]) ?_ 4 _ rfl; (with_reducible repeat (first | refine blk_drewN ?_ _ | refine blk_drew ?_ | refine blk_alloc ?_ _)); refine blk_put (cs := #[.slice Ao19 y156.length co19, .slice Ao18 y159.length co18, .slice Ao17 y162.length co17, .slice none 0 0, .slice none 0 0]) ?_ 3 _ rfl; (with_reducible repeat (first | refine blk_drewN ?_ _ | refine blk_drew ?_ | refine blk_alloc ?_ _)); refine blk_put (cs := #[.slice Ao19 y156.length co19, .slice Ao18 y159.length co18, .slice none 0 0, .slice none 0 0, .slice none 0 0]) ?_ 2 _ rfl; (with_reducible repeat (first | refine blk_drewN ?_ _ | refine blk_drew ?_ | refine blk_alloc ?_ _)); refine blk_put (cs := #[.slice Ao19 y156.length co19, .slice none 0 0, .slice none 0 0, .slice none 0 0, .slice none 0 0]) ?_ 1 _ rfl; (with_reducible repeat (first | refine blk_drewN ?_ _ | refine blk_drew ?_ | refine blk_alloc ?_ _)); refine blk_put (cs := #[.slice none 0 0, .slice none 0 0, .slice none 0 0, .slice none 0 0, .slice none 0 0]) ?_ 0 _ rfl; (with_reducible repeat (first | refine blk_drewN ?_ _ | refine blk_drew ?_ | refine blk_alloc ?_ _)); exact BK155.out) Try.underlying27 rfl (by kernel_rfl)) rfl ?_
  exact ⟨_, _, _, _, _, by first | rfl | (simp [errW_none, errW_some] <;> rfl) | (simp [*, errW_none, errW_some] <;> rfl), by (with_reducible repeat (first | apply Kd.R_alloc | apply Kd.R_drewN | apply Kd.R_drew)); exact Kd.R_mono (Kd.R_far (p := ⟨gb155, 4, none⟩) (Kd.R_far (p := ⟨gb155, 3, none⟩) (Kd.R_far (p := ⟨gb155, 2, none⟩) (Kd.R_far (p := ⟨gb155, 1, none⟩) (Kd.R_far (p := ⟨gb155, 0, none⟩) (Kd.R_types HO158.out BK155.out (by decide)) (fun _ hk => hk.2) (.slice Ao19 y156.length co19)) (fun _ hk => hk.2) (.slice Ao18 y159.length co18)) (fun _ hk => hk.2) (.slice Ao17 y162.length co17)) (fun _ hk => hk.2) (.slice Ao16 y168.length co16)) (fun _ hk => hk.2) (.slice Ao15 y171.length co15)) (fun _ hk => ⟨hk.1.1.1, hk.1.2⟩), by (with_reducible repeat (first | apply Kd.R_alloc | apply Kd.R_drewN | apply Kd.R_drew)); exact Kd.R_mono (Kd.R_far (p := ⟨gb155, 4, none⟩) (Kd.R_far (p := ⟨gb155, 3, none⟩) (Kd.R_far (p := ⟨gb155, 2, none⟩) (Kd.R_far (p := ⟨gb155, 1, none⟩) (Kd.R_far (p := ⟨gb155, 0, none⟩) (Kd.R_types HO161.out BK155.out (by decide)) (fun _ hk => hk.2) (.slice Ao19 y156.length co19)) (fun _ hk => hk.2) (.slice Ao18 y159.length co18)) (fun _ hk => hk.2) (.slice Ao17 y162.length co17)) (fun _ hk => hk.2) (.slice Ao16 y168.length co16)) (fun _ hk => hk.2) (.slice Ao15 y171.length co15)) (fun _ hk => ⟨hk.1.1.1, hk.1.2⟩), by (with_reducible repeat (first | apply Kd.R_alloc | apply Kd.R_drewN | apply Kd.R_drew)); exact Kd.R_mono (Kd.R_far (p := ⟨gb155, 4, none⟩) (Kd.R_far (p := ⟨gb155, 3, none⟩) (Kd.R_far (p := ⟨gb155, 2, none⟩) (Kd.R_far (p := ⟨gb155, 1, none⟩) (Kd.R_far (p := ⟨gb155, 0, none⟩) (Kd.R_types HO164.out BK155.out (by decide)) (fun _ hk => hk.2) (.slice Ao19 y156.length co19)) (fun _ hk => hk.2) (.slice Ao18 y159.length co18)) (fun _ hk => hk.2) (.slice Ao17 y162.length co17)) (fun _ hk => hk.2) (.slice Ao16 y168.length co16)) (fun _ hk => hk.2) (.slice Ao15 y171.length co15)) (fun _ hk => hk.1.1), by (with_reducible repeat (first | apply Kd.N_alloc | apply Kd.N_drewN | apply Kd.N_drew)); exact Kd.N_mono (Kd.N_far (p := ⟨gb155, 4, none⟩) (Kd.N_far (p := ⟨gb155, 3, none⟩) (Kd.N_far (p := ⟨gb155, 2, none⟩) (Kd.N_far (p := ⟨gb155, 1, none⟩) (Kd.N_far (p := ⟨gb155, 0, none⟩) (Kd.N_mono HO170.out (fun k_ hk => (⟨hk, hk.1.2.2.2.2⟩ : _ ∧ k_ ≠ gb155))) (fun _ hk => hk.2) (.slice Ao19 y156.length co19)) (fun _ hk => hk.2) (.slice Ao18 y159.length co18)) (fun _ hk => hk.2) (.slice Ao17 y162.length co17)) (fun _ hk => hk.2) (.slice Ao16 y168.length co16)) (fun _ hk => hk.2) (.slice Ao15 y171.length co15)) (fun _ hk => ⟨hk.1.1.1, ⟨hk.1.1.2.1, ⟨hk.1.1.2.2.1, ⟨hk.1.1.2.2.2.1, hk.1.2⟩⟩⟩⟩), by (with_reducible repeat (first | apply Kd.R_alloc | apply Kd.R_drewN | apply Kd.R_drew)); exact Kd.R_mono (Kd.R_far (p := ⟨gb155, 4, none⟩) (Kd.R_far (p := ⟨gb155, 3, none⟩) (Kd.R_far (p := ⟨gb155, 2, none⟩) (Kd.R_far (p := ⟨gb155, 1, none⟩) (Kd.R_far (p := ⟨gb155, 0, none⟩) (Kd.R_types HO173.out BK155.out (by decide)) (fun _ hk => hk.2) (.slice Ao19 y156.length co19)) (fun _ hk => hk.2) (.slice Ao18 y159.length co18)) (fun _ hk => hk.2) (.slice Ao17 y162.length co17)) (fun _ hk => hk.2) (.slice Ao16 y168.length co16)) (fun _ hk => hk.2) (.slice Ao15 y171.length co15)) (fun _ hk => hk.1.1), by repeat (first | (with_reducible first | exact HB.out | apply below_alloc | apply pw_below_drewN | apply below_drew1 | refine below_set ?_ GE155.out) | exact HB.out)⟩
def masklaw2_faulty.f (k : Nat)  : Option (Bool) := (masklaw2_single.f).bind fun bt174 => ((fault_List.f k bt174.1 bt174.2.1 bt174.2.2.1 bt174.2.2.2.1 bt174.2.2.2.2).bind fun bt189 => ((masklaw2_single.f).bind fun bt193 => ((fault_Inject.f k bt193.1 bt193.2.1 bt193.2.2.1 bt193.2.2.2.1 bt193.2.2.2.2 2 (-1) true).bind fun bt208 => (if bt189.2 = 0 then (if bt208.2.2.2.2.2 = 0 then (if (bt189.1.length : Int) = 6 then (if (bt208.2.2.2.1.length : Int) = 1 then (if 0 < (bt208.2.2.2.1.length : Int) then ((slices_Equal_int_int.f k ((rd_T80 bt208.2.2.2.1 0).f2) (([1] : List Int))).bind fun t229 => (some t229)) else (none)) else (none)) else (none)) else (none)) else (none)))))
theorem masklaw2_faulty.mono : ∀ k, LeO (masklaw2_faulty.f k ) (masklaw2_faulty.f (k + 1) ) := by
  intro  k
  unfold masklaw2_faulty.f
  repeat' first
      | (with_reducible exact fault_Inject.mono _ _ _ _ _ _ _ _ _)
      | (with_reducible exact fault_List.mono _ _ _ _ _ _)
      | (with_reducible exact slices_Equal_int_int.mono _ _ _)
      | (with_reducible exact LeO.refl _)
      | (with_reducible exact LeO.none _)
      | (with_reducible refine LeO.ite ?_ ?_)
      | (with_reducible refine LeO.bind ?_ (fun _ => ?_))
      | exact fault_Inject.mono _ _ _ _ _ _ _ _ _
      | exact fault_List.mono _ _ _ _ _ _
      | exact slices_Equal_int_int.mono _ _ _
      | exact LeO.none _
      | refine LeO.ite ?_ ?_
      | refine LeO.bind ?_ (fun _ => ?_)
set_option maxHeartbeats 8000000 in
set_option maxRecDepth 100000 in
theorem masklaw2_faulty.calls (k : Nat)  (r : Bool) (w : World) (h : masklaw2_faulty.f k  = some r) :
    Calls Try.prog 11 #[] w fun e w' => e = .returned (.bool r) ∧ Below w.heap.size w w' := by
  have hu29 := Try.underlying29
  have hu27 := Try.underlying27
  have HB := Aside0.mk (Below.refl w.heap.size w)
  have H : ((masklaw2_single.f).bind fun bt174 => ((fault_List.f k bt174.1 bt174.2.1 bt174.2.2.1 bt174.2.2.2.1 bt174.2.2.2.2).bind fun bt189 => ((masklaw2_single.f).bind fun bt193 => ((fault_Inject.f k bt193.1 bt193.2.1 bt193.2.2.1 bt193.2.2.2.1 bt193.2.2.2.2 2 (-1) true).bind fun bt208 => (if bt189.2 = 0 then (if bt208.2.2.2.2.2 = 0 then (if (bt189.1.length : Int) = 6 then (if (bt208.2.2.2.1.length : Int) = 1 then (if 0 < (bt208.2.2.2.1.length : Int) then ((slices_Equal_int_int.f k ((rd_T80 bt208.2.2.2.1 0).f2) (([1] : List Int))).bind fun t229 => (some t229)) else (none)) else (none)) else (none)) else (none)) else (none)))))) = some r := h
  clear h
  replace H := Option.bind_eq_some_iff.mp H
  obtain ⟨⟨t174, t177, t180, t183, t186⟩, A10, H⟩ := H
  replace H : ((fault_List.f k t174 t177 t180 t183 t186).bind fun bt189 => ((masklaw2_single.f).bind fun bt193 => ((fault_Inject.f k bt193.1 bt193.2.1 bt193.2.2.1 bt193.2.2.2.1 bt193.2.2.2.2 2 (-1) true).bind fun bt208 => (if bt189.2 = 0 then (if bt208.2.2.2.2.2 = 0 then (if (bt189.1.length : Int) = 6 then (if (bt208.2.2.2.1.length : Int) = 1 then (if 0 < (bt208.2.2.2.1.length : Int) then ((slices_Equal_int_int.f k ((rd_T80 bt208.2.2.2.1 0).f2) (([1] : List Int))).bind fun t229 => (some t229)) else (none)) else (none)) else (none)) else (none)) else (none))))) = some r := H
  have A1 := Aside0.mk A10
  clear A10
  replace H := Option.bind_eq_some_iff.mp H
  obtain ⟨⟨t189, t192⟩, A20, H⟩ := H
  replace H : ((masklaw2_single.f).bind fun bt193 => ((fault_Inject.f k bt193.1 bt193.2.1 bt193.2.2.1 bt193.2.2.2.1 bt193.2.2.2.2 2 (-1) true).bind fun bt208 => (if t192 = 0 then (if bt208.2.2.2.2.2 = 0 then (if (t189.length : Int) = 6 then (if (bt208.2.2.2.1.length : Int) = 1 then (if 0 < (bt208.2.2.2.1.length : Int) then ((slices_Equal_int_int.f k ((rd_T80 bt208.2.2.2.1 0).f2) (([1] : List Int))).bind fun t229 => (some t229)) else (none)) else (none)) else (none)) else (none)) else (none)))) = some r := H
  have A2 := Aside0.mk A20
  clear A20
  replace H := Option.bind_eq_some_iff.mp H
  obtain ⟨⟨t193, t196, t199, t202, t205⟩, A30, H⟩ := H
  replace H : ((fault_Inject.f k t193 t196 t199 t202 t205 2 (-1) true).bind fun bt208 => (if t192 = 0 then (if bt208.2.2.2.2.2 = 0 then (if (t189.length : Int) = 6 then (if (bt208.2.2.2.1.length : Int) = 1 then (if 0 < (bt208.2.2.2.1.length : Int) then ((slices_Equal_int_int.f k ((rd_T80 bt208.2.2.2.1 0).f2) (([1] : List Int))).bind fun t229 => (some t229)) else (none)) else (none)) else (none)) else (none)) else (none))) = some r := H
  have A3 := Aside0.mk A30
  clear A30
  replace H := Option.bind_eq_some_iff.mp H
  obtain ⟨⟨t208, t211, t214, t217, t220, t223⟩, A40, H⟩ := H
  replace H : (if t192 = 0 then (if t223 = 0 then (if (t189.length : Int) = 6 then (if (t217.length : Int) = 1 then (if 0 < (t217.length : Int) then ((slices_Equal_int_int.f k ((rd_T80 t217 0).f2) (([1] : List Int))).bind fun t229 => (some t229)) else (none)) else (none)) else (none)) else (none)) else (none)) = some r := H
  have A4 := Aside0.mk A40
  clear A40
  by_cases c5 : t192 = 0
  · rw [if_pos c5] at H
    have c5b0 : (t192 == 0) = true := beq_iff_eq.mpr c5
    have c5b1 : (t192 != 0) = false := bne_eq_false_iff_eq.mpr c5
    clear c5
    by_cases c6 : t223 = 0
    · rw [if_pos c6] at H
      have c6b0 : (t223 == 0) = true := beq_iff_eq.mpr c6
      have c6b1 : (t223 != 0) = false := bne_eq_false_iff_eq.mpr c6
      clear c6
      by_cases c7 : (t189.length : Int) = 6
      · rw [if_pos c7] at H
        have c7b0 : ((t189.length : Int) == 6) = true := beq_iff_eq.mpr c7
        have c7b1 : ((t189.length : Int) != 6) = false := bne_eq_false_iff_eq.mpr c7
        clear c7
        by_cases c8 : (t217.length : Int) = 1
        · rw [if_pos c8] at H
          have c8b0 : ((t217.length : Int) == 1) = true := beq_iff_eq.mpr c8
          have c8b1 : ((t217.length : Int) != 1) = false := bne_eq_false_iff_eq.mpr c8
          clear c8
          by_cases c9 : 0 < (t217.length : Int)
          · rw [if_pos c9] at H
            have c9b0 : decide (0 < (t217.length : Int)) = true := decide_eq_true c9
            have c9b1 : decide (0 < t217.length) = true := decide_eq_true (by omega)
            clear c9
            obtain ⟨y226, hy226⟩ : ∃ y_ : List Int, y_ = (([1] : List Int)) := ⟨_, rfl⟩
            replace H : ((slices_Equal_int_int.f k ((rd_T80 t217 0).f2) y226).bind fun t229 => (some t229)) = some r := by first | (rw [hy226]; with_reducible exact H) | (have H2_ := (Option.bind_some _ _).symm.trans H; rw [hy226]; with_reducible exact H2_) | (have H2_ := (Option.bind_some _ _).symm.trans H; with_reducible exact H2_) | with_reducible exact H | (rw [hy226]; exact H) | exact H
            have Ny226 := Aside0.mk hy226
            clear hy226
            replace H := Option.bind_eq_some_iff.mp H
            obtain ⟨t229, A100, H⟩ := H
            replace H : (some t229) = some r := H
            have A10 := Aside0.mk A100
            clear A100
            obtain rfl := Option.some.inj H
            go_enter Try.func11, Try.ntmps11
            go_wp2_with (first | ((with_reducible refine gate_callee (f := 35) rfl ?_); refine goesL_ (some 6) rfl rfl Try.func35 (by kernel_rfl) rfl #[] rfl (by (try simp only [List.map_toArray, List.map_cons, List.map_nil]); first | done | rfl | (simp only [List.length_drop, List.length_take]; rfl)) ?_; (with_reducible refine (masklaw2_single.calls  t174 t177 t180 t183 t186 _ A1.out).mono ?_); rintro e w11 ⟨v175, v178, v181, v184, v187, rfl, ho0, ho1, ho2, ho3, ho4, hb⟩; refine ⟨_, rfl, ?_⟩; have n0_ := Aside0.mk (Kd.R_lower (Kd.R_mono (ok' := fun k_ => some k_ ≠ (v178 : Value).ownBlock) ho0 (fun _ hk_ => hk_.2)) (below_size (by repeat (first | (with_reducible first | exact HB.out | apply below_alloc | apply pw_below_drewN | apply below_drew1) | exact HB.out)))); have n1_ := Aside0.mk (Kd.R_lower (Kd.R_mono (ok' := fun k_ => some k_ ≠ (v175 : Value).ownBlock) ho1 (fun _ hk_ => hk_.2)) (below_size (by repeat (first | (with_reducible first | exact HB.out | apply below_alloc | apply pw_below_drewN | apply below_drew1) | exact HB.out)))); have n2_ := Aside0.mk (Kd.R_lower (Kd.R_mono (ok' := fun k_ => True) ho2 (fun _ hk_ => trivial)) (below_size (by repeat (first | (with_reducible first | exact HB.out | apply below_alloc | apply pw_below_drewN | apply below_drew1) | exact HB.out)))); have n3_ := Aside0.mk (Kd.N_lower (Kd.N_mono (ok' := fun k_ => some k_ ≠ (v175 : Value).ownBlock ∧ some k_ ≠ (v178 : Value).ownBlock ∧ some k_ ≠ (v181 : Value).ownBlock ∧ some k_ ≠ (v187 : Value).ownBlock) ho3 (fun k_ hk_ => ⟨hk_.2.1, hk_.2.2.1, hk_.2.2.2.1, hk_.2.2.2.2⟩)) (below_size (by repeat (first | (with_reducible first | exact HB.out | apply below_alloc | apply pw_below_drewN | apply below_drew1) | exact HB.out)))); have n4_ := Aside0.mk (Kd.R_lower (Kd.R_mono (ok' := fun k_ => True) ho4 (fun _ hk_ => trivial)) (below_size (by repeat (first | (with_reducible first | exact HB.out | apply below_alloc | apply pw_below_drewN | apply below_drew1) | exact HB.out)))); have n5_ := Aside0.mk (below_step (by repeat (first | (with_reducible first | exact HB.out | apply below_alloc | apply pw_below_drewN | apply below_drew1) | exact HB.out)) hb); clear HB; have HO176 := n0_; have HO179 := n1_; have HO182 := n2_; have HO185 := n3_; have HO188 := n4_; have HB := n5_; clear n0_ n1_ n2_ n3_ n4_ n5_; (try clear hb); (try clear hb2); (try clear hk); (try clear hi); (try clear ho0); (try clear ho1); (try clear ho2); (try clear ho3); (try clear ho4); obtain ⟨Ao12, co12, eo12⟩ := Kd.R_slice HO176.out; subst eo12; obtain ⟨Ao13, co13, eo13⟩ := Kd.R_slice HO179.out; subst eo13; obtain ⟨Ao14, co14, eo14⟩ := Kd.R_slice HO182.out; subst eo14; obtain ⟨Ao15, co15, eo15⟩ := Kd.N_slice HO185.out; subst eo15; obtain ⟨Ao16, co16, eo16⟩ := Kd.R_slice HO188.out; subst eo16) | ((with_reducible refine gate_callee (f := 14) rfl ?_); refine goesL_ (some 7) rfl rfl Try.func14 (by kernel_rfl) rfl #[.agg #[.slice Ao12 t174.length co12, .slice Ao13 t177.length co13, .slice Ao14 t180.length co14, .slice Ao15 t183.length co15, .slice Ao16 t186.length co16]] rfl (by (try simp only [List.map_toArray, List.map_cons, List.map_nil]); first | done | rfl | (simp only [List.length_drop, List.length_take]; rfl)) ?_; (with_reducible refine (fault_List.calls k _ _ t174 _ _ t177 _ _ t180 _ _ t183 _ _ t186 t189 t192 _ ?side1 ?side2 ?side3 ?side4 ?side5 ?side6 ?side7 ?side8 ?side9 ?side10 A2.out).mono ?_); (case side1 => repeat (first | exact (Kd.R_reads' HO176.out).2.2 | (with_reducible refine Kd.C_alloc ?_ _) | (with_reducible refine Kd.C_drewN ?_ _) | (with_reducible refine Kd.C_drew ?_))); (case side2 => exact (Kd.R_reads' HO176.out).2.1); (case side3 => repeat (first | exact (Kd.R_reads' HO179.out).2.2 | (with_reducible refine Kd.C_alloc ?_ _) | (with_reducible refine Kd.C_drewN ?_ _) | (with_reducible refine Kd.C_drew ?_))); (case side4 => exact (Kd.R_reads' HO179.out).2.1); (case side5 => repeat (first | exact (Kd.R_reads' HO182.out).2.2 | (with_reducible refine Kd.C_alloc ?_ _) | (with_reducible refine Kd.C_drewN ?_ _) | (with_reducible refine Kd.C_drew ?_))); (case side6 => exact (Kd.R_reads' HO182.out).2.1); (case side7 => repeat (first | exact (Kd.N_reads' HO185.out).2.2 | (with_reducible refine Kd.C_alloc ?_ _) | (with_reducible refine Kd.C_drewN ?_ _) | (with_reducible refine Kd.C_drew ?_))); (case side8 => exact (Kd.N_reads' HO185.out).2.1); (case side9 => repeat (first | exact (Kd.R_reads' HO188.out).2.2 | (with_reducible refine Kd.C_alloc ?_ _) | (with_reducible refine Kd.C_drewN ?_ _) | (with_reducible refine Kd.C_drew ?_))); (case side10 => exact (Kd.R_reads' HO188.out).2.1); rintro e w17 ⟨v190, rfl, ho0, hb⟩; refine ⟨_, rfl, ?_⟩; have n0_ := Aside0.mk (Kd.R_below (by (with_reducible repeat (first | apply Kd.R_alloc | apply Kd.R_drewN | apply Kd.R_drew)); exact HO176.out) hb); have n1_ := Aside0.mk (Kd.R_below (by (with_reducible repeat (first | apply Kd.R_alloc | apply Kd.R_drewN | apply Kd.R_drew)); exact HO179.out) hb); have n2_ := Aside0.mk (Kd.R_below (by (with_reducible repeat (first | apply Kd.R_alloc | apply Kd.R_drewN | apply Kd.R_drew)); exact HO182.out) hb); have n3_ := Aside0.mk (Kd.N_elder' (by (with_reducible repeat (first | apply Kd.N_alloc | apply Kd.N_drewN | apply Kd.N_drew)); exact HO185.out) (Kd.R_base ho0) hb); have n4_ := Aside0.mk (Kd.R_below (by (with_reducible repeat (first | apply Kd.R_alloc | apply Kd.R_drewN | apply Kd.R_drew)); exact HO188.out) hb); have n5_ := Aside0.mk (Kd.R_lower ho0 (below_size (by repeat (first | (with_reducible first | exact HB.out | apply below_alloc | apply pw_below_drewN | apply below_drew1) | exact HB.out)))); have n6_ := Aside0.mk (below_step (by repeat (first | (with_reducible first | exact HB.out | apply below_alloc | apply pw_below_drewN | apply below_drew1) | exact HB.out)) hb); clear HO176; clear HO179; clear HO182; clear HO185; clear HO188; clear HB; have HO176 := n0_; have HO179 := n1_; have HO182 := n2_; have HO185 := n3_; have HO188 := n4_; have HO191 := n5_; have HB := n6_; clear n0_ n1_ n2_ n3_ n4_ n5_ n6_; (try clear hb); (try clear hb2); (try clear hk); (try clear hi); (try clear ho0)) | ((with_reducible refine gate_callee (f := 35) rfl ?_); refine goesL_ (some 11) rfl rfl Try.func35 (by kernel_rfl) rfl #[] rfl (by (try simp only [List.map_toArray, List.map_cons, List.map_nil]); first | done | rfl | (simp only [List.length_drop, List.length_take]; rfl)) ?_; (with_reducible refine (masklaw2_single.calls  t193 t196 t199 t202 t205 _ A3.out).mono ?_); rintro e w18 ⟨v194, v197, v200, v203, v206, rfl, ho0, ho1, ho2, ho3, ho4, hb⟩; refine ⟨_, rfl, ?_⟩; have n0_ := Aside0.mk (Kd.R_mono (Kd.R_told (Kd.R_told (Kd.R_old (by (with_reducible repeat (first | apply Kd.R_alloc | apply Kd.R_drewN | apply Kd.R_drew)); exact HO176.out) hb) (Kd.R_base ho0)) (Kd.R_base ho1)) (fun _ h_ => h_.1)); have n1_ := Aside0.mk (Kd.R_mono (Kd.R_told (Kd.R_told (Kd.R_old (by (with_reducible repeat (first | apply Kd.R_alloc | apply Kd.R_drewN | apply Kd.R_drew)); exact HO179.out) hb) (Kd.R_base ho0)) (Kd.R_base ho1)) (fun _ h_ => h_.1)); have n2_ := Aside0.mk (Kd.R_elder' (by (with_reducible repeat (first | apply Kd.R_alloc | apply Kd.R_drewN | apply Kd.R_drew)); exact HO182.out) (Kd.R_base ho2) hb); have n3_ := Aside0.mk (Kd.N_mono (Kd.N_told (Kd.N_told (Kd.N_told (Kd.N_told (Kd.N_told (Kd.N_old (by (with_reducible repeat (first | apply Kd.N_alloc | apply Kd.N_drewN | apply Kd.N_drew)); exact HO185.out) hb) (Kd.R_base ho0)) (Kd.R_base ho1)) (Kd.R_base ho2)) (Kd.N_base ho3)) (Kd.R_base ho4)) (fun _ h_ => h_.1)); have n4_ := Aside0.mk (Kd.R_elder' (by (with_reducible repeat (first | apply Kd.R_alloc | apply Kd.R_drewN | apply Kd.R_drew)); exact HO188.out) (Kd.R_base ho4) hb); have n5_ := Aside0.mk (Kd.R_below (by (with_reducible repeat (first | apply Kd.R_alloc | apply Kd.R_drewN | apply Kd.R_drew)); exact HO191.out) hb); have n6_ := Aside0.mk (Kd.R_lower (Kd.R_new' (Kd.R_new' (Kd.R_mono (ok' := fun k_ => some k_ ≠ (v197 : Value).ownBlock) ho0 (fun _ hk_ => hk_.2)) (Kd.R_lt (by (with_reducible repeat (first | apply Kd.R_alloc | apply Kd.R_drewN | apply Kd.R_drew)); exact HO176.out))) (Kd.R_lt (by (with_reducible repeat (first | apply Kd.R_alloc | apply Kd.R_drewN | apply Kd.R_drew)); exact HO179.out))) (below_size (by repeat (first | (with_reducible first | exact HB.out | apply below_alloc | apply pw_below_drewN | apply below_drew1) | exact HB.out)))); have n7_ := Aside0.mk (Kd.R_lower (Kd.R_new' (Kd.R_new' (Kd.R_mono (ok' := fun k_ => some k_ ≠ (v194 : Value).ownBlock) ho1 (fun _ hk_ => hk_.2)) (Kd.R_lt (by (with_reducible repeat (first | apply Kd.R_alloc | apply Kd.R_drewN | apply Kd.R_drew)); exact HO176.out))) (Kd.R_lt (by (with_reducible repeat (first | apply Kd.R_alloc | apply Kd.R_drewN | apply Kd.R_drew)); exact HO179.out))) (below_size (by repeat (first | (with_reducible first | exact HB.out | apply below_alloc | apply pw_below_drewN | apply below_drew1) | exact HB.out)))); have n8_ := Aside0.mk (Kd.R_lower (Kd.R_new' (Kd.R_mono (ok' := fun k_ => True) ho2 (fun _ hk_ => trivial)) (Kd.R_lt (by (with_reducible repeat (first | apply Kd.R_alloc | apply Kd.R_drewN | apply Kd.R_drew)); exact HO182.out))) (below_size (by repeat (first | (with_reducible first | exact HB.out | apply below_alloc | apply pw_below_drewN | apply below_drew1) | exact HB.out)))); have n9_ := Aside0.mk (Kd.N_lower (Kd.N_mono (ok' := fun k_ => some k_ ≠ (v194 : Value).ownBlock ∧ some k_ ≠ (v197 : Value).ownBlock ∧ some k_ ≠ (v200 : Value).ownBlock ∧ some k_ ≠ (v206 : Value).ownBlock ∧ some k_ ≠ (.slice Ao12 t174.length co12 : Value).ownBlock ∧ some k_ ≠ (.slice Ao13 t177.length co13 : Value).ownBlock ∧ some k_ ≠ (.slice Ao14 t180.length co14 : Value).ownBlock ∧ some k_ ≠ (.slice Ao15 t183.length co15 : Value).ownBlock ∧ some k_ ≠ (.slice Ao16 t186.length co16 : Value).ownBlock ∧ some k_ ≠ (v190 : Value).ownBlock) ho3 (fun k_ hk_ => ⟨hk_.2.1, hk_.2.2.1, hk_.2.2.2.1, hk_.2.2.2.2, (Kd.fresh' (Kd.R_lt (by (with_reducible repeat (first | apply Kd.R_alloc | apply Kd.R_drewN | apply Kd.R_drew)); exact HO176.out)) k_ hk_.1), (Kd.fresh' (Kd.R_lt (by (with_reducible repeat (first | apply Kd.R_alloc | apply Kd.R_drewN | apply Kd.R_drew)); exact HO179.out)) k_ hk_.1), (Kd.fresh' (Kd.R_lt (by (with_reducible repeat (first | apply Kd.R_alloc | apply Kd.R_drewN | apply Kd.R_drew)); exact HO182.out)) k_ hk_.1), (Kd.fresh' (Kd.N_lt (by (with_reducible repeat (first | apply Kd.N_alloc | apply Kd.N_drewN | apply Kd.N_drew)); exact HO185.out)) k_ hk_.1), (Kd.fresh' (Kd.R_lt (by (with_reducible repeat (first | apply Kd.R_alloc | apply Kd.R_drewN | apply Kd.R_drew)); exact HO188.out)) k_ hk_.1), (Kd.fresh' (Kd.R_lt (by (with_reducible repeat (first | apply Kd.R_alloc | apply Kd.R_drewN | apply Kd.R_drew)); exact HO191.out)) k_ hk_.1)⟩)) (below_size (by repeat (first | (with_reducible first | exact HB.out | apply below_alloc | apply pw_below_drewN | apply below_drew1) | exact HB.out)))); have n10_ := Aside0.mk (Kd.R_lower (Kd.R_new' (Kd.R_mono (ok' := fun k_ => True) ho4 (fun _ hk_ => trivial)) (Kd.R_lt (by (with_reducible repeat (first | apply Kd.R_alloc | apply Kd.R_drewN | apply Kd.R_drew)); exact HO188.out))) (below_size (by repeat (first | (with_reducible first | exact HB.out | apply below_alloc | apply pw_below_drewN | apply below_drew1) | exact HB.out)))); have n11_ := Aside0.mk (below_step (by repeat (first | (with_reducible first | exact HB.out | apply below_alloc | apply pw_below_drewN | apply below_drew1) | exact HB.out)) hb); clear HO176; clear HO179; clear HO182; clear HO185; clear HO188; clear HO191; clear HB; have HO176 := n0_; have HO179 := n1_; have HO182 := n2_; have HO185 := n3_; have HO188 := n4_; have HO191 := n5_; have HO195 := n6_; have HO198 := n7_; have HO201 := n8_; have HO204 := n9_; have HO207 := n10_; have HB := n11_; clear n0_ n1_ n2_ n3_ n4_ n5_ n6_ n7_ n8_ n9_ n10_ n11_; (try clear hb); (try clear hb2); (try clear hk); (try clear hi); (try clear ho0); (try clear ho1); (try clear ho2); (try clear ho3); (try clear ho4); obtain ⟨Ao19, co19, eo19⟩ := Kd.R_slice HO195.out; subst eo19; obtain ⟨Ao20, co20, eo20⟩ := Kd.R_slice HO198.out; subst eo20; obtain ⟨Ao21, co21, eo21⟩ := Kd.R_slice HO201.out; subst eo21; obtain ⟨Ao22, co22, eo22⟩ := Kd.N_slice HO204.out; subst eo22; obtain ⟨Ao23, co23, eo23⟩ := Kd.R_slice HO207.out; subst eo23) | ((with_reducible refine gate_callee (f := 8) rfl ?_); refine goesL_ (some 13) rfl rfl Try.func8 (by kernel_rfl) rfl #[.agg #[.slice Ao19 t193.length co19, .slice Ao20 t196.length co20, .slice Ao21 t199.length co21, .slice Ao22 t202.length co22, .slice Ao23 t205.length co23], .agg #[.int .i64 2, .int .i64 (-1), .bool true]] rfl (by (try simp only [List.map_toArray, List.map_cons, List.map_nil]); first | done | rfl | (simp only [List.length_drop, List.length_take]; rfl)) ?_; (with_reducible refine (fault_Inject.calls k _ _ t193 _ _ t196 _ _ t199 _ _ t202 _ _ t205 2 (-1) true t208 t211 t214 t217 t220 t223 _ ?side1 ?side2 ?side3 ?side4 ?side5 ?side6 ?side7 ?side8 ?side9 ?side10 A4.out).mono ?_); (case side1 => repeat (first | exact (Kd.R_reads' HO195.out).2.2 | (with_reducible refine Kd.C_alloc ?_ _) | (with_reducible refine Kd.C_drewN ?_ _) | (with_reducible refine Kd.C_drew ?_))); (case side2 => exact (Kd.R_reads' HO195.out).2.1); (case side3 => repeat (first | exact (Kd.R_reads' HO198.out).2.2 | (with_reducible refine Kd.C_alloc ?_ _) | (with_reducible refine Kd.C_drewN ?_ _) | (with_reducible refine Kd.C_drew ?_))); (case side4 => exact (Kd.R_reads' HO198.out).2.1); (case side5 => repeat (first | exact (Kd.R_reads' HO201.out).2.2 | (with_reducible refine Kd.C_alloc ?_ _) | (with_reducible refine Kd.C_drewN ?_ _) | (with_reducible refine Kd.C_drew ?_))); (case side6 => exact (Kd.R_reads' HO201.out).2.1); (case side7 => repeat (first | exact (Kd.N_reads' HO204.out).2.2 | (with_reducible refine Kd.C_alloc ?_ _) | (with_reducible refine Kd.C_drewN ?_ _) | (with_reducible refine Kd.C_drew ?_))); (case side8 => exact (Kd.N_reads' HO204.out).2.1); (case side9 => repeat (first | exact (Kd.R_reads' HO207.out).2.2 | (with_reducible refine Kd.C_alloc ?_ _) | (with_reducible refine Kd.C_drewN ?_ _) | (with_reducible refine Kd.C_drew ?_))); (case side10 => exact (Kd.R_reads' HO207.out).2.1); rintro e w24 ⟨v209, v212, v215, v218, v221, rfl, ho0, ho1, ho2, ho3, ho4, hb⟩; refine ⟨_, rfl, ?_⟩; have n0_ := Aside0.mk (Kd.R_mono (Kd.R_told (Kd.R_told (Kd.R_old (by (with_reducible repeat (first | apply Kd.R_alloc | apply Kd.R_drewN | apply Kd.R_drew)); exact HO176.out) hb) (Kd.R_base ho0)) (Kd.R_base ho1)) (fun _ h_ => h_.1)); have n1_ := Aside0.mk (Kd.R_mono (Kd.R_told (Kd.R_told (Kd.R_old (by (with_reducible repeat (first | apply Kd.R_alloc | apply Kd.R_drewN | apply Kd.R_drew)); exact HO179.out) hb) (Kd.R_base ho0)) (Kd.R_base ho1)) (fun _ h_ => h_.1)); have n2_ := Aside0.mk (Kd.R_elder' (by (with_reducible repeat (first | apply Kd.R_alloc | apply Kd.R_drewN | apply Kd.R_drew)); exact HO182.out) (Kd.R_base ho2) hb); have n3_ := Aside0.mk (Kd.N_mono (Kd.N_told (Kd.N_told (Kd.N_told (Kd.N_told (Kd.N_told (Kd.N_old (by (with_reducible repeat (first | apply Kd.N_alloc | apply Kd.N_drewN | apply Kd.N_drew)); exact HO185.out) hb) (Kd.R_base ho0)) (Kd.R_base ho1)) (Kd.R_base ho2)) (Kd.S_base ho3)) (Kd.R_base ho4)) (fun _ h_ => h_.1)); have n4_ := Aside0.mk (Kd.R_elder' (by (with_reducible repeat (first | apply Kd.R_alloc | apply Kd.R_drewN | apply Kd.R_drew)); exact HO188.out) (Kd.R_base ho4) hb); have n5_ := Aside0.mk (Kd.R_below (by (with_reducible repeat (first | apply Kd.R_alloc | apply Kd.R_drewN | apply Kd.R_drew)); exact HO191.out) hb); have n6_ := Aside0.mk (Kd.R_mono (Kd.R_told (Kd.R_told (Kd.R_old (by (with_reducible repeat (first | apply Kd.R_alloc | apply Kd.R_drewN | apply Kd.R_drew)); exact HO195.out) hb) (Kd.R_base ho0)) (Kd.R_base ho1)) (fun _ h_ => h_.1)); have n7_ := Aside0.mk (Kd.R_mono (Kd.R_told (Kd.R_told (Kd.R_old (by (with_reducible repeat (first | apply Kd.R_alloc | apply Kd.R_drewN | apply Kd.R_drew)); exact HO198.out) hb) (Kd.R_base ho0)) (Kd.R_base ho1)) (fun _ h_ => h_.1)); have n8_ := Aside0.mk (Kd.R_elder' (by (with_reducible repeat (first | apply Kd.R_alloc | apply Kd.R_drewN | apply Kd.R_drew)); exact HO201.out) (Kd.R_base ho2) hb); have n9_ := Aside0.mk (Kd.N_mono (Kd.N_told (Kd.N_told (Kd.N_told (Kd.N_told (Kd.N_told (Kd.N_old (by (with_reducible repeat (first | apply Kd.N_alloc | apply Kd.N_drewN | apply Kd.N_drew)); exact HO204.out) hb) (Kd.R_base ho0)) (Kd.R_base ho1)) (Kd.R_base ho2)) (Kd.S_base ho3)) (Kd.R_base ho4)) (fun _ h_ => h_.1)); have n10_ := Aside0.mk (Kd.R_elder' (by (with_reducible repeat (first | apply Kd.R_alloc | apply Kd.R_drewN | apply Kd.R_drew)); exact HO207.out) (Kd.R_base ho4) hb); have n11_ := Aside0.mk (Kd.R_lower (Kd.R_new' (Kd.R_new' (Kd.R_new' (Kd.R_new' ho0 (Kd.R_lt (by (with_reducible repeat (first | apply Kd.R_alloc | apply Kd.R_drewN | apply Kd.R_drew)); exact HO176.out))) (Kd.R_lt (by (with_reducible repeat (first | apply Kd.R_alloc | apply Kd.R_drewN | apply Kd.R_drew)); exact HO179.out))) (Kd.R_lt (by (with_reducible repeat (first | apply Kd.R_alloc | apply Kd.R_drewN | apply Kd.R_drew)); exact HO195.out))) (Kd.R_lt (by (with_reducible repeat (first | apply Kd.R_alloc | apply Kd.R_drewN | apply Kd.R_drew)); exact HO198.out))) (below_size (by repeat (first | (with_reducible first | exact HB.out | apply below_alloc | apply pw_below_drewN | apply below_drew1) | exact HB.out)))); have n12_ := Aside0.mk (Kd.R_lower (Kd.R_new' (Kd.R_new' (Kd.R_new' (Kd.R_new' ho1 (Kd.R_lt (by (with_reducible repeat (first | apply Kd.R_alloc | apply Kd.R_drewN | apply Kd.R_drew)); exact HO176.out))) (Kd.R_lt (by (with_reducible repeat (first | apply Kd.R_alloc | apply Kd.R_drewN | apply Kd.R_drew)); exact HO179.out))) (Kd.R_lt (by (with_reducible repeat (first | apply Kd.R_alloc | apply Kd.R_drewN | apply Kd.R_drew)); exact HO195.out))) (Kd.R_lt (by (with_reducible repeat (first | apply Kd.R_alloc | apply Kd.R_drewN | apply Kd.R_drew)); exact HO198.out))) (below_size (by repeat (first | (with_reducible first | exact HB.out | apply below_alloc | apply pw_below_drewN | apply below_drew1) | exact HB.out)))); have n13_ := Aside0.mk (Kd.R_lower (Kd.R_new' (Kd.R_new' ho2 (Kd.R_lt (by (with_reducible repeat (first | apply Kd.R_alloc | apply Kd.R_drewN | apply Kd.R_drew)); exact HO182.out))) (Kd.R_lt (by (with_reducible repeat (first | apply Kd.R_alloc | apply Kd.R_drewN | apply Kd.R_drew)); exact HO201.out))) (below_size (by repeat (first | (with_reducible first | exact HB.out | apply below_alloc | apply pw_below_drewN | apply below_drew1) | exact HB.out)))); have n14_ := Aside0.mk (Kd.N_lower (Kd.N_mono (ok' := fun k_ => some k_ ≠ (v209 : Value).ownBlock ∧ some k_ ≠ (v212 : Value).ownBlock ∧ some k_ ≠ (v215 : Value).ownBlock ∧ some k_ ≠ (v221 : Value).ownBlock ∧ some k_ ≠ (.slice Ao12 t174.length co12 : Value).ownBlock ∧ some k_ ≠ (.slice Ao13 t177.length co13 : Value).ownBlock ∧ some k_ ≠ (.slice Ao14 t180.length co14 : Value).ownBlock ∧ some k_ ≠ (.slice Ao15 t183.length co15 : Value).ownBlock ∧ some k_ ≠ (.slice Ao16 t186.length co16 : Value).ownBlock ∧ some k_ ≠ (v190 : Value).ownBlock ∧ some k_ ≠ (.slice Ao19 t193.length co19 : Value).ownBlock ∧ some k_ ≠ (.slice Ao20 t196.length co20 : Value).ownBlock ∧ some k_ ≠ (.slice Ao21 t199.length co21 : Value).ownBlock ∧ some k_ ≠ (.slice Ao22 t202.length co22 : Value).ownBlock ∧ some k_ ≠ (.slice Ao23 t205.length co23 : Value).ownBlock) (Kd.S_N (Kd.S_bound (Kd.S_apart' (Kd.S_apart' (Kd.S_apart' ho3 (Kd.R_typed ho0) (by decide)) (Kd.R_typed ho1) (by decide)) (Kd.R_typed ho2) (by decide)))) (fun k_ hk_ => ⟨hk_.1.1.1.2, hk_.1.1.2, hk_.1.2, hk_.1.1.1.1, (Kd.fresh' (Kd.R_lt (by (with_reducible repeat (first | apply Kd.R_alloc | apply Kd.R_drewN | apply Kd.R_drew)); exact HO176.out)) k_ hk_.2.1), (Kd.fresh' (Kd.R_lt (by (with_reducible repeat (first | apply Kd.R_alloc | apply Kd.R_drewN | apply Kd.R_drew)); exact HO179.out)) k_ hk_.2.1), (Kd.fresh' (Kd.R_lt (by (with_reducible repeat (first | apply Kd.R_alloc | apply Kd.R_drewN | apply Kd.R_drew)); exact HO182.out)) k_ hk_.2.1), (Kd.fresh' (Kd.N_lt (by (with_reducible repeat (first | apply Kd.N_alloc | apply Kd.N_drewN | apply Kd.N_drew)); exact HO185.out)) k_ hk_.2.1), (Kd.fresh' (Kd.R_lt (by (with_reducible repeat (first | apply Kd.R_alloc | apply Kd.R_drewN | apply Kd.R_drew)); exact HO188.out)) k_ hk_.2.1), (Kd.fresh' (Kd.R_lt (by (with_reducible repeat (first | apply Kd.R_alloc | apply Kd.R_drewN | apply Kd.R_drew)); exact HO191.out)) k_ hk_.2.1), (Kd.fresh' (Kd.R_lt (by (with_reducible repeat (first | apply Kd.R_alloc | apply Kd.R_drewN | apply Kd.R_drew)); exact HO195.out)) k_ hk_.2.1), (Kd.fresh' (Kd.R_lt (by (with_reducible repeat (first | apply Kd.R_alloc | apply Kd.R_drewN | apply Kd.R_drew)); exact HO198.out)) k_ hk_.2.1), (Kd.fresh' (Kd.R_lt (by (with_reducible repeat (first | apply Kd.R_alloc | apply Kd.R_drewN | apply Kd.R_drew)); exact HO201.out)) k_ hk_.2.1), (Kd.fresh' (Kd.N_lt (by (with_reducible repeat (first | apply Kd.N_alloc | apply Kd.N_drewN | apply Kd.N_drew)); exact HO204.out)) k_ hk_.2.1), (Kd.fresh' (Kd.R_lt (by (with_reducible repeat (first | apply Kd.R_alloc | apply Kd.R_drewN | apply Kd.R_drew)); exact HO207.out)) k_ hk_.2.1)⟩)) (below_size (by repeat (first | (with_reducible first | exact HB.out | apply below_alloc | apply pw_below_drewN | apply below_drew1) | exact HB.out)))); have n15_ := Aside0.mk (Kd.R_lower (Kd.R_new' (Kd.R_new' ho4 (Kd.R_lt (by (with_reducible repeat (first | apply Kd.R_alloc | apply Kd.R_drewN | apply Kd.R_drew)); exact HO188.out))) (Kd.R_lt (by (with_reducible repeat (first | apply Kd.R_alloc | apply Kd.R_drewN | apply Kd.R_drew)); exact HO207.out))) (below_size (by repeat (first | (with_reducible first | exact HB.out | apply below_alloc | apply pw_below_drewN | apply below_drew1) | exact HB.out)))); have n16_ := Aside0.mk (below_step (by repeat (first | (with_reducible first | exact HB.out | apply below_alloc | apply pw_below_drewN | apply below_drew1) | exact HB.out)) hb); clear HO176; clear HO179; clear HO182; clear HO185; clear HO188; clear HO191; clear HO195; clear HO198; clear HO201; clear HO204; clear HO207; clear HB; have HO176 := n0_; have HO179 := n1_; have HO182 := n2_; have HO185 := n3_; have HO188 := n4_; have HO191 := n5_; have HO195 := n6_; have HO198 := n7_; have HO201 := n8_; have HO204 := n9_; have HO207 := n10_; have HO210 := n11_; have HO213 := n12_; have HO216 := n13_; have HO219 := n14_; have HO222 := n15_; have HB := n16_; clear n0_ n1_ n2_ n3_ n4_ n5_ n6_ n7_ n8_ n9_ n10_ n11_ n12_ n13_ n14_ n15_ n16_; (try clear hb); (try clear hb2); (try clear hk); (try clear hi); (try clear ho0); (try clear ho1); (try clear ho2); (try clear ho3); (try clear ho4)) | ((with_reducible refine gate_dst (N := 3) rfl ?_); (try (refine gate_guard (by rfl) ?_; dsimp only)); refine box_event ?hg (N := 3) ?hd (cs := #[.slice none 0 0, .slice none 0 0, .slice none 0 0, .slice none 0 0, .slice none 0 0]) (t := 27) ?hr ?_; (case hd => rfl); (case hg => rfl); (case hr => first | (go_simp; done) | (go_simp; rfl)); intro gb224 hg w25 hbox hb; have n0_ := Aside0.mk (Kd.R_below (by (with_reducible repeat (first | apply Kd.R_alloc | apply Kd.R_drewN | apply Kd.R_drew)); exact HO176.out) hb); have n1_ := Aside0.mk (Kd.R_below (by (with_reducible repeat (first | apply Kd.R_alloc | apply Kd.R_drewN | apply Kd.R_drew)); exact HO179.out) hb); have n2_ := Aside0.mk (Kd.R_below (by (with_reducible repeat (first | apply Kd.R_alloc | apply Kd.R_drewN | apply Kd.R_drew)); exact HO182.out) hb); have n3_ := Aside0.mk (Kd.N_below (Kd.N_elderB (by (with_reducible repeat (first | apply Kd.N_alloc | apply Kd.N_drewN | apply Kd.N_drew)); exact HO185.out) gb224 (Nat.le_of_eq hg.symm)) hb); have n4_ := Aside0.mk (Kd.R_below (by (with_reducible repeat (first | apply Kd.R_alloc | apply Kd.R_drewN | apply Kd.R_drew)); exact HO188.out) hb); have n5_ := Aside0.mk (Kd.R_below (by (with_reducible repeat (first | apply Kd.R_alloc | apply Kd.R_drewN | apply Kd.R_drew)); exact HO191.out) hb); have n6_ := Aside0.mk (Kd.R_below (by (with_reducible repeat (first | apply Kd.R_alloc | apply Kd.R_drewN | apply Kd.R_drew)); exact HO195.out) hb); have n7_ := Aside0.mk (Kd.R_below (by (with_reducible repeat (first | apply Kd.R_alloc | apply Kd.R_drewN | apply Kd.R_drew)); exact HO198.out) hb); have n8_ := Aside0.mk (Kd.R_below (by (with_reducible repeat (first | apply Kd.R_alloc | apply Kd.R_drewN | apply Kd.R_drew)); exact HO201.out) hb); have n9_ := Aside0.mk (Kd.N_below (Kd.N_elderB (by (with_reducible repeat (first | apply Kd.N_alloc | apply Kd.N_drewN | apply Kd.N_drew)); exact HO204.out) gb224 (Nat.le_of_eq hg.symm)) hb); have n10_ := Aside0.mk (Kd.R_below (by (with_reducible repeat (first | apply Kd.R_alloc | apply Kd.R_drewN | apply Kd.R_drew)); exact HO207.out) hb); have n11_ := Aside0.mk (Kd.R_below (by (with_reducible repeat (first | apply Kd.R_alloc | apply Kd.R_drewN | apply Kd.R_drew)); exact HO210.out) hb); have n12_ := Aside0.mk (Kd.R_below (by (with_reducible repeat (first | apply Kd.R_alloc | apply Kd.R_drewN | apply Kd.R_drew)); exact HO213.out) hb); have n13_ := Aside0.mk (Kd.R_below (by (with_reducible repeat (first | apply Kd.R_alloc | apply Kd.R_drewN | apply Kd.R_drew)); exact HO216.out) hb); have n14_ := Aside0.mk (Kd.N_below (Kd.N_elderB (by (with_reducible repeat (first | apply Kd.N_alloc | apply Kd.N_drewN | apply Kd.N_drew)); exact HO219.out) gb224 (Nat.le_of_eq hg.symm)) hb); have n15_ := Aside0.mk (Kd.R_below (by (with_reducible repeat (first | apply Kd.R_alloc | apply Kd.R_drewN | apply Kd.R_drew)); exact HO222.out) hb); have n16_ := Aside0.mk (below_step (by repeat (first | (with_reducible first | exact HB.out | apply below_alloc | apply pw_below_drewN | apply below_drew1) | exact HB.out)) hb); have n17_ := Aside0.mk (hbox); have n18_ := Aside0.mk ((by rw [hg]; exact (below_size (by repeat (first | (with_reducible first | exact HB.out | apply below_alloc | apply pw_below_drewN | apply below_drew1) | exact HB.out))) : w.heap.size ≤ gb224)); have n19_ := Aside0.mk ((by rw [hg]; exact (below_size (by repeat (first | (with_reducible first | exact HB.out | apply below_alloc | apply pw_below_drewN | apply below_drew1) | exact HB.out))) : w.heap.size ≤ gb224)); clear HO176; clear HO179; clear HO182; clear HO185; clear HO188; clear HO191; clear HO195; clear HO198; clear HO201; clear HO204; clear HO207; clear HO210; clear HO213; clear HO216; clear HO219; clear HO222; clear HB; have HO176 := n0_; have HO179 := n1_; have HO182 := n2_; have HO185 := n3_; have HO188 := n4_; have HO191 := n5_; have HO195 := n6_; have HO198 := n7_; have HO201 := n8_; have HO204 := n9_; have HO207 := n10_; have HO210 := n11_; have HO213 := n12_; have HO216 := n13_; have HO219 := n14_; have HO222 := n15_; have HB := n16_; have BK224 := n17_; have GW224 := n18_; have GE224 := n19_; clear n0_ n1_ n2_ n3_ n4_ n5_ n6_ n7_ n8_ n9_ n10_ n11_ n12_ n13_ n14_ n15_ n16_ n17_ n18_ n19_; clear hb hbox hg; obtain ⟨Ao26, co26, eo26⟩ := Kd.R_slice HO210.out; subst eo26; have hcz27_0 : w25.cell? ⟨gb224, 0, none⟩ = some (.slice none 0 0) := (blk_cell BK224.out 0).trans rfl; have hcz27_1 : w25.cell? ⟨gb224, 1, none⟩ = some (.slice none 0 0) := (blk_cell BK224.out 1).trans rfl; have hcz27_2 : w25.cell? ⟨gb224, 2, none⟩ = some (.slice none 0 0) := (blk_cell BK224.out 2).trans rfl; have hcz27_3 : w25.cell? ⟨gb224, 3, none⟩ = some (.slice none 0 0) := (blk_cell BK224.out 3).trans rfl; have hcz27_4 : w25.cell? ⟨gb224, 4, none⟩ = some (.slice none 0 0) := (blk_cell BK224.out 4).trans rfl; have hfz27_0 := blk_frozen BK224.out 0; have hfz27_1 := blk_frozen BK224.out 1; have hfz27_2 := blk_frozen BK224.out 2; have hfz27_3 := blk_frozen BK224.out 3; have hfz27_4 := blk_frozen BK224.out 4; obtain ⟨Ao28, co28, eo28⟩ := Kd.R_slice HO213.out; subst eo28; obtain ⟨Ao29, co29, eo29⟩ := Kd.R_slice HO216.out; subst eo29; obtain ⟨Ao30, co30, eo30⟩ := Kd.N_slice HO219.out; subst eo30; obtain ⟨Ao31, co31, eo31⟩ := Kd.R_slice HO222.out; subst eo31) | ((with_reducible refine gate_store (t := 27) (p := 3) rfl ?_); refine store_event (t := 27) (p := 3) (v := ?vo_w32) (w1 := (((((w25.setCell ⟨gb224, 0, none⟩ (.slice Ao26 t208.length co26)).setCell ⟨gb224, 1, none⟩ (.slice Ao28 t211.length co28)).setCell ⟨gb224, 2, none⟩ (.slice Ao29 t214.length co29)).setCell ⟨gb224, 3, none⟩ (.slice Ao30 t217.length co30)).setCell ⟨gb224, 4, none⟩ (.slice Ao31 t220.length co31))) ?hg ?ho ?hn ?hr ?_; (case ho => rfl); (case hg => rfl); (case hn => rfl); (case hr => first | (go_simp; done) | (go_simp; rfl)); intro w32 hw; have n0_ : Aside0 (Kd.R Kd.string 9 w32 w.heap.size (fun k_ => some k_ ≠ (.slice Ao13 t177.length co13 : Value).ownBlock ∧ some k_ ≠ (.slice Ao19 t193.length co19 : Value).ownBlock ∧ some k_ ≠ (.slice Ao20 t196.length co20 : Value).ownBlock ∧ some k_ ≠ (.slice Ao26 t208.length co26 : Value).ownBlock ∧ some k_ ≠ (.slice Ao28 t211.length co28 : Value).ownBlock) (.slice Ao12 t174.length co12) t174) := ⟨(by rw [hw]; exact (by (with_reducible repeat (first | apply Kd.R_alloc | apply Kd.R_drewN | apply Kd.R_drew)); exact Kd.R_mono (Kd.R_far (p := ⟨gb224, 4, none⟩) (Kd.R_far (p := ⟨gb224, 3, none⟩) (Kd.R_far (p := ⟨gb224, 2, none⟩) (Kd.R_far (p := ⟨gb224, 1, none⟩) (Kd.R_far (p := ⟨gb224, 0, none⟩) (Kd.R_types HO176.out BK224.out (by decide)) (fun _ hk => hk.2) (.slice Ao26 t208.length co26)) (fun _ hk => hk.2) (.slice Ao28 t211.length co28)) (fun _ hk => hk.2) (.slice Ao29 t214.length co29)) (fun _ hk => hk.2) (.slice Ao30 t217.length co30)) (fun _ hk => hk.2) (.slice Ao31 t220.length co31)) (fun _ hk => ⟨hk.1.1.1.1.1, ⟨hk.1.1.1.1.2, ⟨hk.1.1.1.2, ⟨hk.1.1.2, hk.1.2⟩⟩⟩⟩)))⟩; have n1_ : Aside0 (Kd.R Kd.string 9 w32 w.heap.size (fun k_ => some k_ ≠ (.slice Ao12 t174.length co12 : Value).ownBlock ∧ some k_ ≠ (.slice Ao19 t193.length co19 : Value).ownBlock ∧ some k_ ≠ (.slice Ao20 t196.length co20 : Value).ownBlock ∧ some k_ ≠ (.slice Ao26 t208.length co26 : Value).ownBlock ∧ some k_ ≠ (.slice Ao28 t211.length co28 : Value).ownBlock) (.slice Ao13 t177.length co13) t177) := ⟨(by rw [hw]; exact (by (with_reducible repeat (first | apply Kd.R_alloc | apply Kd.R_drewN | apply Kd.R_drew)); exact Kd.R_mono (Kd.R_far (p := ⟨gb224, 4, none⟩) (Kd.R_far (p := ⟨gb224, 3, none⟩) (Kd.R_far (p := ⟨gb224, 2, none⟩) (Kd.R_far (p := ⟨gb224, 1, none⟩) (Kd.R_far (p := ⟨gb224, 0, none⟩) (Kd.R_types HO179.out BK224.out (by decide)) (fun _ hk => hk.2) (.slice Ao26 t208.length co26)) (fun _ hk => hk.2) (.slice Ao28 t211.length co28)) (fun _ hk => hk.2) (.slice Ao29 t214.length co29)) (fun _ hk => hk.2) (.slice Ao30 t217.length co30)) (fun _ hk => hk.2) (.slice Ao31 t220.length co31)) (fun _ hk => ⟨hk.1.1.1.1.1, ⟨hk.1.1.1.1.2, ⟨hk.1.1.1.2, ⟨hk.1.1.2, hk.1.2⟩⟩⟩⟩)))⟩; have n2_ : Aside0 (Kd.R k82 82 w32 w.heap.size (fun k_ => some k_ ≠ (.slice Ao21 t199.length co21 : Value).ownBlock ∧ some k_ ≠ (.slice Ao29 t214.length co29 : Value).ownBlock) (.slice Ao14 t180.length co14) t180) := ⟨(by rw [hw]; exact (by (with_reducible repeat (first | apply Kd.R_alloc | apply Kd.R_drewN | apply Kd.R_drew)); exact Kd.R_mono (Kd.R_far (p := ⟨gb224, 4, none⟩) (Kd.R_far (p := ⟨gb224, 3, none⟩) (Kd.R_far (p := ⟨gb224, 2, none⟩) (Kd.R_far (p := ⟨gb224, 1, none⟩) (Kd.R_far (p := ⟨gb224, 0, none⟩) (Kd.R_types HO182.out BK224.out (by decide)) (fun _ hk => hk.2) (.slice Ao26 t208.length co26)) (fun _ hk => hk.2) (.slice Ao28 t211.length co28)) (fun _ hk => hk.2) (.slice Ao29 t214.length co29)) (fun _ hk => hk.2) (.slice Ao30 t217.length co30)) (fun _ hk => hk.2) (.slice Ao31 t220.length co31)) (fun _ hk => ⟨hk.1.1.2, hk.1.2⟩)))⟩; have n3_ : Aside0 (Kd.N k80 80 w32 w.heap.size (fun k_ => some k_ ≠ (.slice Ao12 t174.length co12 : Value).ownBlock ∧ some k_ ≠ (.slice Ao13 t177.length co13 : Value).ownBlock ∧ some k_ ≠ (.slice Ao14 t180.length co14 : Value).ownBlock ∧ some k_ ≠ (.slice Ao16 t186.length co16 : Value).ownBlock ∧ some k_ ≠ (v190 : Value).ownBlock ∧ some k_ ≠ (.slice Ao19 t193.length co19 : Value).ownBlock ∧ some k_ ≠ (.slice Ao20 t196.length co20 : Value).ownBlock ∧ some k_ ≠ (.slice Ao21 t199.length co21 : Value).ownBlock ∧ some k_ ≠ (.slice Ao22 t202.length co22 : Value).ownBlock ∧ some k_ ≠ (.slice Ao23 t205.length co23 : Value).ownBlock ∧ some k_ ≠ (.slice Ao26 t208.length co26 : Value).ownBlock ∧ some k_ ≠ (.slice Ao28 t211.length co28 : Value).ownBlock ∧ some k_ ≠ (.slice Ao29 t214.length co29 : Value).ownBlock ∧ some k_ ≠ (.slice Ao30 t217.length co30 : Value).ownBlock ∧ some k_ ≠ (.slice Ao31 t220.length co31 : Value).ownBlock ∧ k_ ≠ gb224) (.slice Ao15 t183.length co15) t183) := ⟨(by rw [hw]; exact (by (with_reducible repeat (first | apply Kd.N_alloc | apply Kd.N_drewN | apply Kd.N_drew)); exact Kd.N_mono (Kd.N_far (p := ⟨gb224, 4, none⟩) (Kd.N_far (p := ⟨gb224, 3, none⟩) (Kd.N_far (p := ⟨gb224, 2, none⟩) (Kd.N_far (p := ⟨gb224, 1, none⟩) (Kd.N_far (p := ⟨gb224, 0, none⟩) (Kd.N_mono HO185.out (fun k_ hk => (⟨hk, hk.2⟩ : _ ∧ k_ ≠ gb224))) (fun _ hk => hk.2) (.slice Ao26 t208.length co26)) (fun _ hk => hk.2) (.slice Ao28 t211.length co28)) (fun _ hk => hk.2) (.slice Ao29 t214.length co29)) (fun _ hk => hk.2) (.slice Ao30 t217.length co30)) (fun _ hk => hk.2) (.slice Ao31 t220.length co31)) (fun _ hk => ⟨hk.1.1.1.1.1.1.1.1.1.1.1.1.1.1, ⟨hk.1.1.1.1.1.1.1.1.1.1.1.1.1.2.1, ⟨hk.1.1.1.1.1.1.1.1.1.1.1.1.1.2.2.1, ⟨hk.1.1.1.1.1.1.1.1.1.1.1.1.1.2.2.2, ⟨hk.1.1.1.1.1.1.1.1.1.1.1.1.2, ⟨hk.1.1.1.1.1.1.1.1.1.1.1.2, ⟨hk.1.1.1.1.1.1.1.1.1.1.2, ⟨hk.1.1.1.1.1.1.1.1.1.2, ⟨hk.1.1.1.1.1.1.1.1.2, ⟨hk.1.1.1.1.1.1.1.2, ⟨hk.1.1.1.1.1.1.2, ⟨hk.1.1.1.1.1.2, ⟨hk.1.1.1.1.2, ⟨hk.1.1.1.2, ⟨hk.1.1.2, hk.1.2⟩⟩⟩⟩⟩⟩⟩⟩⟩⟩⟩⟩⟩⟩⟩)))⟩; have n4_ : Aside0 (Kd.R (Kd.int .i64) 3 w32 w.heap.size (fun k_ => some k_ ≠ (.slice Ao23 t205.length co23 : Value).ownBlock ∧ some k_ ≠ (.slice Ao31 t220.length co31 : Value).ownBlock) (.slice Ao16 t186.length co16) t186) := ⟨(by rw [hw]; exact (by (with_reducible repeat (first | apply Kd.R_alloc | apply Kd.R_drewN | apply Kd.R_drew)); exact Kd.R_mono (Kd.R_far (p := ⟨gb224, 4, none⟩) (Kd.R_far (p := ⟨gb224, 3, none⟩) (Kd.R_far (p := ⟨gb224, 2, none⟩) (Kd.R_far (p := ⟨gb224, 1, none⟩) (Kd.R_far (p := ⟨gb224, 0, none⟩) (Kd.R_types HO188.out BK224.out (by decide)) (fun _ hk => hk.2) (.slice Ao26 t208.length co26)) (fun _ hk => hk.2) (.slice Ao28 t211.length co28)) (fun _ hk => hk.2) (.slice Ao29 t214.length co29)) (fun _ hk => hk.2) (.slice Ao30 t217.length co30)) (fun _ hk => hk.2) (.slice Ao31 t220.length co31)) (fun _ hk => ⟨hk.1.1.2, hk.1.2⟩)))⟩; have n5_ : Aside0 (Kd.R k29 29 w32 w.heap.size (fun _ => True) v190 t189) := ⟨(by rw [hw]; exact (by (with_reducible repeat (first | apply Kd.R_alloc | apply Kd.R_drewN | apply Kd.R_drew)); exact Kd.R_mono (Kd.R_far (p := ⟨gb224, 4, none⟩) (Kd.R_far (p := ⟨gb224, 3, none⟩) (Kd.R_far (p := ⟨gb224, 2, none⟩) (Kd.R_far (p := ⟨gb224, 1, none⟩) (Kd.R_far (p := ⟨gb224, 0, none⟩) (Kd.R_types HO191.out BK224.out (by decide)) (fun _ hk => hk.2) (.slice Ao26 t208.length co26)) (fun _ hk => hk.2) (.slice Ao28 t211.length co28)) (fun _ hk => hk.2) (.slice Ao29 t214.length co29)) (fun _ hk => hk.2) (.slice Ao30 t217.length co30)) (fun _ hk => hk.2) (.slice Ao31 t220.length co31)) (fun _ hk => trivial)))⟩; have n6_ : Aside0 (Kd.R Kd.string 9 w32 w.heap.size (fun k_ => some k_ ≠ (.slice Ao12 t174.length co12 : Value).ownBlock ∧ some k_ ≠ (.slice Ao13 t177.length co13 : Value).ownBlock ∧ some k_ ≠ (.slice Ao20 t196.length co20 : Value).ownBlock ∧ some k_ ≠ (.slice Ao26 t208.length co26 : Value).ownBlock ∧ some k_ ≠ (.slice Ao28 t211.length co28 : Value).ownBlock) (.slice Ao19 t193.length co19) t193) := ⟨(by rw [hw]; exact (by (with_reducible repeat (first | apply Kd.R_alloc | apply Kd.R_drewN | apply Kd.R_drew)); exact Kd.R_mono (Kd.R_far (p := ⟨gb224, 4, none⟩) (Kd.R_far (p := ⟨gb224, 3, none⟩) (Kd.R_far (p := ⟨gb224, 2, none⟩) (Kd.R_far (p := ⟨gb224, 1, none⟩) (Kd.R_far (p := ⟨gb224, 0, none⟩) (Kd.R_types HO195.out BK224.out (by decide)) (fun _ hk => hk.2) (.slice Ao26 t208.length co26)) (fun _ hk => hk.2) (.slice Ao28 t211.length co28)) (fun _ hk => hk.2) (.slice Ao29 t214.length co29)) (fun _ hk => hk.2) (.slice Ao30 t217.length co30)) (fun _ hk => hk.2) (.slice Ao31 t220.length co31)) (fun _ hk => ⟨hk.1.1.1.1.2, ⟨hk.1.1.1.2, ⟨hk.1.1.1.1.1, ⟨hk.1.1.2, hk.1.2⟩⟩⟩⟩)))⟩; have n7_ : Aside0 (Kd.R Kd.string 9 w32 w.heap.size (fun k_ => some k_ ≠ (.slice Ao12 t174.length co12 : Value).ownBlock ∧ some k_ ≠ (.slice Ao13 t177.length co13 : Value).ownBlock ∧ some k_ ≠ (.slice Ao19 t193.length co19 : Value).ownBlock ∧ some k_ ≠ (.slice Ao26 t208.length co26 : Value).ownBlock ∧ some k_ ≠ (.slice Ao28 t211.length co28 : Value).ownBlock) (.slice Ao20 t196.length co20) t196) := ⟨(by rw [hw]; exact (by (with_reducible repeat (first | apply Kd.R_alloc | apply Kd.R_drewN | apply Kd.R_drew)); exact Kd.R_mono (Kd.R_far (p := ⟨gb224, 4, none⟩) (Kd.R_far (p := ⟨gb224, 3, none⟩) (Kd.R_far (p := ⟨gb224, 2, none⟩) (Kd.R_far (p := ⟨gb224, 1, none⟩) (Kd.R_far (p := ⟨gb224, 0, none⟩) (Kd.R_types HO198.out BK224.out (by decide)) (fun _ hk => hk.2) (.slice Ao26 t208.length co26)) (fun _ hk => hk.2) (.slice Ao28 t211.length co28)) (fun _ hk => hk.2) (.slice Ao29 t214.length co29)) (fun _ hk => hk.2) (.slice Ao30 t217.length co30)) (fun _ hk => hk.2) (.slice Ao31 t220.length co31)) (fun _ hk => ⟨hk.1.1.1.1.2, ⟨hk.1.1.1.2, ⟨hk.1.1.1.1.1, ⟨hk.1.1.2, hk.1.2⟩⟩⟩⟩)))⟩; have n8_ : Aside0 (Kd.R k82 82 w32 w.heap.size (fun k_ => some k_ ≠ (.slice Ao14 t180.length co14 : Value).ownBlock ∧ some k_ ≠ (.slice Ao29 t214.length co29 : Value).ownBlock) (.slice Ao21 t199.length co21) t199) := ⟨(by rw [hw]; exact (by (with_reducible repeat (first | apply Kd.R_alloc | apply Kd.R_drewN | apply Kd.R_drew)); exact Kd.R_mono (Kd.R_far (p := ⟨gb224, 4, none⟩) (Kd.R_far (p := ⟨gb224, 3, none⟩) (Kd.R_far (p := ⟨gb224, 2, none⟩) (Kd.R_far (p := ⟨gb224, 1, none⟩) (Kd.R_far (p := ⟨gb224, 0, none⟩) (Kd.R_types HO201.out BK224.out (by decide)) (fun _ hk => hk.2) (.slice Ao26 t208.length co26)) (fun _ hk => hk.2) (.slice Ao28 t211.length co28)) (fun _ hk => hk.2) (.slice Ao29 t214.length co29)) (fun _ hk => hk.2) (.slice Ao30 t217.length co30)) (fun _ hk => hk.2) (.slice Ao31 t220.length co31)) (fun _ hk => ⟨hk.1.1.2, hk.1.2⟩)))⟩; have n9_ : Aside0 (Kd.N k80 80 w32 w.heap.size (fun k_ => some k_ ≠ (.slice Ao12 t174.length co12 : Value).ownBlock ∧ some k_ ≠ (.slice Ao13 t177.length co13 : Value).ownBlock ∧ some k_ ≠ (.slice Ao14 t180.length co14 : Value).ownBlock ∧ some k_ ≠ (.slice Ao15 t183.length co15 : Value).ownBlock ∧ some k_ ≠ (.slice Ao16 t186.length co16 : Value).ownBlock ∧ some k_ ≠ (v190 : Value).ownBlock ∧ some k_ ≠ (.slice Ao19 t193.length co19 : Value).ownBlock ∧ some k_ ≠ (.slice Ao20 t196.length co20 : Value).ownBlock ∧ some k_ ≠ (.slice Ao21 t199.length co21 : Value).ownBlock ∧ some k_ ≠ (.slice Ao23 t205.length co23 : Value).ownBlock ∧ some k_ ≠ (.slice Ao26 t208.length co26 : Value).ownBlock ∧ some k_ ≠ (.slice Ao28 t211.length co28 : Value).ownBlock ∧ some k_ ≠ (.slice Ao29 t214.length co29 : Value).ownBlock ∧ some k_ ≠ (.slice Ao30 t217.length co30 : Value).ownBlock ∧ some k_ ≠ (.slice Ao31 t220.length co31 : Value).ownBlock ∧ k_ ≠ gb224) (.slice Ao22 t202.length co22) t202) := ⟨(by rw [hw]; exact (by (with_reducible repeat (first | apply Kd.N_alloc | apply Kd.N_drewN | apply Kd.N_drew)); exact Kd.N_mono (Kd.N_far (p := ⟨gb224, 4, none⟩) (Kd.N_far (p := ⟨gb224, 3, none⟩) (Kd.N_far (p := ⟨gb224, 2, none⟩) (Kd.N_far (p := ⟨gb224, 1, none⟩) (Kd.N_far (p := ⟨gb224, 0, none⟩) (Kd.N_mono HO204.out (fun k_ hk => (⟨hk, hk.2⟩ : _ ∧ k_ ≠ gb224))) (fun _ hk => hk.2) (.slice Ao26 t208.length co26)) (fun _ hk => hk.2) (.slice Ao28 t211.length co28)) (fun _ hk => hk.2) (.slice Ao29 t214.length co29)) (fun _ hk => hk.2) (.slice Ao30 t217.length co30)) (fun _ hk => hk.2) (.slice Ao31 t220.length co31)) (fun _ hk => ⟨hk.1.1.1.1.1.1.1.2.2.2.2.1, ⟨hk.1.1.1.1.1.1.1.2.2.2.2.2.1, ⟨hk.1.1.1.1.1.1.1.2.2.2.2.2.2.1, ⟨hk.1.1.1.1.1.1.1.2.2.2.2.2.2.2.1, ⟨hk.1.1.1.1.1.1.1.2.2.2.2.2.2.2.2.1, ⟨hk.1.1.1.1.1.1.1.2.2.2.2.2.2.2.2.2, ⟨hk.1.1.1.1.1.1.1.1, ⟨hk.1.1.1.1.1.1.1.2.1, ⟨hk.1.1.1.1.1.1.1.2.2.1, ⟨hk.1.1.1.1.1.1.1.2.2.2.1, ⟨hk.1.1.1.1.1.1.2, ⟨hk.1.1.1.1.1.2, ⟨hk.1.1.1.1.2, ⟨hk.1.1.1.2, ⟨hk.1.1.2, hk.1.2⟩⟩⟩⟩⟩⟩⟩⟩⟩⟩⟩⟩⟩⟩⟩)))⟩; have n10_ : Aside0 (Kd.R (Kd.int .i64) 3 w32 w.heap.size (fun k_ => some k_ ≠ (.slice Ao16 t186.length co16 : Value).ownBlock ∧ some k_ ≠ (.slice Ao31 t220.length co31 : Value).ownBlock) (.slice Ao23 t205.length co23) t205) := ⟨(by rw [hw]; exact (by (with_reducible repeat (first | apply Kd.R_alloc | apply Kd.R_drewN | apply Kd.R_drew)); exact Kd.R_mono (Kd.R_far (p := ⟨gb224, 4, none⟩) (Kd.R_far (p := ⟨gb224, 3, none⟩) (Kd.R_far (p := ⟨gb224, 2, none⟩) (Kd.R_far (p := ⟨gb224, 1, none⟩) (Kd.R_far (p := ⟨gb224, 0, none⟩) (Kd.R_types HO207.out BK224.out (by decide)) (fun _ hk => hk.2) (.slice Ao26 t208.length co26)) (fun _ hk => hk.2) (.slice Ao28 t211.length co28)) (fun _ hk => hk.2) (.slice Ao29 t214.length co29)) (fun _ hk => hk.2) (.slice Ao30 t217.length co30)) (fun _ hk => hk.2) (.slice Ao31 t220.length co31)) (fun _ hk => ⟨hk.1.1.2, hk.1.2⟩)))⟩; have n11_ : Aside0 (Kd.R Kd.string 9 w32 w.heap.size (fun k_ => some k_ ≠ (.slice Ao12 t174.length co12 : Value).ownBlock ∧ some k_ ≠ (.slice Ao13 t177.length co13 : Value).ownBlock ∧ some k_ ≠ (.slice Ao19 t193.length co19 : Value).ownBlock ∧ some k_ ≠ (.slice Ao20 t196.length co20 : Value).ownBlock ∧ some k_ ≠ (.slice Ao28 t211.length co28 : Value).ownBlock) (.slice Ao26 t208.length co26) t208) := ⟨(by rw [hw]; exact (by (with_reducible repeat (first | apply Kd.R_alloc | apply Kd.R_drewN | apply Kd.R_drew)); exact Kd.R_mono (Kd.R_far (p := ⟨gb224, 4, none⟩) (Kd.R_far (p := ⟨gb224, 3, none⟩) (Kd.R_far (p := ⟨gb224, 2, none⟩) (Kd.R_far (p := ⟨gb224, 1, none⟩) (Kd.R_far (p := ⟨gb224, 0, none⟩) (Kd.R_types HO210.out BK224.out (by decide)) (fun _ hk => hk.2) (.slice Ao26 t208.length co26)) (fun _ hk => hk.2) (.slice Ao28 t211.length co28)) (fun _ hk => hk.2) (.slice Ao29 t214.length co29)) (fun _ hk => hk.2) (.slice Ao30 t217.length co30)) (fun _ hk => hk.2) (.slice Ao31 t220.length co31)) (fun _ hk => ⟨hk.1.1.1.1.2, ⟨hk.1.1.1.2, ⟨hk.1.1.2, ⟨hk.1.2, hk.1.1.1.1.1⟩⟩⟩⟩)))⟩; have n12_ : Aside0 (Kd.R Kd.string 9 w32 w.heap.size (fun k_ => some k_ ≠ (.slice Ao12 t174.length co12 : Value).ownBlock ∧ some k_ ≠ (.slice Ao13 t177.length co13 : Value).ownBlock ∧ some k_ ≠ (.slice Ao19 t193.length co19 : Value).ownBlock ∧ some k_ ≠ (.slice Ao20 t196.length co20 : Value).ownBlock ∧ some k_ ≠ (.slice Ao26 t208.length co26 : Value).ownBlock) (.slice Ao28 t211.length co28) t211) := ⟨(by rw [hw]; exact (by (with_reducible repeat (first | apply Kd.R_alloc | apply Kd.R_drewN | apply Kd.R_drew)); exact Kd.R_mono (Kd.R_far (p := ⟨gb224, 4, none⟩) (Kd.R_far (p := ⟨gb224, 3, none⟩) (Kd.R_far (p := ⟨gb224, 2, none⟩) (Kd.R_far (p := ⟨gb224, 1, none⟩) (Kd.R_far (p := ⟨gb224, 0, none⟩) (Kd.R_types HO213.out BK224.out (by decide)) (fun _ hk => hk.2) (.slice Ao26 t208.length co26)) (fun _ hk => hk.2) (.slice Ao28 t211.length co28)) (fun _ hk => hk.2) (.slice Ao29 t214.length co29)) (fun _ hk => hk.2) (.slice Ao30 t217.length co30)) (fun _ hk => hk.2) (.slice Ao31 t220.length co31)) (fun _ hk => ⟨hk.1.1.1.1.2, ⟨hk.1.1.1.2, ⟨hk.1.1.2, ⟨hk.1.2, hk.1.1.1.1.1⟩⟩⟩⟩)))⟩; have n13_ : Aside0 (Kd.R k82 82 w32 w.heap.size (fun k_ => some k_ ≠ (.slice Ao14 t180.length co14 : Value).ownBlock ∧ some k_ ≠ (.slice Ao21 t199.length co21 : Value).ownBlock) (.slice Ao29 t214.length co29) t214) := ⟨(by rw [hw]; exact (by (with_reducible repeat (first | apply Kd.R_alloc | apply Kd.R_drewN | apply Kd.R_drew)); exact Kd.R_mono (Kd.R_far (p := ⟨gb224, 4, none⟩) (Kd.R_far (p := ⟨gb224, 3, none⟩) (Kd.R_far (p := ⟨gb224, 2, none⟩) (Kd.R_far (p := ⟨gb224, 1, none⟩) (Kd.R_far (p := ⟨gb224, 0, none⟩) (Kd.R_types HO216.out BK224.out (by decide)) (fun _ hk => hk.2) (.slice Ao26 t208.length co26)) (fun _ hk => hk.2) (.slice Ao28 t211.length co28)) (fun _ hk => hk.2) (.slice Ao29 t214.length co29)) (fun _ hk => hk.2) (.slice Ao30 t217.length co30)) (fun _ hk => hk.2) (.slice Ao31 t220.length co31)) (fun _ hk => ⟨hk.1.1.2, hk.1.2⟩)))⟩; have n14_ : Aside0 (Kd.N k80 80 w32 w.heap.size (fun k_ => some k_ ≠ (.slice Ao12 t174.length co12 : Value).ownBlock ∧ some k_ ≠ (.slice Ao13 t177.length co13 : Value).ownBlock ∧ some k_ ≠ (.slice Ao14 t180.length co14 : Value).ownBlock ∧ some k_ ≠ (.slice Ao15 t183.length co15 : Value).ownBlock ∧ some k_ ≠ (.slice Ao16 t186.length co16 : Value).ownBlock ∧ some k_ ≠ (v190 : Value).ownBlock ∧ some k_ ≠ (.slice Ao19 t193.length co19 : Value).ownBlock ∧ some k_ ≠ (.slice Ao20 t196.length co20 : Value).ownBlock ∧ some k_ ≠ (.slice Ao21 t199.length co21 : Value).ownBlock ∧ some k_ ≠ (.slice Ao22 t202.length co22 : Value).ownBlock ∧ some k_ ≠ (.slice Ao23 t205.length co23 : Value).ownBlock ∧ some k_ ≠ (.slice Ao26 t208.length co26 : Value).ownBlock ∧ some k_ ≠ (.slice Ao28 t211.length co28 : Value).ownBlock ∧ some k_ ≠ (.slice Ao29 t214.length co29 : Value).ownBlock ∧ some k_ ≠ (.slice Ao31 t220.length co31 : Value).ownBlock ∧ k_ ≠ gb224) (.slice Ao30 t217.length co30) t217) := ⟨(by rw [hw]; exact (by (with_reducible repeat (first | apply Kd.N_alloc | apply Kd.N_drewN | apply Kd.N_drew)); exact Kd.N_mono (Kd.N_far (p := ⟨gb224, 4, none⟩) (Kd.N_far (p := ⟨gb224, 3, none⟩) (Kd.N_far (p := ⟨gb224, 2, none⟩) (Kd.N_far (p := ⟨gb224, 1, none⟩) (Kd.N_far (p := ⟨gb224, 0, none⟩) (Kd.N_mono HO219.out (fun k_ hk => (⟨hk, hk.2⟩ : _ ∧ k_ ≠ gb224))) (fun _ hk => hk.2) (.slice Ao26 t208.length co26)) (fun _ hk => hk.2) (.slice Ao28 t211.length co28)) (fun _ hk => hk.2) (.slice Ao29 t214.length co29)) (fun _ hk => hk.2) (.slice Ao30 t217.length co30)) (fun _ hk => hk.2) (.slice Ao31 t220.length co31)) (fun _ hk => ⟨hk.1.1.2.2.2.2.1, ⟨hk.1.1.2.2.2.2.2.1, ⟨hk.1.1.2.2.2.2.2.2.1, ⟨hk.1.1.2.2.2.2.2.2.2.1, ⟨hk.1.1.2.2.2.2.2.2.2.2.1, ⟨hk.1.1.2.2.2.2.2.2.2.2.2.1, ⟨hk.1.1.2.2.2.2.2.2.2.2.2.2.1, ⟨hk.1.1.2.2.2.2.2.2.2.2.2.2.2.1, ⟨hk.1.1.2.2.2.2.2.2.2.2.2.2.2.2.1, ⟨hk.1.1.2.2.2.2.2.2.2.2.2.2.2.2.2.1, ⟨hk.1.1.2.2.2.2.2.2.2.2.2.2.2.2.2.2, ⟨hk.1.1.1, ⟨hk.1.1.2.1, ⟨hk.1.1.2.2.1, ⟨hk.1.1.2.2.2.1, hk.1.2⟩⟩⟩⟩⟩⟩⟩⟩⟩⟩⟩⟩⟩⟩⟩)))⟩; have n15_ : Aside0 (Kd.R (Kd.int .i64) 3 w32 w.heap.size (fun k_ => some k_ ≠ (.slice Ao16 t186.length co16 : Value).ownBlock ∧ some k_ ≠ (.slice Ao23 t205.length co23 : Value).ownBlock) (.slice Ao31 t220.length co31) t220) := ⟨(by rw [hw]; exact (by (with_reducible repeat (first | apply Kd.R_alloc | apply Kd.R_drewN | apply Kd.R_drew)); exact Kd.R_mono (Kd.R_far (p := ⟨gb224, 4, none⟩) (Kd.R_far (p := ⟨gb224, 3, none⟩) (Kd.R_far (p := ⟨gb224, 2, none⟩) (Kd.R_far (p := ⟨gb224, 1, none⟩) (Kd.R_far (p := ⟨gb224, 0, none⟩) (Kd.R_types HO222.out BK224.out (by decide)) (fun _ hk => hk.2) (.slice Ao26 t208.length co26)) (fun _ hk => hk.2) (.slice Ao28 t211.length co28)) (fun _ hk => hk.2) (.slice Ao29 t214.length co29)) (fun _ hk => hk.2) (.slice Ao30 t217.length co30)) (fun _ hk => hk.2) (.slice Ao31 t220.length co31)) (fun _ hk => ⟨hk.1.1.2, hk.1.2⟩)))⟩; have n16_ : Aside0 (w32.heap[gb224]? = some (.cells #[.slice Ao26 t208.length co26, .slice Ao28 t211.length co28, .slice Ao29 t214.length co29, .slice Ao30 t217.length co30, .slice Ao31 t220.length co31] 27 (0, 0))) := ⟨(by rw [hw]; exact (by (with_reducible repeat (first | refine blk_drewN ?_ _ | refine blk_drew ?_ | refine blk_alloc ?_ _)); refine blk_put (cs := #[.slice Ao26 t208.length co26, .slice Ao28 t211.length co28, .slice Ao29 t214.length co29, .slice Ao30 t217.length co30, .slice none 0 0]) ?_ 4 _ rfl; (with_reducible repeat (first | refine blk_drewN ?_ _ | refine blk_drew ?_ | refine blk_alloc ?_ _)); refine blk_put (cs := #[.slice Ao26 t208.length co26, .slice Ao28 t211.length co28, .slice Ao29 t214.length co29, .slice none 0 0, .slice none 0 0]) ?_ 3 _ rfl; (with_reducible repeat (first | refine blk_drewN ?_ _ | refine blk_drew ?_ | refine blk_alloc ?_ _)); refine blk_put (cs := #[.slice Ao26 t208.length co26, .slice Ao28 t211.length co28, .slice none 0 0, .slice none 0 0, .slice none 0 0]) ?_ 2 _ rfl; (with_reducible repeat (first | refine blk_drewN ?_ _ | refine blk_drew ?_ | refine blk_alloc ?_ _)); refine blk_put (cs := #[.slice Ao26 t208.length co26, .slice none 0 0, .slice none 0 0, .slice none 0 0, .slice none 0 0]) ?_ 1 _ rfl; (with_reducible repeat (first | refine blk_drewN ?_ _ | refine blk_drew ?_ | refine blk_alloc ?_ _)); refine blk_put (cs := #[.slice none 0 0, .slice none 0 0, .slice none 0 0, .slice none 0 0, .slice none 0 0]) ?_ 0 _ rfl; (with_reducible repeat (first | refine blk_drewN ?_ _ | refine blk_drew ?_ | refine blk_alloc ?_ _)); exact BK224.out))⟩; have n17_ : Aside0 (Below w.heap.size w w32) := ⟨(by rw [hw]; exact (by repeat (first | (with_reducible first | exact HB.out | apply below_alloc | apply pw_below_drewN | apply below_drew1 | refine below_set ?_ GE224.out) | exact HB.out)))⟩; clear hw; clear HO176; clear HO179; clear HO182; clear HO185; clear HO188; clear HO191; clear HO195; clear HO198; clear HO201; clear HO204; clear HO207; clear HO210; clear HO213; clear HO216; clear HO219; clear HO222; clear BK224; clear HB; have HO176 := n0_; have HO179 := n1_; have HO182 := n2_; have HO185 := n3_; have HO188 := n4_; have HO191 := n5_; have HO195 := n6_; have HO198 := n7_; have HO201 := n8_; have HO204 := n9_; have HO207 := n10_; have HO210 := n11_; have HO213 := n12_; have HO216 := n13_; have HO219 := n14_; have HO222 := n15_; have BK224 := n16_; have HB := n17_; clear n0_ n1_ n2_ n3_ n4_ n5_ n6_ n7_ n8_ n9_ n10_ n11_ n12_ n13_ n14_ n15_ n16_ n17_; obtain ⟨Ao33, co33, eo33⟩ := Kd.R_slice HO191.out; subst eo33; have hcz34_0 : w32.cell? ⟨gb224, 0, none⟩ = some (.slice Ao26 t208.length co26) := (blk_cell BK224.out 0).trans rfl; have hcz34_1 : w32.cell? ⟨gb224, 1, none⟩ = some (.slice Ao28 t211.length co28) := (blk_cell BK224.out 1).trans rfl; have hcz34_2 : w32.cell? ⟨gb224, 2, none⟩ = some (.slice Ao29 t214.length co29) := (blk_cell BK224.out 2).trans rfl; have hcz34_3 : w32.cell? ⟨gb224, 3, none⟩ = some (.slice Ao30 t217.length co30) := (blk_cell BK224.out 3).trans rfl; have hcz34_4 : w32.cell? ⟨gb224, 4, none⟩ = some (.slice Ao31 t220.length co31) := (blk_cell BK224.out 4).trans rfl; have hfz34_0 := blk_frozen BK224.out 0; have hfz34_1 := blk_frozen BK224.out 1; have hfz34_2 := blk_frozen BK224.out 2; have hfz34_3 := blk_frozen BK224.out 3; have hfz34_4 := blk_frozen BK224.out 4; have p225 : 0 ≤ (0 : Int) := (by omega); have q225 : 0 < (t217.length : Int) := of_decide_eq_true (by first | (with_reducible assumption) | assumption); obtain ⟨ad225, A225_2, c225_2, e225, hx225_0, hx225_1, hx225_2, hl225_2, hi225_2⟩ := at_T80 (Kd.N_reads' HO219.out).2.2 0 p225 q225; cases e225; obtain ⟨ce225, hce225, hMe225, hcc225⟩ := Kd.N_get HO219.out z80 0 p225 (by first | exact q225 | exact of_decide_eq_true (by first | (with_reducible assumption) | assumption) | (have e_ := (Kd.N_reads' HO219.out).1; omega)); obtain ⟨ua225_2, uc225_2, rfl, ul225_2, ge225_2⟩ := k80_openF hMe225; have hv225_2 := hcc225 2 _ rfl; rw [add_field _ _ 2 (by omega)] at hv225_2; replace hv225_2 := Option.some.inj (hv225_2.symm.trans hx225_2); injection hv225_2 with hva_ hvn_ hvc_; rw [hva_] at ge225_2; rw [hvc_] at ul225_2; have HL225_2 := Aside0.mk (show Kd.V (Kd.int .i64) 3 _ w.heap.size _ _ ((rd_T80 t217 0).f2) from Kd.V_mk ul225_2 ge225_2); clear hva_ hvn_ hvc_ ge225_2 ul225_2; clear hcc225 hce225; have qi225 : (0 < t217.length) = True := eq_true (by omega); (try rw [show ((0 : Int)).toNat = 0 from rfl] at hx225_0); (try rw [show 0 * 3 = 0 from rfl] at hx225_0); (try rw [Addr.add_zero'] at hx225_0); (try rw [show ((0 : Int)).toNat = 0 from rfl] at hx225_1); (try rw [show 0 * 3 = 0 from rfl] at hx225_1); (try rw [Addr.add_zero'] at hx225_1); (try rw [show ((0 : Int)).toNat = 0 from rfl] at hx225_2); (try rw [show 0 * 3 = 0 from rfl] at hx225_2); (try rw [Addr.add_zero'] at hx225_2); have HR225_2 := Aside0.mk hi225_2; have HC225_2 := Aside0.mk hl225_2; clear hi225_2 hl225_2; replace p225 := eq_true p225; replace q225 := eq_true q225) | ((with_reducible refine gate_dst (N := 39) rfl ?_); (try (refine gate_guard (by rfl) ?_; dsimp only)); refine Kd.R_lit (Kd.int .i64) _ 3 ?hg (N := 39) ?hd (xs := ([1] : List Int)) (inner := [.int .i64 1]) (ok := fun _ => True) (okp := fun _ => True) ?hr ?hp (fun _ hk => hk) trivial (Below.refl _ _) (Nat.le_refl _) (by simp) ?_; (case hd => rfl); (case hg => rfl); (case hr => first | (go_simp; done) | (go_simp; rfl)); (case hp => exact (Reps.one (show Kd.M (Kd.int .i64) _ _ _ 1 [.int .i64 1] from rfl) (Reps.none _ _))); intro v227 w35 ho36 hb hg_ hnew_; clear hg_ hnew_; (first | rw [← Ny226.out] at ho36 | (simp only [Int.reduceToNat] at ho36; rw [← Ny226.out] at ho36)); have n0_ := Aside0.mk (Kd.R_below (by (with_reducible repeat (first | apply Kd.R_alloc | apply Kd.R_drewN | apply Kd.R_drew)); exact HO176.out) hb); have n1_ := Aside0.mk (Kd.R_below (by (with_reducible repeat (first | apply Kd.R_alloc | apply Kd.R_drewN | apply Kd.R_drew)); exact HO179.out) hb); have n2_ := Aside0.mk (Kd.R_below (by (with_reducible repeat (first | apply Kd.R_alloc | apply Kd.R_drewN | apply Kd.R_drew)); exact HO182.out) hb); have n3_ := Aside0.mk (Kd.N_elder' (by (with_reducible repeat (first | apply Kd.N_alloc | apply Kd.N_drewN | apply Kd.N_drew)); exact HO185.out) (Kd.R_base ho36) hb); have n4_ := Aside0.mk (Kd.R_elder' (by (with_reducible repeat (first | apply Kd.R_alloc | apply Kd.R_drewN | apply Kd.R_drew)); exact HO188.out) (Kd.R_base ho36) hb); have n5_ := Aside0.mk (Kd.R_below (by (with_reducible repeat (first | apply Kd.R_alloc | apply Kd.R_drewN | apply Kd.R_drew)); exact HO191.out) hb); have n6_ := Aside0.mk (Kd.R_below (by (with_reducible repeat (first | apply Kd.R_alloc | apply Kd.R_drewN | apply Kd.R_drew)); exact HO195.out) hb); have n7_ := Aside0.mk (Kd.R_below (by (with_reducible repeat (first | apply Kd.R_alloc | apply Kd.R_drewN | apply Kd.R_drew)); exact HO198.out) hb); have n8_ := Aside0.mk (Kd.R_below (by (with_reducible repeat (first | apply Kd.R_alloc | apply Kd.R_drewN | apply Kd.R_drew)); exact HO201.out) hb); have n9_ := Aside0.mk (Kd.N_elder' (by (with_reducible repeat (first | apply Kd.N_alloc | apply Kd.N_drewN | apply Kd.N_drew)); exact HO204.out) (Kd.R_base ho36) hb); have n10_ := Aside0.mk (Kd.R_elder' (by (with_reducible repeat (first | apply Kd.R_alloc | apply Kd.R_drewN | apply Kd.R_drew)); exact HO207.out) (Kd.R_base ho36) hb); have n11_ := Aside0.mk (Kd.R_below (by (with_reducible repeat (first | apply Kd.R_alloc | apply Kd.R_drewN | apply Kd.R_drew)); exact HO210.out) hb); have n12_ := Aside0.mk (Kd.R_below (by (with_reducible repeat (first | apply Kd.R_alloc | apply Kd.R_drewN | apply Kd.R_drew)); exact HO213.out) hb); have n13_ := Aside0.mk (Kd.R_below (by (with_reducible repeat (first | apply Kd.R_alloc | apply Kd.R_drewN | apply Kd.R_drew)); exact HO216.out) hb); have n14_ := Aside0.mk (Kd.N_elder' (by (with_reducible repeat (first | apply Kd.N_alloc | apply Kd.N_drewN | apply Kd.N_drew)); exact HO219.out) (Kd.R_base ho36) hb); have n15_ := Aside0.mk (Kd.R_elder' (by (with_reducible repeat (first | apply Kd.R_alloc | apply Kd.R_drewN | apply Kd.R_drew)); exact HO222.out) (Kd.R_base ho36) hb); have n16_ := Aside0.mk (Kd.V_elder' (by (with_reducible repeat (first | apply Kd.V_alloc | apply Kd.V_drewN | apply Kd.V_drew)); exact HL225_2.out) (Kd.R_base ho36) hb); have n17_ := Aside0.mk (Kd.R_lower (Kd.R_new' (Kd.R_new' (Kd.R_new' ho36 (Kd.R_lt (by (with_reducible repeat (first | apply Kd.R_alloc | apply Kd.R_drewN | apply Kd.R_drew)); exact HO188.out))) (Kd.R_lt (by (with_reducible repeat (first | apply Kd.R_alloc | apply Kd.R_drewN | apply Kd.R_drew)); exact HO207.out))) (Kd.R_lt (by (with_reducible repeat (first | apply Kd.R_alloc | apply Kd.R_drewN | apply Kd.R_drew)); exact HO222.out))) (below_size (by repeat (first | (with_reducible first | exact HB.out | apply below_alloc | apply pw_below_drewN | apply below_drew1 | refine below_set ?_ GE224.out) | exact HB.out)))); have n18_ := Aside0.mk (blk_below (g := gb224) (o := .cells #[.slice Ao26 t208.length co26, .slice Ao28 t211.length co28, .slice Ao29 t214.length co29, .slice (some ad225) t217.length co30, .slice Ao31 t220.length co31] 27 (0, 0)) (by (with_reducible repeat (first | refine blk_drewN ?_ _ | refine blk_drew ?_ | refine blk_alloc ?_ _)); exact BK224.out) hb); have n19_ := Aside0.mk (Kd.C_below (by repeat (first | (with_reducible exact HR225_2.out) | (with_reducible refine Kd.C_alloc ?_ _) | (with_reducible refine Kd.C_drewN ?_ _) | (with_reducible refine Kd.C_drew ?_) | exact HR225_2.out)) hb); have n20_ := Aside0.mk (below_step (by repeat (first | (with_reducible first | exact HB.out | apply below_alloc | apply pw_below_drewN | apply below_drew1 | refine below_set ?_ GE224.out) | exact HB.out)) hb); clear HO176; clear HO179; clear HO182; clear HO185; clear HO188; clear HO191; clear HO195; clear HO198; clear HO201; clear HO204; clear HO207; clear HO210; clear HO213; clear HO216; clear HO219; clear HO222; clear HL225_2; clear BK224; clear HR225_2; clear HB; have HO176 := n0_; have HO179 := n1_; have HO182 := n2_; have HO185 := n3_; have HO188 := n4_; have HO191 := n5_; have HO195 := n6_; have HO198 := n7_; have HO201 := n8_; have HO204 := n9_; have HO207 := n10_; have HO210 := n11_; have HO213 := n12_; have HO216 := n13_; have HO219 := n14_; have HO222 := n15_; have HL225_2 := n16_; have HO228 := n17_; have BK224 := n18_; have HR225_2 := n19_; have HB := n20_; clear n0_ n1_ n2_ n3_ n4_ n5_ n6_ n7_ n8_ n9_ n10_ n11_ n12_ n13_ n14_ n15_ n16_ n17_ n18_ n19_ n20_; clear hb ho36; obtain ⟨Ao37, co37, eo37⟩ := Kd.R_slice HO228.out; subst eo37) | (go_at_call 18; (with_reducible refine (slices_Equal_int_int.calls k _ _ ((rd_T80 t217 0).f2) _ _ y226 t229 _ ?side1 ?side2 ?side3 ?side4 A10.out).mono ?_); (case side1 => repeat (first | exact (by repeat (first | (with_reducible exact HR225_2.out) | (with_reducible refine Kd.C_alloc ?_ _) | (with_reducible refine Kd.C_drewN ?_ _) | (with_reducible refine Kd.C_drew ?_) | exact HR225_2.out)) | (with_reducible refine Kd.C_alloc ?_ _) | (with_reducible refine Kd.C_drewN ?_ _) | (with_reducible refine Kd.C_drew ?_))); (case side2 => exact HC225_2.out); (case side3 => repeat (first | exact (Kd.R_reads' HO228.out).2.2 | (with_reducible refine Kd.C_alloc ?_ _) | (with_reducible refine Kd.C_drewN ?_ _) | (with_reducible refine Kd.C_drew ?_))); (case side4 => exact (Kd.R_reads' HO228.out).2.1); rintro e w' ⟨rfl, ⟨nd, rfl⟩⟩))
            go_ret
            exact ⟨by first | rfl | (simp [errW_none, errW_some] <;> rfl) | (simp [*, errW_none, errW_some] <;> rfl), by repeat (first | (with_reducible first | exact HB.out | apply below_alloc | apply pw_below_drewN | apply below_drew1 | refine below_set ?_ GE224.out) | exact HB.out)⟩
          · rw [if_neg c9] at H
            exact absurd H (by simp)
        · rw [if_neg c8] at H
          exact absurd H (by simp)
      · rw [if_neg c7] at H
        exact absurd H (by simp)
    · rw [if_neg c6] at H
      exact absurd H (by simp)
  · rw [if_neg c5] at H
    exact absurd H (by simp)
end Go.Proofs.Ytimjccfpobhpeaa.PF
namespace Go.Proofs.Ytimjccfpobhpeaa
open Go.RowKit Go.Proofs.YtimjccfpobhpeaaW.PrintWords Go.Proofs.Ytimjccfpobhpeaa.PF
set_option maxRecDepth 100000
theorem keyLitsF {P : Program} {k e e2 : TypeId} {f0 f1 f2 : Field} (hu : P.underlying k = some (.struct #[f0, f1, f2])) (he : P.underlying e = some (.int .i64)) (he2 : P.underlying e2 = some .bool) (h1 : P.cellsOf k = 3) (h2 : P.cellsOf e = 1) (h3 : P.cellsOf e2 = 1)
    (t0 : f0.type = e) (t1 : f1.type = e) (t2 : f2.type = e2) (o0 : f0.offset = 0) (o1 : f1.offset = 1) (o2 : f2.offset = 2) (hn : (#[f0, f1, f2] : Array Field).all (·.name != "_") = true) (d : Nat) (a b : Int) (c : Bool) (ha : (Lit.int IntKind.i64 a).wf = true) (hb : (Lit.int IntKind.i64 b).wf = true) :
    P.keyLits (d + 2) k [.int .i64 a, .int .i64 b, .bool c] = some [.int .i64 a, .int .i64 b, .bool c] := by
  have one : ∀ x, (Lit.int IntKind.i64 x).wf = true → P.keyLits (d + 1) e [.int .i64 x] = some [.int .i64 x] := fun x hx => by
    simp [Program.keyLits, he, hx]
  have two : P.keyLits (d + 1) e2 [.bool c] = some [.bool c] := by simp [Program.keyLits, he2]
  unfold Program.keyLits
  simp only [hu]
  rw [if_pos ⟨by rw [h1]; rfl, hn⟩]
  simp [t0, t1, t2, o0, o1, o2, h2, h3, one a ha, one b hb, two]
abbrev keyT (f : S29) : Int × Int × Bool := (f.f0, f.f1, f.f2)
theorem keyF_of (a b : Int) (c : Bool) (ha : InK .i64 a) (hb : InK .i64 b) : ∃ l, keyOf Try.prog 29 (.agg #[.int .i64 a, .int .i64 b, .bool c]) = some l := by
  have hk : Try.prog.keyLits (Try.prog.types.size + 1) 29 [.int .i64 a, .int .i64 b, .bool c] = some [.int .i64 a, .int .i64 b, .bool c] := by
    obtain ⟨d, hd⟩ : ∃ d, Try.prog.types.size + 1 = d + 2 := ⟨Try.prog.types.size - 1, by have : 1 ≤ Try.prog.types.size := of_decide_eq_true (by kernel_rfl); omega⟩
    rw [hd]
    exact keyLitsF Try.underlying29 Try.underlying3 Try.underlying4 (by kernel_rfl) (by kernel_rfl) (by kernel_rfl) rfl rfl rfl rfl rfl rfl (by kernel_rfl) d a b c (by simp only [Lit.wf, Bool.and_eq_true, decide_eq_true_eq]; exact ha) (by simp only [Lit.wf, Bool.and_eq_true, decide_eq_true_eq]; exact hb)
  have hkt : Try.prog.keyType 29 = true := by kernel_rfl
  have hc3 : Try.prog.cellsOf 29 = 3 := by kernel_rfl
  unfold keyOf
  rw [Try.underlying29]
  simp only
  rw [if_pos (by simp [hkt, Value.formed, Try.underlying29, hc3])]
  show ∃ l, Option.map _ (Try.prog.keyLits _ _ [.int .i64 a, .int .i64 b, .bool c]) = some l
  rw [hk]
  exact ⟨_, rfl⟩
theorem lawF : Maps.Keyed Try.prog 29 := Maps.Keyed.of_law (deep_law_laid (by kernel_rfl) (m := 2) (by omega) (of_decide_eq_true (by kernel_rfl)) (by kernel_rfl) (by kernel_rfl))
def keyF : KeyEnc Try.prog 29 (Int × Int × Bool) where
  enc := fun k => .agg #[.int .i64 k.1, .int .i64 k.2.1, .bool k.2.2]
  ok := fun k => InK .i64 k.1 ∧ InK .i64 k.2.1
  law := lawF
  key := fun k h => keyF_of _ _ _ h.1 h.2
  inj := fun a b h => by
    obtain ⟨a1, a2, a3⟩ := a
    obtain ⟨b1, b2, b3⟩ := b
    simpa using h
def idxFrom : List S29 → Nat → List ((Int × Int × Bool) × Int)
  | [], _ => []
  | f :: r, n => (keyT f, (n : Int)) :: idxFrom r (n + 1)
theorem idxFrom_snoc (x : S29) : ∀ (l : List S29) (n : Nat), idxFrom (l ++ [x]) n = idxFrom l n ++ [(keyT x, ((n + l.length : Nat) : Int))]
  | [], n => rfl
  | f :: r, n => by
    rw [List.cons_append, idxFrom, idxFrom_snoc x r (n + 1), idxFrom, List.cons_append, List.length_cons]
    rw [show n + 1 + r.length = n + (r.length + 1) by omega]
theorem idxFrom_keys : ∀ (l : List S29) (n : Nat), (idxFrom l n).map (·.1) = l.map keyT
  | [], n => rfl
  | f :: r, n => by rw [idxFrom, List.map_cons, List.map_cons, idxFrom_keys r (n + 1)]
theorem keyT_inj {a b : S29} (h : keyT a = keyT b) : a = b := by
  obtain ⟨a0, a1, a2⟩ := a
  obtain ⟨b0, b1, b2⟩ := b
  simp only [keyT, Prod.mk.injEq] at h
  obtain ⟨rfl, rfl, rfl⟩ := h
  rfl
theorem eqF_keyT (a b : S29) : eqF a b = decide (keyT b = keyT a) := by
  rw [Bool.eq_iff_iff]
  unfold eqF keyT
  simp only [Bool.and_eq_true, decide_eq_true_eq, beq_iff_eq, Prod.mk.injEq]
  constructor
  · rintro ⟨⟨h0, h1⟩, h2⟩
    exact ⟨h0.symm, h1.symm, h2.symm⟩
  · rintro ⟨h0, h1, h2⟩
    exact ⟨⟨h0.symm, h1.symm⟩, h2.symm⟩
theorem idxFrom_get (t : S29) : ∀ (l : List S29) (n : Nat), mget (idxFrom l n) (keyT t) = (l.findIdx? (eqF t)).map fun j => ((n + j : Nat) : Int)
  | [], n => rfl
  | f :: r, n => by
    rw [idxFrom, mget, List.findIdx?_cons, eqF_keyT]
    by_cases h : keyT f = keyT t
    · rw [if_pos h, decide_eq_true h]
      rfl
    · rw [if_neg h, decide_eq_false h, idxFrom_get t r (n + 1)]
      simp only [Bool.false_eq_true, if_false, Option.map_map]
      congr 1
      funext j
      simp only [Function.comp]
      congr 1
      omega
theorem idx_put {l : List S29} (hn : l.Nodup) {i : Nat} {f : S29} (hf : l[i]? = some f) : mput (idxFrom (l.take i) 0) (keyT f) (i : Int) = idxFrom (l.take (i + 1)) 0 := by
  have hi : i < l.length := (List.getElem?_eq_some_iff.1 hf).1
  rw [List.take_add_one, hf, Option.toList_some, idxFrom_snoc, List.length_take, Nat.min_eq_left (Nat.le_of_lt hi), Nat.zero_add, mput_new]
  intro p hp e
  have h1 : p.1 ∈ (l.take i).map keyT := by rw [← idxFrom_keys (l.take i) 0]; exact List.mem_map_of_mem (f := (·.1)) hp
  obtain ⟨x, hx, hxk⟩ := List.mem_map.1 h1
  have hxf : x = f := keyT_inj (hxk.trans e)
  subst hxf
  obtain ⟨j, hj⟩ := List.getElem?_of_mem hx
  rw [List.getElem?_take] at hj
  split at hj
  · rename_i hji
    have := (List.getElem?_inj (by omega) hn).1 (hj.trans hf.symm)
    omega
  · cases hj
end Go.Proofs.Ytimjccfpobhpeaa
namespace Go.Proofs.Ytimjccfpobhpeaa
open Go.RowKit Go.Proofs.YtimjccfpobhpeaaW.PrintWords Go.Proofs.Ytimjccfpobhpeaa.PF Go.Proofs.Ytimjccfpobhpeaa.Union
set_option maxRecDepth 100000
def But.grown {w : World} {G : Nat → Prop} (x : But w G) {w1 : World} {row : Option Nat} (hg : x.val.grownBy w1 row) (hr : ∀ k, row = some k → G k) : But w G :=
  ⟨w1, hg.os.trans x.os, hg.tape.trans x.tape, hg.output.trans x.output, Nat.le_trans x.size hg.size, fun k hk hG => (hg.block k (Nat.lt_of_lt_of_le hk x.size) (fun e => hG (hr k e.symm))).trans (x.block k hk hG)⟩
def But.trans {w : World} {G : Nat → Prop} (x : But w G) (y : But x.val G) : But w G :=
  ⟨y.val, y.os.trans x.os, y.tape.trans x.tape, y.output.trans x.output, Nat.le_trans x.size y.size, fun k hk hG => (y.block k (Nat.lt_of_lt_of_le hk x.size) hG).trans (x.block k hk hG)⟩
def joinTo (a b : Int) (l : List Int) (i : Nat) : List Int := (joinL a b l).take i ++ l.drop i
theorem joinL_len (a b : Int) (l : List Int) : (joinL a b l).length = l.length := by unfold joinL; rw [List.length_map]
theorem joinTo_zero (a b : Int) (l : List Int) : joinTo a b l 0 = l := rfl
theorem joinTo_all (a b : Int) (l : List Int) : joinTo a b l l.length = joinL a b l := by
  unfold joinTo
  rw [List.drop_length, List.append_nil, List.take_of_length_le (by rw [joinL_len]; exact Nat.le_refl _)]
theorem joinTo_at {a b : Int} {l : List Int} {i : Nat} (h : i < l.length) : (joinTo a b l i)[i]? = l[i]? := by
  unfold joinTo
  rw [List.getElem?_append_right (by rw [List.length_take]; omega), List.length_take, joinL_len, List.getElem?_drop]
  congr 1
  omega
theorem joinTo_succ {a b x : Int} {l : List Int} {i : Nat} (hx : l[i]? = some x) : joinTo a b l (i + 1) = if x = max a b then (joinTo a b l i).set i (min a b) else joinTo a b l i := by
  have h : i < l.length := (List.getElem?_eq_some_iff.1 hx).1
  have hj : (joinL a b l)[i]? = some (if x = max a b then min a b else x) := by unfold joinL; rw [List.getElem?_map, hx]; rfl
  have hd : l.drop i = x :: l.drop (i + 1) := drop_cons hx
  have hl : ((joinL a b l).take i).length = i := by rw [List.length_take, joinL_len]; omega
  unfold joinTo
  rw [List.take_add_one, hj, hd, List.append_assoc, Option.toList_some, List.singleton_append]
  split
  · rw [List.set_append_right _ _ (by omega), hl, Nat.sub_self, List.set_cons_zero]
  · rfl
set_option maxHeartbeats 4000000 in
theorem join_calls (g B n gv cv : Nat) (i j : Nat) (ca cb : Int) (l : List Int) (w : World) (hb : w.heap[g]? = some (.cells #[.slice (some ⟨gv, 0, none⟩) n cv] 25 (0, 0))) (hn : l.length = n) (hn2 : (n : Int) ≤ 9223372036854775807)
    (hR : Kd.R (Kd.int .i64) 3 w B (fun _ => True) (.slice (some ⟨gv, 0, none⟩) n cv) l) (hi : l[i]? = some ca) (hj : l[j]? = some cb) :
    Calls Try.prog 42 #[.int .i64 i, .int .i64 j, .pointer (some ⟨g, 0, none⟩)] w fun e w' => e = .returned (.tuple #[]) ∧
      ∃ z : But w (fun k => k = gv), w' = z.val ∧ Kd.R (Kd.int .i64) 3 z.val B (fun _ => True) (.slice (some ⟨gv, 0, none⟩) n cv) (joinL ca cb l) := by
  have hil : i < n := by rw [← hn]; exact (List.getElem?_eq_some_iff.1 hi).1
  have hjl : j < n := by rw [← hn]; exact (List.getElem?_eq_some_iff.1 hj).1
  have lg := (Array.getElem?_eq_some_iff.1 hb).1
  have cg : w.cell? ⟨g, 0, none⟩ = some (.slice (some ⟨gv, 0, none⟩) n cv) := (cell_of_row _ _ 0 _ _ _ hb).trans rfl
  have lv : gv < w.heap.size := Kd.R_lt hR gv (by simp [Value.ownBlock])
  have hne : g ≠ gv := by
    rintro rfl
    obtain ⟨cs, hc⟩ := Kd.R_typed hR g (by simp [Value.ownBlock])
    rw [hb] at hc
    injection hc with hc
    injection hc with _ hc
    exact absurd hc (by decide)
  have rdE : ∀ {W : World} {l' : List Int} {k : Nat} {x : Int}, Kd.R (Kd.int .i64) 3 W B (fun _ => True) (.slice (some ⟨gv, 0, none⟩) n cv) l' → l'[k]? = some x → W.cell? ⟨gv, k, none⟩ = some (.int .i64 x) ∧ W.frozen? ⟨gv, k, none⟩ = false := by
    intro W l' k x hR hk
    have hl : l'.length = n := (Kd.R_reads' hR).1.symm
    have hkl : k < l'.length := (List.getElem?_eq_some_iff.1 hk).1
    have h := Kd.R_celln (0 : Int) hR (k : Int) (by omega) (by omega)
    have e : rdOf 0 l' (k : Int) = x := by simp [rdOf, hk]
    rw [e, Int.toNat_natCast] at h
    exact h
  have ci := (rdE hR hi).1
  have cj := (rdE hR hj).1
  have hR0 := Lib.hid hR
  have hnh := Lib.hid hn
  clear hi hj hb hR hn
  go_enter Try.func42, Try.ntmps42
  go_wp2
  refine wp_region_under (by kernel_rfl) (by kernel_rfl) ?_
  repeat (go_big_quiet_step (fail))
  refine wpQuiet_nil ?_
  rintro _ ⟨v, rfl⟩
  have hvs := v.size
  go_wp2
  go_loopg [5, 6, 17] n (fun d _ _ t wr => ∃ (k : Nat) (z : But v.val (fun k => k = gv)), t = .int .i64 k ∧ wr = z.val ∧ Aside (k + d = n) ∧ Kd.R (Kd.int .i64) 3 z.val B (fun _ => True) (.slice (some ⟨gv, 0, none⟩) n cv) (joinTo ca cb l k))
  case atStart => exact ⟨0, But.refl _ _, rfl, rfl, by show 0 + n = n; omega, by rw [joinTo_zero]; exact Kd.R_below hR0.out v.ok⟩
  case round =>
    obtain ⟨k, z, rfl, rfl, hk, hR⟩ := hrel
    have hzs := z.size
    by_cases hlt : k < n
    · obtain ⟨x, hx⟩ := get_ex (xs := l) (i := k) (by rw [hnh.out]; exact hlt)
      obtain ⟨gk, rfl⟩ : ∃ m, gk = m + 1 := ⟨gk - 1, by have := hk.out; omega⟩
      obtain ⟨ck, fk⟩ := rdE hR ((joinTo_at (a := ca) (b := cb) (by rw [hnh.out]; exact hlt)).trans hx)
      have hs := joinTo_succ (a := ca) (b := cb) hx
      have hxh := Lib.hid hx
      have hkh := Lib.hid hk.out
      clear hx hk
      have hgv : gv < z.val.heap.size := by omega
      by_cases hm : x = max ca cb
      · rw [if_pos hm] at hs
        have hP := fun val : Int => Kd.R_putg hR (k : Int) val
        simp only [Int.toNat_natCast] at hP
        have hPh := Lib.hid hP
        have hsh := Lib.hid hs
        clear hs hP hR
        go_wp2
        all_goals
          go_roundg gk
          case measure => have := hkh.out; omega
          case rel =>
            refine ⟨k + 1, z.grown (hPh.out _).2 (fun j hj => by injection hj with hj; exact hj.symm), by go_num, rfl, by show k + 1 + gk = n; have := hkh.out; omega, ?_⟩
            rw [hsh.out]
            have e := (hPh.out (min ca cb)).1
            have e2 : ∀ q : Int, q = min ca cb → Kd.R (Kd.int .i64) 3 (z.val.setCell ⟨gv, k, none⟩ (.int .i64 q)) B (fun _ => True) (.slice (some ⟨gv, 0, none⟩) n cv) ((joinTo ca cb l k).set k (min ca cb)) := fun q hq => by rw [hq]; exact e
            exact e2 _ (by omega)
      · rw [if_neg hm] at hs
        have hsh := Lib.hid hs
        clear hs
        go_wp2
        all_goals
          go_roundg gk
          case measure => have := hkh.out; omega
          case rel => exact ⟨k + 1, z, by go_num, rfl, by show k + 1 + gk = n; have := hkh.out; omega, by rw [hsh.out]; exact hR⟩
    · obtain rfl : k = n := by have := hk.out; omega
      go_wp2
      go_end0
      refine ⟨rfl, ((But.refl w _).under v).trans z, rfl, ?_⟩
      rw [← hnh.out, joinTo_all] at hR
      rw [hnh.out] at hR
      exact hR
end Go.Proofs.Ytimjccfpobhpeaa
namespace Go.Proofs.Ytimjccfpobhpeaa
open Go.RowKit Go.Proofs.YtimjccfpobhpeaaW.PrintWords Go.Proofs.Ytimjccfpobhpeaa.PF Go.Proofs.Ytimjccfpobhpeaa.Union
open Go.ChangeMaps (setBlock)
set_option maxRecDepth 100000
theorem kd_faultC {w : World} {A : Option Addr} {n : Nat} {xs : List S29} (h : Kd.C k29 w A n xs) {i : Nat} {x : S29} (hx : xs[i]? = some x) :
    ∃ b o, A = some ⟨b, o, none⟩ ∧ b < w.heap.size ∧ w.cell? ⟨b, o + i * 3, none⟩ = some (.int .i64 x.f0) ∧ w.cell? ⟨b, o + i * 3 + 1, none⟩ = some (.int .i64 x.f1) ∧ w.cell? ⟨b, o + i * 3 + 2, none⟩ = some (.bool x.f2) := by
  obtain ⟨b, o, cs, rfl, hb, _, hK, hc⟩ := kd_at h (by decide) hx
  have hK := k29_open hK
  subst hK
  exact ⟨b, o, rfl, hb, hc 0 _ rfl, by have := hc 1 _ rfl; rwa [← Nat.add_assoc] at this, by have := hc 2 _ rfl; rwa [← Nat.add_assoc] at this⟩
theorem made_form {α : Type} {d : Kd α} {e : Nat} {w : World} {base : Nat} {ok : Nat → Prop} {v : Value} {xs : List α} {B : Nat} (h : Kd.R d e w base ok v xs) (hf : ∃ b, v.ownBlock = some b ∧ B ≤ b) : ∃ g cap, v = .slice (some ⟨g, 0, none⟩) xs.length cap ∧ B ≤ g := by
  obtain ⟨b, hb, hl⟩ := hf
  obtain ⟨inner, h1, h2⟩ := Kd.R_own h
  rcases h2 with ⟨rfl, h0⟩ | ⟨g, cap, cur, rfl, _⟩
  · simp [Value.ownBlock] at hb
  · refine ⟨g, cap, rfl, ?_⟩
    simp only [Value.ownBlock, Option.some.injEq] at hb
    rw [hb]
    exact hl
theorem R_but {w : World} {G : Nat → Prop} {base : Nat} {v : Value} {xs : List Int} (x : But w G) (h : Kd.R (Kd.int .i64) 3 w base (fun _ => True) v xs) (hG : ∀ k, v.ownBlock = some k → ¬ G k) : Kd.R (Kd.int .i64) 3 x.val base (fun _ => True) v xs :=
  Kd.R_mono (Kd.R_step (Kd.R_tight rfl h) (fun k hk hl => x.block k hl (hG k hk.symm))) (fun _ _ => trivial)
theorem set_range {n : Nat} (i : Nat) (h : i < n) : ((List.range i).map (fun j : Nat => (j : Int)) ++ List.replicate (n - i) 0).set i (i : Int) = (List.range (i + 1)).map (fun j : Nat => (j : Int)) ++ List.replicate (n - (i + 1)) 0 := by
  rw [show n - i = (n - (i + 1)) + 1 by omega, List.replicate_succ, List.set_append_right _ _ (by simp), List.range_succ, List.map_append, List.append_assoc]
  simp
theorem lead_not {rows : List (List Load)} {l0 : List ByteArray} {l2 : List S82} {l3 : List S80} {list : List S29} {i : Nat} {f : S29} {fn : Nat} {row : List Load} (hf : list[i]? = some f) (hfn : f.f0 = (fn : Int)) (hrow : rows[fn]? = some row) (h : ¬ row.length = 1) : leadR rows l0 l2 l3 list i = none := by
  unfold leadR targetR
  rw [hf, Option.bind_some, hfn, Int.toNat_natCast, hrow]
  match row, h with
  | [], _ => rfl
  | [_], h => exact absurd rfl h
  | _ :: _ :: _, _ => rfl
theorem lead_one {rows : List (List Load)} {l0 : List ByteArray} {l2 : List S82} {l3 : List S80} {list : List S29} {i : Nat} {f : S29} {fn : Nat} {x : Load} (hf : list[i]? = some f) (hfn : f.f0 = (fn : Int)) (hrow : rows[fn]? = some [x]) : leadR rows l0 l2 l3 list i = (targetAt l0 l2 l3 f.f2 x).bind fun t => list.findIdx? (eqF t) := by
  unfold leadR targetR
  rw [hf, Option.bind_some, hfn, Int.toNat_natCast, hrow]
theorem kd_gateC {w : World} {A : Option Addr} {n : Nat} {xs : List S80} (h : Kd.C k80 w A n xs) {i : Nat} {x : S80} (hx : xs[i]? = some x) :
    ∃ b o A2 c2, A = some ⟨b, o, none⟩ ∧ b < w.heap.size ∧ w.cell? ⟨b, o + i * 3, none⟩ = some (.int .i64 x.f0) ∧ w.cell? ⟨b, o + i * 3 + 1, none⟩ = some (.int .u64 x.f1) ∧ w.cell? ⟨b, o + i * 3 + 2, none⟩ = some (.slice A2 x.f2.length c2) ∧ x.f2.length ≤ c2 ∧ Kd.C (Kd.int .i64) w A2 x.f2.length x.f2 := by
  obtain ⟨b, o, cs, rfl, hb, _, hK, hc⟩ := kd_at h (by exact Nat.succ_pos _) hx
  obtain ⟨A2, c2, rfl, hl, hC⟩ := k80_open hK
  exact ⟨b, o, A2, c2, rfl, hb, hc 0 _ rfl, by have := hc 1 _ rfl; rwa [← Nat.add_assoc] at this, by have := hc 2 _ rfl; rwa [← Nat.add_assoc] at this, hl, hC⟩
def But.wide {w : World} {G G' : Nat → Prop} (x : But w G) (h : ∀ k, G k → G' k) : But w G' := ⟨x.val, x.os, x.tape, x.output, x.size, fun k hk hG => x.block k hk (fun e => hG (h k e))⟩
set_option maxHeartbeats 16000000 in
theorem classes_walk (A0 A1 A2 A3 A4 : Option Addr) (n0 n1 n2 n4 c0 c1 c2 c3 c4 : Nat) (l0 : List ByteArray) (l2 : List S82) (l3 : List S80) (w : World) (list : List S29) (rows : List (List Load))
    (h3 : Kd.C k80 w A3 l3.length l3) (hnd : list.Nodup) (hll : list.length * 8 ≤ 281474976710656) (hfit : 2 + l0.length + l2.length + l3.length ≤ 1000000000)
    (hin : ∀ f ∈ list, 0 ≤ f.f0 ∧ f.f0 < rows.length ∧ InK .i64 f.f0 ∧ InK .i64 f.f1)
    (hgt : ∀ f ∈ list, ∀ x, rows[f.f0.toNat]? = some [x] → x.f0 = 0 → 0 ≤ x.f1 ∧ x.f1 < l3.length)
    (HL : ∀ W, Below w.heap.size w W → Calls Try.prog 14 #[.agg #[.slice A0 n0 c0, .slice A1 n1 c1, .slice A2 n2 c2, .slice A3 l3.length c3, .slice A4 n4 c4]] W fun e w' => ∃ v, e = .returned (.tuple #[v, .int .i64 0]) ∧ Kd.R k29 29 w' W.heap.size (fun _ => True) v list ∧ Below W.heap.size W w')
    (HM : ∀ W, Below w.heap.size w W → Calls Try.prog 27 #[.agg #[.slice A0 n0 c0, .slice A1 n1 c1, .slice A2 n2 c2, .slice A3 l3.length c3, .slice A4 n4 c4]] W fun e w' => ∃ v, e = .returned (.tuple #[v, .int .i64 0]) ∧ Kd.S (Kd.slice 77 kLoad) 75 w' W.heap.size (fun _ => True) v rows ∧ Below W.heap.size W w')
    (HI : ∀ W, Below w.heap.size w W → Calls Try.prog 32 #[.agg #[.slice A0 n0 c0, .slice A1 n1 c1, .slice A2 n2 c2, .slice A3 l3.length c3, .slice A4 n4 c4]] W fun e w' => e = .returned (.int .i64 (2 + (l0.length : Int) + l2.length)) ∧ Below W.heap.size W w')
    (HX : ∀ f ∈ list, ∀ x, rows[f.f0.toNat]? = some [x] → x.f0 = 0 → ∀ g, l3[x.f1.toNat]? = some g → ∀ A c W, Kd.C (Kd.int .i64) W A g.f2.length g.f2 → g.f2.length ≤ c →
      Calls Try.prog 43 #[.agg #[.int .i64 g.f0, .int .u64 g.f1, .slice A g.f2.length c], .int .i64 x.f2, .bool f.f2] W fun e w' => e = .returned (.int .i64 (fixV g.f1 x.f2 f.f2 (2 ^ g.f2.length))) ∧ Below W.heap.size W w') :
    Calls Try.prog 15 #[.agg #[.slice A0 n0 c0, .slice A1 n1 c1, .slice A2 n2 c2, .slice A3 l3.length c3, .slice A4 n4 c4]] w fun e w' => ∃ v, e = .returned (.tuple #[v, .int .i64 0]) ∧
      Kd.R (Kd.int .i64) 3 w' w.heap.size (fun _ => True) v (clsL (leadR rows l0 l2 l3 list) list.length list.length) ∧ Below w.heap.size w w' := by
  have hu := Try.underlying27
  have huF := Try.underlying29
  have huL := Try.underlying77
  have huG := Try.underlying80
  have huI := Try.underlying25
  have hmm := @run_makeMap Try.prog
  have hz : ∀ W, (zeroValue 3).run Try.prog W = .ok (.int .i64 0) W := fun W => by kernel_rfl
  obtain ⟨wN, hwN⟩ : ∃ wN, w.alloc (.cells #[.slice A0 n0 c0, .slice A1 n1 c1, .slice A2 n2 c2, .slice A3 l3.length c3, .slice A4 n4 c4] 27) = wN := ⟨_, rfl⟩
  have hW0 : Below w.heap.size w wN := hwN ▸ (Below.refl _ _).alloc (Nat.le_refl _) _
  have hNs : w.heap.size + 1 = wN.heap.size := by rw [← hwN]; simp
  have hNl : w.heap.size < wN.heap.size := by omega
  have bel : ∀ x : Under wN, Below w.heap.size w x.val := fun x => hW0.trans (x.ok.mono (by omega))
  have cN : ∀ j, wN.cell? ⟨w.heap.size, j, none⟩ = (#[Value.slice A0 n0 c0, .slice A1 n1 c1, .slice A2 n2 c2, .slice A3 l3.length c3, .slice A4 n4 c4])[j]? := fun j => by
    rw [← hwN]
    exact cell_of_row _ _ j _ _ _ (heap_alloc_new w _)
  have cN0 := (cN 0).trans rfl
  have cN1 := (cN 1).trans rfl
  have cN2 := (cN 2).trans rfl
  have cN3 := (cN 3).trans rfl
  have cN4 := (cN 4).trans rfl
  simp at cN0 cN1 cN2 cN3 cN4
  clear cN
  go_enter Try.func15, Try.ntmps15
  go_wp2_with (first
    | (go_at_call 14; refine (HL _ hW0).mono ?_; rintro e w1 ⟨vL, rfl, hR1, hB1⟩; obtain ⟨x1, rfl⟩ : ∃ x : Under wN, w1 = x.val := ⟨⟨w1, hB1⟩, rfl⟩; clear hB1; obtain ⟨AL, cL, rfl, _, hL1⟩ := Kd.R_reads hR1)
    | (go_at_call 27; refine (HM _ (bel x1)).mono ?_; rintro e w2 ⟨vR, rfl, hR2, hB2⟩; obtain ⟨x2, rfl⟩ : ∃ x : Under x1.val, w2 = x.val := ⟨⟨w2, hB2⟩, rfl⟩; clear hB2; obtain ⟨AR, cR, rfl, _, hR2⟩ := Kd.S_reads hR2)
    | ((with_reducible refine gate_dst (N := 35) rfl ?_); refine Kd.R_make (Kd.int .i64) (w0 := w) w.heap.size 3 rfl (N := 35) rfl 25 (.tmp 34) (.tmp 34) rfl (list.length : Int) rfl rfl Try.underlying25 (.int .i64 0) 8 (by kernel_rfl) rfl (by exact Nat.succ_pos _) (by decide) 0 (ok := fun _ => True) (okp := fun _ => False) rfl (fun _ h => h.elim) trivial (by omega) (by simp; omega) (((bel x1).trans (x2.ok.mono ((bel x1).size))).alloc (Nat.le_trans (bel x1).size x2.size) _) (Nat.le_trans (Nat.le_trans (bel x1).size x2.size) (by simp)) ?_; intro v3 w3 hR3 hB3 hg3 hf3; obtain ⟨gv, cv, rfl, hgv⟩ := made_form hR3 hf3; rw [Int.toNat_natCast] at hR3; simp only [List.length_replicate, Int.toNat_natCast]))
  have e3 := hg3.size
  have e3' : x2.val.heap.size < w3.heap.size := by simp at e3; omega
  have egv : x2.val.heap.size < gv := by simp at hgv; omega
  have lgv : gv < w3.heap.size := Kd.R_lt hR3 gv (by simp [Value.ownBlock])
  obtain ⟨y, hy⟩ : ∃ y, w3.alloc (.cells #[.slice (some ⟨gv, 0, none⟩) list.length cv] 25) = y := ⟨_, rfl⟩
  have hyb : ∀ k, k < x2.val.heap.size → y.heap[k]? = x2.val.heap[k]? := fun k hk => by
    rw [← hy, Below.heap_alloc w3 _ k (by omega), hg3.block k (by simp; omega) (by simp), Below.heap_alloc _ _ k hk]
  have hys : y.heap.size = w3.heap.size + 1 := by rw [← hy]; simp
  have hyc : y.cell? ⟨w3.heap.size, 0, none⟩ = some (.slice (some ⟨gv, 0, none⟩) list.length cv) := by rw [← hy]; exact (cell_of_row _ _ 0 _ _ _ (heap_alloc_new w3 _)).trans rfl
  have hyB : y.heap[w3.heap.size]? = some (.cells #[.slice (some ⟨gv, 0, none⟩) list.length cv] 25 (0, 0)) := by rw [← hy]; exact heap_alloc_new w3 _
  have hyR : Kd.R (Kd.int .i64) 3 y w.heap.size (fun _ => True) (.slice (some ⟨gv, 0, none⟩) list.length cv) (List.replicate list.length 0) := by
    rw [List.length_replicate] at hR3
    rw [← hy]
    exact Kd.R_below hR3 ((Below.refl _ _).alloc (Nat.le_refl _) _)
  have hyM : MapAt keyF (Value.int .i64) y x2.val.heap.size (idxFrom (list.take 0) 0) := by
    have h0 := MapAt.made (E := keyF) (ev := Value.int .i64) x2.val
    have h1 := h0.step (w1 := w3) (hg3.block _ (by simp) (by simp))
    rw [← hy]
    exact h1.step (Below.heap_alloc w3 _ _ (by omega))
  have hyW : Below w.heap.size w y := by rw [← hy]; exact hB3.alloc (by have := (bel x1).size; have := x2.size; omega) _
  have hx1 := x1.size
  have hx2 := x2.size
  have rd2 : ∀ {z : World} {b o : Nat} {v : Value}, (∃ x : But y (fun k => k = x2.val.heap.size ∨ k = gv), z = x.val) → x2.val.cell? ⟨b, o, none⟩ = some v → b < x2.val.heap.size → z.cell? ⟨b, o, none⟩ = some v := by
    rintro z b o v ⟨x, rfl⟩ hc hb
    exact (x.cell b o (by omega) (by omega)).trans ((World.cell?_of_block (a := ⟨b, o, none⟩) (hyb b hb)).trans hc)
  have rd1 : ∀ {b o : Nat} {v : Value}, x1.val.cell? ⟨b, o, none⟩ = some v → b < x1.val.heap.size → x2.val.cell? ⟨b, o, none⟩ = some v := fun hc hb => (x2.cell _ _ hb).trans hc
  have rd0 : ∀ {b o : Nat} {v : Value}, wN.cell? ⟨b, o, none⟩ = some v → b < wN.heap.size → x2.val.cell? ⟨b, o, none⟩ = some v := fun hc hb => rd1 ((x1.cell _ _ hb).trans hc) (by omega)
  have hmL := (kd_len hL1).2
  clear hR1 hf3 hB3 hg3 hgv hR3
  generalize hbm : x2.val.heap.size = bm at *
  generalize hg9 : w3.heap.size = g9 at *
  go_loopg [10, 11, 38] list.length (fun d _ _ t wr => ∃ (i : Nat) (z : But y (fun k => k = bm ∨ k = gv)), t = .int .i64 i ∧ wr = z.val ∧ Aside (i + d = list.length) ∧ MapAt keyF (Value.int .i64) z.val bm (idxFrom (list.take i) 0) ∧
    Kd.R (Kd.int .i64) 3 z.val w.heap.size (fun _ => True) (.slice (some ⟨gv, 0, none⟩) list.length cv) ((List.range i).map (fun j : Nat => (j : Int)) ++ List.replicate (list.length - i) 0))
  case atStart => exact ⟨0, But.refl _ _, rfl, hy, by show 0 + list.length = list.length; omega, hyM, hyR⟩
  case round =>
    clear hyM hyR
    obtain ⟨i, z, rfl, rfl, hi, hM, hR⟩ := hrel
    have hzs := z.size
    by_cases hlt : i < list.length
    · obtain ⟨f, hf⟩ := get_ex hlt
      obtain ⟨b, ob, rfl, hb, hk0, hk1, hk2⟩ := kd_faultC hL1 hf
      obtain ⟨gO, rfl⟩ : ∃ m, gk = m + 1 := ⟨gk - 1, by have := hi.out; omega⟩
      have q0 := rd2 ⟨z, rfl⟩ (rd1 hk0 hb) (by omega)
      have q1 := rd2 ⟨z, rfl⟩ (rd1 hk1 hb) (by omega)
      have q2 := rd2 ⟨z, rfl⟩ (rd1 hk2 hb) (by omega)
      have hbz : b < z.val.heap.size := by omega
      have hbn : b ≠ z.val.heap.size := by omega
      have hgz : g9 < z.val.heap.size := by omega
      have hgn : g9 ≠ z.val.heap.size := by omega
      have hn1 : ¬ z.val.heap.size = bm := by omega
      have hn2 : ¬ z.val.heap.size = gv := by omega
      have hn3 : ¬ g9 = bm := by omega
      have hn4 : ¬ g9 = gv := by omega
      have q9 := (z.cell g9 0 (by omega) (by omega)).trans hyc
      have hih := Lib.hid hi.out
      have hfh := Lib.hid hf
      clear hi hf
      have hok : keyF.ok (keyT f) := ⟨(hin f (List.mem_of_getElem? hfh.out)).2.2.1, (hin f (List.mem_of_getElem? hfh.out)).2.2.2⟩
      have hup0 := run_mapStore (hM.is (((Is.refl _).alloc (.cells #[.int .i64 f.f0, .int .i64 f.f1, .bool f.f2] 29)).drew)) Try.underlying97 hok (i : Int)
      obtain ⟨ob2, hup1, hM2⟩ := hup0
      have hup : (Instr.mapUpdate 97 (.map (some bm)) (.agg #[.int .i64 f.f0, .int .i64 f.f1, .bool f.f2]) (.int .i64 i)).run Try.prog (z.val.alloc (.cells #[.int .i64 f.f0, .int .i64 f.f1, .bool f.f2] 29)).drew = .ok () (setBlock (z.val.alloc (.cells #[.int .i64 f.f0, .int .i64 f.f1, .bool f.f2] 29)).drew bm ob2) := hup1
      have hRs := R_but ((((But.refl z.val (fun k => k = bm)).alloc (.cells #[.int .i64 f.f0, .int .i64 f.f1, .bool f.f2] 29)).drew).set bm rfl ob2) hR (fun k hk => by simp only [Value.ownBlock, Option.some.injEq] at hk; omega)
      have hRs : Kd.R (Kd.int .i64) 3 (setBlock (z.val.alloc (.cells #[.int .i64 f.f0, .int .i64 f.f1, .bool f.f2] 29)).drew bm ob2) w.heap.size (fun _ => True) (.slice (some ⟨gv, 0, none⟩) list.length cv) ((List.range i).map (fun j : Nat => (j : Int)) ++ List.replicate (list.length - i) 0) := hRs
      have hcs := Kd.R_celln (0 : Int) hRs (i : Int) (by omega) (by omega)
      rw [Int.toNat_natCast] at hcs
      have hcs1 := hcs.1
      have hcs2 := hcs.2
      have hMh := Lib.hid hM2
      have hRh := Lib.hid hRs
      clear hup1 hM2 hRs hcs hR hM
      go_wp2
      refine wp_region_splitT (fun w' => ∃ x : But (z.val.alloc (.cells #[.int .i64 f.f0, .int .i64 f.f1, .bool f.f2] 29)) (fun k => k = bm ∨ k = gv), w' = x.val) [true, true, true, true, true, true, false, false, false] (by kernel_rfl) (by kernel_rfl) (by decide) ⟨(But.refl _ _).drew, rfl⟩ (fun _ _ d _ _ h => by cases d <;> exact h) ?_
      simp only [pickB, dropB]
      repeat (go_big_quiet_step (fail))
      refine wpQuiet_nil ?_
      refine wpListT_step (fun Q' hQ' => ?_)
      go_wp2_with fail
      refine ⟨⟨((But.refl _ _).drew).set bm (.inl rfl) ob2, rfl⟩, ?_⟩
      refine wpListT_step (fun Q' hQ' => ?_)
      go_wp2_with fail
      refine ⟨⟨((But.refl _ _).drew).set bm (.inl rfl) ob2, rfl⟩, ?_⟩
      refine wpListT_last (fun Q' hQ' => ?_)
      go_wp2_with fail
      have hPh := Lib.hid (Kd.R_putg hRh.out (i : Int) (i : Int))
      rw [Int.toNat_natCast] at hPh
      go_roundg gO
      case measure => have := hih.out; omega
      case rel =>
        refine ⟨i + 1, ((((But.refl y (fun k => k = bm ∨ k = gv)).trans z).alloc _).drew.set bm (.inl rfl) ob2).grown hPh.out.2 (fun j hj => by injection hj with hj; exact .inr hj.symm), by go_num, rfl, by show i + 1 + gO = list.length; have := hih.out; omega, ?_, ?_⟩
        · have h1 := hMh.out.step (Below.heap_setCell _ ⟨gv, i, none⟩ (.int .i64 i) bm (by show bm ≠ gv; omega))
          rw [← idx_put hnd hfh.out]
          exact h1
        · have h1 := hPh.out.1
          rw [set_range i (by omega)] at h1
          exact h1
    · obtain rfl : i = list.length := by have := hi.out; omega
      rw [Nat.sub_self, List.replicate_zero, List.append_nil] at hR
      rw [List.take_length] at hM
      clear hlt hi
      have hML := Lib.hid hM
      have hRL := Lib.hid hR
      clear hM hR
      go_wp2
      clear hzs
      go_loopg [13, 14, 15, 16, 17, 18, 54] list.length (fun d _ _ _ _ _ _ t wr => ∃ (i : Nat) (z : But y (fun k => k = bm ∨ k = gv)), t = .int .i64 i ∧ wr = z.val ∧ Aside (i + d = list.length) ∧ MapAt keyF (Value.int .i64) z.val bm (idxFrom list 0) ∧
        Kd.R (Kd.int .i64) 3 z.val w.heap.size (fun _ => True) (.slice (some ⟨gv, 0, none⟩) list.length cv) (clsL (leadR rows l0 l2 l3 list) list.length i))
      case atStart => exact ⟨0, z, rfl, rfl, by show 0 + list.length = list.length; omega, hML.out, by rw [clsL_zero]; exact hRL.out⟩
      case round =>
        clear hML hRL z
        obtain ⟨i, z, rfl, rfl, hi, hM, hR⟩ := hrel
        have hzs := z.size
        by_cases hlt : i < list.length
        · obtain ⟨f, hf⟩ := get_ex hlt
          obtain ⟨b, ob, rfl, hb, hk0, hk1, hk2⟩ := kd_faultC hL1 hf
          obtain ⟨gO, rfl⟩ : ∃ m, gk = m + 1 := ⟨gk - 1, by have := hi.out; omega⟩
          obtain ⟨hf0, hf1, hf2, hf3⟩ := hin f (List.mem_of_getElem? hf)
          obtain ⟨fn, hfn⟩ : ∃ fn : Nat, f.f0 = (fn : Int) := ⟨f.f0.toNat, by omega⟩
          obtain ⟨row, hrow⟩ := get_ex (xs := rows) (i := fn) (by omega)
          obtain ⟨b2, o2, A2r, c2r, rfl, hb2, hcr, hCl⟩ := kd_rows hR2 hrow
          rw [hfn] at hk0
          have q0 := rd2 ⟨z, rfl⟩ (rd1 hk0 hb) (by omega)
          have q1 := rd2 ⟨z, rfl⟩ (rd1 hk1 hb) (by omega)
          have q2 := rd2 ⟨z, rfl⟩ (rd1 hk2 hb) (by omega)
          have q3 := rd2 ⟨z, rfl⟩ hcr (by omega)
          have hbz : b < z.val.heap.size := by omega
          have hbn : b ≠ z.val.heap.size := by omega
          have hb2z : b2 < z.val.heap.size := by omega
          have hb2n : b2 ≠ z.val.heap.size := by omega
          have hb2l : fn < rows.length := by omega
          have hml := (kd_len hCl).2
          have hih := Lib.hid hi.out
          have hfh := Lib.hid hf
          clear hi hk0 hk1 hk2 hcr hf0 hf1 hf2 hf3
          by_cases h1 : row.length = 1
          · obtain ⟨x, rfl⟩ : ∃ x, row = [x] := List.length_eq_one_iff.1 h1
            obtain ⟨b4, o4, rfl, hb4, hx0, hx1', hx2'⟩ := kd_load hCl (i := 0) rfl
            simp only [Nat.zero_mul, Nat.add_zero] at hx0 hx1' hx2'
            have q4 := rd2 ⟨z, rfl⟩ hx0 (by omega)
            have q5 := rd2 ⟨z, rfl⟩ hx1' (by omega)
            have q6 := rd2 ⟨z, rfl⟩ hx2' (by omega)
            have hb4z : b4 < z.val.heap.size := by omega
            have hb4n : b4 ≠ z.val.heap.size := by omega
            have hle := lead_one (l0 := l0) (l2 := l2) (l3 := l3) hf hfn hrow
            have hgx := hgt f (List.mem_of_getElem? hf) x (by rw [hfn, Int.toNat_natCast]; exact hrow)
            have hXx := HX f (List.mem_of_getElem? hf) x (by rw [hfn, Int.toNat_natCast]; exact hrow)
            clear hx0 hx1' hx2' hml h1 hCl hf hfn hrow hfh
            by_cases hk : x.f0 = 0
            · obtain ⟨hg0, hg1⟩ := hgx hk
              obtain ⟨xn, hxn⟩ : ∃ xn : Nat, x.f1 = (xn : Int) := ⟨x.f1.toNat, by omega⟩
              have hXx := hXx hk
              rw [hxn, Int.toNat_natCast] at hXx
              rw [hxn] at q5 hg1
              obtain ⟨gt, hgt'⟩ := get_ex (xs := l3) (i := xn) (by omega)
              obtain ⟨b5, o5, A5, c5, rfl, hb5, hg0', hg1', hg2', hle5, hC5⟩ := kd_gateC h3 hgt'
              have hX := fun W (hW : Is w W) => hXx gt hgt' A5 c5 W (kd_is hC5 hW) hle5
              have hzW : Is w z.val := z.is (Is.of hyW) (fun k hk => by omega)
              have zW : ∀ {b o : Nat} {v : Value}, w.cell? ⟨b, o, none⟩ = some v → b < w.heap.size → z.val.cell? ⟨b, o, none⟩ = some v := fun hc hb => (hzW.below.cell (p := ⟨_, _, none⟩) hb).trans hc
              have qg0 := zW hg0' hb5
              have qg1 := zW hg1' hb5
              have qg2 := zW hg2' hb5
              have qn0 := rd2 ⟨z, rfl⟩ (rd0 cN0 hNl) (by omega)
              have qn1 := rd2 ⟨z, rfl⟩ (rd0 cN1 hNl) (by omega)
              have qn2 := rd2 ⟨z, rfl⟩ (rd0 cN2 hNl) (by omega)
              have qn3 := rd2 ⟨z, rfl⟩ (rd0 cN3 hNl) (by omega)
              have qn4 := rd2 ⟨z, rfl⟩ (rd0 cN4 hNl) (by omega)
              have hnz : w.heap.size < z.val.heap.size := by omega
              have hnn : w.heap.size ≠ z.val.heap.size := by omega
              have hnn2 : w.heap.size ≠ z.val.heap.size + 1 := by omega
              have hb5z : b5 < z.val.heap.size := by omega
              have hb5n : b5 ≠ z.val.heap.size := by omega
              have hb5n2 : b5 ≠ z.val.heap.size + 1 := by omega
              have hnz2 : w.heap.size < z.val.heap.size + 1 := by omega
              have hb5z2 : b5 < z.val.heap.size + 1 := by omega
              obtain ⟨v, hv⟩ : ∃ v, fixV gt.f1 x.f2 f.f2 (2 ^ gt.f2.length) = v := ⟨_, rfl⟩
              rw [hv] at hX
              have hta : targetAt l0 l2 l3 f.f2 x = if 0 ≤ v then some ⟨2 + (l0.length : Int) + l2.length + xn, -1, v == 1⟩ else none := by
                unfold targetAt
                rw [if_pos hk, hxn, Int.toNat_natCast, hgt', Option.bind_some, hv]
              rw [hta] at hle
              have hMh := Lib.hid hM
              have hRh := Lib.hid hR
              have hkh := Lib.hid hk
              clear hM hR hgx hXx hk hg0 hg0' hg1' hg2' hgt' hv hta hC5 hle5 hxn
              rw [hkh.out] at q4
              by_cases hv0 : 0 ≤ v
              · rw [if_pos hv0, Option.bind_some] at hle
                obtain ⟨t, ht⟩ : ∃ t, (⟨2 + (l0.length : Int) + l2.length + xn, -1, v == 1⟩ : S29) = t := ⟨_, rfl⟩
                rw [ht] at hle
                have hok : keyF.ok (keyT t) := by
                  rw [← ht]
                  exact ⟨InK.mk64 (by show _ ≤ 2 + (l0.length : Int) + l2.length + xn ∧ 2 + (l0.length : Int) + l2.length + xn ≤ _; omega), InK.mk64 (by show (_ : Int) ≤ -1 ∧ (-1 : Int) ≤ _; omega)⟩
                have qv : decide (v ≥ 0) = true := decide_eq_true hv0
                have hlk0 : ∀ W, Is z.val W → (Instr.lookup 97 (.map (some bm)) (.agg #[.int .i64 (2 + (l0.length : Int) + l2.length + xn), .int .i64 (-1), .bool (v == 1)]) true).run Try.prog W = .ok (.tuple #[((list.findIdx? (eqF t)).map fun j => Value.int .i64 (j : Int)).getD (.int .i64 0), .bool (list.findIdx? (eqF t)).isSome]) W := by
                  intro W hW
                  have h := run_mapLookupOk (hMh.out.is hW) Try.underlying97 (hz _) hok
                  rw [idxFrom_get] at h
                  rw [← ht] at h ⊢
                  refine h.trans ?_
                  cases list.findIdx? (eqF ⟨2 + (l0.length : Int) + l2.length + xn, -1, v == 1⟩) with
                  | none => rfl
                  | some k => simp
                clear hv0 hok ht
                cases hfi : list.findIdx? (eqF t) with
                | none =>
                  rw [hfi] at hle hlk0
                  have hlnh := Lib.hid hle
                  have hlk0 : ∀ W, Is z.val W → (Instr.lookup 97 (.map (some bm)) (.agg #[.int .i64 (2 + (l0.length : Int) + l2.length + xn), .int .i64 (-1), .bool (v == 1)]) true).run Try.prog W = .ok (.tuple #[.int .i64 0, .bool false]) W := hlk0
                  have hlkh := Lib.hid hlk0
                  clear hle hfi hlk0
                  go_wp2
                  refine wp_region_under (by kernel_rfl) (by kernel_rfl) ?_
                  repeat (go_big_quiet_step ((go_at_call 43; exact Calls.under _ ((hX _ (((hzW.alloc _).alloc _).step _)).mono fun e w' ⟨he, hB⟩ => ⟨he, Is.of hB⟩))))
                  refine wpQuiet_nil ?_
                  rintro _ ⟨v1, rfl⟩
                  have hzv := (((Is.refl z.val).alloc (.cells #[.int .i64 fn, .int .i64 f.f1, .bool f.f2] 29)).alloc (.cells #[.int .i64 0, .int .i64 xn, .int .i64 x.f2] 77)).step v1
                  have hlk := fun u : Under v1.val => hlkh.out u.val (hzv.step u)
                  have hs1 : z.val.heap.size + 1 < v1.val.heap.size := v1.lt _ (by simp)
                  have hs2 : w.heap.size < v1.val.heap.size := by omega
                  go_wp2
                  refine wp_region_under (by kernel_rfl) (by kernel_rfl) ?_
                  repeat (go_big_quiet_step ((go_at_call 32; exact Calls.under _ ((HI _ (hzW.trans (hzv.step _)).below).mono fun e w' ⟨he, hB⟩ => ⟨he, Is.of hB⟩))))
                  refine wpQuiet_nil ?_
                  rintro _ ⟨v2, rfl⟩
                  go_wp2
                  go_roundg gO
                  case measure => have := hih.out; omega
                  case rel =>
                    refine ⟨i + 1, (((z.alloc _).alloc _).under v1).under v2, by go_num, rfl, by show i + 1 + gO = list.length; have := hih.out; omega, hMh.out.is (hzv.step v2), ?_⟩
                    rw [clsL_none hlnh.out]
                    exact R_but (((((But.refl z.val (fun _ => False)).alloc _).alloc _).under v1).under v2) hRh.out (fun _ _ h => h)
                | some k =>
                  rw [hfi] at hle hlk0
                  have hlnh := Lib.hid hle
                  have hlk0 : ∀ W, Is z.val W → (Instr.lookup 97 (.map (some bm)) (.agg #[.int .i64 (2 + (l0.length : Int) + l2.length + xn), .int .i64 (-1), .bool (v == 1)]) true).run Try.prog W = .ok (.tuple #[.int .i64 k, .bool true]) W := hlk0
                  have hlkh := Lib.hid hlk0
                  have hkl : k < list.length := (List.findIdx?_eq_some_iff_getElem.1 hfi).1
                  clear hle hfi hlk0
                  go_wp2
                  refine wp_region_under (by kernel_rfl) (by kernel_rfl) ?_
                  repeat (go_big_quiet_step ((go_at_call 43; exact Calls.under _ ((hX _ (((hzW.alloc _).alloc _).step _)).mono fun e w' ⟨he, hB⟩ => ⟨he, Is.of hB⟩))))
                  refine wpQuiet_nil ?_
                  rintro _ ⟨v1, rfl⟩
                  have hzv := (((Is.refl z.val).alloc (.cells #[.int .i64 fn, .int .i64 f.f1, .bool f.f2] 29)).alloc (.cells #[.int .i64 0, .int .i64 xn, .int .i64 x.f2] 77)).step v1
                  have hlk := fun u : Under v1.val => hlkh.out u.val (hzv.step u)
                  have hs1 : z.val.heap.size + 1 < v1.val.heap.size := v1.lt _ (by simp)
                  have hs2 : w.heap.size < v1.val.heap.size := by omega
                  go_wp2
                  refine wp_region_under (by kernel_rfl) (by kernel_rfl) ?_
                  repeat (go_big_quiet_step ((go_at_call 32; exact Calls.under _ ((HI _ (hzW.trans (hzv.step _)).below).mono fun e w' ⟨he, hB⟩ => ⟨he, Is.of hB⟩))))
                  refine wpQuiet_nil ?_
                  rintro _ ⟨v2, rfl⟩
                  have hJ := join_calls g9 w.heap.size list.length gv cv i k _ _ _ v2.val ((v2.ok.block g9 (by omega)).trans ((v1.ok.block g9 (by simp; omega)).trans ((((Below.heap_alloc _ _ g9 (by simp; omega)).trans (Below.heap_alloc _ _ g9 (by omega))).trans (z.block g9 (by omega) (by omega))).trans hyB))) (clsL_len _ _) (by omega) (R_but (((((But.refl z.val (fun _ => False)).alloc _).alloc _).under v1).under v2) hRh.out (fun _ _ h => h)) (clsL_get hlt) (clsL_get hkl)
                  have hJh := Lib.hid hJ
                  clear hJ
                  go_wp2_with (go_at_call 42; refine hJh.out.mono ?_; rintro e w' ⟨rfl, z2, rfl, hR2'⟩)
                  go_roundg gO
                  case measure => have := hih.out; omega
                  case rel =>
                    refine ⟨i + 1, ((((z.alloc _).alloc _).under v1).under v2).trans (z2.wide (fun k hk => .inr hk)), by go_num, rfl, by show i + 1 + gO = list.length; have := hih.out; omega, ?_, ?_⟩
                    · exact (hMh.out.is (hzv.step v2)).step (z2.block bm (Nat.lt_of_lt_of_le (Nat.lt_of_lt_of_le (show bm < z.val.heap.size by omega) hzv.below.size) v2.size) (by omega))
                    · rw [clsL_some hlnh.out]
                      exact hR2'
              · rw [if_neg hv0] at hle
                have hlnh := Lib.hid hle
                have qv : decide (v ≥ 0) = false := decide_eq_false hv0
                clear hle hv0
                go_wp2
                refine wp_region_under (by kernel_rfl) (by kernel_rfl) ?_
                repeat (go_big_quiet_step ((go_at_call 43; exact Calls.under _ ((hX _ (((hzW.alloc _).alloc _).step _)).mono fun e w' ⟨he, hB⟩ => ⟨he, Is.of hB⟩))))
                refine wpQuiet_nil ?_
                rintro _ ⟨v1, rfl⟩
                go_wp2
                go_roundg gO
                case measure => have := hih.out; omega
                case rel =>
                  refine ⟨i + 1, ((z.alloc _).alloc _).under v1, by go_num, rfl, by show i + 1 + gO = list.length; have := hih.out; omega, hMh.out.is ((((Is.refl _).alloc _).alloc _).step v1), ?_⟩
                  rw [clsL_none hlnh.out]
                  exact R_but ((((But.refl z.val (fun _ => False)).alloc _).alloc _).under v1) hRh.out (fun _ _ h => h)
            · have hw : (x.f0 != 0) = true := by rw [bne_iff_ne]; exact hk
              have hln : leadR rows l0 l2 l3 list i = none := by rw [hle]; unfold targetAt; rw [if_neg hk]; rfl
              have hlnh := Lib.hid hln
              have hMh := Lib.hid hM
              have hRh := Lib.hid hR
              clear hln hle hM hR hgx hXx hk
              go_wp2
              go_roundg gO
              case measure => have := hih.out; omega
              case rel =>
                refine ⟨i + 1, z.alloc _, by go_num, rfl, by show i + 1 + gO = list.length; have := hih.out; omega, hMh.out.is ((Is.refl _).alloc _), ?_⟩
                rw [clsL_none hlnh.out]
                exact R_but ((But.refl z.val (fun _ => False)).alloc _) hRh.out (fun _ _ h => h)
          · have hw : ((row.length : Int) != 1) = true := by rw [bne_iff_ne]; omega
            have hlnh := Lib.hid (lead_not (l0 := l0) (l2 := l2) (l3 := l3) hf hfn hrow h1)
            have hMh := Lib.hid hM
            have hRh := Lib.hid hR
            clear hM hR h1 hf hfn hrow hfh
            go_wp2
            go_roundg gO
            case measure => have := hih.out; omega
            case rel =>
              refine ⟨i + 1, z.alloc _, by go_num, rfl, by show i + 1 + gO = list.length; have := hih.out; omega, hMh.out.is ((Is.refl _).alloc _), ?_⟩
              rw [clsL_none hlnh.out]
              exact R_but ((But.refl z.val (fun _ => False)).alloc _) hRh.out (fun _ _ h => h)
        · obtain rfl : i = list.length := by have := hi.out; omega
          have hRh := Lib.hid hR
          have q9 := (z.cell g9 0 (by omega) (by omega)).trans hyc
          clear hi hM hR
          go_wp2
          go_ret2
          exact ⟨_, rfl, hRh.out, (z.is (Is.of hyW) (fun k hk => by omega)).below⟩
end Go.Proofs.Ytimjccfpobhpeaa
namespace Go.Proofs.Ytimjccfpobhpeaa.PF
open Go.RowKit Go.Proofs.YtimjccfpobhpeaaW.PrintWords Go.Proofs.YtimjccfpobhpeaaW.PrintLast Go.Proofs.YtimjccfpobhpeaaW.PrintMore
set_option linter.unusedVariables false
set_option linter.unusedSimpArgs false
def atOk (k : Nat) (l3 : List S80) (one : Bool) : Option (List S77) → Bool
  | some [x] => if x.f0 = 0 then decide (0 ≤ x.f1) && (match l3[x.f1.toNat]? with
    | some g => decide (fault_fixed.f k g.f0 g.f1 g.f2 x.f2 one = some (fixV g.f1 x.f2 one (2 ^ g.f2.length)))
    | none => false) else true
  | _ => true
def faultAt (rows : Nat) (f : S29) : Bool := decide (0 ≤ f.f0) && decide (f.f0 < rows) && decide (f.f0 ≤ 9223372036854775807) && decide (-9223372036854775808 ≤ f.f1) && decide (f.f1 ≤ 9223372036854775807)
def clsOk (k : Nat) (l0 : List ByteArray) (l2 : List S82) (l3 : List S80) (rows : List (List S77)) (list : List S29) : Bool :=
  decide (list.map keyT).Nodup && decide (list.length * 8 ≤ 281474976710656) && decide (2 + l0.length + l2.length + l3.length ≤ 1000000000) && list.all fun f => faultAt rows.length f && atOk k l3 f.f2 rows[f.f0.toNat]?
theorem atOk_one {k : Nat} {l3 : List S80} {one : Bool} {x : S77} (h : atOk k l3 one (some [x]) = true) (h0 : x.f0 = 0) : 0 ≤ x.f1 ∧ ∃ g, l3[x.f1.toNat]? = some g ∧ fault_fixed.f k g.f0 g.f1 g.f2 x.f2 one = some (fixV g.f1 x.f2 one (2 ^ g.f2.length)) := by
  have h : (if x.f0 = 0 then decide (0 ≤ x.f1) && (match l3[x.f1.toNat]? with
    | some g => decide (fault_fixed.f k g.f0 g.f1 g.f2 x.f2 one = some (fixV g.f1 x.f2 one (2 ^ g.f2.length)))
    | none => false) else true) = true := h
  rw [if_pos h0, Bool.and_eq_true, decide_eq_true_eq] at h
  refine ⟨h.1, ?_⟩
  have h2 := h.2
  cases hg : l3[x.f1.toNat]? with
  | none => rw [hg] at h2; cases h2
  | some g => rw [hg] at h2; exact ⟨g, rfl, of_decide_eq_true h2⟩
theorem clsOk_of {k : Nat} {l0 : List ByteArray} {l2 : List S82} {l3 : List S80} {rows : List (List S77)} {list : List S29} (h : clsOk k l0 l2 l3 rows list = true) :
    (list.map keyT).Nodup ∧ list.length * 8 ≤ 281474976710656 ∧ 2 + l0.length + l2.length + l3.length ≤ 1000000000 ∧ ∀ f ∈ list, faultAt rows.length f = true ∧ atOk k l3 f.f2 rows[f.f0.toNat]? = true := by
  unfold clsOk at h
  simp only [Bool.and_eq_true, decide_eq_true_eq, List.all_eq_true] at h
  exact ⟨h.1.1.1, h.1.1.2, h.1.2, h.2⟩
theorem faultAt_of {n : Nat} {f : S29} (h : faultAt n f = true) : 0 ≤ f.f0 ∧ f.f0 < n ∧ InK .i64 f.f0 ∧ InK .i64 f.f1 := by
  unfold faultAt at h
  simp only [Bool.and_eq_true, decide_eq_true_eq] at h
  obtain ⟨⟨⟨⟨h1, h2⟩, h3⟩, h4⟩, h5⟩ := h
  exact ⟨h1, h2, InK.mk64 ⟨by omega, h3⟩, InK.mk64 ⟨h4, h5⟩⟩
theorem first_of {l0 l1 : List ByteArray} {l2 : List S82} {l3 : List S80} {l4 : List Int} (h : 2 + l0.length + l2.length + l3.length ≤ 1000000000) : netlist_First.f l0 l1 l2 l3 l4 = some (2 + (l0.length : Int) + l2.length) := by
  have h1 : wrap64 (2 + (l0.length : Int)) = 2 + (l0.length : Int) := by unfold wrap64; omega
  have h2 : wrap64 (2 + (l0.length : Int) + l2.length) = 2 + (l0.length : Int) + l2.length := by unfold wrap64; omega
  unfold netlist_First.f
  rw [h1, h2]
def fault_Classes.f (k : Nat) (l0_0 : List ByteArray) (l0_1 : List ByteArray) (l0_2 : List (S82)) (l0_3 : List (S80)) (l0_4 : List Int) : Option (List Int × Int) := (fault_List.f k l0_0 l0_1 l0_2 l0_3 l0_4).bind fun r => if r.2 = 0 then ((netlist_Loads.f k l0_0 l0_1 l0_2 l0_3 l0_4).bind fun q => if q.2 = 0 ∧ clsOk k l0_0 l0_2 l0_3 q.1 r.1 = true then some (Union.clsL (leadR q.1 l0_0 l0_2 l0_3 r.1) r.1.length r.1.length, 0) else none) else some ([], r.2)
set_option maxHeartbeats 2000000 in
theorem fault_Classes.calls (k : Nat) (A0_0 : Option Addr) (c0_0 : Nat) (l0_0 : List ByteArray) (A0_1 : Option Addr) (c0_1 : Nat) (l0_1 : List ByteArray) (A0_2 : Option Addr) (c0_2 : Nat) (l0_2 : List (S82)) (A0_3 : Option Addr) (c0_3 : Nat) (l0_3 : List (S80)) (A0_4 : Option Addr) (c0_4 : Nat) (l0_4 : List Int) (r1 : List Int) (r2 : Int) (w : World) (hr0_0 : Kd.C Kd.string w A0_0 l0_0.length l0_0) (hc0_0 : l0_0.length ≤ c0_0) (hr0_1 : Kd.C Kd.string w A0_1 l0_1.length l0_1) (hc0_1 : l0_1.length ≤ c0_1) (hr0_2 : Kd.C k82 w A0_2 l0_2.length l0_2) (hc0_2 : l0_2.length ≤ c0_2) (hr0_3 : Kd.C k80 w A0_3 l0_3.length l0_3) (hc0_3 : l0_3.length ≤ c0_3) (hr0_4 : Kd.C (Kd.int .i64) w A0_4 l0_4.length l0_4) (hc0_4 : l0_4.length ≤ c0_4) (h : fault_Classes.f k l0_0 l0_1 l0_2 l0_3 l0_4 = some (r1, r2)) :
    Calls Try.prog 15 #[.agg #[.slice A0_0 l0_0.length c0_0, .slice A0_1 l0_1.length c0_1, .slice A0_2 l0_2.length c0_2, .slice A0_3 l0_3.length c0_3, .slice A0_4 l0_4.length c0_4]] w fun e w' => ∃ v0_ : Value, e = .returned (.tuple #[v0_, .int .i64 r2]) ∧ Kd.R (Kd.int .i64) 3 w' w.heap.size (fun _ => True) v0_ r1 ∧ Below w.heap.size w w' := by
  unfold fault_Classes.f at h
  obtain ⟨⟨list, e1⟩, hL, h2⟩ := Option.bind_eq_some_iff.1 h
  by_cases h0 : e1 = 0
  · subst h0
    rw [if_pos rfl] at h2
    obtain ⟨⟨rows, e2⟩, hM, h3⟩ := Option.bind_eq_some_iff.1 h2
    by_cases hc : e2 = 0 ∧ clsOk k l0_0 l0_2 l0_3 rows list = true
    · rw [if_pos hc] at h3
      simp only [Option.some.injEq, Prod.mk.injEq] at h3
      obtain ⟨rfl, rfl⟩ := h3
      obtain ⟨rfl, hok⟩ := hc
      obtain ⟨c1, c2, c3, c4⟩ := clsOk_of hok
      refine classes_walk A0_0 A0_1 A0_2 A0_3 A0_4 l0_0.length l0_1.length l0_2.length l0_4.length c0_0 c0_1 c0_2 c0_3 c0_4 l0_0 l0_2 l0_3 w list rows hr0_3 (List.Pairwise.of_map keyT (fun a b h e => h (by rw [e])) c1) c2 c3 (fun f hf => faultAt_of (c4 f hf).1) ?_ ?_ ?_ ?_ ?_
      · intro f hf x hx hk
        have h1 := (c4 f hf).2
        rw [hx] at h1
        obtain ⟨h2, g, hg, _⟩ := atOk_one h1 hk
        have := (List.getElem?_eq_some_iff.1 hg).1
        exact ⟨h2, by omega⟩
      · exact fun W hW => fault_List.calls k A0_0 c0_0 l0_0 A0_1 c0_1 l0_1 A0_2 c0_2 l0_2 A0_3 c0_3 l0_3 A0_4 c0_4 l0_4 list 0 W (Kd.C_below hr0_0 hW) hc0_0 (Kd.C_below hr0_1 hW) hc0_1 (Kd.C_below hr0_2 hW) hc0_2 (Kd.C_below hr0_3 hW) hc0_3 (Kd.C_below hr0_4 hW) hc0_4 hL
      · exact fun W hW => netlist_Loads.calls k A0_0 c0_0 l0_0 A0_1 c0_1 l0_1 A0_2 c0_2 l0_2 A0_3 c0_3 l0_3 A0_4 c0_4 l0_4 rows 0 W (Kd.C_below hr0_0 hW) hc0_0 (Kd.C_below hr0_1 hW) hc0_1 (Kd.C_below hr0_2 hW) hc0_2 (Kd.C_below hr0_3 hW) hc0_3 (Kd.C_below hr0_4 hW) hc0_4 hM
      · exact fun W hW => netlist_First.calls A0_0 c0_0 l0_0 A0_1 c0_1 l0_1 A0_2 c0_2 l0_2 A0_3 c0_3 l0_3 A0_4 c0_4 l0_4 _ W (Kd.C_below hr0_0 hW) hc0_0 (Kd.C_below hr0_1 hW) hc0_1 (Kd.C_below hr0_2 hW) hc0_2 (Kd.C_below hr0_3 hW) hc0_3 (Kd.C_below hr0_4 hW) hc0_4 (first_of c3)
      · intro f hf x hx hk g hg A c W hC hle
        have h1 := (c4 f hf).2
        rw [hx] at h1
        obtain ⟨_, g', hg', hfx⟩ := atOk_one h1 hk
        rw [hg] at hg'
        injection hg' with hg'
        subst hg'
        exact fault_fixed.calls k g.f0 g.f1 A c g.f2 x.f2 f.f2 _ W hC hle hfx
    · rw [if_neg hc] at h3
      cases h3
  · rw [if_neg h0] at h2
    simp only [Option.some.injEq, Prod.mk.injEq] at h2
    obtain ⟨rfl, rfl⟩ := h2
    have hW0 : Below w.heap.size w (w.alloc (.cells #[.slice A0_0 l0_0.length c0_0, .slice A0_1 l0_1.length c0_1, .slice A0_2 l0_2.length c0_2, .slice A0_3 l0_3.length c0_3, .slice A0_4 l0_4.length c0_4] 27)) := (Below.refl _ _).alloc (Nat.le_refl _) _
    have HL := (fun (W : World) (hW : Below w.heap.size w W) => fault_List.calls k A0_0 c0_0 l0_0 A0_1 c0_1 l0_1 A0_2 c0_2 l0_2 A0_3 c0_3 l0_3 A0_4 c0_4 l0_4 list e1 W (Kd.C_below hr0_0 hW) hc0_0 (Kd.C_below hr0_1 hW) hc0_1 (Kd.C_below hr0_2 hW) hc0_2 (Kd.C_below hr0_3 hW) hc0_3 (Kd.C_below hr0_4 hW) hc0_4 hL) _ hW0
    have hu := Try.underlying27
    have q1 : (e1 != 0) = true := by simpa using h0
    clear h h0 hL
    go_enter Try.func15, Try.ntmps15
    go_wp2_with (go_at_call 14; refine HL.mono ?_; rintro e' w1 ⟨v1, rfl, -, hB1⟩)
    go_ret2
    exact ⟨_, rfl, Kd.R_nil _ _ _ _ _, hW0.trans (hB1.mono (by simp))⟩
end Go.Proofs.Ytimjccfpobhpeaa.PF
namespace Go.Proofs.Ytimjccfpobhpeaa.PF
open Go.RowKit Go.Proofs.YtimjccfpobhpeaaW.PrintWords Go.Proofs.YtimjccfpobhpeaaW.PrintLast Go.Proofs.YtimjccfpobhpeaaW.PrintMore
set_option linter.unusedVariables false
set_option linter.unusedSimpArgs false
theorem eqA29 (d : Nat) (w : World) (x0 y0 : Int) (x1 y1 : Int) (x2 y2 : Bool) :
    (Op.equalIn (d + 2) 29 (.agg #[.int .i64 x0, .int .i64 x1, .bool x2]) (.agg #[.int .i64 y0, .int .i64 y1, .bool y2])).run Try.prog w = .ok (x0 == y0 && (x1 == y1 && (x2 == y2))) w := by
  refine eqA_of Try.underlying29 (by kernel_rfl) ?_
  refine eqf_cons (by rfl) (by go_simp; rfl) (by go_simp; rfl) (by go_simp) ?_
  refine eqf_cons (by rfl) (by go_simp; rfl) (by go_simp; rfl) (by go_simp) ?_
  exact eqf_last (by rfl) (by go_simp; rfl) (by go_simp; rfl) (by go_simp)
end Go.Proofs.Ytimjccfpobhpeaa.PF
namespace Go.Proofs.Ytimjccfpobhpeaa.PF
open Go.RowKit Go.Proofs.YtimjccfpobhpeaaW.PrintWords Go.Proofs.YtimjccfpobhpeaaW.PrintLast Go.Proofs.YtimjccfpobhpeaaW.PrintMore
set_option linter.unusedVariables false
set_option linter.unusedSimpArgs false
attribute [local go_sem high] eqA29
def fault_Fault_16.l0 : Nat → List (S29) → List (S29) → Int → Int → Option (Bool)
  | 0, _, _, _, _ => none
  | k + 1, x0, x1, x12, x13 => if x13 < x12 then (if 0 ≤ x13 then (if x13 < (x0.length : Int) then (if x13 < (x1.length : Int) then (if (!(((rd_T29 x0 x13).f0) == ((rd_T29 x1 x13).f0)) || (!(((rd_T29 x0 x13).f1) == ((rd_T29 x1 x13).f1)) || (!(((rd_T29 x0 x13).f2) == ((rd_T29 x1 x13).f2))))) = true then (some false) else (fault_Fault_16.l0 k x0 x1 x12 (wrap64 (x13 + 1)))) else (none)) else (none)) else (none)) else (some true)
def fault_Fault_16.f (k : Nat) (l0 : List (S29)) (l1 : List (S29)) : Option (Bool) := if (l0.length : Int) = (l1.length : Int) then (fault_Fault_16.l0 k l0 l1 (l0.length : Int) 0) else (some false)
set_option maxHeartbeats 8000000 in
set_option maxRecDepth 100000 in
theorem fault_Fault_16.calls (k : Nat) (A0 : Option Addr) (c0 : Nat) (l0 : List (S29)) (A1 : Option Addr) (c1 : Nat) (l1 : List (S29)) (r : Bool) (w : World) (hr0 : Kd.C k29 w A0 l0.length l0) (hc0 : l0.length ≤ c0) (hr1 : Kd.C k29 w A1 l1.length l1) (hc1 : l1.length ≤ c1) (h : fault_Fault_16.f k l0 l1 = some r) :
    Calls Try.prog 16 #[.slice A0 l0.length c0, .slice A1 l1.length c1] w fun e w' => e = .returned (.bool r) ∧ Drawn0 w w' := by
  have hu29 := Try.underlying29
  have HR0 := Aside0.mk hr0
  have HC0 := Aside0.mk hc0
  clear hr0 hc0
  have HR1 := Aside0.mk hr1
  have HC1 := Aside0.mk hc1
  clear hr1 hc1
  have H : (if (l0.length : Int) = (l1.length : Int) then (fault_Fault_16.l0 k l0 l1 (l0.length : Int) 0) else (some false)) = some r := h
  clear h
  by_cases c3 : (l0.length : Int) = (l1.length : Int)
  · rw [if_pos c3] at H
    have c3b0 : ((l0.length : Int) == (l1.length : Int)) = true := beq_iff_eq.mpr c3
    have c3b1 : ((l0.length : Int) != (l1.length : Int)) = false := bne_eq_false_iff_eq.mpr c3
    have c3b2 : (l0.length == l1.length) = true := by first | simpa using c3 | (simp at c3 ⊢; omega)
    clear c3
    have H' := Aside0.mk H
    clear H
    go_enter Try.func16, Try.ntmps16
    go_wp2
    repeat (go_quiet (fail); try go_wp2)
    go_loopg [13] k (fun kq v13 w' => ∃ (x13_1 : Int), v13 = .int .i64 x13_1 ∧ Aside0 (fault_Fault_16.l0 kq l0 l1 (l0.length : Int) x13_1 = some r) ∧ Aside0 (kq ≤ k) ∧ Drawn0 w w')
    case atStart => exact ⟨(0), (by first | rfl | (simp; done) | (simp [*]; done)), H', ⟨Nat.le_refl _⟩, by repeat (first | exact Drawn0.refl _ | apply Drawn0.step)⟩
    case round =>
      clear H'
      try clear c1
      try clear p2
      try clear c3
      try clear c3b0
      try clear c3b1
      try clear c3b2
      obtain ⟨x13_1, rfl, HA, HK1, ⟨m1, rfl⟩⟩ := hrel
      cases gk with
      | zero => exact absurd HA.out (by simp [fault_Fault_16.l0])
      | succ k1 =>
        have H := HA.out
        clear HA
        simp only [fault_Fault_16.l0] at H
        by_cases c4 : x13_1 < (l0.length : Int)
        · rw [if_pos c4] at H
          have c4b0 : decide (x13_1 < (l0.length : Int)) = true := decide_eq_true c4
          clear c4
          by_cases c5 : 0 ≤ x13_1
          · rw [if_pos c5] at H
            have c5b0 : decide (0 ≤ x13_1) = true := decide_eq_true c5
            clear c5
            by_cases c6 : x13_1 < (l0.length : Int)
            · rw [if_pos c6] at H
              have c6b0 : decide (x13_1 < (l0.length : Int)) = true := decide_eq_true c6
              clear c6
              by_cases c7 : x13_1 < (l1.length : Int)
              · rw [if_pos c7] at H
                have c7b0 : decide (x13_1 < (l1.length : Int)) = true := decide_eq_true c7
                clear c7
                by_cases c8 : (!(((rd_T29 l0 x13_1).f0) == ((rd_T29 l1 x13_1).f0)) || (!(((rd_T29 l0 x13_1).f1) == ((rd_T29 l1 x13_1).f1)) || (!(((rd_T29 l0 x13_1).f2) == ((rd_T29 l1 x13_1).f2))))) = true
                · rw [if_pos c8] at H
                  have c8b0 : (!(((rd_T29 l0 x13_1).f0) == ((rd_T29 l1 x13_1).f0)) || (!(((rd_T29 l0 x13_1).f1) == ((rd_T29 l1 x13_1).f1)) || (!(((rd_T29 l0 x13_1).f2) == ((rd_T29 l1 x13_1).f2))))) = true := c8
                  clear c8
                  obtain rfl := Option.some.inj H
                  have p275 : 0 ≤ (x13_1 : Int) := of_decide_eq_true (by first | (with_reducible assumption) | assumption)
                  have q275 : x13_1 < (l0.length : Int) := of_decide_eq_true (by first | (with_reducible assumption) | assumption)
                  obtain ⟨ad275, e275, hx275_0, hx275_1, hx275_2⟩ := at_T29 HR0.out x13_1 p275 q275
                  cases e275
                  replace p275 := eq_true p275
                  replace q275 := eq_true q275
                  have p276 : 0 ≤ (x13_1 : Int) := of_decide_eq_true (by first | (with_reducible assumption) | assumption)
                  have q276 : x13_1 < (l1.length : Int) := of_decide_eq_true (by first | (with_reducible assumption) | assumption)
                  obtain ⟨ad276, e276, hx276_0, hx276_1, hx276_2⟩ := at_T29 HR1.out x13_1 p276 q276
                  cases e276
                  replace p276 := eq_true p276
                  replace q276 := eq_true q276
                  go_wp2
                  repeat (go_quiet (fail); try go_wp2)
                  go_ret
                  exact ⟨by first | rfl | (simp; done) | (simp [*]; done), by repeat (first | exact Drawn0.refl _ | apply Drawn0.step)⟩
                · rw [if_neg c8] at H
                  have c8b0 : (!(((rd_T29 l0 x13_1).f0) == ((rd_T29 l1 x13_1).f0)) || (!(((rd_T29 l0 x13_1).f1) == ((rd_T29 l1 x13_1).f1)) || (!(((rd_T29 l0 x13_1).f2) == ((rd_T29 l1 x13_1).f2))))) = false := by simpa using c8
                  clear c8
                  have H' := Aside0.mk H
                  clear H
                  have p275 : 0 ≤ (x13_1 : Int) := of_decide_eq_true (by first | (with_reducible assumption) | assumption)
                  have q275 : x13_1 < (l0.length : Int) := of_decide_eq_true (by first | (with_reducible assumption) | assumption)
                  obtain ⟨ad275, e275, hx275_0, hx275_1, hx275_2⟩ := at_T29 HR0.out x13_1 p275 q275
                  cases e275
                  replace p275 := eq_true p275
                  replace q275 := eq_true q275
                  have p276 : 0 ≤ (x13_1 : Int) := of_decide_eq_true (by first | (with_reducible assumption) | assumption)
                  have q276 : x13_1 < (l1.length : Int) := of_decide_eq_true (by first | (with_reducible assumption) | assumption)
                  obtain ⟨ad276, e276, hx276_0, hx276_1, hx276_2⟩ := at_T29 HR1.out x13_1 p276 q276
                  cases e276
                  replace p276 := eq_true p276
                  replace q276 := eq_true q276
                  go_wp2
                  repeat (go_quiet (fail); try go_wp2)
                  go_roundg k1
                  case measure => have := HK1.out; omega
                  case rel => exact ⟨(wrap64 (x13_1 + 1)), (by first | rfl | (simp; done) | (simp [*]; done)), H', ⟨by have := HK1.out; omega⟩, by repeat (first | exact Drawn0.refl _ | apply Drawn0.step)⟩
              · rw [if_neg c7] at H
                exact absurd H (by simp)
            · rw [if_neg c6] at H
              exact absurd H (by simp)
          · rw [if_neg c5] at H
            exact absurd H (by simp)
        · rw [if_neg c4] at H
          have c4b0 : decide (x13_1 < (l0.length : Int)) = false := decide_eq_false c4
          clear c4
          obtain rfl := Option.some.inj H
          go_wp2
          repeat (go_quiet (fail); try go_wp2)
          go_ret
          exact ⟨by first | rfl | (simp; done) | (simp [*]; done), by repeat (first | exact Drawn0.refl _ | apply Drawn0.step)⟩
  · rw [if_neg c3] at H
    have c3b0 : ((l0.length : Int) == (l1.length : Int)) = false := beq_eq_false_iff_ne.mpr c3
    have c3b1 : ((l0.length : Int) != (l1.length : Int)) = true := bne_iff_ne.mpr c3
    have c3b2 : (l0.length == l1.length) = false := by first | simpa using c3 | (simp at c3 ⊢; omega)
    obtain rfl := Option.some.inj H
    go_enter Try.func16, Try.ntmps16
    go_wp2
    repeat (go_quiet (fail); try go_wp2)
    go_ret
    exact ⟨by first | rfl | (simp; done) | (simp [*]; done), by repeat (first | exact Drawn0.refl _ | apply Drawn0.step)⟩
end Go.Proofs.Ytimjccfpobhpeaa.PF
