-- joined from: PFx20 PFx2 PFx21 PFx22
import Derived.Test.YtimjccfpobhpeaaWRepsOne
import Derived.Test.YtimjccfpobhpeaaM0
import Derived.Test.YtimjccfpobhpeaaM3
import Derived.Test.YtimjccfpobhpeaaM4
import Derived.Test.YtimjccfpobhpeaaM1
namespace Go.Proofs.Ytimjccfpobhpeaa.PF
open Go.RowKit Go.Proofs.YtimjccfpobhpeaaW.PrintWords Go.Proofs.YtimjccfpobhpeaaW.PrintLast Go.Proofs.YtimjccfpobhpeaaW.PrintMore
attribute [local go_sem] max2_int min2_int max_two min_two max_three min_three max_four min_four   -- for this text's walks alone
set_option linter.unusedVariables false
set_option linter.unusedSimpArgs false
def slices_Equal_int_int.l0 : Nat → List Int → List Int → Int → Int → Option (Bool)
 | 0, _, _, _, _ => none
 | k + 1, x0, x1, x12, x13 => if x13 < x12 then (if 0 ≤ x13 then (if x13 < (x0.length : Int) then (if x13 < (x1.length : Int) then (if (rd x0 x13) = (rd x1 x13) then (slices_Equal_int_int.l0 k x0 x1 x12 (wrap64 (x13 + 1))) else (some false)) else (none)) else (none)) else (none)) else (some true)
def slices_Equal_int_int.f (k : Nat) (l0 : List Int) (l1 : List Int) : Option (Bool) := if (l0.length : Int) = (l1.length : Int) then (slices_Equal_int_int.l0 k l0 l1 (l0.length : Int) 0) else (some false)
theorem slices_Equal_int_int.mono_l : ∀ k, (∀ y0 y1 y2 y3, LeO (slices_Equal_int_int.l0 k y0 y1 y2 y3) (slices_Equal_int_int.l0 (k + 1) y0 y1 y2 y3))
 | 0 => fun _ _ _ _ r h => by simp [slices_Equal_int_int.l0] at h
 | k + 1 => by
   have ih0 := slices_Equal_int_int.mono_l k
   · intro y0 y1 y2 y3
     unfold slices_Equal_int_int.l0
     repeat' first
     | (with_reducible exact ih0 _ _ _ _)
     | (with_reducible exact LeO.refl _)
     | (with_reducible exact LeO.none _)
     | (with_reducible refine LeO.ite ?_ ?_)
     | (with_reducible refine LeO.bind ?_ (fun _ => ?_))
     | exact ih0 _ _ _ _
     | exact LeO.none _
     | refine LeO.ite ?_ ?_
     | refine LeO.bind ?_ (fun _ => ?_)
theorem slices_Equal_int_int.mono : ∀ a0 a1 k, LeO (slices_Equal_int_int.f k a0 a1) (slices_Equal_int_int.f (k + 1) a0 a1) := by
 intro a0 a1 k
 have ih0 := slices_Equal_int_int.mono_l k
 unfold slices_Equal_int_int.f
 repeat' first
     | (with_reducible exact ih0 _ _ _ _)
     | (with_reducible exact LeO.refl _)
     | (with_reducible exact LeO.none _)
     | (with_reducible refine LeO.ite ?_ ?_)
     | (with_reducible refine LeO.bind ?_ (fun _ => ?_))
     | exact ih0 _ _ _ _
     | exact LeO.none _
     | refine LeO.ite ?_ ?_
     | refine LeO.bind ?_ (fun _ => ?_)
set_option maxHeartbeats 8000000 in
set_option maxRecDepth 100000 in
theorem slices_Equal_int_int.calls (k : Nat) (A0 : Option Addr) (c0 : Nat) (l0 : List Int) (A1 : Option Addr) (c1 : Nat) (l1 : List Int) (r : Bool) (w : World) (hr0 : Kd.C (Kd.int .i64) w A0 l0.length l0) (hc0 : l0.length ≤ c0) (hr1 : Kd.C (Kd.int .i64) w A1 l1.length l1) (hc1 : l1.length ≤ c1) (h : slices_Equal_int_int.f k l0 l1 = some r) :
   Calls Try.prog 18 #[.slice A0 l0.length c0, .slice A1 l1.length c1] w fun e w' => e = .returned (.bool r) ∧ Drawn0 w w' := by
 have HR0 := Aside0.mk hr0
 have HC0 := Aside0.mk hc0
 clear hr0 hc0
 have HR1 := Aside0.mk hr1
 have HC1 := Aside0.mk hc1
 clear hr1 hc1
 have H : (if (l0.length : Int) = (l1.length : Int) then (slices_Equal_int_int.l0 k l0 l1 (l0.length : Int) 0) else (some false)) = some r := h
 clear h
 by_cases c3 : (l0.length : Int) = (l1.length : Int)
 · rw [if_pos c3] at H
   have c3b0 : ((l0.length : Int) == (l1.length : Int)) = true := beq_iff_eq.mpr c3
   have c3b1 : ((l0.length : Int) != (l1.length : Int)) = false := bne_eq_false_iff_eq.mpr c3
   have c3b2 : (l0.length == l1.length) = true := by first | simpa using c3 | (simp at c3 ⊢; omega)
   clear c3
   have H' := Aside0.mk H
   clear H
   go_enter Try.func18, Try.ntmps18
   go_wp2
   repeat (go_quiet (fail); try go_wp2)
   go_loopg [13] k (fun kq v13 w' => ∃ (x13_1 : Int), v13 = .int .i64 x13_1 ∧ Aside0 (slices_Equal_int_int.l0 kq l0 l1 (l0.length : Int) x13_1 = some r) ∧ Aside0 (kq ≤ k) ∧ Drawn0 w w')
   case atStart => exact ⟨(0), (by first | rfl | (simp; done) | (simp [*]; done)), H', ⟨Nat.le_refl _⟩, by repeat (first | exact Drawn0.refl _ | apply Drawn0.step)⟩
   case round =>
     clear H'
     try clear c1
     try clear p2
     try clear c3
     try clear c3b0
     try clear c3b1
     try clear c3b2
     obtain ⟨x13_1, rfl, HA, HK1, ⟨m1, rfl⟩⟩ := hrel
     cases gk with
     | zero => exact absurd HA.out (by simp [slices_Equal_int_int.l0])
     | succ k1 =>
       have H := HA.out
       clear HA
       simp only [slices_Equal_int_int.l0] at H
       by_cases c4 : x13_1 < (l0.length : Int)
       · rw [if_pos c4] at H
         have c4b0 : decide (x13_1 < (l0.length : Int)) = true := decide_eq_true c4
         clear c4
         by_cases c5 : 0 ≤ x13_1
         · rw [if_pos c5] at H
           have c5b0 : decide (0 ≤ x13_1) = true := decide_eq_true c5
           clear c5
           by_cases c6 : x13_1 < (l0.length : Int)
           · rw [if_pos c6] at H
             have c6b0 : decide (x13_1 < (l0.length : Int)) = true := decide_eq_true c6
             clear c6
             by_cases c7 : x13_1 < (l1.length : Int)
             · rw [if_pos c7] at H
               have c7b0 : decide (x13_1 < (l1.length : Int)) = true := decide_eq_true c7
               clear c7
               by_cases c8 : (rd l0 x13_1) = (rd l1 x13_1)
               · rw [if_pos c8] at H
                 have c8b0 : ((rd l0 x13_1) == (rd l1 x13_1)) = true := beq_iff_eq.mpr c8
                 have c8b1 : ((rd l0 x13_1) != (rd l1 x13_1)) = false := bne_eq_false_iff_eq.mpr c8
                 clear c8
                 have H' := Aside0.mk H
                 clear H
                 have p153 : 0 ≤ (x13_1 : Int) := of_decide_eq_true (by first | (with_reducible assumption) | assumption)
                 have q153 : x13_1 < (l0.length : Int) := of_decide_eq_true (by first | (with_reducible assumption) | assumption)
                 obtain ⟨ad153, e153, hx153_0⟩ := Kd.at_int HR0.out x13_1 p153 q153
                 cases e153
                 replace p153 := eq_true p153
                 replace q153 := eq_true q153
                 have p154 : 0 ≤ (x13_1 : Int) := of_decide_eq_true (by first | (with_reducible assumption) | assumption)
                 have q154 : x13_1 < (l1.length : Int) := of_decide_eq_true (by first | (with_reducible assumption) | assumption)
                 obtain ⟨ad154, e154, hx154_0⟩ := Kd.at_int HR1.out x13_1 p154 q154
                 cases e154
                 replace p154 := eq_true p154
                 replace q154 := eq_true q154
                 go_wp2
                 repeat (go_quiet (fail); try go_wp2)
                 go_roundg k1
                 case measure => have := HK1.out; omega
                 case rel => exact ⟨(wrap64 (x13_1 + 1)), (by first | rfl | (simp; done) | (simp [*]; done)), H', ⟨by have := HK1.out; omega⟩, by repeat (first | exact Drawn0.refl _ | apply Drawn0.step)⟩
               · rw [if_neg c8] at H
                 have c8b0 : ((rd l0 x13_1) == (rd l1 x13_1)) = false := beq_eq_false_iff_ne.mpr c8
                 have c8b1 : ((rd l0 x13_1) != (rd l1 x13_1)) = true := bne_iff_ne.mpr c8
                 obtain rfl := Option.some.inj H
                 have p153 : 0 ≤ (x13_1 : Int) := of_decide_eq_true (by first | (with_reducible assumption) | assumption)
                 have q153 : x13_1 < (l0.length : Int) := of_decide_eq_true (by first | (with_reducible assumption) | assumption)
                 obtain ⟨ad153, e153, hx153_0⟩ := Kd.at_int HR0.out x13_1 p153 q153
                 cases e153
                 replace p153 := eq_true p153
                 replace q153 := eq_true q153
                 have p154 : 0 ≤ (x13_1 : Int) := of_decide_eq_true (by first | (with_reducible assumption) | assumption)
                 have q154 : x13_1 < (l1.length : Int) := of_decide_eq_true (by first | (with_reducible assumption) | assumption)
                 obtain ⟨ad154, e154, hx154_0⟩ := Kd.at_int HR1.out x13_1 p154 q154
                 cases e154
                 replace p154 := eq_true p154
                 replace q154 := eq_true q154
                 go_wp2
                 repeat (go_quiet (fail); try go_wp2)
                 go_ret
                 exact ⟨by first | rfl | (simp; done) | (simp [*]; done), by repeat (first | exact Drawn0.refl _ | apply Drawn0.step)⟩
             · rw [if_neg c7] at H
               exact absurd H (by simp)
           · rw [if_neg c6] at H
             exact absurd H (by simp)
         · rw [if_neg c5] at H
           exact absurd H (by simp)
       · rw [if_neg c4] at H
         have c4b0 : decide (x13_1 < (l0.length : Int)) = false := decide_eq_false c4
         clear c4
         obtain rfl := Option.some.inj H
         go_wp2
         repeat (go_quiet (fail); try go_wp2)
         go_ret
         exact ⟨by first | rfl | (simp; done) | (simp [*]; done), by repeat (first | exact Drawn0.refl _ | apply Drawn0.step)⟩
 · rw [if_neg c3] at H
   have c3b0 : ((l0.length : Int) == (l1.length : Int)) = false := beq_eq_false_iff_ne.mpr c3
   have c3b1 : ((l0.length : Int) != (l1.length : Int)) = true := bne_iff_ne.mpr c3
   have c3b2 : (l0.length == l1.length) = false := by first | simpa using c3 | (simp at c3 ⊢; omega)
   obtain rfl := Option.some.inj H
   go_enter Try.func18, Try.ntmps18
   go_wp2
   repeat (go_quiet (fail); try go_wp2)
   go_ret
   exact ⟨by first | rfl | (simp; done) | (simp [*]; done), by repeat (first | exact Drawn0.refl _ | apply Drawn0.step)⟩
def masklaw2_single.f  : Option (List ByteArray × List ByteArray × (List (S82)) × (List (S80)) × List Int) := some ((([(⟨#[97]⟩ : ByteArray)] : List ByteArray)), (([(⟨#[113]⟩ : ByteArray)] : List ByteArray)), (([(⟨(⟨#[114]⟩ : ByteArray), (-1), 4, 1, false⟩ : S82)] : List (S82))), (([(⟨(-1), 1, (([2] : List Int))⟩ : S80)] : List (S80))), (([3] : List Int)))
set_option maxHeartbeats 8000000 in
set_option maxRecDepth 100000 in
theorem masklaw2_single.calls  (r1 : List ByteArray) (r2 : List ByteArray) (r3 : List (S82)) (r4 : List (S80)) (r5 : List Int) (w : World) (h : masklaw2_single.f  = some (r1, r2, r3, r4, r5)) :
   Calls Try.prog 35 #[] w fun e w' => ∃ v0_ v1_ v2_ v3_ v4_ : Value, e = .returned (.agg #[v0_, v1_, v2_, v3_, v4_]) ∧ Kd.R Kd.string 9 w' w.heap.size (fun k_ => (w.heap.size ≤ k_) ∧ some k_ ≠ (v1_ : Value).ownBlock) v0_ r1 ∧ Kd.R Kd.string 9 w' w.heap.size (fun k_ => (w.heap.size ≤ k_) ∧ some k_ ≠ (v0_ : Value).ownBlock) v1_ r2 ∧ Kd.R k82 82 w' w.heap.size (fun k_ => (w.heap.size ≤ k_)) v2_ r3 ∧ Kd.N k80 80 w' w.heap.size (fun k_ => (w.heap.size ≤ k_) ∧ some k_ ≠ (v0_ : Value).ownBlock ∧ some k_ ≠ (v1_ : Value).ownBlock ∧ some k_ ≠ (v2_ : Value).ownBlock ∧ some k_ ≠ (v4_ : Value).ownBlock) v3_ r4 ∧ Kd.R (Kd.int .i64) 3 w' w.heap.size (fun k_ => (w.heap.size ≤ k_)) v4_ r5 ∧ Below w.heap.size w w' := by
 have hu27 := Try.underlying27
 have hu82 := Try.underlying82
 have hu80 := Try.underlying80
 have HB := Aside0.mk (Below.refl w.heap.size w)
 have H : (some ((([(⟨#[97]⟩ : ByteArray)] : List ByteArray)), (([(⟨#[113]⟩ : ByteArray)] : List ByteArray)), (([(⟨(⟨#[114]⟩ : ByteArray), (-1), 4, 1, false⟩ : S82)] : List (S82))), (([(⟨(-1), 1, (([2] : List Int))⟩ : S80)] : List (S80))), (([3] : List Int)))) = some (r1, r2, r3, r4, r5) := h
 clear h
 obtain ⟨y156, hy156⟩ : ∃ y_ : List ByteArray, y_ = (([(⟨#[97]⟩ : ByteArray)] : List ByteArray)) := ⟨_, rfl⟩
 replace H : (some (y156, (([(⟨#[113]⟩ : ByteArray)] : List ByteArray)), (([(⟨(⟨#[114]⟩ : ByteArray), (-1), 4, 1, false⟩ : S82)] : List (S82))), (([(⟨(-1), 1, (([2] : List Int))⟩ : S80)] : List (S80))), (([3] : List Int)))) = some (r1, r2, r3, r4, r5) := by first | (rw [hy156]; with_reducible exact H) | (have H2_ := (Option.bind_some _ _).symm.trans H; rw [hy156]; with_reducible exact H2_) | (have H2_ := (Option.bind_some _ _).symm.trans H; with_reducible exact H2_) | with_reducible exact H | (rw [hy156]; exact H) | exact H
 have Ny156 := Aside0.mk hy156
 clear hy156
 obtain ⟨y159, hy159⟩ : ∃ y_ : List ByteArray, y_ = (([(⟨#[113]⟩ : ByteArray)] : List ByteArray)) := ⟨_, rfl⟩
 replace H : (some (y156, y159, (([(⟨(⟨#[114]⟩ : ByteArray), (-1), 4, 1, false⟩ : S82)] : List (S82))), (([(⟨(-1), 1, (([2] : List Int))⟩ : S80)] : List (S80))), (([3] : List Int)))) = some (r1, r2, r3, r4, r5) := by first | (rw [hy159]; with_reducible exact H) | (have H2_ := (Option.bind_some _ _).symm.trans H; rw [hy159]; with_reducible exact H2_) | (have H2_ := (Option.bind_some _ _).symm.trans H; with_reducible exact H2_) | with_reducible exact H | (rw [hy159]; exact H) | exact H
 have Ny159 := Aside0.mk hy159
 clear hy159
 obtain ⟨y162, hy162⟩ : ∃ y_ : List (S82), y_ = (([(⟨(⟨#[114]⟩ : ByteArray), (-1), 4, 1, false⟩ : S82)] : List (S82))) := ⟨_, rfl⟩
 replace H : (some (y156, y159, y162, (([(⟨(-1), 1, (([2] : List Int))⟩ : S80)] : List (S80))), (([3] : List Int)))) = some (r1, r2, r3, r4, r5) := by first | (rw [hy162]; with_reducible exact H) | (have H2_ := (Option.bind_some _ _).symm.trans H; rw [hy162]; with_reducible exact H2_) | (have H2_ := (Option.bind_some _ _).symm.trans H; with_reducible exact H2_) | with_reducible exact H | (rw [hy162]; exact H) | exact H
 have Ny162 := Aside0.mk hy162
 clear hy162
 obtain ⟨y165, hy165⟩ : ∃ y_ : List Int, y_ = (([2] : List Int)) := ⟨_, rfl⟩
 replace H : (some (y156, y159, y162, (([(⟨(-1), 1, y165⟩ : S80)] : List (S80))), (([3] : List Int)))) = some (r1, r2, r3, r4, r5) := by first | (rw [hy165]; with_reducible exact H) | (have H2_ := (Option.bind_some _ _).symm.trans H; rw [hy165]; with_reducible exact H2_) | (have H2_ := (Option.bind_some _ _).symm.trans H; with_reducible exact H2_) | with_reducible exact H | (rw [hy165]; exact H) | exact H
 have Ny165 := Aside0.mk hy165
 clear hy165
 obtain ⟨y168, hy168⟩ : ∃ y_ : List (S80), y_ = (([(⟨(-1), 1, y165⟩ : S80)] : List (S80))) := ⟨_, rfl⟩
 replace H : (some (y156, y159, y162, y168, (([3] : List Int)))) = some (r1, r2, r3, r4, r5) := by first | (rw [hy168]; with_reducible exact H) | (have H2_ := (Option.bind_some _ _).symm.trans H; rw [hy168]; with_reducible exact H2_) | (have H2_ := (Option.bind_some _ _).symm.trans H; with_reducible exact H2_) | with_reducible exact H | (rw [hy168]; exact H) | exact H
 have Ny168 := Aside0.mk hy168
 clear hy168
 obtain ⟨y171, hy171⟩ : ∃ y_ : List Int, y_ = (([3] : List Int)) := ⟨_, rfl⟩
 replace H : (some (y156, y159, y162, y168, y171)) = some (r1, r2, r3, r4, r5) := by first | (rw [hy171]; with_reducible exact H) | (have H2_ := (Option.bind_some _ _).symm.trans H; rw [hy171]; with_reducible exact H2_) | (have H2_ := (Option.bind_some _ _).symm.trans H; with_reducible exact H2_) | with_reducible exact H | (rw [hy171]; exact H) | exact H
 have Ny171 := Aside0.mk hy171
 clear hy171
 simp only [Option.some.injEq, Prod.mk.injEq] at H
 obtain ⟨rfl, rfl, rfl, rfl, rfl⟩ := H
 go_enter Try.func35, Try.ntmps35
 go_wp2_with (first | ((with_reducible refine gate_dst (N := 0) rfl ?_); refine box_event ?hg (N := 0) ?hd (cs := #[.slice none 0 0, .slice none 0 0, .slice none 0 0, .slice none 0 0, .slice none 0 0]) (t := 27) ?hr ?_; (case hd => rfl); (case hg => rfl); (case hr => first | (go_simp; done) | (go_simp; rfl)); intro gb155 hg w1 hbox hb; have n0_ := Aside0.mk (below_step (by repeat (first | (with_reducible first | exact HB.out | apply below_alloc | apply pw_below_drewN | apply below_drew1) | exact HB.out)) hb); have n1_ := Aside0.mk (hbox); have n2_ := Aside0.mk ((by rw [hg]; exact (below_size (by repeat (first | (with_reducible first | exact HB.out | apply below_alloc | apply pw_below_drewN | apply below_drew1) | exact HB.out))) : w.heap.size ≤ gb155)); have n3_ := Aside0.mk ((by rw [hg]; exact (below_size (by repeat (first | (with_reducible first | exact HB.out | apply below_alloc | apply pw_below_drewN | apply below_drew1) | exact HB.out))) : w.heap.size ≤ gb155)); clear HB; have HB := n0_; have BK155 := n1_; have GW155 := n2_; have GE155 := n3_; clear n0_ n1_ n2_ n3_; clear hb hbox hg) | ((with_reducible refine gate_dst (N := 1) rfl ?_); refine Kd.R_lit Kd.string _ 9 ?hg (N := 1) ?hd (xs := ([(⟨#[97]⟩ : ByteArray)] : List ByteArray)) (inner := [.string (⟨#[97]⟩ : ByteArray)]) (ok := fun _ => True) (okp := fun _ => True) ?hr ?hp (fun _ hk => hk) trivial (Below.refl _ _) (Nat.le_refl _) (by simp) ?_; (case hd => rfl); (case hg => rfl); (case hr => first | (go_simp; done) | (go_simp; rfl)); (case hp => exact (Reps.one (show Kd.M Kd.string _ _ _ (⟨#[97]⟩ : ByteArray) [.string (⟨#[97]⟩ : ByteArray)] from rfl) (Reps.none _ _))); intro v157 w2 ho3 hb hg_ hnew_; clear hg_ hnew_; (first | rw [← Ny156.out] at ho3 | (simp only [Int.reduceToNat] at ho3; rw [← Ny156.out] at ho3)); have n0_ := Aside0.mk (Kd.R_lower (Kd.R_newM (M := fun k_ => (w.heap.size ≤ k_)) ho3 (below_size (by repeat (first | (with_reducible first | exact HB.out | apply below_alloc | apply pw_below_drewN | apply below_drew1 | refine below_set ?_ GE155.out) | exact HB.out))) (fun k_ h_ => h_)) (below_size (by repeat (first | (with_reducible first | exact HB.out | apply below_alloc | apply pw_below_drewN | apply below_drew1 | refine below_set ?_ GE155.out) | exact HB.out)))); have n1_ := Aside0.mk (blk_below (g := gb155) (o := .cells #[.slice none 0 0, .slice none 0 0, .slice none 0 0, .slice none 0 0, .slice none 0 0] 27 (0, 0)) (by (with_reducible repeat (first | refine blk_drewN ?_ _ | refine blk_drew ?_ | refine blk_alloc ?_ _)); exact BK155.out) hb); have n2_ := Aside0.mk (below_step (by repeat (first | (with_reducible first | exact HB.out | apply below_alloc | apply pw_below_drewN | apply below_drew1 | refine below_set ?_ GE155.out) | exact HB.out)) hb); clear BK155; clear HB; have HO158 := n0_; have BK155 := n1_; have HB := n2_; clear n0_ n1_ n2_; clear hb ho3) | ((with_reducible refine gate_dst (N := 2) rfl ?_); refine Kd.R_lit Kd.string _ 9 ?hg (N := 2) ?hd (xs := ([(⟨#[113]⟩ : ByteArray)] : List ByteArray)) (inner := [.string (⟨#[113]⟩ : ByteArray)]) (ok := fun _ => True) (okp := fun _ => True) ?hr ?hp (fun _ hk => hk) trivial (Below.refl _ _) (Nat.le_refl _) (by simp) ?_; (case hd => rfl); (case hg => rfl); (case hr => first | (go_simp; done) | (go_simp; rfl)); (case hp => exact (Reps.one (show Kd.M Kd.string _ _ _ (⟨#[113]⟩ : ByteArray) [.string (⟨#[113]⟩ : ByteArray)] from rfl) (Reps.none _ _))); intro v160 w4 ho5 hb hg_ hnew_; clear hg_ hnew_; (first | rw [← Ny159.out] at ho5 | (simp only [Int.reduceToNat] at ho5; rw [← Ny159.out] at ho5)); have n0_ := Aside0.mk (Kd.R_elder' (by (with_reducible repeat (first | apply Kd.R_alloc | apply Kd.R_drewN | apply Kd.R_drew)); exact HO158.out) (Kd.R_base ho5) hb); have n1_ := Aside0.mk (Kd.R_lower (Kd.R_new' (Kd.R_newM (M := fun k_ => (w.heap.size ≤ k_)) ho5 (below_size (by repeat (first | (with_reducible first | exact HB.out | apply below_alloc | apply pw_below_drewN | apply below_drew1 | refine below_set ?_ GE155.out) | exact HB.out))) (fun k_ h_ => h_)) (Kd.R_lt (by (with_reducible repeat (first | apply Kd.R_alloc | apply Kd.R_drewN | apply Kd.R_drew)); exact HO158.out))) (below_size (by repeat (first | (with_reducible first | exact HB.out | apply below_alloc | apply pw_below_drewN | apply below_drew1 | refine below_set ?_ GE155.out) | exact HB.out)))); have n2_ := Aside0.mk (blk_below (g := gb155) (o := .cells #[.slice none 0 0, .slice none 0 0, .slice none 0 0, .slice none 0 0, .slice none 0 0] 27 (0, 0)) (by (with_reducible repeat (first | refine blk_drewN ?_ _ | refine blk_drew ?_ | refine blk_alloc ?_ _)); exact BK155.out) hb); have n3_ := Aside0.mk (below_step (by repeat (first | (with_reducible first | exact HB.out | apply below_alloc | apply pw_below_drewN | apply below_drew1 | refine below_set ?_ GE155.out) | exact HB.out)) hb); clear HO158; clear BK155; clear HB; have HO158 := n0_; have HO161 := n1_; have BK155 := n2_; have HB := n3_; clear n0_ n1_ n2_ n3_; clear hb ho5) | ((with_reducible refine gate_dst (N := 4) rfl ?_); refine Kd.R_lit k82 _ 82 ?hg (N := 4) ?hd (xs := ([(⟨(⟨#[114]⟩ : ByteArray), (-1), 4, 1, false⟩ : S82)] : List (S82))) (inner := [.string (⟨#[114]⟩ : ByteArray), .int .i64 (-1), .int .i64 4, .int .i64 1, .bool false]) (ok := fun _ => True) (okp := fun _ => True) ?hr ?hp (fun _ hk => hk) trivial (Below.refl _ _) (Nat.le_refl _) (by simp) ?_; (case hd => rfl); (case hg => rfl); (case hr => first | (go_simp; done) | (go_simp; rfl)); (case hp => exact (Reps.c5 (show Kd.M k82 _ _ _ (⟨(⟨#[114]⟩ : ByteArray), (-1), 4, 1, false⟩ : S82) [.string (⟨#[114]⟩ : ByteArray), .int .i64 (-1), .int .i64 4, .int .i64 1, .bool false] from (k82_mkM _ _ _ (⟨(⟨#[114]⟩ : ByteArray), (-1), 4, 1, false⟩ : S82) )) (Reps.none _ _))); intro v163 w6 ho7 hb hg_ hnew_; clear hg_ hnew_; (first | rw [← Ny162.out] at ho7 | (simp only [Int.reduceToNat] at ho7; rw [← Ny162.out] at ho7)); have n0_ := Aside0.mk (Kd.R_below (by (with_reducible repeat (first | apply Kd.R_alloc | apply Kd.R_drewN | apply Kd.R_drew)); exact HO158.out) hb); have n1_ := Aside0.mk (Kd.R_below (by (with_reducible repeat (first | apply Kd.R_alloc | apply Kd.R_drewN | apply Kd.R_drew)); exact HO161.out) hb); have n2_ := Aside0.mk (Kd.R_lower (Kd.R_newM (M := fun k_ => (w.heap.size ≤ k_)) ho7 (below_size (by repeat (first | (with_reducible first | exact HB.out | apply below_alloc | apply pw_below_drewN | apply below_drew1 | refine below_set ?_ GE155.out) | exact HB.out))) (fun k_ h_ => h_)) (below_size (by repeat (first | (with_reducible first | exact HB.out | apply below_alloc | apply pw_below_drewN | apply below_drew1 | refine below_set ?_ GE155.out) | exact HB.out)))); have n3_ := Aside0.mk (blk_below (g := gb155) (o := .cells #[.slice none 0 0, .slice none 0 0, .slice none 0 0, .slice none 0 0, .slice none 0 0] 27 (0, 0)) (by (with_reducible repeat (first | refine blk_drewN ?_ _ | refine blk_drew ?_ | refine blk_alloc ?_ _)); exact BK155.out) hb); have n4_ := Aside0.mk (below_step (by repeat (first | (with_reducible first | exact HB.out | apply below_alloc | apply pw_below_drewN | apply below_drew1 | refine below_set ?_ GE155.out) | exact HB.out)) hb); clear HO158; clear HO161; clear BK155; clear HB; have HO158 := n0_; have HO161 := n1_; have HO164 := n2_; have BK155 := n3_; have HB := n4_; clear n0_ n1_ n2_ n3_ n4_; clear hb ho7) | ((with_reducible refine gate_dst (N := 5) rfl ?_); refine Kd.R_lit (Kd.int .i64) _ 3 ?hg (N := 5) ?hd (xs := ([2] : List Int)) (inner := [.int .i64 2]) (ok := fun _ => True) (okp := fun _ => True) ?hr ?hp (fun _ hk => hk) trivial (Below.refl _ _) (Nat.le_refl _) (by simp) ?_; (case hd => rfl); (case hg => rfl); (case hr => first | (go_simp; done) | (go_simp; rfl)); (case hp => exact (Reps.one (show Kd.M (Kd.int .i64) _ _ _ 2 [.int .i64 2] from rfl) (Reps.none _ _))); intro v166 w8 ho9 hb hg_ hnew_; clear hg_ hnew_; (first | rw [← Ny165.out] at ho9 | (simp only [Int.reduceToNat] at ho9; rw [← Ny165.out] at ho9)); have n0_ := Aside0.mk (Kd.R_below (by (with_reducible repeat (first | apply Kd.R_alloc | apply Kd.R_drewN | apply Kd.R_drew)); exact HO158.out) hb); have n1_ := Aside0.mk (Kd.R_below (by (with_reducible repeat (first | apply Kd.R_alloc | apply Kd.R_drewN | apply Kd.R_drew)); exact HO161.out) hb); have n2_ := Aside0.mk (Kd.R_below (by (with_reducible repeat (first | apply Kd.R_alloc | apply Kd.R_drewN | apply Kd.R_drew)); exact HO164.out) hb); have n3_ := Aside0.mk (Kd.R_lower (Kd.R_newM (M := fun k_ => (w.heap.size ≤ k_)) ho9 (below_size (by repeat (first | (with_reducible first | exact HB.out | apply below_alloc | apply pw_below_drewN | apply below_drew1 | refine below_set ?_ GE155.out) | exact HB.out))) (fun k_ h_ => h_)) (below_size (by repeat (first | (with_reducible first | exact HB.out | apply below_alloc | apply pw_below_drewN | apply below_drew1 | refine below_set ?_ GE155.out) | exact HB.out)))); have n4_ := Aside0.mk (blk_below (g := gb155) (o := .cells #[.slice none 0 0, .slice none 0 0, .slice none 0 0, .slice none 0 0, .slice none 0 0] 27 (0, 0)) (by (with_reducible repeat (first | refine blk_drewN ?_ _ | refine blk_drew ?_ | refine blk_alloc ?_ _)); exact BK155.out) hb); have n5_ := Aside0.mk (below_step (by repeat (first | (with_reducible first | exact HB.out | apply below_alloc | apply pw_below_drewN | apply below_drew1 | refine below_set ?_ GE155.out) | exact HB.out)) hb); clear HO158; clear HO161; clear HO164; clear BK155; clear HB; have HO158 := n0_; have HO161 := n1_; have HO164 := n2_; have HO167 := n3_; have BK155 := n4_; have HB := n5_; clear n0_ n1_ n2_ n3_ n4_ n5_; clear hb ho9; obtain ⟨Ao10, co10, eo10⟩ := Kd.R_slice HO167.out; subst eo10) | ((with_reducible refine gate_dst (N := 7) rfl ?_); refine Kd.N_lit k80 _ 80 ?hg (N' := 7) ?hd (xs := ([(⟨(-1), 1, y165⟩ : S80)] : List (S80))) (inner := [.int .i64 (-1), .int .u64 1, .slice Ao10 y165.length co10]) (ok := (fun k_ => (w.heap.size ≤ k_) ∧ some k_ ≠ (v157 : Value).ownBlock ∧ some k_ ≠ (v160 : Value).ownBlock ∧ some k_ ≠ (v163 : Value).ownBlock ∧ k_ ≠ gb155)) (okp := (fun k_ => (w.heap.size ≤ k_) ∧ some k_ ≠ (v157 : Value).ownBlock ∧ some k_ ≠ (v160 : Value).ownBlock ∧ some k_ ≠ (v163 : Value).ownBlock ∧ k_ ≠ gb155)) ?hr ?hp (fun _ hk => hk) ((show ∀ k_, w8.heap.size ≤ k_ → (fun k_ => (w.heap.size ≤ k_) ∧ some k_ ≠ (v157 : Value).ownBlock ∧ some k_ ≠ (v160 : Value).ownBlock ∧ some k_ ≠ (v163 : Value).ownBlock ∧ k_ ≠ gb155) k_ from fun k_ hk => ⟨(Nat.le_trans (below_size (by repeat (first | (with_reducible first | exact HB.out | apply below_alloc | apply pw_below_drewN | apply below_drew1 | refine below_set ?_ GE155.out) | exact HB.out))) hk), Kd.fresh' (Kd.R_lt (by (with_reducible repeat (first | apply Kd.R_alloc | apply Kd.R_drewN | apply Kd.R_drew)); exact HO158.out)) k_ hk, Kd.fresh' (Kd.R_lt (by (with_reducible repeat (first | apply Kd.R_alloc | apply Kd.R_drewN | apply Kd.R_drew)); exact HO161.out)) k_ hk, Kd.fresh' (Kd.R_lt (by (with_reducible repeat (first | apply Kd.R_alloc | apply Kd.R_drewN | apply Kd.R_drew)); exact HO164.out)) k_ hk, Kd.freshB (g := gb155) (o := .cells #[.slice none 0 0, .slice none 0 0, .slice none 0 0, .slice none 0 0, .slice none 0 0] 27 (0, 0)) (by (with_reducible repeat (first | refine blk_drewN ?_ _ | refine blk_drew ?_ | refine blk_alloc ?_ _)); exact BK155.out) k_ hk⟩) _ (Nat.le_refl _)) (Below.refl _ _) (Nat.le_refl _) (by simp) ?_; (case hd => rfl); (case hg => rfl); (case hr => first | (go_simp; done) | (go_simp; rfl)); (case hp => exact (Reps.c3 (show Kd.FK k80 _ _ (⟨(-1), 1, y165⟩ : S80) [.int .i64 (-1), .int .u64 1, .slice Ao10 y165.length co10] from (k80_mkF _ _ (⟨(-1), 1, y165⟩ : S80) (Kd.R_reads' (Kd.R_mono (ok' := (fun k_ => (w.heap.size ≤ k_) ∧ some k_ ≠ (v157 : Value).ownBlock ∧ some k_ ≠ (v160 : Value).ownBlock ∧ some k_ ≠ (v163 : Value).ownBlock ∧ k_ ≠ gb155)) (Kd.R_types (Kd.R_apart' (Kd.R_apart' (Kd.R_apart' (HO167.out) (Kd.R_typed HO158.out) (by decide)) (Kd.R_typed HO161.out) (by decide)) (Kd.R_typed HO164.out) (by decide)) BK155.out (by decide)) (fun k_ hk => ⟨hk.1.1.1.1.1, ⟨hk.1.1.1.2, ⟨hk.1.1.2, ⟨hk.1.2, hk.2⟩⟩⟩⟩))).2.1 (Kd.R_F (Kd.R_mono (ok' := (fun k_ => (w.heap.size ≤ k_) ∧ some k_ ≠ (v157 : Value).ownBlock ∧ some k_ ≠ (v160 : Value).ownBlock ∧ some k_ ≠ (v163 : Value).ownBlock ∧ k_ ≠ gb155)) (Kd.R_types (Kd.R_apart' (Kd.R_apart' (Kd.R_apart' (HO167.out) (Kd.R_typed HO158.out) (by decide)) (Kd.R_typed HO161.out) (by decide)) (Kd.R_typed HO164.out) (by decide)) BK155.out (by decide)) (fun k_ hk => ⟨hk.1.1.1.1.1, ⟨hk.1.1.1.2, ⟨hk.1.1.2, ⟨hk.1.2, hk.2⟩⟩⟩⟩))))) (Reps.none _ _))); intro v169 w11 ho12 hb hg_ hnew_; clear hg_ hnew_; (first | rw [← Ny168.out] at ho12 | (simp only [Int.reduceToNat] at ho12; rw [← Ny168.out] at ho12)); have n0_ := Aside0.mk (Kd.R_below (by (with_reducible repeat (first | apply Kd.R_alloc | apply Kd.R_drewN | apply Kd.R_drew)); exact HO158.out) hb); have n1_ := Aside0.mk (Kd.R_below (by (with_reducible repeat (first | apply Kd.R_alloc | apply Kd.R_drewN | apply Kd.R_drew)); exact HO161.out) hb); have n2_ := Aside0.mk (Kd.R_below (by (with_reducible repeat (first | apply Kd.R_alloc | apply Kd.R_drewN | apply Kd.R_drew)); exact HO164.out) hb); have n3_ := Aside0.mk (Kd.N_lower ho12 (below_size (by repeat (first | (with_reducible first | exact HB.out | apply below_alloc | apply pw_below_drewN | apply below_drew1 | refine below_set ?_ GE155.out) | exact HB.out)))); have n4_ := Aside0.mk (blk_below (g := gb155) (o := .cells #[.slice none 0 0, .slice none 0 0, .slice none 0 0, .slice none 0 0, .slice none 0 0] 27 (0, 0)) (by (with_reducible repeat (first | refine blk_drewN ?_ _ | refine blk_drew ?_ | refine blk_alloc ?_ _)); exact BK155.out) hb); have n5_ := Aside0.mk (below_step (by repeat (first | (with_reducible first | exact HB.out | apply below_alloc | apply pw_below_drewN | apply below_drew1 | refine below_set ?_ GE155.out) | exact HB.out)) hb); clear HO158; clear HO161; clear HO164; clear BK155; clear HB; clear HO167; have HO158 := n0_; have HO161 := n1_; have HO164 := n2_; have HO170 := n3_; have BK155 := n4_; have HB := n5_; clear n0_ n1_ n2_ n3_ n4_ n5_; clear hb ho12) | ((with_reducible refine gate_dst (N := 8) rfl ?_); refine Kd.R_lit (Kd.int .i64) _ 3 ?hg (N := 8) ?hd (xs := ([3] : List Int)) (inner := [.int .i64 3]) (ok := fun _ => True) (okp := fun _ => True) ?hr ?hp (fun _ hk => hk) trivial (Below.refl _ _) (Nat.le_refl _) (by simp) ?_; (case hd => rfl); (case hg => rfl); (case hr => first | (go_simp; done) | (go_simp; rfl)); (case hp => exact (Reps.one (show Kd.M (Kd.int .i64) _ _ _ 3 [.int .i64 3] from rfl) (Reps.none _ _))); intro v172 w13 ho14 hb hg_ hnew_; clear hg_ hnew_; (first | rw [← Ny171.out] at ho14 | (simp only [Int.reduceToNat] at ho14; rw [← Ny171.out] at ho14)); have n0_ := Aside0.mk (Kd.R_below (by (with_reducible repeat (first | apply Kd.R_alloc | apply Kd.R_drewN | apply Kd.R_drew)); exact HO158.out) hb); have n1_ := Aside0.mk (Kd.R_below (by (with_reducible repeat (first | apply Kd.R_alloc | apply Kd.R_drewN | apply Kd.R_drew)); exact HO161.out) hb); have n2_ := Aside0.mk (Kd.R_below (by (with_reducible repeat (first | apply Kd.R_alloc | apply Kd.R_drewN | apply Kd.R_drew)); exact HO164.out) hb); have n3_ := Aside0.mk (Kd.N_elder' (by (with_reducible repeat (first | apply Kd.N_alloc | apply Kd.N_drewN | apply Kd.N_drew)); exact HO170.out) (Kd.R_base ho14) hb); have n4_ := Aside0.mk (Kd.R_lower (Kd.R_newM (M := fun k_ => (w.heap.size ≤ k_)) ho14 (below_size (by repeat (first | (with_reducible first | exact HB.out | apply below_alloc | apply pw_below_drewN | apply below_drew1 | refine below_set ?_ GE155.out) | exact HB.out))) (fun k_ h_ => h_)) (below_size (by repeat (first | (with_reducible first | exact HB.out | apply below_alloc | apply pw_below_drewN | apply below_drew1 | refine below_set ?_ GE155.out) | exact HB.out)))); have n5_ := Aside0.mk (blk_below (g := gb155) (o := .cells #[.slice none 0 0, .slice none 0 0, .slice none 0 0, .slice none 0 0, .slice none 0 0] 27 (0, 0)) (by (with_reducible repeat (first | refine blk_drewN ?_ _ | refine blk_drew ?_ | refine blk_alloc ?_ _)); exact BK155.out) hb); have n6_ := Aside0.mk (below_step (by repeat (first | (with_reducible first | exact HB.out | apply below_alloc | apply pw_below_drewN | apply below_drew1 | refine below_set ?_ GE155.out) | exact HB.out)) hb); clear HO158; clear HO161; clear HO164; clear HO170; clear BK155; clear HB; have HO158 := n0_; have HO161 := n1_; have HO164 := n2_; have HO170 := n3_; have HO173 := n4_; have BK155 := n5_; have HB := n6_; clear n0_ n1_ n2_ n3_ n4_ n5_ n6_; clear hb ho14; obtain ⟨Ao15, co15, eo15⟩ := Kd.R_slice HO173.out; subst eo15; obtain ⟨Ao16, co16, eo16⟩ := Kd.N_slice HO170.out; subst eo16; obtain ⟨Ao17, co17, eo17⟩ := Kd.R_slice HO164.out; subst eo17; obtain ⟨Ao18, co18, eo18⟩ := Kd.R_slice HO161.out; subst eo18; obtain ⟨Ao19, co19, eo19⟩ := Kd.R_slice HO158.out; subst eo19; have hcz20_0 : w13.cell? ⟨gb155, 0, none⟩ = some (.slice none 0 0) := (blk_cell BK155.out 0).trans rfl; have hcz20_1 : w13.cell? ⟨gb155, 1, none⟩ = some (.slice none 0 0) := (blk_cell BK155.out 1).trans rfl; have hcz20_2 : w13.cell? ⟨gb155, 2, none⟩ = some (.slice none 0 0) := (blk_cell BK155.out 2).trans rfl; have hcz20_3 : w13.cell? ⟨gb155, 3, none⟩ = some (.slice none 0 0) := (blk_cell BK155.out 3).trans rfl; have hcz20_4 : w13.cell? ⟨gb155, 4, none⟩ = some (.slice none 0 0) := (blk_cell BK155.out 4).trans rfl; have hfz20_0 := blk_frozen BK155.out 0; have hfz20_1 := blk_frozen BK155.out 1; have hfz20_2 := blk_frozen BK155.out 2; have hfz20_3 := blk_frozen BK155.out 3; have hfz20_4 := blk_frozen BK155.out 4))
 refine bodyPost_ret (results_cell_row rfl _ _ gb155 27 #[.slice Ao19 y156.length co19, .slice Ao18 y159.length co18, .slice Ao17 y162.length co17, .slice Ao16 y168.length co16, .slice Ao15 y171.length co15] (0, 0) _ rfl (by (with_reducible repeat (first | refine blk_drewN ?_ _ | refine blk_drew ?_ | refine blk_alloc ?_ _)); refine blk_put (cs := #[.slice Ao19 y156.length co19, .slice Ao18 y159.length co18, .slice Ao17 y162.length co17, .slice Ao16 y168.length co16, .slice none 0 0]) ?_ 4 _ rfl; (with_reducible repeat (first | refine blk_drewN ?_ _ | refine blk_drew ?_ | refine blk_alloc ?_ _)); refine blk_put (cs := #[.slice Ao19 y156.length co19, .slice Ao18 y159.length co18, .slice Ao17 y162.length co17, .slice none 0 0, .slice none 0 0]) ?_ 3 _ rfl; (with_reducible repeat (first | refine blk_drewN ?_ _ | refine blk_drew ?_ | refine blk_alloc ?_ _)); refine blk_put (cs := #[.slice Ao19 y156.length co19, .slice Ao18 y159.length co18, .slice none 0 0, .slice none 0 0, .slice none 0 0]) ?_ 2 _ rfl; (with_reducible repeat (first | refine blk_drewN ?_ _ | refine blk_drew ?_ | refine blk_alloc ?_ _)); refine blk_put (cs := #[.slice Ao19 y156.length co19, .slice none 0 0, .slice none 0 0, .slice none 0 0, .slice none 0 0]) ?_ 1 _ rfl; (with_reducible repeat (first | refine blk_drewN ?_ _ | refine blk_drew ?_ | refine blk_alloc ?_ _)); refine blk_put (cs := #[.slice none 0 0, .slice none 0 0, .slice none 0 0, .slice none 0 0, .slice none 0 0]) ?_ 0 _ rfl; (with_reducible repeat (first | refine blk_drewN ?_ _ | refine blk_drew ?_ | refine blk_alloc ?_ _)); exact BK155.out) Try.underlying27 rfl (by kernel_rfl)) rfl ?_
 exact ⟨_, _, _, _, _, by first | rfl | (simp [errW_none, errW_some] <;> rfl) | (simp [*, errW_none, errW_some] <;> rfl), by (with_reducible repeat (first | apply Kd.R_alloc | apply Kd.R_drewN | apply Kd.R_drew)); exact Kd.R_mono (Kd.R_far (p := ⟨gb155, 4, none⟩) (Kd.R_far (p := ⟨gb155, 3, none⟩) (Kd.R_far (p := ⟨gb155, 2, none⟩) (Kd.R_far (p := ⟨gb155, 1, none⟩) (Kd.R_far (p := ⟨gb155, 0, none⟩) (Kd.R_types HO158.out BK155.out (by decide)) (fun _ hk => hk.2) (.slice Ao19 y156.length co19)) (fun _ hk => hk.2) (.slice Ao18 y159.length co18)) (fun _ hk => hk.2) (.slice Ao17 y162.length co17)) (fun _ hk => hk.2) (.slice Ao16 y168.length co16)) (fun _ hk => hk.2) (.slice Ao15 y171.length co15)) (fun _ hk => ⟨hk.1.1.1, hk.1.2⟩), by (with_reducible repeat (first | apply Kd.R_alloc | apply Kd.R_drewN | apply Kd.R_drew)); exact Kd.R_mono (Kd.R_far (p := ⟨gb155, 4, none⟩) (Kd.R_far (p := ⟨gb155, 3, none⟩) (Kd.R_far (p := ⟨gb155, 2, none⟩) (Kd.R_far (p := ⟨gb155, 1, none⟩) (Kd.R_far (p := ⟨gb155, 0, none⟩) (Kd.R_types HO161.out BK155.out (by decide)) (fun _ hk => hk.2) (.slice Ao19 y156.length co19)) (fun _ hk => hk.2) (.slice Ao18 y159.length co18)) (fun _ hk => hk.2) (.slice Ao17 y162.length co17)) (fun _ hk => hk.2) (.slice Ao16 y168.length co16)) (fun _ hk => hk.2) (.slice Ao15 y171.length co15)) (fun _ hk => ⟨hk.1.1.1, hk.1.2⟩), by (with_reducible repeat (first | apply Kd.R_alloc | apply Kd.R_drewN | apply Kd.R_drew)); exact Kd.R_mono (Kd.R_far (p := ⟨gb155, 4, none⟩) (Kd.R_far (p := ⟨gb155, 3, none⟩) (Kd.R_far (p := ⟨gb155, 2, none⟩) (Kd.R_far (p := ⟨gb155, 1, none⟩) (Kd.R_far (p := ⟨gb155, 0, none⟩) (Kd.R_types HO164.out BK155.out (by decide)) (fun _ hk => hk.2) (.slice Ao19 y156.length co19)) (fun _ hk => hk.2) (.slice Ao18 y159.length co18)) (fun _ hk => hk.2) (.slice Ao17 y162.length co17)) (fun _ hk => hk.2) (.slice Ao16 y168.length co16)) (fun _ hk => hk.2) (.slice Ao15 y171.length co15)) (fun _ hk => hk.1.1), by (with_reducible repeat (first | apply Kd.N_alloc | apply Kd.N_drewN | apply Kd.N_drew)); exact Kd.N_mono (Kd.N_far (p := ⟨gb155, 4, none⟩) (Kd.N_far (p := ⟨gb155, 3, none⟩) (Kd.N_far (p := ⟨gb155, 2, none⟩) (Kd.N_far (p := ⟨gb155, 1, none⟩) (Kd.N_far (p := ⟨gb155, 0, none⟩) (Kd.N_mono HO170.out (fun k_ hk => (⟨hk, hk.1.2.2.2.2⟩ : _ ∧ k_ ≠ gb155))) (fun _ hk => hk.2) (.slice Ao19 y156.length co19)) (fun _ hk => hk.2) (.slice Ao18 y159.length co18)) (fun _ hk => hk.2) (.slice Ao17 y162.length co17)) (fun _ hk => hk.2) (.slice Ao16 y168.length co16)) (fun _ hk => hk.2) (.slice Ao15 y171.length co15)) (fun _ hk => ⟨hk.1.1.1, ⟨hk.1.1.2.1, ⟨hk.1.1.2.2.1, ⟨hk.1.1.2.2.2.1, hk.1.2⟩⟩⟩⟩), by (with_reducible repeat (first | apply Kd.R_alloc | apply Kd.R_drewN | apply Kd.R_drew)); exact Kd.R_mono (Kd.R_far (p := ⟨gb155, 4, none⟩) (Kd.R_far (p := ⟨gb155, 3, none⟩) (Kd.R_far (p := ⟨gb155, 2, none⟩) (Kd.R_far (p := ⟨gb155, 1, none⟩) (Kd.R_far (p := ⟨gb155, 0, none⟩) (Kd.R_types HO173.out BK155.out (by decide)) (fun _ hk => hk.2) (.slice Ao19 y156.length co19)) (fun _ hk => hk.2) (.slice Ao18 y159.length co18)) (fun _ hk => hk.2) (.slice Ao17 y162.length co17)) (fun _ hk => hk.2) (.slice Ao16 y168.length co16)) (fun _ hk => hk.2) (.slice Ao15 y171.length co15)) (fun _ hk => hk.1.1), by repeat (first | (with_reducible first | exact HB.out | apply below_alloc | apply pw_below_drewN | apply below_drew1 | refine below_set ?_ GE155.out) | exact HB.out)⟩
def masklaw2_faulty.f (k : Nat)  : Option (Bool) := (masklaw2_single.f).bind fun bt174 => ((fault_List.f k bt174.1 bt174.2.1 bt174.2.2.1 bt174.2.2.2.1 bt174.2.2.2.2).bind fun bt189 => ((masklaw2_single.f).bind fun bt193 => ((fault_Inject.f k bt193.1 bt193.2.1 bt193.2.2.1 bt193.2.2.2.1 bt193.2.2.2.2 2 (-1) true).bind fun bt208 => (if bt189.2 = 0 then (if bt208.2.2.2.2.2 = 0 then (if (bt189.1.length : Int) = 6 then (if (bt208.2.2.2.1.length : Int) = 1 then (if 0 < (bt208.2.2.2.1.length : Int) then ((slices_Equal_int_int.f k ((rd_T80 bt208.2.2.2.1 0).f2) (([1] : List Int))).bind fun t229 => (some t229)) else (none)) else (none)) else (none)) else (none)) else (none)))))
theorem masklaw2_faulty.mono : ∀ k, LeO (masklaw2_faulty.f k ) (masklaw2_faulty.f (k + 1) ) := by
 intro  k
 unfold masklaw2_faulty.f
 repeat' first
     | (with_reducible exact fault_Inject.mono _ _ _ _ _ _ _ _ _)
     | (with_reducible exact fault_List.mono _ _ _ _ _ _)
     | (with_reducible exact slices_Equal_int_int.mono _ _ _)
     | (with_reducible exact LeO.refl _)
     | (with_reducible exact LeO.none _)
     | (with_reducible refine LeO.ite ?_ ?_)
     | (with_reducible refine LeO.bind ?_ (fun _ => ?_))
     | exact fault_Inject.mono _ _ _ _ _ _ _ _ _
     | exact fault_List.mono _ _ _ _ _ _
     | exact slices_Equal_int_int.mono _ _ _
     | exact LeO.none _
     | refine LeO.ite ?_ ?_
     | refine LeO.bind ?_ (fun _ => ?_)
set_option maxHeartbeats 8000000 in
set_option maxRecDepth 100000 in
theorem masklaw2_faulty.calls (k : Nat)  (r : Bool) (w : World) (h : masklaw2_faulty.f k  = some r) :
   Calls Try.prog 11 #[] w fun e w' => e = .returned (.bool r) ∧ Below w.heap.size w w' := by
 have hu29 := Try.underlying29
 have hu27 := Try.underlying27
 have HB := Aside0.mk (Below.refl w.heap.size w)
 have H : ((masklaw2_single.f).bind fun bt174 => ((fault_List.f k bt174.1 bt174.2.1 bt174.2.2.1 bt174.2.2.2.1 bt174.2.2.2.2).bind fun bt189 => ((masklaw2_single.f).bind fun bt193 => ((fault_Inject.f k bt193.1 bt193.2.1 bt193.2.2.1 bt193.2.2.2.1 bt193.2.2.2.2 2 (-1) true).bind fun bt208 => (if bt189.2 = 0 then (if bt208.2.2.2.2.2 = 0 then (if (bt189.1.length : Int) = 6 then (if (bt208.2.2.2.1.length : Int) = 1 then (if 0 < (bt208.2.2.2.1.length : Int) then ((slices_Equal_int_int.f k ((rd_T80 bt208.2.2.2.1 0).f2) (([1] : List Int))).bind fun t229 => (some t229)) else (none)) else (none)) else (none)) else (none)) else (none)))))) = some r := h
 clear h
 replace H := Option.bind_eq_some_iff.mp H
 obtain ⟨⟨t174, t177, t180, t183, t186⟩, A10, H⟩ := H
 replace H : ((fault_List.f k t174 t177 t180 t183 t186).bind fun bt189 => ((masklaw2_single.f).bind fun bt193 => ((fault_Inject.f k bt193.1 bt193.2.1 bt193.2.2.1 bt193.2.2.2.1 bt193.2.2.2.2 2 (-1) true).bind fun bt208 => (if bt189.2 = 0 then (if bt208.2.2.2.2.2 = 0 then (if (bt189.1.length : Int) = 6 then (if (bt208.2.2.2.1.length : Int) = 1 then (if 0 < (bt208.2.2.2.1.length : Int) then ((slices_Equal_int_int.f k ((rd_T80 bt208.2.2.2.1 0).f2) (([1] : List Int))).bind fun t229 => (some t229)) else (none)) else (none)) else (none)) else (none)) else (none))))) = some r := H
 have A1 := Aside0.mk A10
 clear A10
 replace H := Option.bind_eq_some_iff.mp H
 obtain ⟨⟨t189, t192⟩, A20, H⟩ := H
 replace H : ((masklaw2_single.f).bind fun bt193 => ((fault_Inject.f k bt193.1 bt193.2.1 bt193.2.2.1 bt193.2.2.2.1 bt193.2.2.2.2 2 (-1) true).bind fun bt208 => (if t192 = 0 then (if bt208.2.2.2.2.2 = 0 then (if (t189.length : Int) = 6 then (if (bt208.2.2.2.1.length : Int) = 1 then (if 0 < (bt208.2.2.2.1.length : Int) then ((slices_Equal_int_int.f k ((rd_T80 bt208.2.2.2.1 0).f2) (([1] : List Int))).bind fun t229 => (some t229)) else (none)) else (none)) else (none)) else (none)) else (none)))) = some r := H
 have A2 := Aside0.mk A20
 clear A20
 replace H := Option.bind_eq_some_iff.mp H
 obtain ⟨⟨t193, t196, t199, t202, t205⟩, A30, H⟩ := H
 replace H : ((fault_Inject.f k t193 t196 t199 t202 t205 2 (-1) true).bind fun bt208 => (if t192 = 0 then (if bt208.2.2.2.2.2 = 0 then (if (t189.length : Int) = 6 then (if (bt208.2.2.2.1.length : Int) = 1 then (if 0 < (bt208.2.2.2.1.length : Int) then ((slices_Equal_int_int.f k ((rd_T80 bt208.2.2.2.1 0).f2) (([1] : List Int))).bind fun t229 => (some t229)) else (none)) else (none)) else (none)) else (none)) else (none))) = some r := H
 have A3 := Aside0.mk A30
 clear A30
 replace H := Option.bind_eq_some_iff.mp H
 obtain ⟨⟨t208, t211, t214, t217, t220, t223⟩, A40, H⟩ := H
 replace H : (if t192 = 0 then (if t223 = 0 then (if (t189.length : Int) = 6 then (if (t217.length : Int) = 1 then (if 0 < (t217.length : Int) then ((slices_Equal_int_int.f k ((rd_T80 t217 0).f2) (([1] : List Int))).bind fun t229 => (some t229)) else (none)) else (none)) else (none)) else (none)) else (none)) = some r := H
 have A4 := Aside0.mk A40
 clear A40
 by_cases c5 : t192 = 0
 · rw [if_pos c5] at H
   have c5b0 : (t192 == 0) = true := beq_iff_eq.mpr c5
   have c5b1 : (t192 != 0) = false := bne_eq_false_iff_eq.mpr c5
   clear c5
   by_cases c6 : t223 = 0
   · rw [if_pos c6] at H
     have c6b0 : (t223 == 0) = true := beq_iff_eq.mpr c6
     have c6b1 : (t223 != 0) = false := bne_eq_false_iff_eq.mpr c6
     clear c6
     by_cases c7 : (t189.length : Int) = 6
     · rw [if_pos c7] at H
       have c7b0 : ((t189.length : Int) == 6) = true := beq_iff_eq.mpr c7
       have c7b1 : ((t189.length : Int) != 6) = false := bne_eq_false_iff_eq.mpr c7
       clear c7
       by_cases c8 : (t217.length : Int) = 1
       · rw [if_pos c8] at H
         have c8b0 : ((t217.length : Int) == 1) = true := beq_iff_eq.mpr c8
         have c8b1 : ((t217.length : Int) != 1) = false := bne_eq_false_iff_eq.mpr c8
         clear c8
         by_cases c9 : 0 < (t217.length : Int)
         · rw [if_pos c9] at H
           have c9b0 : decide (0 < (t217.length : Int)) = true := decide_eq_true c9
           have c9b1 : decide (0 < t217.length) = true := decide_eq_true (by omega)
           clear c9
           obtain ⟨y226, hy226⟩ : ∃ y_ : List Int, y_ = (([1] : List Int)) := ⟨_, rfl⟩
           replace H : ((slices_Equal_int_int.f k ((rd_T80 t217 0).f2) y226).bind fun t229 => (some t229)) = some r := by first | (rw [hy226]; with_reducible exact H) | (have H2_ := (Option.bind_some _ _).symm.trans H; rw [hy226]; with_reducible exact H2_) | (have H2_ := (Option.bind_some _ _).symm.trans H; with_reducible exact H2_) | with_reducible exact H | (rw [hy226]; exact H) | exact H
           have Ny226 := Aside0.mk hy226
           clear hy226
           replace H := Option.bind_eq_some_iff.mp H
           obtain ⟨t229, A100, H⟩ := H
           replace H : (some t229) = some r := H
           have A10 := Aside0.mk A100
           clear A100
           obtain rfl := Option.some.inj H
           go_enter Try.func11, Try.ntmps11
           go_wp2_with (first | ((with_reducible refine gate_callee (f := 35) rfl ?_); refine goesL_ (some 6) rfl rfl Try.func35 (by kernel_rfl) rfl #[] rfl (by (try simp only [List.map_toArray, List.map_cons, List.map_nil]); first | done | rfl | (simp only [List.length_drop, List.length_take]; rfl)) ?_; (with_reducible refine (masklaw2_single.calls  t174 t177 t180 t183 t186 _ A1.out).mono ?_); rintro e w11 ⟨v175, v178, v181, v184, v187, rfl, ho0, ho1, ho2, ho3, ho4, hb⟩; refine ⟨_, rfl, ?_⟩; have n0_ := Aside0.mk (Kd.R_lower (Kd.R_mono (ok' := fun k_ => some k_ ≠ (v178 : Value).ownBlock) ho0 (fun _ hk_ => hk_.2)) (below_size (by repeat (first | (with_reducible first | exact HB.out | apply below_alloc | apply pw_below_drewN | apply below_drew1) | exact HB.out)))); have n1_ := Aside0.mk (Kd.R_lower (Kd.R_mono (ok' := fun k_ => some k_ ≠ (v175 : Value).ownBlock) ho1 (fun _ hk_ => hk_.2)) (below_size (by repeat (first | (with_reducible first | exact HB.out | apply below_alloc | apply pw_below_drewN | apply below_drew1) | exact HB.out)))); have n2_ := Aside0.mk (Kd.R_lower (Kd.R_mono (ok' := fun k_ => True) ho2 (fun _ hk_ => trivial)) (below_size (by repeat (first | (with_reducible first | exact HB.out | apply below_alloc | apply pw_below_drewN | apply below_drew1) | exact HB.out)))); have n3_ := Aside0.mk (Kd.N_lower (Kd.N_mono (ok' := fun k_ => some k_ ≠ (v175 : Value).ownBlock ∧ some k_ ≠ (v178 : Value).ownBlock ∧ some k_ ≠ (v181 : Value).ownBlock ∧ some k_ ≠ (v187 : Value).ownBlock) ho3 (fun k_ hk_ => ⟨hk_.2.1, hk_.2.2.1, hk_.2.2.2.1, hk_.2.2.2.2⟩)) (below_size (by repeat (first | (with_reducible first | exact HB.out | apply below_alloc | apply pw_below_drewN | apply below_drew1) | exact HB.out)))); have n4_ := Aside0.mk (Kd.R_lower (Kd.R_mono (ok' := fun k_ => True) ho4 (fun _ hk_ => trivial)) (below_size (by repeat (first | (with_reducible first | exact HB.out | apply below_alloc | apply pw_below_drewN | apply below_drew1) | exact HB.out)))); have n5_ := Aside0.mk (below_step (by repeat (first | (with_reducible first | exact HB.out | apply below_alloc | apply pw_below_drewN | apply below_drew1) | exact HB.out)) hb); clear HB; have HO176 := n0_; have HO179 := n1_; have HO182 := n2_; have HO185 := n3_; have HO188 := n4_; have HB := n5_; clear n0_ n1_ n2_ n3_ n4_ n5_; (try clear hb); (try clear hb2); (try clear hk); (try clear hi); (try clear ho0); (try clear ho1); (try clear ho2); (try clear ho3); (try clear ho4); obtain ⟨Ao12, co12, eo12⟩ := Kd.R_slice HO176.out; subst eo12; obtain ⟨Ao13, co13, eo13⟩ := Kd.R_slice HO179.out; subst eo13; obtain ⟨Ao14, co14, eo14⟩ := Kd.R_slice HO182.out; subst eo14; obtain ⟨Ao15, co15, eo15⟩ := Kd.N_slice HO185.out; subst eo15; obtain ⟨Ao16, co16, eo16⟩ := Kd.R_slice HO188.out; subst eo16) | ((with_reducible refine gate_callee (f := 14) rfl ?_); refine goesL_ (some 7) rfl rfl Try.func14 (by kernel_rfl) rfl #[.agg #[.slice Ao12 t174.length co12, .slice Ao13 t177.length co13, .slice Ao14 t180.length co14, .slice Ao15 t183.length co15, .slice Ao16 t186.length co16]] rfl (by (try simp only [List.map_toArray, List.map_cons, List.map_nil]); first | done | rfl | (simp only [List.length_drop, List.length_take]; rfl)) ?_; (with_reducible refine (fault_List.calls k _ _ t174 _ _ t177 _ _ t180 _ _ t183 _ _ t186 t189 t192 _ ?side1 ?side2 ?side3 ?side4 ?side5 ?side6 ?side7 ?side8 ?side9 ?side10 A2.out).mono ?_); (case side1 => repeat (first | exact (Kd.R_reads' HO176.out).2.2 | (with_reducible refine Kd.C_alloc ?_ _) | (with_reducible refine Kd.C_drewN ?_ _) | (with_reducible refine Kd.C_drew ?_))); (case side2 => exact (Kd.R_reads' HO176.out).2.1); (case side3 => repeat (first | exact (Kd.R_reads' HO179.out).2.2 | (with_reducible refine Kd.C_alloc ?_ _) | (with_reducible refine Kd.C_drewN ?_ _) | (with_reducible refine Kd.C_drew ?_))); (case side4 => exact (Kd.R_reads' HO179.out).2.1); (case side5 => repeat (first | exact (Kd.R_reads' HO182.out).2.2 | (with_reducible refine Kd.C_alloc ?_ _) | (with_reducible refine Kd.C_drewN ?_ _) | (with_reducible refine Kd.C_drew ?_))); (case side6 => exact (Kd.R_reads' HO182.out).2.1); (case side7 => repeat (first | exact (Kd.N_reads' HO185.out).2.2 | (with_reducible refine Kd.C_alloc ?_ _) | (with_reducible refine Kd.C_drewN ?_ _) | (with_reducible refine Kd.C_drew ?_))); (case side8 => exact (Kd.N_reads' HO185.out).2.1); (case side9 => repeat (first | exact (Kd.R_reads' HO188.out).2.2 | (with_reducible refine Kd.C_alloc ?_ _) | (with_reducible refine Kd.C_drewN ?_ _) | (with_reducible refine Kd.C_drew ?_))); (case side10 => exact (Kd.R_reads' HO188.out).2.1); rintro e w17 ⟨v190, rfl, ho0, hb⟩; refine ⟨_, rfl, ?_⟩; have n0_ := Aside0.mk (Kd.R_below (by (with_reducible repeat (first | apply Kd.R_alloc | apply Kd.R_drewN | apply Kd.R_drew)); exact HO176.out) hb); have n1_ := Aside0.mk (Kd.R_below (by (with_reducible repeat (first | apply Kd.R_alloc | apply Kd.R_drewN | apply Kd.R_drew)); exact HO179.out) hb); have n2_ := Aside0.mk (Kd.R_below (by (with_reducible repeat (first | apply Kd.R_alloc | apply Kd.R_drewN | apply Kd.R_drew)); exact HO182.out) hb); have n3_ := Aside0.mk (Kd.N_elder' (by (with_reducible repeat (first | apply Kd.N_alloc | apply Kd.N_drewN | apply Kd.N_drew)); exact HO185.out) (Kd.R_base ho0) hb); have n4_ := Aside0.mk (Kd.R_below (by (with_reducible repeat (first | apply Kd.R_alloc | apply Kd.R_drewN | apply Kd.R_drew)); exact HO188.out) hb); have n5_ := Aside0.mk (Kd.R_lower ho0 (below_size (by repeat (first | (with_reducible first | exact HB.out | apply below_alloc | apply pw_below_drewN | apply below_drew1) | exact HB.out)))); have n6_ := Aside0.mk (below_step (by repeat (first | (with_reducible first | exact HB.out | apply below_alloc | apply pw_below_drewN | apply below_drew1) | exact HB.out)) hb); clear HO176; clear HO179; clear HO182; clear HO185; clear HO188; clear HB; have HO176 := n0_; have HO179 := n1_; have HO182 := n2_; have HO185 := n3_; have HO188 := n4_; have HO191 := n5_; have HB := n6_; clear n0_ n1_ n2_ n3_ n4_ n5_ n6_; (try clear hb); (try clear hb2); (try clear hk); (try clear hi); (try clear ho0)) | ((with_reducible refine gate_callee (f := 35) rfl ?_); refine goesL_ (some 11) rfl rfl Try.func35 (by kernel_rfl) rfl #[] rfl (by (try simp only [List.map_toArray, List.map_cons, List.map_nil]); first | done | rfl | (simp only [List.length_drop, List.length_take]; rfl)) ?_; (with_reducible refine (masklaw2_single.calls  t193 t196 t199 t202 t205 _ A3.out).mono ?_); rintro e w18 ⟨v194, v197, v200, v203, v206, rfl, ho0, ho1, ho2, ho3, ho4, hb⟩; refine ⟨_, rfl, ?_⟩; have n0_ := Aside0.mk (Kd.R_mono (Kd.R_told (Kd.R_told (Kd.R_old (by (with_reducible repeat (first | apply Kd.R_alloc | apply Kd.R_drewN | apply Kd.R_drew)); exact HO176.out) hb) (Kd.R_base ho0)) (Kd.R_base ho1)) (fun _ h_ => h_.1)); have n1_ := Aside0.mk (Kd.R_mono (Kd.R_told (Kd.R_told (Kd.R_old (by (with_reducible repeat (first | apply Kd.R_alloc | apply Kd.R_drewN | apply Kd.R_drew)); exact HO179.out) hb) (Kd.R_base ho0)) (Kd.R_base ho1)) (fun _ h_ => h_.1)); have n2_ := Aside0.mk (Kd.R_elder' (by (with_reducible repeat (first | apply Kd.R_alloc | apply Kd.R_drewN | apply Kd.R_drew)); exact HO182.out) (Kd.R_base ho2) hb); have n3_ := Aside0.mk (Kd.N_mono (Kd.N_told (Kd.N_told (Kd.N_told (Kd.N_told (Kd.N_told (Kd.N_old (by (with_reducible repeat (first | apply Kd.N_alloc | apply Kd.N_drewN | apply Kd.N_drew)); exact HO185.out) hb) (Kd.R_base ho0)) (Kd.R_base ho1)) (Kd.R_base ho2)) (Kd.N_base ho3)) (Kd.R_base ho4)) (fun _ h_ => h_.1)); have n4_ := Aside0.mk (Kd.R_elder' (by (with_reducible repeat (first | apply Kd.R_alloc | apply Kd.R_drewN | apply Kd.R_drew)); exact HO188.out) (Kd.R_base ho4) hb); have n5_ := Aside0.mk (Kd.R_below (by (with_reducible repeat (first | apply Kd.R_alloc | apply Kd.R_drewN | apply Kd.R_drew)); exact HO191.out) hb); have n6_ := Aside0.mk (Kd.R_lower (Kd.R_new' (Kd.R_new' (Kd.R_mono (ok' := fun k_ => some k_ ≠ (v197 : Value).ownBlock) ho0 (fun _ hk_ => hk_.2)) (Kd.R_lt (by (with_reducible repeat (first | apply Kd.R_alloc | apply Kd.R_drewN | apply Kd.R_drew)); exact HO176.out))) (Kd.R_lt (by (with_reducible repeat (first | apply Kd.R_alloc | apply Kd.R_drewN | apply Kd.R_drew)); exact HO179.out))) (below_size (by repeat (first | (with_reducible first | exact HB.out | apply below_alloc | apply pw_below_drewN | apply below_drew1) | exact HB.out)))); have n7_ := Aside0.mk (Kd.R_lower (Kd.R_new' (Kd.R_new' (Kd.R_mono (ok' := fun k_ => some k_ ≠ (v194 : Value).ownBlock) ho1 (fun _ hk_ => hk_.2)) (Kd.R_lt (by (with_reducible repeat (first | apply Kd.R_alloc | apply Kd.R_drewN | apply Kd.R_drew)); exact HO176.out))) (Kd.R_lt (by (with_reducible repeat (first | apply Kd.R_alloc | apply Kd.R_drewN | apply Kd.R_drew)); exact HO179.out))) (below_size (by repeat (first | (with_reducible first | exact HB.out | apply below_alloc | apply pw_below_drewN | apply below_drew1) | exact HB.out)))); have n8_ := Aside0.mk (Kd.R_lower (Kd.R_new' (Kd.R_mono (ok' := fun k_ => True) ho2 (fun _ hk_ => trivial)) (Kd.R_lt (by (with_reducible repeat (first | apply Kd.R_alloc | apply Kd.R_drewN | apply Kd.R_drew)); exact HO182.out))) (below_size (by repeat (first | (with_reducible first | exact HB.out | apply below_alloc | apply pw_below_drewN | apply below_drew1) | exact HB.out)))); have n9_ := Aside0.mk (Kd.N_lower (Kd.N_mono (ok' := fun k_ => some k_ ≠ (v194 : Value).ownBlock ∧ some k_ ≠ (v197 : Value).ownBlock ∧ some k_ ≠ (v200 : Value).ownBlock ∧ some k_ ≠ (v206 : Value).ownBlock ∧ some k_ ≠ (.slice Ao12 t174.length co12 : Value).ownBlock ∧ some k_ ≠ (.slice Ao13 t177.length co13 : Value).ownBlock ∧ some k_ ≠ (.slice Ao14 t180.length co14 : Value).ownBlock ∧ some k_ ≠ (.slice Ao15 t183.length co15 : Value).ownBlock ∧ some k_ ≠ (.slice Ao16 t186.length co16 : Value).ownBlock ∧ some k_ ≠ (v190 : Value).ownBlock) ho3 (fun k_ hk_ => ⟨hk_.2.1, hk_.2.2.1, hk_.2.2.2.1, hk_.2.2.2.2, (Kd.fresh' (Kd.R_lt (by (with_reducible repeat (first | apply Kd.R_alloc | apply Kd.R_drewN | apply Kd.R_drew)); exact HO176.out)) k_ hk_.1), (Kd.fresh' (Kd.R_lt (by (with_reducible repeat (first | apply Kd.R_alloc | apply Kd.R_drewN | apply Kd.R_drew)); exact HO179.out)) k_ hk_.1), (Kd.fresh' (Kd.R_lt (by (with_reducible repeat (first | apply Kd.R_alloc | apply Kd.R_drewN | apply Kd.R_drew)); exact HO182.out)) k_ hk_.1), (Kd.fresh' (Kd.N_lt (by (with_reducible repeat (first | apply Kd.N_alloc | apply Kd.N_drewN | apply Kd.N_drew)); exact HO185.out)) k_ hk_.1), (Kd.fresh' (Kd.R_lt (by (with_reducible repeat (first | apply Kd.R_alloc | apply Kd.R_drewN | apply Kd.R_drew)); exact HO188.out)) k_ hk_.1), (Kd.fresh' (Kd.R_lt (by (with_reducible repeat (first | apply Kd.R_alloc | apply Kd.R_drewN | apply Kd.R_drew)); exact HO191.out)) k_ hk_.1)⟩)) (below_size (by repeat (first | (with_reducible first | exact HB.out | apply below_alloc | apply pw_below_drewN | apply below_drew1) | exact HB.out)))); have n10_ := Aside0.mk (Kd.R_lower (Kd.R_new' (Kd.R_mono (ok' := fun k_ => True) ho4 (fun _ hk_ => trivial)) (Kd.R_lt (by (with_reducible repeat (first | apply Kd.R_alloc | apply Kd.R_drewN | apply Kd.R_drew)); exact HO188.out))) (below_size (by repeat (first | (with_reducible first | exact HB.out | apply below_alloc | apply pw_below_drewN | apply below_drew1) | exact HB.out)))); have n11_ := Aside0.mk (below_step (by repeat (first | (with_reducible first | exact HB.out | apply below_alloc | apply pw_below_drewN | apply below_drew1) | exact HB.out)) hb); clear HO176; clear HO179; clear HO182; clear HO185; clear HO188; clear HO191; clear HB; have HO176 := n0_; have HO179 := n1_; have HO182 := n2_; have HO185 := n3_; have HO188 := n4_; have HO191 := n5_; have HO195 := n6_; have HO198 := n7_; have HO201 := n8_; have HO204 := n9_; have HO207 := n10_; have HB := n11_; clear n0_ n1_ n2_ n3_ n4_ n5_ n6_ n7_ n8_ n9_ n10_ n11_; (try clear hb); (try clear hb2); (try clear hk); (try clear hi); (try clear ho0); (try clear ho1); (try clear ho2); (try clear ho3); (try clear ho4); obtain ⟨Ao19, co19, eo19⟩ := Kd.R_slice HO195.out; subst eo19; obtain ⟨Ao20, co20, eo20⟩ := Kd.R_slice HO198.out; subst eo20; obtain ⟨Ao21, co21, eo21⟩ := Kd.R_slice HO201.out; subst eo21; obtain ⟨Ao22, co22, eo22⟩ := Kd.N_slice HO204.out; subst eo22; obtain ⟨Ao23, co23, eo23⟩ := Kd.R_slice HO207.out; subst eo23) | ((with_reducible refine gate_callee (f := 8) rfl ?_); refine goesL_ (some 13) rfl rfl Try.func8 (by kernel_rfl) rfl #[.agg #[.slice Ao19 t193.length co19, .slice Ao20 t196.length co20, .slice Ao21 t199.length co21, .slice Ao22 t202.length co22, .slice Ao23 t205.length co23], .agg #[.int .i64 2, .int .i64 (-1), .bool true]] rfl (by (try simp only [List.map_toArray, List.map_cons, List.map_nil]); first | done | rfl | (simp only [List.length_drop, List.length_take]; rfl)) ?_; (with_reducible refine (fault_Inject.calls k _ _ t193 _ _ t196 _ _ t199 _ _ t202 _ _ t205 2 (-1) true t208 t211 t214 t217 t220 t223 _ ?side1 ?side2 ?side3 ?side4 ?side5 ?side6 ?side7 ?side8 ?side9 ?side10 A4.out).mono ?_); (case side1 => repeat (first | exact (Kd.R_reads' HO195.out).2.2 | (with_reducible refine Kd.C_alloc ?_ _) | (with_reducible refine Kd.C_drewN ?_ _) | (with_reducible refine Kd.C_drew ?_))); (case side2 => exact (Kd.R_reads' HO195.out).2.1); (case side3 => repeat (first | exact (Kd.R_reads' HO198.out).2.2 | (with_reducible refine Kd.C_alloc ?_ _) | (with_reducible refine Kd.C_drewN ?_ _) | (with_reducible refine Kd.C_drew ?_))); (case side4 => exact (Kd.R_reads' HO198.out).2.1); (case side5 => repeat (first | exact (Kd.R_reads' HO201.out).2.2 | (with_reducible refine Kd.C_alloc ?_ _) | (with_reducible refine Kd.C_drewN ?_ _) | (with_reducible refine Kd.C_drew ?_))); (case side6 => exact (Kd.R_reads' HO201.out).2.1); (case side7 => repeat (first | exact (Kd.N_reads' HO204.out).2.2 | (with_reducible refine Kd.C_alloc ?_ _) | (with_reducible refine Kd.C_drewN ?_ _) | (with_reducible refine Kd.C_drew ?_))); (case side8 => exact (Kd.N_reads' HO204.out).2.1); (case side9 => repeat (first | exact (Kd.R_reads' HO207.out).2.2 | (with_reducible refine Kd.C_alloc ?_ _) | (with_reducible refine Kd.C_drewN ?_ _) | (with_reducible refine Kd.C_drew ?_))); (case side10 => exact (Kd.R_reads' HO207.out).2.1); rintro e w24 ⟨v209, v212, v215, v218, v221, rfl, ho0, ho1, ho2, ho3, ho4, hb⟩; refine ⟨_, rfl, ?_⟩; have n0_ := Aside0.mk (Kd.R_mono (Kd.R_told (Kd.R_told (Kd.R_old (by (with_reducible repeat (first | apply Kd.R_alloc | apply Kd.R_drewN | apply Kd.R_drew)); exact HO176.out) hb) (Kd.R_base ho0)) (Kd.R_base ho1)) (fun _ h_ => h_.1)); have n1_ := Aside0.mk (Kd.R_mono (Kd.R_told (Kd.R_told (Kd.R_old (by (with_reducible repeat (first | apply Kd.R_alloc | apply Kd.R_drewN | apply Kd.R_drew)); exact HO179.out) hb) (Kd.R_base ho0)) (Kd.R_base ho1)) (fun _ h_ => h_.1)); have n2_ := Aside0.mk (Kd.R_elder' (by (with_reducible repeat (first | apply Kd.R_alloc | apply Kd.R_drewN | apply Kd.R_drew)); exact HO182.out) (Kd.R_base ho2) hb); have n3_ := Aside0.mk (Kd.N_mono (Kd.N_told (Kd.N_told (Kd.N_told (Kd.N_told (Kd.N_told (Kd.N_old (by (with_reducible repeat (first | apply Kd.N_alloc | apply Kd.N_drewN | apply Kd.N_drew)); exact HO185.out) hb) (Kd.R_base ho0)) (Kd.R_base ho1)) (Kd.R_base ho2)) (Kd.S_base ho3)) (Kd.R_base ho4)) (fun _ h_ => h_.1)); have n4_ := Aside0.mk (Kd.R_elder' (by (with_reducible repeat (first | apply Kd.R_alloc | apply Kd.R_drewN | apply Kd.R_drew)); exact HO188.out) (Kd.R_base ho4) hb); have n5_ := Aside0.mk (Kd.R_below (by (with_reducible repeat (first | apply Kd.R_alloc | apply Kd.R_drewN | apply Kd.R_drew)); exact HO191.out) hb); have n6_ := Aside0.mk (Kd.R_mono (Kd.R_told (Kd.R_told (Kd.R_old (by (with_reducible repeat (first | apply Kd.R_alloc | apply Kd.R_drewN | apply Kd.R_drew)); exact HO195.out) hb) (Kd.R_base ho0)) (Kd.R_base ho1)) (fun _ h_ => h_.1)); have n7_ := Aside0.mk (Kd.R_mono (Kd.R_told (Kd.R_told (Kd.R_old (by (with_reducible repeat (first | apply Kd.R_alloc | apply Kd.R_drewN | apply Kd.R_drew)); exact HO198.out) hb) (Kd.R_base ho0)) (Kd.R_base ho1)) (fun _ h_ => h_.1)); have n8_ := Aside0.mk (Kd.R_elder' (by (with_reducible repeat (first | apply Kd.R_alloc | apply Kd.R_drewN | apply Kd.R_drew)); exact HO201.out) (Kd.R_base ho2) hb); have n9_ := Aside0.mk (Kd.N_mono (Kd.N_told (Kd.N_told (Kd.N_told (Kd.N_told (Kd.N_told (Kd.N_old (by (with_reducible repeat (first | apply Kd.N_alloc | apply Kd.N_drewN | apply Kd.N_drew)); exact HO204.out) hb) (Kd.R_base ho0)) (Kd.R_base ho1)) (Kd.R_base ho2)) (Kd.S_base ho3)) (Kd.R_base ho4)) (fun _ h_ => h_.1)); have n10_ := Aside0.mk (Kd.R_elder' (by (with_reducible repeat (first | apply Kd.R_alloc | apply Kd.R_drewN | apply Kd.R_drew)); exact HO207.out) (Kd.R_base ho4) hb); have n11_ := Aside0.mk (Kd.R_lower (Kd.R_new' (Kd.R_new' (Kd.R_new' (Kd.R_new' ho0 (Kd.R_lt (by (with_reducible repeat (first | apply Kd.R_alloc | apply Kd.R_drewN | apply Kd.R_drew)); exact HO176.out))) (Kd.R_lt (by (with_reducible repeat (first | apply Kd.R_alloc | apply Kd.R_drewN | apply Kd.R_drew)); exact HO179.out))) (Kd.R_lt (by (with_reducible repeat (first | apply Kd.R_alloc | apply Kd.R_drewN | apply Kd.R_drew)); exact HO195.out))) (Kd.R_lt (by (with_reducible repeat (first | apply Kd.R_alloc | apply Kd.R_drewN | apply Kd.R_drew)); exact HO198.out))) (below_size (by repeat (first | (with_reducible first | exact HB.out | apply below_alloc | apply pw_below_drewN | apply below_drew1) | exact HB.out)))); have n12_ := Aside0.mk (Kd.R_lower (Kd.R_new' (Kd.R_new' (Kd.R_new' (Kd.R_new' ho1 (Kd.R_lt (by (with_reducible repeat (first | apply Kd.R_alloc | apply Kd.R_drewN | apply Kd.R_drew)); exact HO176.out))) (Kd.R_lt (by (with_reducible repeat (first | apply Kd.R_alloc | apply Kd.R_drewN | apply Kd.R_drew)); exact HO179.out))) (Kd.R_lt (by (with_reducible repeat (first | apply Kd.R_alloc | apply Kd.R_drewN | apply Kd.R_drew)); exact HO195.out))) (Kd.R_lt (by (with_reducible repeat (first | apply Kd.R_alloc | apply Kd.R_drewN | apply Kd.R_drew)); exact HO198.out))) (below_size (by repeat (first | (with_reducible first | exact HB.out | apply below_alloc | apply pw_below_drewN | apply below_drew1) | exact HB.out)))); have n13_ := Aside0.mk (Kd.R_lower (Kd.R_new' (Kd.R_new' ho2 (Kd.R_lt (by (with_reducible repeat (first | apply Kd.R_alloc | apply Kd.R_drewN | apply Kd.R_drew)); exact HO182.out))) (Kd.R_lt (by (with_reducible repeat (first | apply Kd.R_alloc | apply Kd.R_drewN | apply Kd.R_drew)); exact HO201.out))) (below_size (by repeat (first | (with_reducible first | exact HB.out | apply below_alloc | apply pw_below_drewN | apply below_drew1) | exact HB.out)))); have n14_ := Aside0.mk (Kd.N_lower (Kd.N_mono (ok' := fun k_ => some k_ ≠ (v209 : Value).ownBlock ∧ some k_ ≠ (v212 : Value).ownBlock ∧ some k_ ≠ (v215 : Value).ownBlock ∧ some k_ ≠ (v221 : Value).ownBlock ∧ some k_ ≠ (.slice Ao12 t174.length co12 : Value).ownBlock ∧ some k_ ≠ (.slice Ao13 t177.length co13 : Value).ownBlock ∧ some k_ ≠ (.slice Ao14 t180.length co14 : Value).ownBlock ∧ some k_ ≠ (.slice Ao15 t183.length co15 : Value).ownBlock ∧ some k_ ≠ (.slice Ao16 t186.length co16 : Value).ownBlock ∧ some k_ ≠ (v190 : Value).ownBlock ∧ some k_ ≠ (.slice Ao19 t193.length co19 : Value).ownBlock ∧ some k_ ≠ (.slice Ao20 t196.length co20 : Value).ownBlock ∧ some k_ ≠ (.slice Ao21 t199.length co21 : Value).ownBlock ∧ some k_ ≠ (.slice Ao22 t202.length co22 : Value).ownBlock ∧ some k_ ≠ (.slice Ao23 t205.length co23 : Value).ownBlock) (Kd.S_N (Kd.S_bound (Kd.S_apart' (Kd.S_apart' (Kd.S_apart' ho3 (Kd.R_typed ho0) (by decide)) (Kd.R_typed ho1) (by decide)) (Kd.R_typed ho2) (by decide)))) (fun k_ hk_ => ⟨hk_.1.1.1.2, hk_.1.1.2, hk_.1.2, hk_.1.1.1.1, (Kd.fresh' (Kd.R_lt (by (with_reducible repeat (first | apply Kd.R_alloc | apply Kd.R_drewN | apply Kd.R_drew)); exact HO176.out)) k_ hk_.2.1), (Kd.fresh' (Kd.R_lt (by (with_reducible repeat (first | apply Kd.R_alloc | apply Kd.R_drewN | apply Kd.R_drew)); exact HO179.out)) k_ hk_.2.1), (Kd.fresh' (Kd.R_lt (by (with_reducible repeat (first | apply Kd.R_alloc | apply Kd.R_drewN | apply Kd.R_drew)); exact HO182.out)) k_ hk_.2.1), (Kd.fresh' (Kd.N_lt (by (with_reducible repeat (first | apply Kd.N_alloc | apply Kd.N_drewN | apply Kd.N_drew)); exact HO185.out)) k_ hk_.2.1), (Kd.fresh' (Kd.R_lt (by (with_reducible repeat (first | apply Kd.R_alloc | apply Kd.R_drewN | apply Kd.R_drew)); exact HO188.out)) k_ hk_.2.1), (Kd.fresh' (Kd.R_lt (by (with_reducible repeat (first | apply Kd.R_alloc | apply Kd.R_drewN | apply Kd.R_drew)); exact HO191.out)) k_ hk_.2.1), (Kd.fresh' (Kd.R_lt (by (with_reducible repeat (first | apply Kd.R_alloc | apply Kd.R_drewN | apply Kd.R_drew)); exact HO195.out)) k_ hk_.2.1), (Kd.fresh' (Kd.R_lt (by (with_reducible repeat (first | apply Kd.R_alloc | apply Kd.R_drewN | apply Kd.R_drew)); exact HO198.out)) k_ hk_.2.1), (Kd.fresh' (Kd.R_lt (by (with_reducible repeat (first | apply Kd.R_alloc | apply Kd.R_drewN | apply Kd.R_drew)); exact HO201.out)) k_ hk_.2.1), (Kd.fresh' (Kd.N_lt (by (with_reducible repeat (first | apply Kd.N_alloc | apply Kd.N_drewN | apply Kd.N_drew)); exact HO204.out)) k_ hk_.2.1), (Kd.fresh' (Kd.R_lt (by (with_reducible repeat (first | apply Kd.R_alloc | apply Kd.R_drewN | apply Kd.R_drew)); exact HO207.out)) k_ hk_.2.1)⟩)) (below_size (by repeat (first | (with_reducible first | exact HB.out | apply below_alloc | apply pw_below_drewN | apply below_drew1) | exact HB.out)))); have n15_ := Aside0.mk (Kd.R_lower (Kd.R_new' (Kd.R_new' ho4 (Kd.R_lt (by (with_reducible repeat (first | apply Kd.R_alloc | apply Kd.R_drewN | apply Kd.R_drew)); exact HO188.out))) (Kd.R_lt (by (with_reducible repeat (first | apply Kd.R_alloc | apply Kd.R_drewN | apply Kd.R_drew)); exact HO207.out))) (below_size (by repeat (first | (with_reducible first | exact HB.out | apply below_alloc | apply pw_below_drewN | apply below_drew1) | exact HB.out)))); have n16_ := Aside0.mk (below_step (by repeat (first | (with_reducible first | exact HB.out | apply below_alloc | apply pw_below_drewN | apply below_drew1) | exact HB.out)) hb); clear HO176; clear HO179; clear HO182; clear HO185; clear HO188; clear HO191; clear HO195; clear HO198; clear HO201; clear HO204; clear HO207; clear HB; have HO176 := n0_; have HO179 := n1_; have HO182 := n2_; have HO185 := n3_; have HO188 := n4_; have HO191 := n5_; have HO195 := n6_; have HO198 := n7_; have HO201 := n8_; have HO204 := n9_; have HO207 := n10_; have HO210 := n11_; have HO213 := n12_; have HO216 := n13_; have HO219 := n14_; have HO222 := n15_; have HB := n16_; clear n0_ n1_ n2_ n3_ n4_ n5_ n6_ n7_ n8_ n9_ n10_ n11_ n12_ n13_ n14_ n15_ n16_; (try clear hb); (try clear hb2); (try clear hk); (try clear hi); (try clear ho0); (try clear ho1); (try clear ho2); (try clear ho3); (try clear ho4)) | ((with_reducible refine gate_dst (N := 3) rfl ?_); (try (refine gate_guard (by rfl) ?_; dsimp only)); refine box_event ?hg (N := 3) ?hd (cs := #[.slice none 0 0, .slice none 0 0, .slice none 0 0, .slice none 0 0, .slice none 0 0]) (t := 27) ?hr ?_; (case hd => rfl); (case hg => rfl); (case hr => first | (go_simp; done) | (go_simp; rfl)); intro gb224 hg w25 hbox hb; have n0_ := Aside0.mk (Kd.R_below (by (with_reducible repeat (first | apply Kd.R_alloc | apply Kd.R_drewN | apply Kd.R_drew)); exact HO176.out) hb); have n1_ := Aside0.mk (Kd.R_below (by (with_reducible repeat (first | apply Kd.R_alloc | apply Kd.R_drewN | apply Kd.R_drew)); exact HO179.out) hb); have n2_ := Aside0.mk (Kd.R_below (by (with_reducible repeat (first | apply Kd.R_alloc | apply Kd.R_drewN | apply Kd.R_drew)); exact HO182.out) hb); have n3_ := Aside0.mk (Kd.N_below (Kd.N_elderB (by (with_reducible repeat (first | apply Kd.N_alloc | apply Kd.N_drewN | apply Kd.N_drew)); exact HO185.out) gb224 (Nat.le_of_eq hg.symm)) hb); have n4_ := Aside0.mk (Kd.R_below (by (with_reducible repeat (first | apply Kd.R_alloc | apply Kd.R_drewN | apply Kd.R_drew)); exact HO188.out) hb); have n5_ := Aside0.mk (Kd.R_below (by (with_reducible repeat (first | apply Kd.R_alloc | apply Kd.R_drewN | apply Kd.R_drew)); exact HO191.out) hb); have n6_ := Aside0.mk (Kd.R_below (by (with_reducible repeat (first | apply Kd.R_alloc | apply Kd.R_drewN | apply Kd.R_drew)); exact HO195.out) hb); have n7_ := Aside0.mk (Kd.R_below (by (with_reducible repeat (first | apply Kd.R_alloc | apply Kd.R_drewN | apply Kd.R_drew)); exact HO198.out) hb); have n8_ := Aside0.mk (Kd.R_below (by (with_reducible repeat (first | apply Kd.R_alloc | apply Kd.R_drewN | apply Kd.R_drew)); exact HO201.out) hb); have n9_ := Aside0.mk (Kd.N_below (Kd.N_elderB (by (with_reducible repeat (first | apply Kd.N_alloc | apply Kd.N_drewN | apply Kd.N_drew)); exact HO204.out) gb224 (Nat.le_of_eq hg.symm)) hb); have n10_ := Aside0.mk (Kd.R_below (by (with_reducible repeat (first | apply Kd.R_alloc | apply Kd.R_drewN | apply Kd.R_drew)); exact HO207.out) hb); have n11_ := Aside0.mk (Kd.R_below (by (with_reducible repeat (first | apply Kd.R_alloc | apply Kd.R_drewN | apply Kd.R_drew)); exact HO210.out) hb); have n12_ := Aside0.mk (Kd.R_below (by (with_reducible repeat (first | apply Kd.R_alloc | apply Kd.R_drewN | apply Kd.R_drew)); exact HO213.out) hb); have n13_ := Aside0.mk (Kd.R_below (by (with_reducible repeat (first | apply Kd.R_alloc | apply Kd.R_drewN | apply Kd.R_drew)); exact HO216.out) hb); have n14_ := Aside0.mk (Kd.N_below (Kd.N_elderB (by (with_reducible repeat (first | apply Kd.N_alloc | apply Kd.N_drewN | apply Kd.N_drew)); exact HO219.out) gb224 (Nat.le_of_eq hg.symm)) hb); have n15_ := Aside0.mk (Kd.R_below (by (with_reducible repeat (first | apply Kd.R_alloc | apply Kd.R_drewN | apply Kd.R_drew)); exact HO222.out) hb); have n16_ := Aside0.mk (below_step (by repeat (first | (with_reducible first | exact HB.out | apply below_alloc | apply pw_below_drewN | apply below_drew1) | exact HB.out)) hb); have n17_ := Aside0.mk (hbox); have n18_ := Aside0.mk ((by rw [hg]; exact (below_size (by repeat (first | (with_reducible first | exact HB.out | apply below_alloc | apply pw_below_drewN | apply below_drew1) | exact HB.out))) : w.heap.size ≤ gb224)); have n19_ := Aside0.mk ((by rw [hg]; exact (below_size (by repeat (first | (with_reducible first | exact HB.out | apply below_alloc | apply pw_below_drewN | apply below_drew1) | exact HB.out))) : w.heap.size ≤ gb224)); clear HO176; clear HO179; clear HO182; clear HO185; clear HO188; clear HO191; clear HO195; clear HO198; clear HO201; clear HO204; clear HO207; clear HO210; clear HO213; clear HO216; clear HO219; clear HO222; clear HB; have HO176 := n0_; have HO179 := n1_; have HO182 := n2_; have HO185 := n3_; have HO188 := n4_; have HO191 := n5_; have HO195 := n6_; have HO198 := n7_; have HO201 := n8_; have HO204 := n9_; have HO207 := n10_; have HO210 := n11_; have HO213 := n12_; have HO216 := n13_; have HO219 := n14_; have HO222 := n15_; have HB := n16_; have BK224 := n17_; have GW224 := n18_; have GE224 := n19_; clear n0_ n1_ n2_ n3_ n4_ n5_ n6_ n7_ n8_ n9_ n10_ n11_ n12_ n13_ n14_ n15_ n16_ n17_ n18_ n19_; clear hb hbox hg; obtain ⟨Ao26, co26, eo26⟩ := Kd.R_slice HO210.out; subst eo26; have hcz27_0 : w25.cell? ⟨gb224, 0, none⟩ = some (.slice none 0 0) := (blk_cell BK224.out 0).trans rfl; have hcz27_1 : w25.cell? ⟨gb224, 1, none⟩ = some (.slice none 0 0) := (blk_cell BK224.out 1).trans rfl; have hcz27_2 : w25.cell? ⟨gb224, 2, none⟩ = some (.slice none 0 0) := (blk_cell BK224.out 2).trans rfl; have hcz27_3 : w25.cell? ⟨gb224, 3, none⟩ = some (.slice none 0 0) := (blk_cell BK224.out 3).trans rfl; have hcz27_4 : w25.cell? ⟨gb224, 4, none⟩ = some (.slice none 0 0) := (blk_cell BK224.out 4).trans rfl; have hfz27_0 := blk_frozen BK224.out 0; have hfz27_1 := blk_frozen BK224.out 1; have hfz27_2 := blk_frozen BK224.out 2; have hfz27_3 := blk_frozen BK224.out 3; have hfz27_4 := blk_frozen BK224.out 4; obtain ⟨Ao28, co28, eo28⟩ := Kd.R_slice HO213.out; subst eo28; obtain ⟨Ao29, co29, eo29⟩ := Kd.R_slice HO216.out; subst eo29; obtain ⟨Ao30, co30, eo30⟩ := Kd.N_slice HO219.out; subst eo30; obtain ⟨Ao31, co31, eo31⟩ := Kd.R_slice HO222.out; subst eo31) | ((with_reducible refine gate_store (t := 27) (p := 3) rfl ?_); refine store_event (t := 27) (p := 3) (v := ?vo_w32) (w1 := (((((w25.setCell ⟨gb224, 0, none⟩ (.slice Ao26 t208.length co26)).setCell ⟨gb224, 1, none⟩ (.slice Ao28 t211.length co28)).setCell ⟨gb224, 2, none⟩ (.slice Ao29 t214.length co29)).setCell ⟨gb224, 3, none⟩ (.slice Ao30 t217.length co30)).setCell ⟨gb224, 4, none⟩ (.slice Ao31 t220.length co31))) ?hg ?ho ?hn ?hr ?_; (case ho => rfl); (case hg => rfl); (case hn => rfl); (case hr => first | (go_simp; done) | (go_simp; rfl)); intro w32 hw; have n0_ : Aside0 (Kd.R Kd.string 9 w32 w.heap.size (fun k_ => some k_ ≠ (.slice Ao13 t177.length co13 : Value).ownBlock ∧ some k_ ≠ (.slice Ao19 t193.length co19 : Value).ownBlock ∧ some k_ ≠ (.slice Ao20 t196.length co20 : Value).ownBlock ∧ some k_ ≠ (.slice Ao26 t208.length co26 : Value).ownBlock ∧ some k_ ≠ (.slice Ao28 t211.length co28 : Value).ownBlock) (.slice Ao12 t174.length co12) t174) := ⟨(by rw [hw]; exact (by (with_reducible repeat (first | apply Kd.R_alloc | apply Kd.R_drewN | apply Kd.R_drew)); exact Kd.R_mono (Kd.R_far (p := ⟨gb224, 4, none⟩) (Kd.R_far (p := ⟨gb224, 3, none⟩) (Kd.R_far (p := ⟨gb224, 2, none⟩) (Kd.R_far (p := ⟨gb224, 1, none⟩) (Kd.R_far (p := ⟨gb224, 0, none⟩) (Kd.R_types HO176.out BK224.out (by decide)) (fun _ hk => hk.2) (.slice Ao26 t208.length co26)) (fun _ hk => hk.2) (.slice Ao28 t211.length co28)) (fun _ hk => hk.2) (.slice Ao29 t214.length co29)) (fun _ hk => hk.2) (.slice Ao30 t217.length co30)) (fun _ hk => hk.2) (.slice Ao31 t220.length co31)) (fun _ hk => ⟨hk.1.1.1.1.1, ⟨hk.1.1.1.1.2, ⟨hk.1.1.1.2, ⟨hk.1.1.2, hk.1.2⟩⟩⟩⟩)))⟩; have n1_ : Aside0 (Kd.R Kd.string 9 w32 w.heap.size (fun k_ => some k_ ≠ (.slice Ao12 t174.length co12 : Value).ownBlock ∧ some k_ ≠ (.slice Ao19 t193.length co19 : Value).ownBlock ∧ some k_ ≠ (.slice Ao20 t196.length co20 : Value).ownBlock ∧ some k_ ≠ (.slice Ao26 t208.length co26 : Value).ownBlock ∧ some k_ ≠ (.slice Ao28 t211.length co28 : Value).ownBlock) (.slice Ao13 t177.length co13) t177) := ⟨(by rw [hw]; exact (by (with_reducible repeat (first | apply Kd.R_alloc | apply Kd.R_drewN | apply Kd.R_drew)); exact Kd.R_mono (Kd.R_far (p := ⟨gb224, 4, none⟩) (Kd.R_far (p := ⟨gb224, 3, none⟩) (Kd.R_far (p := ⟨gb224, 2, none⟩) (Kd.R_far (p := ⟨gb224, 1, none⟩) (Kd.R_far (p := ⟨gb224, 0, none⟩) (Kd.R_types HO179.out BK224.out (by decide)) (fun _ hk => hk.2) (.slice Ao26 t208.length co26)) (fun _ hk => hk.2) (.slice Ao28 t211.length co28)) (fun _ hk => hk.2) (.slice Ao29 t214.length co29)) (fun _ hk => hk.2) (.slice Ao30 t217.length co30)) (fun _ hk => hk.2) (.slice Ao31 t220.length co31)) (fun _ hk => ⟨hk.1.1.1.1.1, ⟨hk.1.1.1.1.2, ⟨hk.1.1.1.2, ⟨hk.1.1.2, hk.1.2⟩⟩⟩⟩)))⟩; have n2_ : Aside0 (Kd.R k82 82 w32 w.heap.size (fun k_ => some k_ ≠ (.slice Ao21 t199.length co21 : Value).ownBlock ∧ some k_ ≠ (.slice Ao29 t214.length co29 : Value).ownBlock) (.slice Ao14 t180.length co14) t180) := ⟨(by rw [hw]; exact (by (with_reducible repeat (first | apply Kd.R_alloc | apply Kd.R_drewN | apply Kd.R_drew)); exact Kd.R_mono (Kd.R_far (p := ⟨gb224, 4, none⟩) (Kd.R_far (p := ⟨gb224, 3, none⟩) (Kd.R_far (p := ⟨gb224, 2, none⟩) (Kd.R_far (p := ⟨gb224, 1, none⟩) (Kd.R_far (p := ⟨gb224, 0, none⟩) (Kd.R_types HO182.out BK224.out (by decide)) (fun _ hk => hk.2) (.slice Ao26 t208.length co26)) (fun _ hk => hk.2) (.slice Ao28 t211.length co28)) (fun _ hk => hk.2) (.slice Ao29 t214.length co29)) (fun _ hk => hk.2) (.slice Ao30 t217.length co30)) (fun _ hk => hk.2) (.slice Ao31 t220.length co31)) (fun _ hk => ⟨hk.1.1.2, hk.1.2⟩)))⟩; have n3_ : Aside0 (Kd.N k80 80 w32 w.heap.size (fun k_ => some k_ ≠ (.slice Ao12 t174.length co12 : Value).ownBlock ∧ some k_ ≠ (.slice Ao13 t177.length co13 : Value).ownBlock ∧ some k_ ≠ (.slice Ao14 t180.length co14 : Value).ownBlock ∧ some k_ ≠ (.slice Ao16 t186.length co16 : Value).ownBlock ∧ some k_ ≠ (v190 : Value).ownBlock ∧ some k_ ≠ (.slice Ao19 t193.length co19 : Value).ownBlock ∧ some k_ ≠ (.slice Ao20 t196.length co20 : Value).ownBlock ∧ some k_ ≠ (.slice Ao21 t199.length co21 : Value).ownBlock ∧ some k_ ≠ (.slice Ao22 t202.length co22 : Value).ownBlock ∧ some k_ ≠ (.slice Ao23 t205.length co23 : Value).ownBlock ∧ some k_ ≠ (.slice Ao26 t208.length co26 : Value).ownBlock ∧ some k_ ≠ (.slice Ao28 t211.length co28 : Value).ownBlock ∧ some k_ ≠ (.slice Ao29 t214.length co29 : Value).ownBlock ∧ some k_ ≠ (.slice Ao30 t217.length co30 : Value).ownBlock ∧ some k_ ≠ (.slice Ao31 t220.length co31 : Value).ownBlock ∧ k_ ≠ gb224) (.slice Ao15 t183.length co15) t183) := ⟨(by rw [hw]; exact (by (with_reducible repeat (first | apply Kd.N_alloc | apply Kd.N_drewN | apply Kd.N_drew)); exact Kd.N_mono (Kd.N_far (p := ⟨gb224, 4, none⟩) (Kd.N_far (p := ⟨gb224, 3, none⟩) (Kd.N_far (p := ⟨gb224, 2, none⟩) (Kd.N_far (p := ⟨gb224, 1, none⟩) (Kd.N_far (p := ⟨gb224, 0, none⟩) (Kd.N_mono HO185.out (fun k_ hk => (⟨hk, hk.2⟩ : _ ∧ k_ ≠ gb224))) (fun _ hk => hk.2) (.slice Ao26 t208.length co26)) (fun _ hk => hk.2) (.slice Ao28 t211.length co28)) (fun _ hk => hk.2) (.slice Ao29 t214.length co29)) (fun _ hk => hk.2) (.slice Ao30 t217.length co30)) (fun _ hk => hk.2) (.slice Ao31 t220.length co31)) (fun _ hk => ⟨hk.1.1.1.1.1.1.1.1.1.1.1.1.1.1, ⟨hk.1.1.1.1.1.1.1.1.1.1.1.1.1.2.1, ⟨hk.1.1.1.1.1.1.1.1.1.1.1.1.1.2.2.1, ⟨hk.1.1.1.1.1.1.1.1.1.1.1.1.1.2.2.2, ⟨hk.1.1.1.1.1.1.1.1.1.1.1.1.2, ⟨hk.1.1.1.1.1.1.1.1.1.1.1.2, ⟨hk.1.1.1.1.1.1.1.1.1.1.2, ⟨hk.1.1.1.1.1.1.1.1.1.2, ⟨hk.1.1.1.1.1.1.1.1.2, ⟨hk.1.1.1.1.1.1.1.2, ⟨hk.1.1.1.1.1.1.2, ⟨hk.1.1.1.1.1.2, ⟨hk.1.1.1.1.2, ⟨hk.1.1.1.2, ⟨hk.1.1.2, hk.1.2⟩⟩⟩⟩⟩⟩⟩⟩⟩⟩⟩⟩⟩⟩⟩)))⟩; have n4_ : Aside0 (Kd.R (Kd.int .i64) 3 w32 w.heap.size (fun k_ => some k_ ≠ (.slice Ao23 t205.length co23 : Value).ownBlock ∧ some k_ ≠ (.slice Ao31 t220.length co31 : Value).ownBlock) (.slice Ao16 t186.length co16) t186) := ⟨(by rw [hw]; exact (by (with_reducible repeat (first | apply Kd.R_alloc | apply Kd.R_drewN | apply Kd.R_drew)); exact Kd.R_mono (Kd.R_far (p := ⟨gb224, 4, none⟩) (Kd.R_far (p := ⟨gb224, 3, none⟩) (Kd.R_far (p := ⟨gb224, 2, none⟩) (Kd.R_far (p := ⟨gb224, 1, none⟩) (Kd.R_far (p := ⟨gb224, 0, none⟩) (Kd.R_types HO188.out BK224.out (by decide)) (fun _ hk => hk.2) (.slice Ao26 t208.length co26)) (fun _ hk => hk.2) (.slice Ao28 t211.length co28)) (fun _ hk => hk.2) (.slice Ao29 t214.length co29)) (fun _ hk => hk.2) (.slice Ao30 t217.length co30)) (fun _ hk => hk.2) (.slice Ao31 t220.length co31)) (fun _ hk => ⟨hk.1.1.2, hk.1.2⟩)))⟩; have n5_ : Aside0 (Kd.R k29 29 w32 w.heap.size (fun _ => True) v190 t189) := ⟨(by rw [hw]; exact (by (with_reducible repeat (first | apply Kd.R_alloc | apply Kd.R_drewN | apply Kd.R_drew)); exact Kd.R_mono (Kd.R_far (p := ⟨gb224, 4, none⟩) (Kd.R_far (p := ⟨gb224, 3, none⟩) (Kd.R_far (p := ⟨gb224, 2, none⟩) (Kd.R_far (p := ⟨gb224, 1, none⟩) (Kd.R_far (p := ⟨gb224, 0, none⟩) (Kd.R_types HO191.out BK224.out (by decide)) (fun _ hk => hk.2) (.slice Ao26 t208.length co26)) (fun _ hk => hk.2) (.slice Ao28 t211.length co28)) (fun _ hk => hk.2) (.slice Ao29 t214.length co29)) (fun _ hk => hk.2) (.slice Ao30 t217.length co30)) (fun _ hk => hk.2) (.slice Ao31 t220.length co31)) (fun _ hk => trivial)))⟩; have n6_ : Aside0 (Kd.R Kd.string 9 w32 w.heap.size (fun k_ => some k_ ≠ (.slice Ao12 t174.length co12 : Value).ownBlock ∧ some k_ ≠ (.slice Ao13 t177.length co13 : Value).ownBlock ∧ some k_ ≠ (.slice Ao20 t196.length co20 : Value).ownBlock ∧ some k_ ≠ (.slice Ao26 t208.length co26 : Value).ownBlock ∧ some k_ ≠ (.slice Ao28 t211.length co28 : Value).ownBlock) (.slice Ao19 t193.length co19) t193) := ⟨(by rw [hw]; exact (by (with_reducible repeat (first | apply Kd.R_alloc | apply Kd.R_drewN | apply Kd.R_drew)); exact Kd.R_mono (Kd.R_far (p := ⟨gb224, 4, none⟩) (Kd.R_far (p := ⟨gb224, 3, none⟩) (Kd.R_far (p := ⟨gb224, 2, none⟩) (Kd.R_far (p := ⟨gb224, 1, none⟩) (Kd.R_far (p := ⟨gb224, 0, none⟩) (Kd.R_types HO195.out BK224.out (by decide)) (fun _ hk => hk.2) (.slice Ao26 t208.length co26)) (fun _ hk => hk.2) (.slice Ao28 t211.length co28)) (fun _ hk => hk.2) (.slice Ao29 t214.length co29)) (fun _ hk => hk.2) (.slice Ao30 t217.length co30)) (fun _ hk => hk.2) (.slice Ao31 t220.length co31)) (fun _ hk => ⟨hk.1.1.1.1.2, ⟨hk.1.1.1.2, ⟨hk.1.1.1.1.1, ⟨hk.1.1.2, hk.1.2⟩⟩⟩⟩)))⟩; have n7_ : Aside0 (Kd.R Kd.string 9 w32 w.heap.size (fun k_ => some k_ ≠ (.slice Ao12 t174.length co12 : Value).ownBlock ∧ some k_ ≠ (.slice Ao13 t177.length co13 : Value).ownBlock ∧ some k_ ≠ (.slice Ao19 t193.length co19 : Value).ownBlock ∧ some k_ ≠ (.slice Ao26 t208.length co26 : Value).ownBlock ∧ some k_ ≠ (.slice Ao28 t211.length co28 : Value).ownBlock) (.slice Ao20 t196.length co20) t196) := ⟨(by rw [hw]; exact (by (with_reducible repeat (first | apply Kd.R_alloc | apply Kd.R_drewN | apply Kd.R_drew)); exact Kd.R_mono (Kd.R_far (p := ⟨gb224, 4, none⟩) (Kd.R_far (p := ⟨gb224, 3, none⟩) (Kd.R_far (p := ⟨gb224, 2, none⟩) (Kd.R_far (p := ⟨gb224, 1, none⟩) (Kd.R_far (p := ⟨gb224, 0, none⟩) (Kd.R_types HO198.out BK224.out (by decide)) (fun _ hk => hk.2) (.slice Ao26 t208.length co26)) (fun _ hk => hk.2) (.slice Ao28 t211.length co28)) (fun _ hk => hk.2) (.slice Ao29 t214.length co29)) (fun _ hk => hk.2) (.slice Ao30 t217.length co30)) (fun _ hk => hk.2) (.slice Ao31 t220.length co31)) (fun _ hk => ⟨hk.1.1.1.1.2, ⟨hk.1.1.1.2, ⟨hk.1.1.1.1.1, ⟨hk.1.1.2, hk.1.2⟩⟩⟩⟩)))⟩; have n8_ : Aside0 (Kd.R k82 82 w32 w.heap.size (fun k_ => some k_ ≠ (.slice Ao14 t180.length co14 : Value).ownBlock ∧ some k_ ≠ (.slice Ao29 t214.length co29 : Value).ownBlock) (.slice Ao21 t199.length co21) t199) := ⟨(by rw [hw]; exact (by (with_reducible repeat (first | apply Kd.R_alloc | apply Kd.R_drewN | apply Kd.R_drew)); exact Kd.R_mono (Kd.R_far (p := ⟨gb224, 4, none⟩) (Kd.R_far (p := ⟨gb224, 3, none⟩) (Kd.R_far (p := ⟨gb224, 2, none⟩) (Kd.R_far (p := ⟨gb224, 1, none⟩) (Kd.R_far (p := ⟨gb224, 0, none⟩) (Kd.R_types HO201.out BK224.out (by decide)) (fun _ hk => hk.2) (.slice Ao26 t208.length co26)) (fun _ hk => hk.2) (.slice Ao28 t211.length co28)) (fun _ hk => hk.2) (.slice Ao29 t214.length co29)) (fun _ hk => hk.2) (.slice Ao30 t217.length co30)) (fun _ hk => hk.2) (.slice Ao31 t220.length co31)) (fun _ hk => ⟨hk.1.1.2, hk.1.2⟩)))⟩; have n9_ : Aside0 (Kd.N k80 80 w32 w.heap.size (fun k_ => some k_ ≠ (.slice Ao12 t174.length co12 : Value).ownBlock ∧ some k_ ≠ (.slice Ao13 t177.length co13 : Value).ownBlock ∧ some k_ ≠ (.slice Ao14 t180.length co14 : Value).ownBlock ∧ some k_ ≠ (.slice Ao15 t183.length co15 : Value).ownBlock ∧ some k_ ≠ (.slice Ao16 t186.length co16 : Value).ownBlock ∧ some k_ ≠ (v190 : Value).ownBlock ∧ some k_ ≠ (.slice Ao19 t193.length co19 : Value).ownBlock ∧ some k_ ≠ (.slice Ao20 t196.length co20 : Value).ownBlock ∧ some k_ ≠ (.slice Ao21 t199.length co21 : Value).ownBlock ∧ some k_ ≠ (.slice Ao23 t205.length co23 : Value).ownBlock ∧ some k_ ≠ (.slice Ao26 t208.length co26 : Value).ownBlock ∧ some k_ ≠ (.slice Ao28 t211.length co28 : Value).ownBlock ∧ some k_ ≠ (.slice Ao29 t214.length co29 : Value).ownBlock ∧ some k_ ≠ (.slice Ao30 t217.length co30 : Value).ownBlock ∧ some k_ ≠ (.slice Ao31 t220.length co31 : Value).ownBlock ∧ k_ ≠ gb224) (.slice Ao22 t202.length co22) t202) := ⟨(by rw [hw]; exact (by (with_reducible repeat (first | apply Kd.N_alloc | apply Kd.N_drewN | apply Kd.N_drew)); exact Kd.N_mono (Kd.N_far (p := ⟨gb224, 4, none⟩) (Kd.N_far (p := ⟨gb224, 3, none⟩) (Kd.N_far (p := ⟨gb224, 2, none⟩) (Kd.N_far (p := ⟨gb224, 1, none⟩) (Kd.N_far (p := ⟨gb224, 0, none⟩) (Kd.N_mono HO204.out (fun k_ hk => (⟨hk, hk.2⟩ : _ ∧ k_ ≠ gb224))) (fun _ hk => hk.2) (.slice Ao26 t208.length co26)) (fun _ hk => hk.2) (.slice Ao28 t211.length co28)) (fun _ hk => hk.2) (.slice Ao29 t214.length co29)) (fun _ hk => hk.2) (.slice Ao30 t217.length co30)) (fun _ hk => hk.2) (.slice Ao31 t220.length co31)) (fun _ hk => ⟨hk.1.1.1.1.1.1.1.2.2.2.2.1, ⟨hk.1.1.1.1.1.1.1.2.2.2.2.2.1, ⟨hk.1.1.1.1.1.1.1.2.2.2.2.2.2.1, ⟨hk.1.1.1.1.1.1.1.2.2.2.2.2.2.2.1, ⟨hk.1.1.1.1.1.1.1.2.2.2.2.2.2.2.2.1, ⟨hk.1.1.1.1.1.1.1.2.2.2.2.2.2.2.2.2, ⟨hk.1.1.1.1.1.1.1.1, ⟨hk.1.1.1.1.1.1.1.2.1, ⟨hk.1.1.1.1.1.1.1.2.2.1, ⟨hk.1.1.1.1.1.1.1.2.2.2.1, ⟨hk.1.1.1.1.1.1.2, ⟨hk.1.1.1.1.1.2, ⟨hk.1.1.1.1.2, ⟨hk.1.1.1.2, ⟨hk.1.1.2, hk.1.2⟩⟩⟩⟩⟩⟩⟩⟩⟩⟩⟩⟩⟩⟩⟩)))⟩; have n10_ : Aside0 (Kd.R (Kd.int .i64) 3 w32 w.heap.size (fun k_ => some k_ ≠ (.slice Ao16 t186.length co16 : Value).ownBlock ∧ some k_ ≠ (.slice Ao31 t220.length co31 : Value).ownBlock) (.slice Ao23 t205.length co23) t205) := ⟨(by rw [hw]; exact (by (with_reducible repeat (first | apply Kd.R_alloc | apply Kd.R_drewN | apply Kd.R_drew)); exact Kd.R_mono (Kd.R_far (p := ⟨gb224, 4, none⟩) (Kd.R_far (p := ⟨gb224, 3, none⟩) (Kd.R_far (p := ⟨gb224, 2, none⟩) (Kd.R_far (p := ⟨gb224, 1, none⟩) (Kd.R_far (p := ⟨gb224, 0, none⟩) (Kd.R_types HO207.out BK224.out (by decide)) (fun _ hk => hk.2) (.slice Ao26 t208.length co26)) (fun _ hk => hk.2) (.slice Ao28 t211.length co28)) (fun _ hk => hk.2) (.slice Ao29 t214.length co29)) (fun _ hk => hk.2) (.slice Ao30 t217.length co30)) (fun _ hk => hk.2) (.slice Ao31 t220.length co31)) (fun _ hk => ⟨hk.1.1.2, hk.1.2⟩)))⟩; have n11_ : Aside0 (Kd.R Kd.string 9 w32 w.heap.size (fun k_ => some k_ ≠ (.slice Ao12 t174.length co12 : Value).ownBlock ∧ some k_ ≠ (.slice Ao13 t177.length co13 : Value).ownBlock ∧ some k_ ≠ (.slice Ao19 t193.length co19 : Value).ownBlock ∧ some k_ ≠ (.slice Ao20 t196.length co20 : Value).ownBlock ∧ some k_ ≠ (.slice Ao28 t211.length co28 : Value).ownBlock) (.slice Ao26 t208.length co26) t208) := ⟨(by rw [hw]; exact (by (with_reducible repeat (first | apply Kd.R_alloc | apply Kd.R_drewN | apply Kd.R_drew)); exact Kd.R_mono (Kd.R_far (p := ⟨gb224, 4, none⟩) (Kd.R_far (p := ⟨gb224, 3, none⟩) (Kd.R_far (p := ⟨gb224, 2, none⟩) (Kd.R_far (p := ⟨gb224, 1, none⟩) (Kd.R_far (p := ⟨gb224, 0, none⟩) (Kd.R_types HO210.out BK224.out (by decide)) (fun _ hk => hk.2) (.slice Ao26 t208.length co26)) (fun _ hk => hk.2) (.slice Ao28 t211.length co28)) (fun _ hk => hk.2) (.slice Ao29 t214.length co29)) (fun _ hk => hk.2) (.slice Ao30 t217.length co30)) (fun _ hk => hk.2) (.slice Ao31 t220.length co31)) (fun _ hk => ⟨hk.1.1.1.1.2, ⟨hk.1.1.1.2, ⟨hk.1.1.2, ⟨hk.1.2, hk.1.1.1.1.1⟩⟩⟩⟩)))⟩; have n12_ : Aside0 (Kd.R Kd.string 9 w32 w.heap.size (fun k_ => some k_ ≠ (.slice Ao12 t174.length co12 : Value).ownBlock ∧ some k_ ≠ (.slice Ao13 t177.length co13 : Value).ownBlock ∧ some k_ ≠ (.slice Ao19 t193.length co19 : Value).ownBlock ∧ some k_ ≠ (.slice Ao20 t196.length co20 : Value).ownBlock ∧ some k_ ≠ (.slice Ao26 t208.length co26 : Value).ownBlock) (.slice Ao28 t211.length co28) t211) := ⟨(by rw [hw]; exact (by (with_reducible repeat (first | apply Kd.R_alloc | apply Kd.R_drewN | apply Kd.R_drew)); exact Kd.R_mono (Kd.R_far (p := ⟨gb224, 4, none⟩) (Kd.R_far (p := ⟨gb224, 3, none⟩) (Kd.R_far (p := ⟨gb224, 2, none⟩) (Kd.R_far (p := ⟨gb224, 1, none⟩) (Kd.R_far (p := ⟨gb224, 0, none⟩) (Kd.R_types HO213.out BK224.out (by decide)) (fun _ hk => hk.2) (.slice Ao26 t208.length co26)) (fun _ hk => hk.2) (.slice Ao28 t211.length co28)) (fun _ hk => hk.2) (.slice Ao29 t214.length co29)) (fun _ hk => hk.2) (.slice Ao30 t217.length co30)) (fun _ hk => hk.2) (.slice Ao31 t220.length co31)) (fun _ hk => ⟨hk.1.1.1.1.2, ⟨hk.1.1.1.2, ⟨hk.1.1.2, ⟨hk.1.2, hk.1.1.1.1.1⟩⟩⟩⟩)))⟩; have n13_ : Aside0 (Kd.R k82 82 w32 w.heap.size (fun k_ => some k_ ≠ (.slice Ao14 t180.length co14 : Value).ownBlock ∧ some k_ ≠ (.slice Ao21 t199.length co21 : Value).ownBlock) (.slice Ao29 t214.length co29) t214) := ⟨(by rw [hw]; exact (by (with_reducible repeat (first | apply Kd.R_alloc | apply Kd.R_drewN | apply Kd.R_drew)); exact Kd.R_mono (Kd.R_far (p := ⟨gb224, 4, none⟩) (Kd.R_far (p := ⟨gb224, 3, none⟩) (Kd.R_far (p := ⟨gb224, 2, none⟩) (Kd.R_far (p := ⟨gb224, 1, none⟩) (Kd.R_far (p := ⟨gb224, 0, none⟩) (Kd.R_types HO216.out BK224.out (by decide)) (fun _ hk => hk.2) (.slice Ao26 t208.length co26)) (fun _ hk => hk.2) (.slice Ao28 t211.length co28)) (fun _ hk => hk.2) (.slice Ao29 t214.length co29)) (fun _ hk => hk.2) (.slice Ao30 t217.length co30)) (fun _ hk => hk.2) (.slice Ao31 t220.length co31)) (fun _ hk => ⟨hk.1.1.2, hk.1.2⟩)))⟩; have n14_ : Aside0 (Kd.N k80 80 w32 w.heap.size (fun k_ => some k_ ≠ (.slice Ao12 t174.length co12 : Value).ownBlock ∧ some k_ ≠ (.slice Ao13 t177.length co13 : Value).ownBlock ∧ some k_ ≠ (.slice Ao14 t180.length co14 : Value).ownBlock ∧ some k_ ≠ (.slice Ao15 t183.length co15 : Value).ownBlock ∧ some k_ ≠ (.slice Ao16 t186.length co16 : Value).ownBlock ∧ some k_ ≠ (v190 : Value).ownBlock ∧ some k_ ≠ (.slice Ao19 t193.length co19 : Value).ownBlock ∧ some k_ ≠ (.slice Ao20 t196.length co20 : Value).ownBlock ∧ some k_ ≠ (.slice Ao21 t199.length co21 : Value).ownBlock ∧ some k_ ≠ (.slice Ao22 t202.length co22 : Value).ownBlock ∧ some k_ ≠ (.slice Ao23 t205.length co23 : Value).ownBlock ∧ some k_ ≠ (.slice Ao26 t208.length co26 : Value).ownBlock ∧ some k_ ≠ (.slice Ao28 t211.length co28 : Value).ownBlock ∧ some k_ ≠ (.slice Ao29 t214.length co29 : Value).ownBlock ∧ some k_ ≠ (.slice Ao31 t220.length co31 : Value).ownBlock ∧ k_ ≠ gb224) (.slice Ao30 t217.length co30) t217) := ⟨(by rw [hw]; exact (by (with_reducible repeat (first | apply Kd.N_alloc | apply Kd.N_drewN | apply Kd.N_drew)); exact Kd.N_mono (Kd.N_far (p := ⟨gb224, 4, none⟩) (Kd.N_far (p := ⟨gb224, 3, none⟩) (Kd.N_far (p := ⟨gb224, 2, none⟩) (Kd.N_far (p := ⟨gb224, 1, none⟩) (Kd.N_far (p := ⟨gb224, 0, none⟩) (Kd.N_mono HO219.out (fun k_ hk => (⟨hk, hk.2⟩ : _ ∧ k_ ≠ gb224))) (fun _ hk => hk.2) (.slice Ao26 t208.length co26)) (fun _ hk => hk.2) (.slice Ao28 t211.length co28)) (fun _ hk => hk.2) (.slice Ao29 t214.length co29)) (fun _ hk => hk.2) (.slice Ao30 t217.length co30)) (fun _ hk => hk.2) (.slice Ao31 t220.length co31)) (fun _ hk => ⟨hk.1.1.2.2.2.2.1, ⟨hk.1.1.2.2.2.2.2.1, ⟨hk.1.1.2.2.2.2.2.2.1, ⟨hk.1.1.2.2.2.2.2.2.2.1, ⟨hk.1.1.2.2.2.2.2.2.2.2.1, ⟨hk.1.1.2.2.2.2.2.2.2.2.2.1, ⟨hk.1.1.2.2.2.2.2.2.2.2.2.2.1, ⟨hk.1.1.2.2.2.2.2.2.2.2.2.2.2.1, ⟨hk.1.1.2.2.2.2.2.2.2.2.2.2.2.2.1, ⟨hk.1.1.2.2.2.2.2.2.2.2.2.2.2.2.2.1, ⟨hk.1.1.2.2.2.2.2.2.2.2.2.2.2.2.2.2, ⟨hk.1.1.1, ⟨hk.1.1.2.1, ⟨hk.1.1.2.2.1, ⟨hk.1.1.2.2.2.1, hk.1.2⟩⟩⟩⟩⟩⟩⟩⟩⟩⟩⟩⟩⟩⟩⟩)))⟩; have n15_ : Aside0 (Kd.R (Kd.int .i64) 3 w32 w.heap.size (fun k_ => some k_ ≠ (.slice Ao16 t186.length co16 : Value).ownBlock ∧ some k_ ≠ (.slice Ao23 t205.length co23 : Value).ownBlock) (.slice Ao31 t220.length co31) t220) := ⟨(by rw [hw]; exact (by (with_reducible repeat (first | apply Kd.R_alloc | apply Kd.R_drewN | apply Kd.R_drew)); exact Kd.R_mono (Kd.R_far (p := ⟨gb224, 4, none⟩) (Kd.R_far (p := ⟨gb224, 3, none⟩) (Kd.R_far (p := ⟨gb224, 2, none⟩) (Kd.R_far (p := ⟨gb224, 1, none⟩) (Kd.R_far (p := ⟨gb224, 0, none⟩) (Kd.R_types HO222.out BK224.out (by decide)) (fun _ hk => hk.2) (.slice Ao26 t208.length co26)) (fun _ hk => hk.2) (.slice Ao28 t211.length co28)) (fun _ hk => hk.2) (.slice Ao29 t214.length co29)) (fun _ hk => hk.2) (.slice Ao30 t217.length co30)) (fun _ hk => hk.2) (.slice Ao31 t220.length co31)) (fun _ hk => ⟨hk.1.1.2, hk.1.2⟩)))⟩; have n16_ : Aside0 (w32.heap[gb224]? = some (.cells #[.slice Ao26 t208.length co26, .slice Ao28 t211.length co28, .slice Ao29 t214.length co29, .slice Ao30 t217.length co30, .slice Ao31 t220.length co31] 27 (0, 0))) := ⟨(by rw [hw]; exact (by (with_reducible repeat (first | refine blk_drewN ?_ _ | refine blk_drew ?_ | refine blk_alloc ?_ _)); refine blk_put (cs := #[.slice Ao26 t208.length co26, .slice Ao28 t211.length co28, .slice Ao29 t214.length co29, .slice Ao30 t217.length co30, .slice none 0 0]) ?_ 4 _ rfl; (with_reducible repeat (first | refine blk_drewN ?_ _ | refine blk_drew ?_ | refine blk_alloc ?_ _)); refine blk_put (cs := #[.slice Ao26 t208.length co26, .slice Ao28 t211.length co28, .slice Ao29 t214.length co29, .slice none 0 0, .slice none 0 0]) ?_ 3 _ rfl; (with_reducible repeat (first | refine blk_drewN ?_ _ | refine blk_drew ?_ | refine blk_alloc ?_ _)); refine blk_put (cs := #[.slice Ao26 t208.length co26, .slice Ao28 t211.length co28, .slice none 0 0, .slice none 0 0, .slice none 0 0]) ?_ 2 _ rfl; (with_reducible repeat (first | refine blk_drewN ?_ _ | refine blk_drew ?_ | refine blk_alloc ?_ _)); refine blk_put (cs := #[.slice Ao26 t208.length co26, .slice none 0 0, .slice none 0 0, .slice none 0 0, .slice none 0 0]) ?_ 1 _ rfl; (with_reducible repeat (first | refine blk_drewN ?_ _ | refine blk_drew ?_ | refine blk_alloc ?_ _)); refine blk_put (cs := #[.slice none 0 0, .slice none 0 0, .slice none 0 0, .slice none 0 0, .slice none 0 0]) ?_ 0 _ rfl; (with_reducible repeat (first | refine blk_drewN ?_ _ | refine blk_drew ?_ | refine blk_alloc ?_ _)); exact BK224.out))⟩; have n17_ : Aside0 (Below w.heap.size w w32) := ⟨(by rw [hw]; exact (by repeat (first | (with_reducible first | exact HB.out | apply below_alloc | apply pw_below_drewN | apply below_drew1 | refine below_set ?_ GE224.out) | exact HB.out)))⟩; clear hw; clear HO176; clear HO179; clear HO182; clear HO185; clear HO188; clear HO191; clear HO195; clear HO198; clear HO201; clear HO204; clear HO207; clear HO210; clear HO213; clear HO216; clear HO219; clear HO222; clear BK224; clear HB; have HO176 := n0_; have HO179 := n1_; have HO182 := n2_; have HO185 := n3_; have HO188 := n4_; have HO191 := n5_; have HO195 := n6_; have HO198 := n7_; have HO201 := n8_; have HO204 := n9_; have HO207 := n10_; have HO210 := n11_; have HO213 := n12_; have HO216 := n13_; have HO219 := n14_; have HO222 := n15_; have BK224 := n16_; have HB := n17_; clear n0_ n1_ n2_ n3_ n4_ n5_ n6_ n7_ n8_ n9_ n10_ n11_ n12_ n13_ n14_ n15_ n16_ n17_; obtain ⟨Ao33, co33, eo33⟩ := Kd.R_slice HO191.out; subst eo33; have hcz34_0 : w32.cell? ⟨gb224, 0, none⟩ = some (.slice Ao26 t208.length co26) := (blk_cell BK224.out 0).trans rfl; have hcz34_1 : w32.cell? ⟨gb224, 1, none⟩ = some (.slice Ao28 t211.length co28) := (blk_cell BK224.out 1).trans rfl; have hcz34_2 : w32.cell? ⟨gb224, 2, none⟩ = some (.slice Ao29 t214.length co29) := (blk_cell BK224.out 2).trans rfl; have hcz34_3 : w32.cell? ⟨gb224, 3, none⟩ = some (.slice Ao30 t217.length co30) := (blk_cell BK224.out 3).trans rfl; have hcz34_4 : w32.cell? ⟨gb224, 4, none⟩ = some (.slice Ao31 t220.length co31) := (blk_cell BK224.out 4).trans rfl; have hfz34_0 := blk_frozen BK224.out 0; have hfz34_1 := blk_frozen BK224.out 1; have hfz34_2 := blk_frozen BK224.out 2; have hfz34_3 := blk_frozen BK224.out 3; have hfz34_4 := blk_frozen BK224.out 4; have p225 : 0 ≤ (0 : Int) := (by omega); have q225 : 0 < (t217.length : Int) := of_decide_eq_true (by first | (with_reducible assumption) | assumption); obtain ⟨ad225, A225_2, c225_2, e225, hx225_0, hx225_1, hx225_2, hl225_2, hi225_2⟩ := at_T80 (Kd.N_reads' HO219.out).2.2 0 p225 q225; cases e225; obtain ⟨ce225, hce225, hMe225, hcc225⟩ := Kd.N_get HO219.out z80 0 p225 (by first | exact q225 | exact of_decide_eq_true (by first | (with_reducible assumption) | assumption) | (have e_ := (Kd.N_reads' HO219.out).1; omega)); obtain ⟨ua225_2, uc225_2, rfl, ul225_2, ge225_2⟩ := k80_openF hMe225; have hv225_2 := hcc225 2 _ rfl; rw [add_field _ _ 2 (by omega)] at hv225_2; replace hv225_2 := Option.some.inj (hv225_2.symm.trans hx225_2); injection hv225_2 with hva_ hvn_ hvc_; rw [hva_] at ge225_2; rw [hvc_] at ul225_2; have HL225_2 := Aside0.mk (show Kd.V (Kd.int .i64) 3 _ w.heap.size _ _ ((rd_T80 t217 0).f2) from Kd.V_mk ul225_2 ge225_2); clear hva_ hvn_ hvc_ ge225_2 ul225_2; clear hcc225 hce225; have qi225 : (0 < t217.length) = True := eq_true (by omega); (try rw [show ((0 : Int)).toNat = 0 from rfl] at hx225_0); (try rw [show 0 * 3 = 0 from rfl] at hx225_0); (try rw [Addr.add_zero'] at hx225_0); (try rw [show ((0 : Int)).toNat = 0 from rfl] at hx225_1); (try rw [show 0 * 3 = 0 from rfl] at hx225_1); (try rw [Addr.add_zero'] at hx225_1); (try rw [show ((0 : Int)).toNat = 0 from rfl] at hx225_2); (try rw [show 0 * 3 = 0 from rfl] at hx225_2); (try rw [Addr.add_zero'] at hx225_2); have HR225_2 := Aside0.mk hi225_2; have HC225_2 := Aside0.mk hl225_2; clear hi225_2 hl225_2; replace p225 := eq_true p225; replace q225 := eq_true q225) | ((with_reducible refine gate_dst (N := 39) rfl ?_); (try (refine gate_guard (by rfl) ?_; dsimp only)); refine Kd.R_lit (Kd.int .i64) _ 3 ?hg (N := 39) ?hd (xs := ([1] : List Int)) (inner := [.int .i64 1]) (ok := fun _ => True) (okp := fun _ => True) ?hr ?hp (fun _ hk => hk) trivial (Below.refl _ _) (Nat.le_refl _) (by simp) ?_; (case hd => rfl); (case hg => rfl); (case hr => first | (go_simp; done) | (go_simp; rfl)); (case hp => exact (Reps.one (show Kd.M (Kd.int .i64) _ _ _ 1 [.int .i64 1] from rfl) (Reps.none _ _))); intro v227 w35 ho36 hb hg_ hnew_; clear hg_ hnew_; (first | rw [← Ny226.out] at ho36 | (simp only [Int.reduceToNat] at ho36; rw [← Ny226.out] at ho36)); have n0_ := Aside0.mk (Kd.R_below (by (with_reducible repeat (first | apply Kd.R_alloc | apply Kd.R_drewN | apply Kd.R_drew)); exact HO176.out) hb); have n1_ := Aside0.mk (Kd.R_below (by (with_reducible repeat (first | apply Kd.R_alloc | apply Kd.R_drewN | apply Kd.R_drew)); exact HO179.out) hb); have n2_ := Aside0.mk (Kd.R_below (by (with_reducible repeat (first | apply Kd.R_alloc | apply Kd.R_drewN | apply Kd.R_drew)); exact HO182.out) hb); have n3_ := Aside0.mk (Kd.N_elder' (by (with_reducible repeat (first | apply Kd.N_alloc | apply Kd.N_drewN | apply Kd.N_drew)); exact HO185.out) (Kd.R_base ho36) hb); have n4_ := Aside0.mk (Kd.R_elder' (by (with_reducible repeat (first | apply Kd.R_alloc | apply Kd.R_drewN | apply Kd.R_drew)); exact HO188.out) (Kd.R_base ho36) hb); have n5_ := Aside0.mk (Kd.R_below (by (with_reducible repeat (first | apply Kd.R_alloc | apply Kd.R_drewN | apply Kd.R_drew)); exact HO191.out) hb); have n6_ := Aside0.mk (Kd.R_below (by (with_reducible repeat (first | apply Kd.R_alloc | apply Kd.R_drewN | apply Kd.R_drew)); exact HO195.out) hb); have n7_ := Aside0.mk (Kd.R_below (by (with_reducible repeat (first | apply Kd.R_alloc | apply Kd.R_drewN | apply Kd.R_drew)); exact HO198.out) hb); have n8_ := Aside0.mk (Kd.R_below (by (with_reducible repeat (first | apply Kd.R_alloc | apply Kd.R_drewN | apply Kd.R_drew)); exact HO201.out) hb); have n9_ := Aside0.mk (Kd.N_elder' (by (with_reducible repeat (first | apply Kd.N_alloc | apply Kd.N_drewN | apply Kd.N_drew)); exact HO204.out) (Kd.R_base ho36) hb); have n10_ := Aside0.mk (Kd.R_elder' (by (with_reducible repeat (first | apply Kd.R_alloc | apply Kd.R_drewN | apply Kd.R_drew)); exact HO207.out) (Kd.R_base ho36) hb); have n11_ := Aside0.mk (Kd.R_below (by (with_reducible repeat (first | apply Kd.R_alloc | apply Kd.R_drewN | apply Kd.R_drew)); exact HO210.out) hb); have n12_ := Aside0.mk (Kd.R_below (by (with_reducible repeat (first | apply Kd.R_alloc | apply Kd.R_drewN | apply Kd.R_drew)); exact HO213.out) hb); have n13_ := Aside0.mk (Kd.R_below (by (with_reducible repeat (first | apply Kd.R_alloc | apply Kd.R_drewN | apply Kd.R_drew)); exact HO216.out) hb); have n14_ := Aside0.mk (Kd.N_elder' (by (with_reducible repeat (first | apply Kd.N_alloc | apply Kd.N_drewN | apply Kd.N_drew)); exact HO219.out) (Kd.R_base ho36) hb); have n15_ := Aside0.mk (Kd.R_elder' (by (with_reducible repeat (first | apply Kd.R_alloc | apply Kd.R_drewN | apply Kd.R_drew)); exact HO222.out) (Kd.R_base ho36) hb); have n16_ := Aside0.mk (Kd.V_elder' (by (with_reducible repeat (first | apply Kd.V_alloc | apply Kd.V_drewN | apply Kd.V_drew)); exact HL225_2.out) (Kd.R_base ho36) hb); have n17_ := Aside0.mk (Kd.R_lower (Kd.R_new' (Kd.R_new' (Kd.R_new' ho36 (Kd.R_lt (by (with_reducible repeat (first | apply Kd.R_alloc | apply Kd.R_drewN | apply Kd.R_drew)); exact HO188.out))) (Kd.R_lt (by (with_reducible repeat (first | apply Kd.R_alloc | apply Kd.R_drewN | apply Kd.R_drew)); exact HO207.out))) (Kd.R_lt (by (with_reducible repeat (first | apply Kd.R_alloc | apply Kd.R_drewN | apply Kd.R_drew)); exact HO222.out))) (below_size (by repeat (first | (with_reducible first | exact HB.out | apply below_alloc | apply pw_below_drewN | apply below_drew1 | refine below_set ?_ GE224.out) | exact HB.out)))); have n18_ := Aside0.mk (blk_below (g := gb224) (o := .cells #[.slice Ao26 t208.length co26, .slice Ao28 t211.length co28, .slice Ao29 t214.length co29, .slice (some ad225) t217.length co30, .slice Ao31 t220.length co31] 27 (0, 0)) (by (with_reducible repeat (first | refine blk_drewN ?_ _ | refine blk_drew ?_ | refine blk_alloc ?_ _)); exact BK224.out) hb); have n19_ := Aside0.mk (Kd.C_below (by repeat (first | (with_reducible exact HR225_2.out) | (with_reducible refine Kd.C_alloc ?_ _) | (with_reducible refine Kd.C_drewN ?_ _) | (with_reducible refine Kd.C_drew ?_) | exact HR225_2.out)) hb); have n20_ := Aside0.mk (below_step (by repeat (first | (with_reducible first | exact HB.out | apply below_alloc | apply pw_below_drewN | apply below_drew1 | refine below_set ?_ GE224.out) | exact HB.out)) hb); clear HO176; clear HO179; clear HO182; clear HO185; clear HO188; clear HO191; clear HO195; clear HO198; clear HO201; clear HO204; clear HO207; clear HO210; clear HO213; clear HO216; clear HO219; clear HO222; clear HL225_2; clear BK224; clear HR225_2; clear HB; have HO176 := n0_; have HO179 := n1_; have HO182 := n2_; have HO185 := n3_; have HO188 := n4_; have HO191 := n5_; have HO195 := n6_; have HO198 := n7_; have HO201 := n8_; have HO204 := n9_; have HO207 := n10_; have HO210 := n11_; have HO213 := n12_; have HO216 := n13_; have HO219 := n14_; have HO222 := n15_; have HL225_2 := n16_; have HO228 := n17_; have BK224 := n18_; have HR225_2 := n19_; have HB := n20_; clear n0_ n1_ n2_ n3_ n4_ n5_ n6_ n7_ n8_ n9_ n10_ n11_ n12_ n13_ n14_ n15_ n16_ n17_ n18_ n19_ n20_; clear hb ho36; obtain ⟨Ao37, co37, eo37⟩ := Kd.R_slice HO228.out; subst eo37) | (go_at_call 18; (with_reducible refine (slices_Equal_int_int.calls k _ _ ((rd_T80 t217 0).f2) _ _ y226 t229 _ ?side1 ?side2 ?side3 ?side4 A10.out).mono ?_); (case side1 => repeat (first | exact (by repeat (first | (with_reducible exact HR225_2.out) | (with_reducible refine Kd.C_alloc ?_ _) | (with_reducible refine Kd.C_drewN ?_ _) | (with_reducible refine Kd.C_drew ?_) | exact HR225_2.out)) | (with_reducible refine Kd.C_alloc ?_ _) | (with_reducible refine Kd.C_drewN ?_ _) | (with_reducible refine Kd.C_drew ?_))); (case side2 => exact HC225_2.out); (case side3 => repeat (first | exact (Kd.R_reads' HO228.out).2.2 | (with_reducible refine Kd.C_alloc ?_ _) | (with_reducible refine Kd.C_drewN ?_ _) | (with_reducible refine Kd.C_drew ?_))); (case side4 => exact (Kd.R_reads' HO228.out).2.1); rintro e w' ⟨rfl, ⟨nd, rfl⟩⟩))
           go_ret
           exact ⟨by first | rfl | (simp [errW_none, errW_some] <;> rfl) | (simp [*, errW_none, errW_some] <;> rfl), by repeat (first | (with_reducible first | exact HB.out | apply below_alloc | apply pw_below_drewN | apply below_drew1 | refine below_set ?_ GE224.out) | exact HB.out)⟩
         · rw [if_neg c9] at H
           exact absurd H (by simp)
       · rw [if_neg c8] at H
         exact absurd H (by simp)
     · rw [if_neg c7] at H
       exact absurd H (by simp)
   · rw [if_neg c6] at H
     exact absurd H (by simp)
 · rw [if_neg c5] at H
   exact absurd H (by simp)
theorem eqA82 (d : Nat) (w : World) (x0 y0 : ByteArray) (x1 y1 : Int) (x2 y2 : Int) (x3 y3 : Int) (x4 y4 : Bool) :
   (Op.equalIn (d + 2) 82 (.agg #[.string x0, .int .i64 x1, .int .i64 x2, .int .i64 x3, .bool x4]) (.agg #[.string y0, .int .i64 y1, .int .i64 y2, .int .i64 y3, .bool y4])).run Try.prog w = .ok (x0.toList == y0.toList && (x1 == y1 && (x2 == y2 && (x3 == y3 && (x4 == y4))))) w := by
 refine eqA_of Try.underlying82 (by kernel_rfl) ?_
 refine eqf_cons (by rfl) (by go_simp; rfl) (by go_simp; rfl) (by go_simp) ?_
 refine eqf_cons (by rfl) (by go_simp; rfl) (by go_simp; rfl) (by go_simp) ?_
 refine eqf_cons (by rfl) (by go_simp; rfl) (by go_simp; rfl) (by go_simp) ?_
 refine eqf_cons (by rfl) (by go_simp; rfl) (by go_simp; rfl) (by go_simp) ?_
 exact eqf_last (by rfl) (by go_simp; rfl) (by go_simp; rfl) (by go_simp)
attribute [local go_sem high] eqA82
def slices_Equal_string_string.l0 : Nat → List ByteArray → List ByteArray → Int → Int → Option (Bool)
 | 0, _, _, _, _ => none
 | k + 1, x0, x1, x12, x13 => if x13 < x12 then (if 0 ≤ x13 then (if x13 < (x0.length : Int) then (if x13 < (x1.length : Int) then (if (rdOf ByteArray.empty x0 x13).toList = (rdOf ByteArray.empty x1 x13).toList then (slices_Equal_string_string.l0 k x0 x1 x12 (wrap64 (x13 + 1))) else (some false)) else (none)) else (none)) else (none)) else (some true)
def slices_Equal_string_string.f (k : Nat) (l0 : List ByteArray) (l1 : List ByteArray) : Option (Bool) := if (l0.length : Int) = (l1.length : Int) then (slices_Equal_string_string.l0 k l0 l1 (l0.length : Int) 0) else (some false)
theorem slices_Equal_string_string.mono_l : ∀ k, (∀ y0 y1 y2 y3, LeO (slices_Equal_string_string.l0 k y0 y1 y2 y3) (slices_Equal_string_string.l0 (k + 1) y0 y1 y2 y3))
 | 0 => fun _ _ _ _ r h => by simp [slices_Equal_string_string.l0] at h
 | k + 1 => by
   have ih0 := slices_Equal_string_string.mono_l k
   · intro y0 y1 y2 y3
     unfold slices_Equal_string_string.l0
     repeat' first
     | (with_reducible exact ih0 _ _ _ _)
     | (with_reducible exact LeO.refl _)
     | (with_reducible exact LeO.none _)
     | (with_reducible refine LeO.ite ?_ ?_)
     | (with_reducible refine LeO.bind ?_ (fun _ => ?_))
     | exact ih0 _ _ _ _
     | exact LeO.none _
     | refine LeO.ite ?_ ?_
     | refine LeO.bind ?_ (fun _ => ?_)
theorem slices_Equal_string_string.mono : ∀ a0 a1 k, LeO (slices_Equal_string_string.f k a0 a1) (slices_Equal_string_string.f (k + 1) a0 a1) := by
 intro a0 a1 k
 have ih0 := slices_Equal_string_string.mono_l k
 unfold slices_Equal_string_string.f
 repeat' first
     | (with_reducible exact ih0 _ _ _ _)
     | (with_reducible exact LeO.refl _)
     | (with_reducible exact LeO.none _)
     | (with_reducible refine LeO.ite ?_ ?_)
     | (with_reducible refine LeO.bind ?_ (fun _ => ?_))
     | exact ih0 _ _ _ _
     | exact LeO.none _
     | refine LeO.ite ?_ ?_
     | refine LeO.bind ?_ (fun _ => ?_)
set_option maxHeartbeats 8000000 in
set_option maxRecDepth 100000 in
theorem slices_Equal_string_string.calls (k : Nat) (A0 : Option Addr) (c0 : Nat) (l0 : List ByteArray) (A1 : Option Addr) (c1 : Nat) (l1 : List ByteArray) (r : Bool) (w : World) (hr0 : Kd.C Kd.string w A0 l0.length l0) (hc0 : l0.length ≤ c0) (hr1 : Kd.C Kd.string w A1 l1.length l1) (hc1 : l1.length ≤ c1) (h : slices_Equal_string_string.f k l0 l1 = some r) :
   Calls Try.prog 37 #[.slice A0 l0.length c0, .slice A1 l1.length c1] w fun e w' => e = .returned (.bool r) ∧ Drawn0 w w' := by
 have HR0 := Aside0.mk hr0
 have HC0 := Aside0.mk hc0
 clear hr0 hc0
 have HR1 := Aside0.mk hr1
 have HC1 := Aside0.mk hc1
 clear hr1 hc1
 have H : (if (l0.length : Int) = (l1.length : Int) then (slices_Equal_string_string.l0 k l0 l1 (l0.length : Int) 0) else (some false)) = some r := h
 clear h
 by_cases c3 : (l0.length : Int) = (l1.length : Int)
 · rw [if_pos c3] at H
   have c3b0 : ((l0.length : Int) == (l1.length : Int)) = true := beq_iff_eq.mpr c3
   have c3b1 : ((l0.length : Int) != (l1.length : Int)) = false := bne_eq_false_iff_eq.mpr c3
   have c3b2 : (l0.length == l1.length) = true := by first | simpa using c3 | (simp at c3 ⊢; omega)
   clear c3
   have H' := Aside0.mk H
   clear H
   go_enter Try.func37, Try.ntmps37
   go_wp2
   repeat (go_quiet (fail); try go_wp2)
   go_loopg [13] k (fun kq v13 w' => ∃ (x13_1 : Int), v13 = .int .i64 x13_1 ∧ Aside0 (slices_Equal_string_string.l0 kq l0 l1 (l0.length : Int) x13_1 = some r) ∧ Aside0 (kq ≤ k) ∧ Drawn0 w w')
   case atStart => exact ⟨(0), (by first | rfl | (simp; done) | (simp [*]; done)), H', ⟨Nat.le_refl _⟩, by repeat (first | exact Drawn0.refl _ | apply Drawn0.step)⟩
   case round =>
     clear H'
     try clear c1
     try clear p2
     try clear c3
     try clear c3b0
     try clear c3b1
     try clear c3b2
     obtain ⟨x13_1, rfl, HA, HK1, ⟨m1, rfl⟩⟩ := hrel
     cases gk with
     | zero => exact absurd HA.out (by simp [slices_Equal_string_string.l0])
     | succ k1 =>
       have H := HA.out
       clear HA
       simp only [slices_Equal_string_string.l0] at H
       by_cases c4 : x13_1 < (l0.length : Int)
       · rw [if_pos c4] at H
         have c4b0 : decide (x13_1 < (l0.length : Int)) = true := decide_eq_true c4
         clear c4
         by_cases c5 : 0 ≤ x13_1
         · rw [if_pos c5] at H
           have c5b0 : decide (0 ≤ x13_1) = true := decide_eq_true c5
           clear c5
           by_cases c6 : x13_1 < (l0.length : Int)
           · rw [if_pos c6] at H
             have c6b0 : decide (x13_1 < (l0.length : Int)) = true := decide_eq_true c6
             clear c6
             by_cases c7 : x13_1 < (l1.length : Int)
             · rw [if_pos c7] at H
               have c7b0 : decide (x13_1 < (l1.length : Int)) = true := decide_eq_true c7
               clear c7
               by_cases c8 : (rdOf ByteArray.empty l0 x13_1).toList = (rdOf ByteArray.empty l1 x13_1).toList
               · rw [if_pos c8] at H
                 have c8b0 : ((rdOf ByteArray.empty l0 x13_1).toList == (rdOf ByteArray.empty l1 x13_1).toList) = true := beq_iff_eq.mpr c8
                 have c8b1 : ((rdOf ByteArray.empty l0 x13_1).toList != (rdOf ByteArray.empty l1 x13_1).toList) = false := bne_eq_false_iff_eq.mpr c8
                 clear c8
                 have H' := Aside0.mk H
                 clear H
                 have p230 : 0 ≤ (x13_1 : Int) := of_decide_eq_true (by first | (with_reducible assumption) | assumption)
                 have q230 : x13_1 < (l0.length : Int) := of_decide_eq_true (by first | (with_reducible assumption) | assumption)
                 obtain ⟨ad230, e230, hx230_0⟩ := Kd.at_string HR0.out x13_1 p230 q230
                 cases e230
                 replace p230 := eq_true p230
                 replace q230 := eq_true q230
                 have p231 : 0 ≤ (x13_1 : Int) := of_decide_eq_true (by first | (with_reducible assumption) | assumption)
                 have q231 : x13_1 < (l1.length : Int) := of_decide_eq_true (by first | (with_reducible assumption) | assumption)
                 obtain ⟨ad231, e231, hx231_0⟩ := Kd.at_string HR1.out x13_1 p231 q231
                 cases e231
                 replace p231 := eq_true p231
                 replace q231 := eq_true q231
                 go_wp2
                 repeat (go_quiet (fail); try go_wp2)
                 go_roundg k1
                 case measure => have := HK1.out; omega
                 case rel => exact ⟨(wrap64 (x13_1 + 1)), (by first | rfl | (simp; done) | (simp [*]; done)), H', ⟨by have := HK1.out; omega⟩, by repeat (first | exact Drawn0.refl _ | apply Drawn0.step)⟩
               · rw [if_neg c8] at H
                 have c8b0 : ((rdOf ByteArray.empty l0 x13_1).toList == (rdOf ByteArray.empty l1 x13_1).toList) = false := beq_eq_false_iff_ne.mpr c8
                 have c8b1 : ((rdOf ByteArray.empty l0 x13_1).toList != (rdOf ByteArray.empty l1 x13_1).toList) = true := bne_iff_ne.mpr c8
                 obtain rfl := Option.some.inj H
                 have p230 : 0 ≤ (x13_1 : Int) := of_decide_eq_true (by first | (with_reducible assumption) | assumption)
                 have q230 : x13_1 < (l0.length : Int) := of_decide_eq_true (by first | (with_reducible assumption) | assumption)
                 obtain ⟨ad230, e230, hx230_0⟩ := Kd.at_string HR0.out x13_1 p230 q230
                 cases e230
                 replace p230 := eq_true p230
                 replace q230 := eq_true q230
                 have p231 : 0 ≤ (x13_1 : Int) := of_decide_eq_true (by first | (with_reducible assumption) | assumption)
                 have q231 : x13_1 < (l1.length : Int) := of_decide_eq_true (by first | (with_reducible assumption) | assumption)
                 obtain ⟨ad231, e231, hx231_0⟩ := Kd.at_string HR1.out x13_1 p231 q231
                 cases e231
                 replace p231 := eq_true p231
                 replace q231 := eq_true q231
                 go_wp2
                 repeat (go_quiet (fail); try go_wp2)
                 go_ret
                 exact ⟨by first | rfl | (simp; done) | (simp [*]; done), by repeat (first | exact Drawn0.refl _ | apply Drawn0.step)⟩
             · rw [if_neg c7] at H
               exact absurd H (by simp)
           · rw [if_neg c6] at H
             exact absurd H (by simp)
         · rw [if_neg c5] at H
           exact absurd H (by simp)
       · rw [if_neg c4] at H
         have c4b0 : decide (x13_1 < (l0.length : Int)) = false := decide_eq_false c4
         clear c4
         obtain rfl := Option.some.inj H
         go_wp2
         repeat (go_quiet (fail); try go_wp2)
         go_ret
         exact ⟨by first | rfl | (simp; done) | (simp [*]; done), by repeat (first | exact Drawn0.refl _ | apply Drawn0.step)⟩
 · rw [if_neg c3] at H
   have c3b0 : ((l0.length : Int) == (l1.length : Int)) = false := beq_eq_false_iff_ne.mpr c3
   have c3b1 : ((l0.length : Int) != (l1.length : Int)) = true := bne_iff_ne.mpr c3
   have c3b2 : (l0.length == l1.length) = false := by first | simpa using c3 | (simp at c3 ⊢; omega)
   obtain rfl := Option.some.inj H
   go_enter Try.func37, Try.ntmps37
   go_wp2
   repeat (go_quiet (fail); try go_wp2)
   go_ret
   exact ⟨by first | rfl | (simp; done) | (simp [*]; done), by repeat (first | exact Drawn0.refl _ | apply Drawn0.step)⟩
def api_Flop_38.l0 : Nat → List (S82) → List (S82) → Int → Int → Option (Bool)
 | 0, _, _, _, _ => none
 | k + 1, x0, x1, x12, x13 => if x13 < x12 then (if 0 ≤ x13 then (if x13 < (x0.length : Int) then (if x13 < (x1.length : Int) then (if (!((((rd_T82 x0 x13).f0).toList) == (((rd_T82 x1 x13).f0).toList)) || (!(((rd_T82 x0 x13).f1) == ((rd_T82 x1 x13).f1)) || (!(((rd_T82 x0 x13).f2) == ((rd_T82 x1 x13).f2)) || (!(((rd_T82 x0 x13).f3) == ((rd_T82 x1 x13).f3)) || (!(((rd_T82 x0 x13).f4) == ((rd_T82 x1 x13).f4))))))) = true then (some false) else (api_Flop_38.l0 k x0 x1 x12 (wrap64 (x13 + 1)))) else (none)) else (none)) else (none)) else (some true)
def api_Flop_38.f (k : Nat) (l0 : List (S82)) (l1 : List (S82)) : Option (Bool) := if (l0.length : Int) = (l1.length : Int) then (api_Flop_38.l0 k l0 l1 (l0.length : Int) 0) else (some false)
theorem api_Flop_38.mono_l : ∀ k, (∀ y0 y1 y2 y3, LeO (api_Flop_38.l0 k y0 y1 y2 y3) (api_Flop_38.l0 (k + 1) y0 y1 y2 y3))
 | 0 => fun _ _ _ _ r h => by simp [api_Flop_38.l0] at h
 | k + 1 => by
   have ih0 := api_Flop_38.mono_l k
   · intro y0 y1 y2 y3
     unfold api_Flop_38.l0
     repeat' first
     | (with_reducible exact ih0 _ _ _ _)
     | (with_reducible exact LeO.refl _)
     | (with_reducible exact LeO.none _)
     | (with_reducible refine LeO.ite ?_ ?_)
     | (with_reducible refine LeO.bind ?_ (fun _ => ?_))
     | exact ih0 _ _ _ _
     | exact LeO.none _
     | refine LeO.ite ?_ ?_
     | refine LeO.bind ?_ (fun _ => ?_)
theorem api_Flop_38.mono : ∀ a0 a1 k, LeO (api_Flop_38.f k a0 a1) (api_Flop_38.f (k + 1) a0 a1) := by
 intro a0 a1 k
 have ih0 := api_Flop_38.mono_l k
 unfold api_Flop_38.f
 repeat' first
     | (with_reducible exact ih0 _ _ _ _)
     | (with_reducible exact LeO.refl _)
     | (with_reducible exact LeO.none _)
     | (with_reducible refine LeO.ite ?_ ?_)
     | (with_reducible refine LeO.bind ?_ (fun _ => ?_))
     | exact ih0 _ _ _ _
     | exact LeO.none _
     | refine LeO.ite ?_ ?_
     | refine LeO.bind ?_ (fun _ => ?_)
set_option maxHeartbeats 8000000 in
set_option maxRecDepth 100000 in
theorem api_Flop_38.calls (k : Nat) (A0 : Option Addr) (c0 : Nat) (l0 : List (S82)) (A1 : Option Addr) (c1 : Nat) (l1 : List (S82)) (r : Bool) (w : World) (hr0 : Kd.C k82 w A0 l0.length l0) (hc0 : l0.length ≤ c0) (hr1 : Kd.C k82 w A1 l1.length l1) (hc1 : l1.length ≤ c1) (h : api_Flop_38.f k l0 l1 = some r) :
   Calls Try.prog 38 #[.slice A0 l0.length c0, .slice A1 l1.length c1] w fun e w' => e = .returned (.bool r) ∧ Drawn0 w w' := by
 have hu82 := Try.underlying82
 have HR0 := Aside0.mk hr0
 have HC0 := Aside0.mk hc0
 clear hr0 hc0
 have HR1 := Aside0.mk hr1
 have HC1 := Aside0.mk hc1
 clear hr1 hc1
 have H : (if (l0.length : Int) = (l1.length : Int) then (api_Flop_38.l0 k l0 l1 (l0.length : Int) 0) else (some false)) = some r := h
 clear h
 by_cases c3 : (l0.length : Int) = (l1.length : Int)
 · rw [if_pos c3] at H
   have c3b0 : ((l0.length : Int) == (l1.length : Int)) = true := beq_iff_eq.mpr c3
   have c3b1 : ((l0.length : Int) != (l1.length : Int)) = false := bne_eq_false_iff_eq.mpr c3
   have c3b2 : (l0.length == l1.length) = true := by first | simpa using c3 | (simp at c3 ⊢; omega)
   clear c3
   have H' := Aside0.mk H
   clear H
   go_enter Try.func38, Try.ntmps38
   go_wp2
   repeat (go_quiet (fail); try go_wp2)
   go_loopg [13] k (fun kq v13 w' => ∃ (x13_1 : Int), v13 = .int .i64 x13_1 ∧ Aside0 (api_Flop_38.l0 kq l0 l1 (l0.length : Int) x13_1 = some r) ∧ Aside0 (kq ≤ k) ∧ Drawn0 w w')
   case atStart => exact ⟨(0), (by first | rfl | (simp; done) | (simp [*]; done)), H', ⟨Nat.le_refl _⟩, by repeat (first | exact Drawn0.refl _ | apply Drawn0.step)⟩
   case round =>
     clear H'
     try clear c1
     try clear p2
     try clear c3
     try clear c3b0
     try clear c3b1
     try clear c3b2
     obtain ⟨x13_1, rfl, HA, HK1, ⟨m1, rfl⟩⟩ := hrel
     cases gk with
     | zero => exact absurd HA.out (by simp [api_Flop_38.l0])
     | succ k1 =>
       have H := HA.out
       clear HA
       simp only [api_Flop_38.l0] at H
       by_cases c4 : x13_1 < (l0.length : Int)
       · rw [if_pos c4] at H
         have c4b0 : decide (x13_1 < (l0.length : Int)) = true := decide_eq_true c4
         clear c4
         by_cases c5 : 0 ≤ x13_1
         · rw [if_pos c5] at H
           have c5b0 : decide (0 ≤ x13_1) = true := decide_eq_true c5
           clear c5
           by_cases c6 : x13_1 < (l0.length : Int)
           · rw [if_pos c6] at H
             have c6b0 : decide (x13_1 < (l0.length : Int)) = true := decide_eq_true c6
             clear c6
             by_cases c7 : x13_1 < (l1.length : Int)
             · rw [if_pos c7] at H
               have c7b0 : decide (x13_1 < (l1.length : Int)) = true := decide_eq_true c7
               clear c7
               by_cases c8 : (!((((rd_T82 l0 x13_1).f0).toList) == (((rd_T82 l1 x13_1).f0).toList)) || (!(((rd_T82 l0 x13_1).f1) == ((rd_T82 l1 x13_1).f1)) || (!(((rd_T82 l0 x13_1).f2) == ((rd_T82 l1 x13_1).f2)) || (!(((rd_T82 l0 x13_1).f3) == ((rd_T82 l1 x13_1).f3)) || (!(((rd_T82 l0 x13_1).f4) == ((rd_T82 l1 x13_1).f4))))))) = true
               · rw [if_pos c8] at H
                 have c8b0 : (!((((rd_T82 l0 x13_1).f0).toList) == (((rd_T82 l1 x13_1).f0).toList)) || (!(((rd_T82 l0 x13_1).f1) == ((rd_T82 l1 x13_1).f1)) || (!(((rd_T82 l0 x13_1).f2) == ((rd_T82 l1 x13_1).f2)) || (!(((rd_T82 l0 x13_1).f3) == ((rd_T82 l1 x13_1).f3)) || (!(((rd_T82 l0 x13_1).f4) == ((rd_T82 l1 x13_1).f4))))))) = true := c8
                 clear c8
                 obtain rfl := Option.some.inj H
                 have p232 : 0 ≤ (x13_1 : Int) := of_decide_eq_true (by first | (with_reducible assumption) | assumption)
                 have q232 : x13_1 < (l0.length : Int) := of_decide_eq_true (by first | (with_reducible assumption) | assumption)
                 obtain ⟨ad232, e232, hx232_0, hx232_1, hx232_2, hx232_3, hx232_4⟩ := at_T82 HR0.out x13_1 p232 q232
                 cases e232
                 replace p232 := eq_true p232
                 replace q232 := eq_true q232
                 have p233 : 0 ≤ (x13_1 : Int) := of_decide_eq_true (by first | (with_reducible assumption) | assumption)
                 have q233 : x13_1 < (l1.length : Int) := of_decide_eq_true (by first | (with_reducible assumption) | assumption)
                 obtain ⟨ad233, e233, hx233_0, hx233_1, hx233_2, hx233_3, hx233_4⟩ := at_T82 HR1.out x13_1 p233 q233
                 cases e233
                 replace p233 := eq_true p233
                 replace q233 := eq_true q233
                 go_wp2
                 repeat (go_quiet (fail); try go_wp2)
                 go_ret
                 exact ⟨by first | rfl | (simp; done) | (simp [*]; done), by repeat (first | exact Drawn0.refl _ | apply Drawn0.step)⟩
               · rw [if_neg c8] at H
                 have c8b0 : (!((((rd_T82 l0 x13_1).f0).toList) == (((rd_T82 l1 x13_1).f0).toList)) || (!(((rd_T82 l0 x13_1).f1) == ((rd_T82 l1 x13_1).f1)) || (!(((rd_T82 l0 x13_1).f2) == ((rd_T82 l1 x13_1).f2)) || (!(((rd_T82 l0 x13_1).f3) == ((rd_T82 l1 x13_1).f3)) || (!(((rd_T82 l0 x13_1).f4) == ((rd_T82 l1 x13_1).f4))))))) = false := by simpa using c8
                 clear c8
                 have H' := Aside0.mk H
                 clear H
                 have p232 : 0 ≤ (x13_1 : Int) := of_decide_eq_true (by first | (with_reducible assumption) | assumption)
                 have q232 : x13_1 < (l0.length : Int) := of_decide_eq_true (by first | (with_reducible assumption) | assumption)
                 obtain ⟨ad232, e232, hx232_0, hx232_1, hx232_2, hx232_3, hx232_4⟩ := at_T82 HR0.out x13_1 p232 q232
                 cases e232
                 replace p232 := eq_true p232
                 replace q232 := eq_true q232
                 have p233 : 0 ≤ (x13_1 : Int) := of_decide_eq_true (by first | (with_reducible assumption) | assumption)
                 have q233 : x13_1 < (l1.length : Int) := of_decide_eq_true (by first | (with_reducible assumption) | assumption)
                 obtain ⟨ad233, e233, hx233_0, hx233_1, hx233_2, hx233_3, hx233_4⟩ := at_T82 HR1.out x13_1 p233 q233
                 cases e233
                 replace p233 := eq_true p233
                 replace q233 := eq_true q233
                 go_wp2
                 repeat (go_quiet (fail); try go_wp2)
                 go_roundg k1
                 case measure => have := HK1.out; omega
                 case rel => exact ⟨(wrap64 (x13_1 + 1)), (by first | rfl | (simp; done) | (simp [*]; done)), H', ⟨by have := HK1.out; omega⟩, by repeat (first | exact Drawn0.refl _ | apply Drawn0.step)⟩
             · rw [if_neg c7] at H
               exact absurd H (by simp)
           · rw [if_neg c6] at H
             exact absurd H (by simp)
         · rw [if_neg c5] at H
           exact absurd H (by simp)
       · rw [if_neg c4] at H
         have c4b0 : decide (x13_1 < (l0.length : Int)) = false := decide_eq_false c4
         clear c4
         obtain rfl := Option.some.inj H
         go_wp2
         repeat (go_quiet (fail); try go_wp2)
         go_ret
         exact ⟨by first | rfl | (simp; done) | (simp [*]; done), by repeat (first | exact Drawn0.refl _ | apply Drawn0.step)⟩
 · rw [if_neg c3] at H
   have c3b0 : ((l0.length : Int) == (l1.length : Int)) = false := beq_eq_false_iff_ne.mpr c3
   have c3b1 : ((l0.length : Int) != (l1.length : Int)) = true := bne_iff_ne.mpr c3
   have c3b2 : (l0.length == l1.length) = false := by first | simpa using c3 | (simp at c3 ⊢; omega)
   obtain rfl := Option.some.inj H
   go_enter Try.func38, Try.ntmps38
   go_wp2
   repeat (go_quiet (fail); try go_wp2)
   go_ret
   exact ⟨by first | rfl | (simp; done) | (simp [*]; done), by repeat (first | exact Drawn0.refl _ | apply Drawn0.step)⟩
-- NOT PRINTED: function 39 (api_Gate_39)
theorem slices_Equal_int_int.refl_l (l : List Int) (hl : (l.length : Int) ≤ 9223372036854775807) : ∀ (d i : Nat), i + d = l.length → slices_Equal_int_int.l0 (d + 1) l l (l.length : Int) (i : Int) = some true
 | 0, i, h => by
   rw [slices_Equal_int_int.l0, if_neg (by omega)]
 | d + 1, i, h => by
   rw [slices_Equal_int_int.l0, if_pos (by omega), if_pos (by omega), if_pos (by omega), if_pos (by omega), if_pos rfl]
   have hw : wrap64 ((i : Int) + 1) = ((i + 1 : Nat) : Int) := by
     unfold wrap64
     omega
   rw [hw]
   exact slices_Equal_int_int.refl_l l hl d (i + 1) (by omega)
theorem slices_Equal_int_int.refl (l : List Int) (hl : (l.length : Int) ≤ 9223372036854775807) : slices_Equal_int_int.f (l.length + 1) l l = some true := by
 unfold slices_Equal_int_int.f
 rw [if_pos rfl]
 exact slices_Equal_int_int.refl_l l hl l.length 0 (by omega)
theorem slices_Equal_string_string.refl_l (l : List ByteArray) (hl : (l.length : Int) ≤ 9223372036854775807) : ∀ (d i : Nat), i + d = l.length → slices_Equal_string_string.l0 (d + 1) l l (l.length : Int) (i : Int) = some true
 | 0, i, h => by
   rw [slices_Equal_string_string.l0, if_neg (by omega)]
 | d + 1, i, h => by
   rw [slices_Equal_string_string.l0, if_pos (by omega), if_pos (by omega), if_pos (by omega), if_pos (by omega), if_pos rfl]
   have hw : wrap64 ((i : Int) + 1) = ((i + 1 : Nat) : Int) := by
     unfold wrap64
     omega
   rw [hw]
   exact slices_Equal_string_string.refl_l l hl d (i + 1) (by omega)
theorem slices_Equal_string_string.refl (l : List ByteArray) (hl : (l.length : Int) ≤ 9223372036854775807) : slices_Equal_string_string.f (l.length + 1) l l = some true := by
 unfold slices_Equal_string_string.f
 rw [if_pos rfl]
 exact slices_Equal_string_string.refl_l l hl l.length 0 (by omega)
theorem api_Flop_38.refl_l (l : List S82) (hl : (l.length : Int) ≤ 9223372036854775807) : ∀ (d i : Nat), i + d = l.length → api_Flop_38.l0 (d + 1) l l (l.length : Int) (i : Int) = some true
 | 0, i, h => by
   rw [api_Flop_38.l0, if_neg (by omega)]
 | d + 1, i, h => by
   rw [api_Flop_38.l0, if_pos (by omega), if_pos (by omega), if_pos (by omega), if_pos (by omega), if_neg (by simp)]
   have hw : wrap64 ((i : Int) + 1) = ((i + 1 : Nat) : Int) := by
     unfold wrap64
     omega
   rw [hw]
   exact api_Flop_38.refl_l l hl d (i + 1) (by omega)
theorem api_Flop_38.refl (l : List S82) (hl : (l.length : Int) ≤ 9223372036854775807) : api_Flop_38.f (l.length + 1) l l = some true := by
 unfold api_Flop_38.f
 rw [if_pos rfl]
 exact api_Flop_38.refl_l l hl l.length 0 (by omega)
instance : DecidableEq S82 := fun a b => decidable_of_iff (a.f0 = b.f0 ∧ a.f1 = b.f1 ∧ a.f2 = b.f2 ∧ a.f3 = b.f3 ∧ a.f4 = b.f4) ⟨fun ⟨h0, h1, h2, h3, h4⟩ => by cases a; cases b; simp_all, fun h => by subst h; simp⟩
instance : DecidableEq S80 := fun a b => decidable_of_iff (a.f0 = b.f0 ∧ a.f1 = b.f1 ∧ a.f2 = b.f2) ⟨fun ⟨h0, h1, h2⟩ => by cases a; cases b; simp_all, fun h => by subst h; simp⟩
set_option maxRecDepth 100000
theorem kd_gate2 {w : World} {A : Option Addr} {n : Nat} {xs : List S80} (h : Kd.C k80 w A n xs) {i : Nat} {x : S80} (hx : xs[i]? = some x) :
   ∃ b o A2 c2, A = some ⟨b, o, none⟩ ∧ b < w.heap.size ∧ w.cell? ⟨b, o + i * 3, none⟩ = some (.int .i64 x.f0) ∧ w.cell? ⟨b, o + i * 3 + 1, none⟩ = some (.int .u64 x.f1) ∧ w.cell? ⟨b, o + i * 3 + 2, none⟩ = some (.slice A2 x.f2.length c2) ∧ Kd.C (Kd.int .i64) w A2 x.f2.length x.f2 ∧ x.f2.length ≤ c2 := by
 obtain ⟨b, o, cs, rfl, hb, _, hK, hc⟩ := kd_at h (by exact Nat.succ_pos _) hx
 obtain ⟨A2, c2, rfl, hl, hC⟩ := k80_open hK
 exact ⟨b, o, A2, c2, rfl, hb, hc 0 _ rfl, by have := hc 1 _ rfl; rwa [← Nat.add_assoc] at this, by have := hc 2 _ rfl; rwa [← Nat.add_assoc] at this, hC, hl⟩
set_option maxHeartbeats 2000000 in
theorem same1_calls (x : S80) (A B : Option Addr) (c d : Nat) (w : World) (hA : Kd.C (Kd.int .i64) w A x.f2.length x.f2) (hB : Kd.C (Kd.int .i64) w B x.f2.length x.f2) (hc : x.f2.length ≤ c) (hd : x.f2.length ≤ d) :
   Calls Try.prog 36 #[.agg #[.int .i64 x.f0, .int .u64 x.f1, .slice A x.f2.length c], .agg #[.int .i64 x.f0, .int .u64 x.f1, .slice B x.f2.length d]] w fun e w' => e = .returned (.bool true) ∧ Is w w' := by
 have hu := Try.underlying80
 have hW : Is w ((w.alloc (.cells #[.int .i64 x.f0, .int .u64 x.f1, .slice A x.f2.length c] 80)).alloc (.cells #[.int .i64 x.f0, .int .u64 x.f1, .slice B x.f2.length d] 80)) := ((Is.refl w).alloc _).alloc _
 have q1 : (x.f0 == x.f0) = true := by simp
 have q2 : (x.f1 == x.f1) = true := by simp
 go_enter Try.func36, Try.ntmps36
 go_wp2_with (go_at_call 18; refine (slices_Equal_int_int.calls (x.f2.length + 1) A c x.f2 B d x.f2 true _ (Kd.C_below hA hW.below) hc (Kd.C_below hB hW.below) hd (slices_Equal_int_int.refl _ (kd_len hA).2)).mono ?_; rintro e w1 ⟨rfl, hd1⟩; obtain ⟨y, rfl⟩ : ∃ y : Under ((w.alloc (.cells #[.int .i64 x.f0, .int .u64 x.f1, .slice A x.f2.length c] 80)).alloc (.cells #[.int .i64 x.f0, .int .u64 x.f1, .slice B x.f2.length d] 80)), w1 = y.val := ⟨⟨w1, hd1.below⟩, rfl⟩)
 go_ret
 exact ⟨rfl, hW.step y⟩
set_option maxHeartbeats 4000000 in
theorem eqGates_calls (xs : List S80) (A B : Option Addr) (c d : Nat) (w : World) (hA : Kd.C k80 w A xs.length xs) (hB : Kd.C k80 w B xs.length xs) :
   Calls Try.prog 39 #[.slice A xs.length c, .slice B xs.length d, .func (.func 36) #[] #[]] w fun e w' => e = .returned (.bool true) ∧ Is w w' := by
 have hu := Try.underlying80
 have hm := (kd_len hA).2
 have q1 : ((xs.length : Int) != (xs.length : Int)) = false := by simp
 go_enter Try.func39, Try.ntmps39
 go_wp2
 go_loopg [7, 8, 9, 17] xs.length (fun d _ _ _ t wr => ∃ (i : Nat) (z : Under w), i + d = xs.length ∧ t = .int .i64 i ∧ wr = z.val)
 case atStart => exact ⟨0, Under.refl w, by omega, rfl, rfl⟩
 case round =>
   obtain ⟨i, z, hi, rfl, rfl⟩ := hrel
   have hi2 := Lib.hid hi
   by_cases hlt : i < xs.length
   · obtain ⟨x, hx⟩ := get_ex hlt
     obtain ⟨b, o, A5, c5, rfl, hb, hk0, hk1, hk2, hC, hc5⟩ := kd_gate2 hA hx
     obtain ⟨b2, o2, B5, d5, rfl, hb2, hj0, hj1, hj2, hD, hd5⟩ := kd_gate2 hB hx
     obtain ⟨gk, rfl⟩ : ∃ m, gk = m + 1 := ⟨gk - 1, by omega⟩
     have hbz : b < z.val.heap.size := z.lt _ hb
     have hbz2 : b2 < z.val.heap.size := z.lt _ hb2
     have hbn : b ≠ z.val.heap.size := by omega
     have hbn2 : b2 ≠ z.val.heap.size := by omega
     have hbz1 : b2 < z.val.heap.size + 1 := by omega
     have hW := fun A B => ((Is.val z).alloc A).alloc B
     clear hi hx
     go_wp2_with (go_at_call 36; refine (same1_calls x A5 B5 c5 d5 _ (kd_is hC (hW _ _)) (kd_is hD (hW _ _)) hc5 hd5).mono ?_; rintro e w1 ⟨rfl, ⟨x1, rfl⟩⟩)
     obtain ⟨q, hq⟩ : ∃ q : Under w, x1.val = q.val := ⟨⟨x1.val, ((hW _ _).step x1).below⟩, rfl⟩
     rw [hq]
     go_roundg gk
     case measure => omega
     case rel => exact ⟨i + 1, q, by have := hi2.out; omega, by go_num, rfl⟩
   · obtain rfl : i = xs.length := by omega
     clear hi hi2
     go_wp2
     go_ret
     exact ⟨rfl, Is.val z⟩
def netlist_Same.f (l0_0 : List ByteArray) (l0_1 : List ByteArray) (l0_2 : List (S82)) (l0_3 : List (S80)) (l0_4 : List Int) (l1_0 : List ByteArray) (l1_1 : List ByteArray) (l1_2 : List (S82)) (l1_3 : List (S80)) (l1_4 : List Int) : Option (Bool) := if l0_0 = l1_0 ∧ l0_1 = l1_1 ∧ l0_2 = l1_2 ∧ l0_3 = l1_3 ∧ l0_4 = l1_4 then some true else none
set_option maxHeartbeats 4000000 in
theorem netlist_Same.calls (A0_0 : Option Addr) (c0_0 : Nat) (l0_0 : List ByteArray) (A0_1 : Option Addr) (c0_1 : Nat) (l0_1 : List ByteArray) (A0_2 : Option Addr) (c0_2 : Nat) (l0_2 : List (S82)) (A0_3 : Option Addr) (c0_3 : Nat) (l0_3 : List (S80)) (A0_4 : Option Addr) (c0_4 : Nat) (l0_4 : List Int) (A1_0 : Option Addr) (c1_0 : Nat) (l1_0 : List ByteArray) (A1_1 : Option Addr) (c1_1 : Nat) (l1_1 : List ByteArray) (A1_2 : Option Addr) (c1_2 : Nat) (l1_2 : List (S82)) (A1_3 : Option Addr) (c1_3 : Nat) (l1_3 : List (S80)) (A1_4 : Option Addr) (c1_4 : Nat) (l1_4 : List Int) (r : Bool) (w : World) (hr0_0 : Kd.C Kd.string w A0_0 l0_0.length l0_0) (hc0_0 : l0_0.length ≤ c0_0) (hr0_1 : Kd.C Kd.string w A0_1 l0_1.length l0_1) (hc0_1 : l0_1.length ≤ c0_1) (hr0_2 : Kd.C k82 w A0_2 l0_2.length l0_2) (hc0_2 : l0_2.length ≤ c0_2) (hr0_3 : Kd.C k80 w A0_3 l0_3.length l0_3) (hc0_3 : l0_3.length ≤ c0_3) (hr0_4 : Kd.C (Kd.int .i64) w A0_4 l0_4.length l0_4) (hc0_4 : l0_4.length ≤ c0_4) (hr1_0 : Kd.C Kd.string w A1_0 l1_0.length l1_0) (hc1_0 : l1_0.length ≤ c1_0) (hr1_1 : Kd.C Kd.string w A1_1 l1_1.length l1_1) (hc1_1 : l1_1.length ≤ c1_1) (hr1_2 : Kd.C k82 w A1_2 l1_2.length l1_2) (hc1_2 : l1_2.length ≤ c1_2) (hr1_3 : Kd.C k80 w A1_3 l1_3.length l1_3) (hc1_3 : l1_3.length ≤ c1_3) (hr1_4 : Kd.C (Kd.int .i64) w A1_4 l1_4.length l1_4) (hc1_4 : l1_4.length ≤ c1_4) (h : netlist_Same.f l0_0 l0_1 l0_2 l0_3 l0_4 l1_0 l1_1 l1_2 l1_3 l1_4 = some r) :
   Calls Try.prog 12 #[.agg #[.slice A0_0 l0_0.length c0_0, .slice A0_1 l0_1.length c0_1, .slice A0_2 l0_2.length c0_2, .slice A0_3 l0_3.length c0_3, .slice A0_4 l0_4.length c0_4], .agg #[.slice A1_0 l1_0.length c1_0, .slice A1_1 l1_1.length c1_1, .slice A1_2 l1_2.length c1_2, .slice A1_3 l1_3.length c1_3, .slice A1_4 l1_4.length c1_4]] w fun e w' => e = .returned (.bool r) ∧ Below w.heap.size w w' := by
 have hh : (if l0_0 = l1_0 ∧ l0_1 = l1_1 ∧ l0_2 = l1_2 ∧ l0_3 = l1_3 ∧ l0_4 = l1_4 then some true else none) = some r := h
 clear h
 by_cases hc : l0_0 = l1_0 ∧ l0_1 = l1_1 ∧ l0_2 = l1_2 ∧ l0_3 = l1_3 ∧ l0_4 = l1_4
 case neg => rw [if_neg hc] at hh; cases hh
 rw [if_pos hc] at hh
 obtain rfl := Option.some.inj hh
 obtain ⟨rfl, rfl, rfl, rfl, rfl⟩ := hc
 clear hh
 have hu := Try.underlying27
 have hW : Is w ((w.alloc (.cells #[.slice A0_0 l0_0.length c0_0, .slice A0_1 l0_1.length c0_1, .slice A0_2 l0_2.length c0_2, .slice A0_3 l0_3.length c0_3, .slice A0_4 l0_4.length c0_4] 27)).alloc (.cells #[.slice A1_0 l0_0.length c1_0, .slice A1_1 l0_1.length c1_1, .slice A1_2 l0_2.length c1_2, .slice A1_3 l0_3.length c1_3, .slice A1_4 l0_4.length c1_4] 27)) := ((Is.refl w).alloc _).alloc _
 have b1 : ∀ x : Under (((w.alloc (.cells #[.slice A0_0 l0_0.length c0_0, .slice A0_1 l0_1.length c0_1, .slice A0_2 l0_2.length c0_2, .slice A0_3 l0_3.length c0_3, .slice A0_4 l0_4.length c0_4] 27)).alloc (.cells #[.slice A1_0 l0_0.length c1_0, .slice A1_1 l0_1.length c1_1, .slice A1_2 l0_2.length c1_2, .slice A1_3 l0_3.length c1_3, .slice A1_4 l0_4.length c1_4] 27))), w.heap.size < x.val.heap.size ∧ w.heap.size + 1 < x.val.heap.size := fun x => ⟨x.lt _ (by simp; omega), x.lt _ (by simp)⟩
 have hB : ∀ x : Under (((w.alloc (.cells #[.slice A0_0 l0_0.length c0_0, .slice A0_1 l0_1.length c0_1, .slice A0_2 l0_2.length c0_2, .slice A0_3 l0_3.length c0_3, .slice A0_4 l0_4.length c0_4] 27)).alloc (.cells #[.slice A1_0 l0_0.length c1_0, .slice A1_1 l0_1.length c1_1, .slice A1_2 l0_2.length c1_2, .slice A1_3 l0_3.length c1_3, .slice A1_4 l0_4.length c1_4] 27))), Below w.heap.size w x.val := fun x => (hW.step x).below
 obtain ⟨x0, hx0⟩ : ∃ x0 : Under (((w.alloc (.cells #[.slice A0_0 l0_0.length c0_0, .slice A0_1 l0_1.length c0_1, .slice A0_2 l0_2.length c0_2, .slice A0_3 l0_3.length c0_3, .slice A0_4 l0_4.length c0_4] 27)).alloc (.cells #[.slice A1_0 l0_0.length c1_0, .slice A1_1 l0_1.length c1_1, .slice A1_2 l0_2.length c1_2, .slice A1_3 l0_3.length c1_3, .slice A1_4 l0_4.length c1_4] 27))), x0 = Under.refl _ := ⟨_, rfl⟩
 clear hx0
 go_enter Try.func12, Try.ntmps12
 go_wp2_with (first
   | (go_at_call 18; refine (slices_Equal_int_int.calls (l0_4.length + 1) A0_4 c0_4 l0_4 A1_4 c1_4 l0_4 true _ (Kd.C_below hr0_4 (hB x4)) hc0_4 (Kd.C_below hr1_4 (hB x4)) hc1_4 (slices_Equal_int_int.refl _ (kd_len hr0_4).2)).mono ?_; rintro e w5 ⟨rfl, hd5⟩; obtain ⟨x5, rfl⟩ : ∃ y : Under (((w.alloc (.cells #[.slice A0_0 l0_0.length c0_0, .slice A0_1 l0_1.length c0_1, .slice A0_2 l0_2.length c0_2, .slice A0_3 l0_3.length c0_3, .slice A0_4 l0_4.length c0_4] 27)).alloc (.cells #[.slice A1_0 l0_0.length c1_0, .slice A1_1 l0_1.length c1_1, .slice A1_2 l0_2.length c1_2, .slice A1_3 l0_3.length c1_3, .slice A1_4 l0_4.length c1_4] 27))), w5 = y.val := ⟨⟨w5, x4.ok.trans (hd5.below.mono x4.size)⟩, rfl⟩)
   | (go_at_call 39; refine (eqGates_calls l0_3 A0_3 A1_3 c0_3 c1_3 _ (Kd.C_below hr0_3 (hB x3)) (Kd.C_below hr1_3 (hB x3))).mono ?_; rintro e w4 ⟨rfl, hd4⟩; obtain ⟨x4, rfl⟩ : ∃ y : Under (((w.alloc (.cells #[.slice A0_0 l0_0.length c0_0, .slice A0_1 l0_1.length c0_1, .slice A0_2 l0_2.length c0_2, .slice A0_3 l0_3.length c0_3, .slice A0_4 l0_4.length c0_4] 27)).alloc (.cells #[.slice A1_0 l0_0.length c1_0, .slice A1_1 l0_1.length c1_1, .slice A1_2 l0_2.length c1_2, .slice A1_3 l0_3.length c1_3, .slice A1_4 l0_4.length c1_4] 27))), w4 = y.val := ⟨⟨w4, x3.ok.trans (hd4.below.mono x3.size)⟩, rfl⟩; have b4 := b1 x4; have b4a := b4.1; have b4b := b4.2)
   | (go_at_call 38; refine (api_Flop_38.calls (l0_2.length + 1) A0_2 c0_2 l0_2 A1_2 c1_2 l0_2 true _ (Kd.C_below hr0_2 (hB x2)) hc0_2 (Kd.C_below hr1_2 (hB x2)) hc1_2 (api_Flop_38.refl _ (kd_len hr0_2).2)).mono ?_; rintro e w3 ⟨rfl, hd3⟩; obtain ⟨x3, rfl⟩ : ∃ y : Under (((w.alloc (.cells #[.slice A0_0 l0_0.length c0_0, .slice A0_1 l0_1.length c0_1, .slice A0_2 l0_2.length c0_2, .slice A0_3 l0_3.length c0_3, .slice A0_4 l0_4.length c0_4] 27)).alloc (.cells #[.slice A1_0 l0_0.length c1_0, .slice A1_1 l0_1.length c1_1, .slice A1_2 l0_2.length c1_2, .slice A1_3 l0_3.length c1_3, .slice A1_4 l0_4.length c1_4] 27))), w3 = y.val := ⟨⟨w3, x2.ok.trans (hd3.below.mono x2.size)⟩, rfl⟩; have b3 := b1 x3; have b3a := b3.1; have b3b := b3.2)
   | (go_at_call 37; refine (slices_Equal_string_string.calls (l0_1.length + 1) A0_1 c0_1 l0_1 A1_1 c1_1 l0_1 true _ (Kd.C_below hr0_1 (hB x1)) hc0_1 (Kd.C_below hr1_1 (hB x1)) hc1_1 (slices_Equal_string_string.refl _ (kd_len hr0_1).2)).mono ?_; rintro e w2 ⟨rfl, hd2⟩; obtain ⟨x2, rfl⟩ : ∃ y : Under (((w.alloc (.cells #[.slice A0_0 l0_0.length c0_0, .slice A0_1 l0_1.length c0_1, .slice A0_2 l0_2.length c0_2, .slice A0_3 l0_3.length c0_3, .slice A0_4 l0_4.length c0_4] 27)).alloc (.cells #[.slice A1_0 l0_0.length c1_0, .slice A1_1 l0_1.length c1_1, .slice A1_2 l0_2.length c1_2, .slice A1_3 l0_3.length c1_3, .slice A1_4 l0_4.length c1_4] 27))), w2 = y.val := ⟨⟨w2, x1.ok.trans (hd2.below.mono x1.size)⟩, rfl⟩; have b2 := b1 x2; have b2a := b2.1; have b2b := b2.2)
   | (go_at_call 37; refine (slices_Equal_string_string.calls (l0_0.length + 1) A0_0 c0_0 l0_0 A1_0 c1_0 l0_0 true _ (Kd.C_below hr0_0 hW.below) hc0_0 (Kd.C_below hr1_0 hW.below) hc1_0 (slices_Equal_string_string.refl _ (kd_len hr0_0).2)).mono ?_; rintro e w1 ⟨rfl, hd1⟩; obtain ⟨x1, rfl⟩ : ∃ y : Under (((w.alloc (.cells #[.slice A0_0 l0_0.length c0_0, .slice A0_1 l0_1.length c0_1, .slice A0_2 l0_2.length c0_2, .slice A0_3 l0_3.length c0_3, .slice A0_4 l0_4.length c0_4] 27)).alloc (.cells #[.slice A1_0 l0_0.length c1_0, .slice A1_1 l0_1.length c1_1, .slice A1_2 l0_2.length c1_2, .slice A1_3 l0_3.length c1_3, .slice A1_4 l0_4.length c1_4] 27))), w1 = y.val := ⟨⟨w1, hd1.below⟩, rfl⟩; have b1' := b1 x1; have b1a := b1'.1; have b1b := b1'.2))
 go_ret
 exact ⟨rfl, hB _⟩
end Go.Proofs.Ytimjccfpobhpeaa.PF
