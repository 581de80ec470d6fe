/- Joined by this session's own program out of its texts: PFx12 PFx17 PFx24 NumP PFx18 InjP FormQ FormZ BrForm PFx31 PFx32. -/
import Derived.Test.YtimjccfpobhpeaaE1
import Derived.Test.YtimjccfpobhpeaaE3
import Derived.Test.YtimjccfpobhpeaaE2
namespace Go.Proofs.Ytimjccfpobhpeaa.PF
open Go.RowKit Go.Proofs.YtimjccfpobhpeaaW.PrintWords Go.Proofs.YtimjccfpobhpeaaW.PrintLast Go.Proofs.YtimjccfpobhpeaaW.PrintMore
set_option linter.unusedVariables false
set_option linter.unusedSimpArgs false
def fault_check.j0 : Nat → List (List (S77)) → Bool → Int → Int → Bool → Option (Int)
  | 0, _, _, _, _, _ => none
  | k + 1, x0, x5, x127000, x127001, x127002 => if x5 = true then (some 7) else (if x127001 < (-1) then (some 2) else (if 0 ≤ x127000 then (if x127000 < (x0.length : Int) then (if x127001 ≥ ((rd_L12 x0 x127000).length : Int) then (some 2) else (some 0)) else (none)) else (none)))
def fault_check.f (k : Nat) (l0 : List (List (S77))) (a1_0 : Int) (a1_1 : Int) (a1_2 : Bool) : Option (Int) := if a1_0 < 2 then (fault_check.j0 k l0 true a1_0 a1_1 a1_2) else (fault_check.j0 k l0 (decide (a1_0 ≥ (l0.length : Int))) a1_0 a1_1 a1_2)
theorem fault_check.mono_l : ∀ k, (∀ y0 y1 y2 y3 y4, LeO (fault_check.j0 k y0 y1 y2 y3 y4) (fault_check.j0 (k + 1) y0 y1 y2 y3 y4))
  | 0 => fun _ _ _ _ _ r h => by simp [fault_check.j0] at h
  | k + 1 => by
    have ih0 := fault_check.mono_l k
    · intro y0 y1 y2 y3 y4
      unfold fault_check.j0
      repeat' first
      | (with_reducible exact ih0 _ _ _ _ _)
      | (with_reducible exact LeO.refl _)
      | (with_reducible exact LeO.none _)
      | (with_reducible refine LeO.ite ?_ ?_)
      | (with_reducible refine LeO.bind ?_ (fun _ => ?_))
      | exact ih0 _ _ _ _ _
      | exact LeO.none _
      | refine LeO.ite ?_ ?_
      | refine LeO.bind ?_ (fun _ => ?_)
theorem fault_check.mono : ∀ a0 a1 a2 a3 k, LeO (fault_check.f k a0 a1 a2 a3) (fault_check.f (k + 1) a0 a1 a2 a3) := by
  intro a0 a1 a2 a3 k
  have ih0 := fault_check.mono_l k
  unfold fault_check.f
  repeat' first
      | (with_reducible exact ih0 _ _ _ _ _)
      | (with_reducible exact LeO.refl _)
      | (with_reducible exact LeO.none _)
      | (with_reducible refine LeO.ite ?_ ?_)
      | (with_reducible refine LeO.bind ?_ (fun _ => ?_))
      | exact ih0 _ _ _ _ _
      | exact LeO.none _
      | refine LeO.ite ?_ ?_
      | refine LeO.bind ?_ (fun _ => ?_)
set_option maxHeartbeats 8000000 in
set_option maxRecDepth 100000 in
theorem fault_check.calls (k : Nat) (A0 : Option Addr) (c0 : Nat) (l0 : List (List (S77))) (a1_0 : Int) (a1_1 : Int) (a1_2 : Bool) (r : Int) (w : World) (hr0 : Kd.C (Kd.slice 77 k77) w A0 l0.length l0) (hc0 : l0.length ≤ c0) (h : fault_check.f k l0 a1_0 a1_1 a1_2 = some r) :
    Calls Try.prog 28 #[.slice A0 l0.length c0, .agg #[.int .i64 a1_0, .int .i64 a1_1, .bool a1_2]] w fun e w' => e = .returned (.int .i64 r) ∧ Below w.heap.size w w' := by
  have hu29 := Try.underlying29
  have HR0 := Aside0.mk hr0
  have HC0 := Aside0.mk hc0
  clear hr0 hc0
  have HB := Aside0.mk (Below.refl w.heap.size w)
  have H : (if a1_0 < 2 then (fault_check.j0 k l0 true a1_0 a1_1 a1_2) else (fault_check.j0 k l0 (decide (a1_0 ≥ (l0.length : Int))) a1_0 a1_1 a1_2)) = some r := h
  clear h
  have HC3 := Aside0.mk H
  clear H
  go_enter Try.func28, Try.ntmps28
  go_upto_region 1 with (first | ((with_reducible refine gate_dst (N := 3) rfl ?_); (try (refine gate_guard (by rfl) ?_; dsimp only)); refine box_event ?hg (N := 3) ?hd (cs := #[.int .i64 a1_0, .int .i64 a1_1, .bool a1_2]) (t := 29) ?hr ?_; (case hd => rfl); (case hg => rfl); (case hr => first | (go_simp; done) | (go_simp; rfl)); intro gb126 hg w4 hbox hb; have n0_ := Aside0.mk (below_step (by repeat (first | (with_reducible first | exact HB.out | apply below_alloc | apply pw_below_drewN | apply below_drew1) | exact HB.out)) hb); have n1_ := Aside0.mk (hbox); have n2_ := Aside0.mk ((by rw [hg]; exact (below_size (by repeat (first | (with_reducible first | exact HB.out | apply below_alloc | apply pw_below_drewN | apply below_drew1) | exact HB.out))) : w.heap.size ≤ gb126)); have n3_ := Aside0.mk ((by rw [hg]; exact (below_size (by repeat (first | (with_reducible first | exact HB.out | apply below_alloc | apply pw_below_drewN | apply below_drew1) | exact HB.out))) : w.heap.size ≤ gb126)); clear HB; have HB := n0_; have BK126 := n1_; have GW126 := n2_; have GE126 := n3_; clear n0_ n1_ n2_ n3_; clear hb hbox hg))
  repeat (go_quiet (first | ((with_reducible refine gate_dst (N := 3) rfl ?_); (try (refine gate_guard (by rfl) ?_; dsimp only)); refine box_event ?hg (N := 3) ?hd (cs := #[.int .i64 a1_0, .int .i64 a1_1, .bool a1_2]) (t := 29) ?hr ?_; (case hd => rfl); (case hg => rfl); (case hr => first | (go_simp; done) | (go_simp; rfl)); intro gb126 hg w4 hbox hb; have n0_ := Aside0.mk (below_step (by repeat (first | (with_reducible first | exact HB.out | apply below_alloc | apply pw_below_drewN | apply below_drew1) | exact HB.out)) hb); have n1_ := Aside0.mk (hbox); have n2_ := Aside0.mk ((by rw [hg]; exact (below_size (by repeat (first | (with_reducible first | exact HB.out | apply below_alloc | apply pw_below_drewN | apply below_drew1) | exact HB.out))) : w.heap.size ≤ gb126)); have n3_ := Aside0.mk ((by rw [hg]; exact (below_size (by repeat (first | (with_reducible first | exact HB.out | apply below_alloc | apply pw_below_drewN | apply below_drew1) | exact HB.out))) : w.heap.size ≤ gb126)); clear HB; have HB := n0_; have BK126 := n1_; have GW126 := n2_; have GE126 := n3_; clear n0_ n1_ n2_ n3_; clear hb hbox hg)); go_upto_region 1 with (first | ((with_reducible refine gate_dst (N := 3) rfl ?_); (try (refine gate_guard (by rfl) ?_; dsimp only)); refine box_event ?hg (N := 3) ?hd (cs := #[.int .i64 a1_0, .int .i64 a1_1, .bool a1_2]) (t := 29) ?hr ?_; (case hd => rfl); (case hg => rfl); (case hr => first | (go_simp; done) | (go_simp; rfl)); intro gb126 hg w4 hbox hb; have n0_ := Aside0.mk (below_step (by repeat (first | (with_reducible first | exact HB.out | apply below_alloc | apply pw_below_drewN | apply below_drew1) | exact HB.out)) hb); have n1_ := Aside0.mk (hbox); have n2_ := Aside0.mk ((by rw [hg]; exact (below_size (by repeat (first | (with_reducible first | exact HB.out | apply below_alloc | apply pw_below_drewN | apply below_drew1) | exact HB.out))) : w.heap.size ≤ gb126)); have n3_ := Aside0.mk ((by rw [hg]; exact (below_size (by repeat (first | (with_reducible first | exact HB.out | apply below_alloc | apply pw_below_drewN | apply below_drew1) | exact HB.out))) : w.heap.size ≤ gb126)); clear HB; have HB := n0_; have BK126 := n1_; have GW126 := n2_; have GE126 := n3_; clear n0_ n1_ n2_ n3_; clear hb hbox hg)))
  (try simp only [Act.put, List.setIfInBounds_toArray, List.set_cons_zero, List.set_cons_succ])
  go_cut [5] (fun v5 wc => ∃ (kq : Nat) (x5_2 : Bool), v5 = .bool x5_2 ∧ Aside0 (fault_check.j0 kq l0 x5_2 a1_0 a1_1 a1_2 = some r) ∧ Aside0 (kq ≤ k) ∧ Aside0 (wc.heap[gb126]? = some (.cells #[.int .i64 a1_0, .int .i64 a1_1, .bool a1_2] 29 (0, 0))) ∧ Aside0 (Below w.heap.size w wc))
  case first =>
    have H := HC3.out
    clear HC3
    by_cases c5 : a1_0 < 2
    · rw [if_pos c5] at H
      have c5b0 : decide (a1_0 < 2) = true := decide_eq_true c5
      clear c5
      (first | rw [c5b0] | (simp only [i64_w, i32_w]; rw [c5b0]) | skip)
      have H' := Aside0.mk H
      clear H
      have hcz6_0 : w4.cell? ⟨gb126, 0, none⟩ = some (.int .i64 a1_0) := (blk_cell BK126.out 0).trans rfl
      have hcz6_1 : w4.cell? ⟨gb126, 1, none⟩ = some (.int .i64 a1_1) := (blk_cell BK126.out 1).trans rfl
      have hcz6_2 : w4.cell? ⟨gb126, 2, none⟩ = some (.bool a1_2) := (blk_cell BK126.out 2).trans rfl
      have hfz6_0 := blk_frozen BK126.out 0
      have hfz6_1 := blk_frozen BK126.out 1
      have hfz6_2 := blk_frozen BK126.out 2
      go_wp2
      repeat (go_quiet (fail); try go_wp2)
      go_meet
      case rel => exact ⟨_, (true), (by first | rfl | (simp; done) | (simp [*]; done)), H', ⟨by first | omega | exact Nat.le_refl _⟩, ⟨by (with_reducible repeat (first | refine blk_drewN ?_ _ | refine blk_drew ?_ | refine blk_alloc ?_ _)); exact BK126.out⟩, ⟨by repeat (first | (with_reducible first | exact HB.out | apply below_alloc | apply pw_below_drewN | apply below_drew1 | refine below_set ?_ GE126.out) | exact HB.out)⟩⟩
    · rw [if_neg c5] at H
      have c5b0 : decide (a1_0 < 2) = false := decide_eq_false c5
      clear c5
      (first | rw [c5b0] | (simp only [i64_w, i32_w]; rw [c5b0]) | skip)
      have H' := Aside0.mk H
      clear H
      have hcz7_0 : w4.cell? ⟨gb126, 0, none⟩ = some (.int .i64 a1_0) := (blk_cell BK126.out 0).trans rfl
      have hcz7_1 : w4.cell? ⟨gb126, 1, none⟩ = some (.int .i64 a1_1) := (blk_cell BK126.out 1).trans rfl
      have hcz7_2 : w4.cell? ⟨gb126, 2, none⟩ = some (.bool a1_2) := (blk_cell BK126.out 2).trans rfl
      have hfz7_0 := blk_frozen BK126.out 0
      have hfz7_1 := blk_frozen BK126.out 1
      have hfz7_2 := blk_frozen BK126.out 2
      go_wp2
      repeat (go_quiet (fail); try go_wp2)
      go_meet
      case rel => exact ⟨_, (decide (a1_0 ≥ (l0.length : Int))), (by first | rfl | (simp; done) | (simp [*]; done)), H', ⟨by first | omega | exact Nat.le_refl _⟩, ⟨by (with_reducible repeat (first | refine blk_drewN ?_ _ | refine blk_drew ?_ | refine blk_alloc ?_ _)); exact BK126.out⟩, ⟨by repeat (first | (with_reducible first | exact HB.out | apply below_alloc | apply pw_below_drewN | apply below_drew1 | refine below_set ?_ GE126.out) | exact HB.out)⟩⟩
  case rest =>
    clear HC3
    try clear c2
    try clear p2
    try clear c5
    try clear c5b0
    try clear hcz6_0
    try clear hcz6_1
    try clear hcz6_2
    try clear hcz7_0
    try clear hcz7_1
    try clear hcz7_2
    try clear hfz6_0
    try clear hfz6_1
    try clear hfz6_2
    try clear hfz7_0
    try clear hfz7_1
    try clear hfz7_2
    obtain ⟨kq, x5_2, rfl, HA, HJ2, BK126, HB⟩ := hcut
    cases kq with
    | zero => exact absurd HA.out (by simp [fault_check.j0])
    | succ kj2 =>
      have H := HA.out
      clear HA
      simp only [fault_check.j0] at H
      by_cases c8 : x5_2 = true
      · subst c8
        have H1 : (some 7) = some r := by rw [if_pos rfl] at H; exact H
        clear H
        have H := H1
        clear H1
        obtain rfl := Option.some.inj H
        go_wp2
        repeat (go_quiet (fail); try go_wp2)
        go_ret
        exact ⟨by first | rfl | (simp [errW_none, errW_some] <;> rfl) | (simp [*, errW_none, errW_some] <;> rfl), by repeat (first | (with_reducible first | exact HB.out | apply below_alloc | apply pw_below_drewN | apply below_drew1 | refine below_set ?_ GE126.out) | exact HB.out)⟩
      · replace c8 := Bool.eq_false_iff.mpr c8
        subst c8
        have H1 : (if a1_1 < (-1) then (some 2) else (if 0 ≤ a1_0 then (if a1_0 < (l0.length : Int) then (if a1_1 ≥ ((rd_L12 l0 a1_0).length : Int) then (some 2) else (some 0)) else (none)) else (none))) = some r := by rw [if_neg (show ¬ (false = true) by decide)] at H; exact H
        clear H
        have H := H1
        clear H1
        by_cases c9 : a1_1 < (-1)
        · rw [if_pos c9] at H
          have c9b0 : decide (a1_1 < (-1)) = true := decide_eq_true c9
          clear c9
          obtain rfl := Option.some.inj H
          have hcz10_0 : wc.cell? ⟨gb126, 0, none⟩ = some (.int .i64 a1_0) := (blk_cell BK126.out 0).trans rfl
          have hcz10_1 : wc.cell? ⟨gb126, 1, none⟩ = some (.int .i64 a1_1) := (blk_cell BK126.out 1).trans rfl
          have hcz10_2 : wc.cell? ⟨gb126, 2, none⟩ = some (.bool a1_2) := (blk_cell BK126.out 2).trans rfl
          have hfz10_0 := blk_frozen BK126.out 0
          have hfz10_1 := blk_frozen BK126.out 1
          have hfz10_2 := blk_frozen BK126.out 2
          go_wp2
          repeat (go_quiet (fail); try go_wp2)
          go_ret
          exact ⟨by first | rfl | (simp [errW_none, errW_some] <;> rfl) | (simp [*, errW_none, errW_some] <;> rfl), by repeat (first | (with_reducible first | exact HB.out | apply below_alloc | apply pw_below_drewN | apply below_drew1 | refine below_set ?_ GE126.out) | exact HB.out)⟩
        · rw [if_neg c9] at H
          have c9b0 : decide (a1_1 < (-1)) = false := decide_eq_false c9
          clear c9
          by_cases c11 : 0 ≤ a1_0
          · rw [if_pos c11] at H
            have c11b0 : decide (0 ≤ a1_0) = true := decide_eq_true c11
            clear c11
            by_cases c12 : a1_0 < (l0.length : Int)
            · rw [if_pos c12] at H
              have c12b0 : decide (a1_0 < (l0.length : Int)) = true := decide_eq_true c12
              clear c12
              by_cases c13 : a1_1 ≥ ((rd_L12 l0 a1_0).length : Int)
              · rw [if_pos c13] at H
                have c13b0 : decide (((rd_L12 l0 a1_0).length : Int) ≤ a1_1) = true := decide_eq_true c13
                clear c13
                obtain rfl := Option.some.inj H
                have hcz14_0 : wc.cell? ⟨gb126, 0, none⟩ = some (.int .i64 a1_0) := (blk_cell BK126.out 0).trans rfl
                have hcz14_1 : wc.cell? ⟨gb126, 1, none⟩ = some (.int .i64 a1_1) := (blk_cell BK126.out 1).trans rfl
                have hcz14_2 : wc.cell? ⟨gb126, 2, none⟩ = some (.bool a1_2) := (blk_cell BK126.out 2).trans rfl
                have hfz14_0 := blk_frozen BK126.out 0
                have hfz14_1 := blk_frozen BK126.out 1
                have hfz14_2 := blk_frozen BK126.out 2
                have p127 : 0 ≤ (a1_0 : Int) := of_decide_eq_true (by first | (with_reducible assumption) | assumption)
                have q127 : a1_0 < (l0.length : Int) := of_decide_eq_true (by first | (with_reducible assumption) | assumption)
                obtain ⟨ad127, A127_0, c127_0, e127, hx127_0, hl127_0, hi127_0⟩ := at_L12 HR0.out a1_0 p127 q127
                cases e127
                replace hx127_0 := (HB.out.cell (World.block_lt_of_cell? w _ hx127_0)).trans hx127_0
                have HR127_0 := Aside0.mk hi127_0
                have HC127_0 := Aside0.mk hl127_0
                clear hi127_0 hl127_0
                replace p127 := eq_true p127
                replace q127 := eq_true q127
                go_wp2
                repeat (go_quiet (fail); try go_wp2)
                go_ret
                exact ⟨by first | rfl | (simp [errW_none, errW_some] <;> rfl) | (simp [*, errW_none, errW_some] <;> rfl), by repeat (first | (with_reducible first | exact HB.out | apply below_alloc | apply pw_below_drewN | apply below_drew1 | refine below_set ?_ GE126.out) | exact HB.out)⟩
              · rw [if_neg c13] at H
                have c13b0 : decide (((rd_L12 l0 a1_0).length : Int) ≤ a1_1) = false := decide_eq_false c13
                clear c13
                obtain rfl := Option.some.inj H
                have hcz15_0 : wc.cell? ⟨gb126, 0, none⟩ = some (.int .i64 a1_0) := (blk_cell BK126.out 0).trans rfl
                have hcz15_1 : wc.cell? ⟨gb126, 1, none⟩ = some (.int .i64 a1_1) := (blk_cell BK126.out 1).trans rfl
                have hcz15_2 : wc.cell? ⟨gb126, 2, none⟩ = some (.bool a1_2) := (blk_cell BK126.out 2).trans rfl
                have hfz15_0 := blk_frozen BK126.out 0
                have hfz15_1 := blk_frozen BK126.out 1
                have hfz15_2 := blk_frozen BK126.out 2
                have p127 : 0 ≤ (a1_0 : Int) := of_decide_eq_true (by first | (with_reducible assumption) | assumption)
                have q127 : a1_0 < (l0.length : Int) := of_decide_eq_true (by first | (with_reducible assumption) | assumption)
                obtain ⟨ad127, A127_0, c127_0, e127, hx127_0, hl127_0, hi127_0⟩ := at_L12 HR0.out a1_0 p127 q127
                cases e127
                replace hx127_0 := (HB.out.cell (World.block_lt_of_cell? w _ hx127_0)).trans hx127_0
                have HR127_0 := Aside0.mk hi127_0
                have HC127_0 := Aside0.mk hl127_0
                clear hi127_0 hl127_0
                replace p127 := eq_true p127
                replace q127 := eq_true q127
                go_wp2
                repeat (go_quiet (fail); try go_wp2)
                go_ret
                exact ⟨by first | rfl | (simp [errW_none, errW_some] <;> rfl) | (simp [*, errW_none, errW_some] <;> rfl), by repeat (first | (with_reducible first | exact HB.out | apply below_alloc | apply pw_below_drewN | apply below_drew1 | refine below_set ?_ GE126.out) | exact HB.out)⟩
            · rw [if_neg c12] at H
              exact absurd H (by simp)
          · rw [if_neg c11] at H
            exact absurd H (by simp)
end Go.Proofs.Ytimjccfpobhpeaa.PF
namespace Go.Proofs.Ytimjccfpobhpeaa.PF
open Go.RowKit Go.Proofs.YtimjccfpobhpeaaW.PrintWords Go.Proofs.YtimjccfpobhpeaaW.PrintLast Go.Proofs.YtimjccfpobhpeaaW.PrintMore
set_option linter.unusedVariables false
set_option linter.unusedSimpArgs false
theorem fault_check.ok {k : Nat} {rows : List (List S77)} {a b : Int} {c : Bool} (h : fault_check.f k rows a b c = some 0) : 2 ≤ a ∧ a < rows.length ∧ -1 ≤ b ∧ b < ((rows.getD a.toNat []).length : Int) := by
  unfold fault_check.f at h
  cases k with
  | zero => split at h <;> simp [fault_check.j0] at h
  | succ k =>
    split at h
    · simp [fault_check.j0] at h
    · rename_i h1
      rw [fault_check.j0] at h
      split at h
      · simp at h
      · rename_i h2
        split at h
        · simp at h
        · split at h
          · split at h
            · split at h
              · simp at h
              · rename_i h3 h4 h5 h6
                simp only [rd_L12] at h6
                simp only [decide_eq_true_eq] at h2
                exact ⟨by omega, by omega, by omega, by omega⟩
            · simp at h
          · simp at h
theorem netlist_Loads.ok {k : Nat} {l0 l1 : List ByteArray} {l2 : List S82} {l3 : List S80} {l4 : List Int} {rows : List (List S77)} (h : netlist_Loads.f k l0 l1 l2 l3 l4 = some (rows, 0)) :
    netlist_Form.f k l0 l1 l2 l3 l4 = some 0 ∧ loadsFit l0 l2 l3 l4 = true ∧ rows = loadsOf l0 l2 l3 l4 := by
  unfold netlist_Loads.f at h
  obtain ⟨e, he, h2⟩ := Option.bind_eq_some_iff.1 h
  by_cases h0 : e = 0
  · subst h0
    rw [if_pos rfl] at h2
    by_cases hf : loadsFit l0 l2 l3 l4 = true
    · rw [if_pos hf] at h2
      simp only [Option.some.injEq, Prod.mk.injEq] at h2
      exact ⟨he, hf, h2.1.symm⟩
    · rw [if_neg hf] at h2
      cases h2
  · rw [if_neg h0] at h2
    simp only [Option.some.injEq, Prod.mk.injEq] at h2
    exact absurd h2.2 h0
theorem loadsOf_row {l0 : List ByteArray} {l2 : List S82} {l3 : List S80} {l4 : List Int} (hf : loadsFit l0 l2 l3 l4 = true) {j : Nat} (hj : j < netsOf l0 l2 l3) : (loadsOf l0 l2 l3 l4)[j]? = some (((placesOf l2 l3 l4).filter fun p => decide (p.1 = (j : Int))).map (·.2)) := by
  have hg := (loadsFit_good hf).1
  have hr := loadsFrom_row (placesOf l2 l3 l4) (List.replicate (netsOf l0 l2 l3) []) (fun p hp => by rw [hg.len]; exact hg.rng p hp) j (by rw [hg.len]; exact hj)
  have hl : (loadsOf l0 l2 l3 l4).length = netsOf l0 l2 l3 := by
    unfold loadsOf
    rw [loadsFrom_len, hg.len]
  rw [List.getD_eq_getElem?_getD] at hr
  have h2 : (loadsOf l0 l2 l3 l4)[j]? = some ((loadsOf l0 l2 l3 l4)[j]'(by omega)) := List.getElem?_eq_getElem _
  unfold loadsOf at h2
  rw [h2, Option.getD_some] at hr
  unfold loadsOf
  rw [h2, hr]
  simp [List.getD, List.getElem?_replicate, hj]
theorem loadsOf_len {l0 : List ByteArray} {l2 : List S82} {l3 : List S80} {l4 : List Int} : (loadsOf l0 l2 l3 l4).length = netsOf l0 l2 l3 := by
  unfold loadsOf
  rw [loadsFrom_len, List.length_replicate]
def injRes (rows : List (List S77)) (a b : Int) (c : Bool) (l2 : List S82) (l3 : List S80) (l4 : List Int) : NetP := injectF b (if c = true then 1 else 0) (rows.getD a.toNat []) 0 ⟨l2, l3, l4⟩
def fault_Inject.f (k : Nat) (l0_0 : List ByteArray) (l0_1 : List ByteArray) (l0_2 : List (S82)) (l0_3 : List (S80)) (l0_4 : List Int) (a1_0 : Int) (a1_1 : Int) (a1_2 : Bool) : Option (List ByteArray × List ByteArray × (List (S82)) × (List (S80)) × List Int × Int) := (netlist_Loads.f k l0_0 l0_1 l0_2 l0_3 l0_4).bind fun r => if r.2 = 0 then ((fault_check.f k r.1 a1_0 a1_1 a1_2).bind fun e2 => if e2 = 0 then (if copyFits l0_0 l0_1 l0_2 l0_3 l0_4 = true then some (l0_0, l0_1, (injRes r.1 a1_0 a1_1 a1_2 l0_2 l0_3 l0_4).fl, (injRes r.1 a1_0 a1_1 a1_2 l0_2 l0_3 l0_4).ga, (injRes r.1 a1_0 a1_1 a1_2 l0_2 l0_3 l0_4).ou, 0) else none) else some ([], [], [], [], [], e2)) else some ([], [], [], [], [], r.2)
theorem fault_Inject.mono : ∀ a0 a1 a2 a3 a4 a5 a6 a7 k, LeO (fault_Inject.f k a0 a1 a2 a3 a4 a5 a6 a7) (fault_Inject.f (k + 1) a0 a1 a2 a3 a4 a5 a6 a7) := fun a0 a1 a2 a3 a4 a5 a6 a7 k => LeO.bind (netlist_Loads.mono a0 a1 a2 a3 a4 k) (fun r => LeO.ite (LeO.bind (fault_check.mono _ _ _ _ k) (fun _ => LeO.refl _)) (LeO.refl _))
set_option maxHeartbeats 2000000 in
theorem fault_Inject.calls (k : Nat) (A0_0 : Option Addr) (c0_0 : Nat) (l0_0 : List ByteArray) (A0_1 : Option Addr) (c0_1 : Nat) (l0_1 : List ByteArray) (A0_2 : Option Addr) (c0_2 : Nat) (l0_2 : List (S82)) (A0_3 : Option Addr) (c0_3 : Nat) (l0_3 : List (S80)) (A0_4 : Option Addr) (c0_4 : Nat) (l0_4 : List Int) (a1_0 : Int) (a1_1 : Int) (a1_2 : Bool) (r1 : List ByteArray) (r2 : List ByteArray) (r3 : List (S82)) (r4 : List (S80)) (r5 : List Int) (r6 : Int) (w : World) (hr0_0 : Kd.C Kd.string w A0_0 l0_0.length l0_0) (hc0_0 : l0_0.length ≤ c0_0) (hr0_1 : Kd.C Kd.string w A0_1 l0_1.length l0_1) (hc0_1 : l0_1.length ≤ c0_1) (hr0_2 : Kd.C k82 w A0_2 l0_2.length l0_2) (hc0_2 : l0_2.length ≤ c0_2) (hr0_3 : Kd.C k80 w A0_3 l0_3.length l0_3) (hc0_3 : l0_3.length ≤ c0_3) (hr0_4 : Kd.C (Kd.int .i64) w A0_4 l0_4.length l0_4) (hc0_4 : l0_4.length ≤ c0_4) (h : fault_Inject.f k l0_0 l0_1 l0_2 l0_3 l0_4 a1_0 a1_1 a1_2 = some (r1, r2, r3, r4, r5, r6)) :
    Calls Try.prog 8 #[.agg #[.slice A0_0 l0_0.length c0_0, .slice A0_1 l0_1.length c0_1, .slice A0_2 l0_2.length c0_2, .slice A0_3 l0_3.length c0_3, .slice A0_4 l0_4.length c0_4], .agg #[.int .i64 a1_0, .int .i64 a1_1, .bool a1_2]] w fun e w' => ∃ v0_ v1_ v2_ v3_ v4_ : Value, e = .returned (.tuple #[.agg #[v0_, v1_, v2_, v3_, v4_], .int .i64 r6]) ∧ Kd.R Kd.string 9 w' w.heap.size (fun k_ => some k_ ≠ (v1_ : Value).ownBlock) v0_ r1 ∧ Kd.R Kd.string 9 w' w.heap.size (fun k_ => some k_ ≠ (v0_ : Value).ownBlock) v1_ r2 ∧ Kd.R k82 82 w' w.heap.size (fun _ => True) v2_ r3 ∧ Kd.S k80 80 w' w.heap.size (fun k_ => some k_ ≠ (v4_ : Value).ownBlock) v3_ r4 ∧ Kd.R (Kd.int .i64) 3 w' w.heap.size (fun _ => True) v4_ r5 ∧ Below w.heap.size w w' := by
  unfold fault_Inject.f at h
  obtain ⟨⟨rows, e1⟩, hL, h2⟩ := Option.bind_eq_some_iff.1 h
  have HL := fun (W : World) (hW : Below w.heap.size w W) => netlist_Loads.calls k A0_0 c0_0 l0_0 A0_1 c0_1 l0_1 A0_2 c0_2 l0_2 A0_3 c0_3 l0_3 A0_4 c0_4 l0_4 rows e1 W (Kd.C_below hr0_0 hW) hc0_0 (Kd.C_below hr0_1 hW) hc0_1 (Kd.C_below hr0_2 hW) hc0_2 (Kd.C_below hr0_3 hW) hc0_3 (Kd.C_below hr0_4 hW) hc0_4 hL
  by_cases h0 : e1 = 0
  · subst h0
    rw [if_pos rfl] at h2
    obtain ⟨e2, hC, h3⟩ := Option.bind_eq_some_iff.1 h2
    have HC : ∀ (W : World) (v : Value), Kd.S (Kd.slice 77 k77) 75 W (w.heap.size + 3) (fun _ => True) v rows → Calls Try.prog 28 #[v, .agg #[.int .i64 a1_0, .int .i64 a1_1, .bool a1_2]] W fun e w' => e = .returned (.int .i64 e2) ∧ Below W.heap.size W w' := fun W v hS => by
      obtain ⟨A, c, rfl, hc, hr⟩ := Kd.S_reads hS
      exact fault_check.calls k A c rows a1_0 a1_1 a1_2 e2 W hr hc hC
    by_cases h4 : e2 = 0
    · subst h4
      rw [if_pos rfl] at h3
      by_cases hf : copyFits l0_0 l0_1 l0_2 l0_3 l0_4 = true
      · rw [if_pos hf] at h3
        simp only [Option.some.injEq, Prod.mk.injEq] at h3
        obtain ⟨rfl, rfl, rfl, rfl, rfl, rfl⟩ := h3
        obtain ⟨hF, hfit, hrows⟩ := netlist_Loads.ok hL
        obtain ⟨hk1, hk2, hk3, hk4⟩ := fault_check.ok (rows := rows) hC
        obtain ⟨nn, rfl⟩ := Int.eq_ofNat_of_zero_le (show 0 ≤ a1_0 by omega)
        have hrow := loadsOf_row hfit (j := nn) (by rw [← loadsOf_len (l4 := l0_4), ← hrows]; omega)
        rw [← hrows] at hrow
        have hval : ∀ l ∈ ((placesOf l0_2 l0_3 l0_4).filter fun p => decide (p.1 = (nn : Int))).map (·.2), ValidL ⟨l0_2, l0_3, l0_4⟩ l := by
          intro l hl
          obtain ⟨p, hp, rfl⟩ := List.mem_map.1 hl
          exact placesOf_valid (List.mem_filter.1 hp).1
        have hres : ∀ v, injRes rows (nn : Int) a1_1 v l0_2 l0_3 l0_4 = injectF a1_1 (if v = true then 1 else 0) (((placesOf l0_2 l0_3 l0_4).filter fun p => decide (p.1 = (nn : Int))).map (·.2)) 0 ⟨l0_2, l0_3, l0_4⟩ := fun v => by
          unfold injRes
          rw [Int.toNat_natCast, List.getD_eq_getElem?_getD, hrow, Option.getD_some]
        simp only [copyFits, Bool.and_eq_true, decide_eq_true_eq, List.all_eq_true] at hf
        obtain ⟨⟨⟨⟨⟨m0, m1⟩, m2⟩, m3⟩, m4⟩, m5⟩ := hf
        have fin : ∀ {s : NetP} {e : Ending} {w' : World}, (∃ v0 v1 v2 v3 v4 : Value, e = .returned (.tuple #[.agg #[v0, v1, v2, v3, v4], .int .i64 0]) ∧ NetR (fun _ => True) w.heap.size w' v0 v1 v2 v3 v4 l0_0 l0_1 s.fl s.ga s.ou ∧ Below w.heap.size w w') → ∃ v0_ v1_ v2_ v3_ v4_ : Value, e = .returned (.tuple #[.agg #[v0_, v1_, v2_, v3_, v4_], .int .i64 0]) ∧ Kd.R Kd.string 9 w' w.heap.size (fun k_ => some k_ ≠ (v1_ : Value).ownBlock) v0_ l0_0 ∧ Kd.R Kd.string 9 w' w.heap.size (fun k_ => some k_ ≠ (v0_ : Value).ownBlock) v1_ l0_1 ∧ Kd.R k82 82 w' w.heap.size (fun _ => True) v2_ s.fl ∧ Kd.S k80 80 w' w.heap.size (fun k_ => some k_ ≠ (v4_ : Value).ownBlock) v3_ s.ga ∧ Kd.R (Kd.int .i64) 3 w' w.heap.size (fun _ => True) v4_ s.ou ∧ Below w.heap.size w w' := by
          rintro s e w' ⟨v0, v1, v2, v3, v4, he, hr, hb⟩
          exact ⟨v0, v1, v2, v3, v4, he, Kd.R_mono hr.r0 (fun _ h => h.2), Kd.R_mono hr.r1 (fun _ h => h.2), hr.r2, Kd.S_mono hr.r3 (fun _ h => h.2), hr.r4, hb⟩
        cases a1_2
        · rw [hres]
          exact (inject_ok_f A0_0 A0_1 A0_2 A0_3 A0_4 c0_0 c0_1 c0_2 c0_3 c0_4 l0_0 l0_1 l0_2 l0_3 l0_4 nn a1_1 w hr0_0 hr0_1 hr0_2 hr0_3 hr0_4 m0 m1 m2 m3 m4 m5 rows _ hrow hval HL HC).mono fun _ _ hp => fin hp
        · rw [hres]
          exact (inject_ok_t A0_0 A0_1 A0_2 A0_3 A0_4 c0_0 c0_1 c0_2 c0_3 c0_4 l0_0 l0_1 l0_2 l0_3 l0_4 nn a1_1 w hr0_0 hr0_1 hr0_2 hr0_3 hr0_4 m0 m1 m2 m3 m4 m5 rows _ hrow hval HL HC).mono fun _ _ hp => fin hp
      · rw [if_neg hf] at h3
        cases h3
    · rw [if_neg h4] at h3
      simp only [Option.some.injEq, Prod.mk.injEq] at h3
      obtain ⟨rfl, rfl, rfl, rfl, rfl, rfl⟩ := h3
      exact (inject_err2 A0_0 A0_1 A0_2 A0_3 A0_4 c0_0 c0_1 c0_2 c0_3 c0_4 l0_0 l0_1 l0_2 l0_3 l0_4 a1_0 a1_1 a1_2 w rows _ h4 HL HC).mono fun _ _ ⟨v0, v1, v2, v3, v4, he, hr, hb⟩ => ⟨v0, v1, v2, v3, v4, he, Kd.R_mono hr.r0 (fun _ h => h.2), Kd.R_mono hr.r1 (fun _ h => h.2), hr.r2, Kd.S_mono hr.r3 (fun _ h => h.2), hr.r4, hb⟩
  · rw [if_neg h0] at h2
    simp only [Option.some.injEq, Prod.mk.injEq] at h2
    obtain ⟨rfl, rfl, rfl, rfl, rfl, rfl⟩ := h2
    exact (inject_err1 A0_0 A0_1 A0_2 A0_3 A0_4 c0_0 c0_1 c0_2 c0_3 c0_4 l0_0 l0_1 l0_2 l0_3 l0_4 a1_0 a1_1 a1_2 w _ h0 (fun W hW => (HL W hW).mono fun _ _ ⟨v, he, _, hb⟩ => ⟨v, he, hb⟩)).mono fun _ _ ⟨v0, v1, v2, v3, v4, he, hr, hb⟩ => ⟨v0, v1, v2, v3, v4, he, Kd.R_mono hr.r0 (fun _ h => h.2), Kd.R_mono hr.r1 (fun _ h => h.2), hr.r2, Kd.S_mono hr.r3 (fun _ h => h.2), hr.r4, hb⟩
end Go.Proofs.Ytimjccfpobhpeaa.PF
namespace Go.Proofs.Ytimjccfpobhpeaa.PF
open Go.RowKit Go.Proofs.YtimjccfpobhpeaaW.PrintWords Go.Proofs.YtimjccfpobhpeaaW.PrintLast Go.Proofs.YtimjccfpobhpeaaW.PrintMore
set_option linter.unusedVariables false
set_option linter.unusedSimpArgs false
def numsOf (l0 : List ByteArray) (l2 : List S82) (l3 : List S80) (l4 : List Int) : List ((Int × Int × Int) × Int) := numsFrom (loadsOf l0 l2 l3 l4) []
def nvOf (l0 : List ByteArray) (l2 : List S82) (l3 : List S80) (l4 : List Int) (a b : Int) (c : Bool) : S77 → Int → Int := newv a b (if c = true then 1 else 0) (numsOf l0 l2 l3 l4)
end Go.Proofs.Ytimjccfpobhpeaa.PF
namespace Go.Proofs.Ytimjccfpobhpeaa
open Go.RowKit Go.Proofs.YtimjccfpobhpeaaW.PrintWords Go.Proofs.Ytimjccfpobhpeaa.PF
set_option linter.unusedVariables false
theorem pin_mem {i : Nat} {net : Int} : ∀ {xs : List Int} {k j : Nat}, xs[j]? = some net → ((net, ⟨0, i, (k + j : Nat)⟩) : Int × Load) ∈ pinPlaces i xs k
  | [], _, _, h => by simp at h
  | x :: r, k, 0, h => by
    obtain rfl : x = net := by simpa using h
    rw [pinPlaces]
    exact List.mem_cons_self
  | x :: r, k, j + 1, h => by
    rw [pinPlaces]
    have := pin_mem (i := i) (k := k + 1) (j := j) (xs := r) (net := net) (by simpa using h)
    rw [show k + 1 + j = k + (j + 1) by omega] at this
    exact List.mem_cons_of_mem _ this
theorem gate_mem {k : Nat} {net : Int} : ∀ {xs : List GateS} {i j : Nat} {x : GateS}, xs[j]? = some x → x.f2[k]? = some net → ((net, ⟨0, (i + j : Nat), k⟩) : Int × Load) ∈ gatePlaces xs i
  | [], _, _, _, h, _ => by simp at h
  | y :: r, i, 0, x, h, hk => by
    obtain rfl : y = x := by simpa using h
    rw [gatePlaces]
    have := pin_mem (i := i) (k := 0) hk
    rw [Nat.zero_add] at this
    exact List.mem_append_left _ this
  | y :: r, i, j + 1, x, h, hk => by
    rw [gatePlaces]
    have := gate_mem (i := i + 1) (j := j) (xs := r) (x := x) (by simpa using h) hk
    rw [show i + 1 + j = i + (j + 1) by omega] at this
    exact List.mem_append_right _ this
theorem flop_mem : ∀ {xs : List FlopS} {i j : Nat} {x : FlopS}, xs[j]? = some x → ((x.f2, ⟨1, (i + j : Nat), 0⟩) : Int × Load) ∈ flopPlaces xs i ∧ ((x.f3, ⟨2, (i + j : Nat), 0⟩) : Int × Load) ∈ flopPlaces xs i
  | [], _, _, _, h => by simp at h
  | y :: r, i, 0, x, h => by
    obtain rfl : y = x := by simpa using h
    rw [flopPlaces]
    exact ⟨List.mem_cons_self, List.mem_cons_of_mem _ List.mem_cons_self⟩
  | y :: r, i, j + 1, x, h => by
    rw [flopPlaces]
    have := flop_mem (i := i + 1) (j := j) (xs := r) (x := x) (by simpa using h)
    rw [show i + 1 + j = i + (j + 1) by omega] at this
    exact ⟨List.mem_cons_of_mem _ (List.mem_cons_of_mem _ this.1), List.mem_cons_of_mem _ (List.mem_cons_of_mem _ this.2)⟩
theorem out_mem {net : Int} : ∀ {xs : List Int} {i j : Nat}, xs[j]? = some net → ((net, ⟨3, (i + j : Nat), 0⟩) : Int × Load) ∈ outPlaces xs i
  | [], _, _, h => by simp at h
  | x :: r, i, 0, h => by
    obtain rfl : x = net := by simpa using h
    rw [outPlaces]
    exact List.mem_cons_self
  | x :: r, i, j + 1, h => by
    rw [outPlaces]
    have := out_mem (i := i + 1) (j := j) (xs := r) (net := net) (by simpa using h)
    rw [show i + 1 + j = i + (j + 1) by omega] at this
    exact List.mem_cons_of_mem _ this
section
variable {l2 : List FlopS} {l3 : List GateS} {l4 : List Int}
theorem places_to {p : Int × Load} (h : p ∈ placesOf l2 l3 l4) : ∃ q, p.2 = toL q ∧ getP ⟨l2, l3, l4⟩ q = some p.1 := by
  unfold placesOf at h
  rcases List.mem_append.1 h with h | h
  · obtain ⟨j, k, x, net, h1, h2, rfl⟩ := gatePlaces_mem h
    exact ⟨.pin j k, by rw [Nat.zero_add]; rfl, by simp only [getP]; rw [h1]; exact h2⟩
  rcases List.mem_append.1 h with h | h
  · obtain ⟨j, x, h1, rfl | rfl⟩ := flopPlaces_mem h
    · exact ⟨.d j, by rw [Nat.zero_add]; rfl, by simp only [getP]; rw [h1]; rfl⟩
    · exact ⟨.en j, by rw [Nat.zero_add]; rfl, by simp only [getP]; rw [h1]; rfl⟩
  · obtain ⟨j, net, h1, rfl⟩ := outPlaces_mem h
    exact ⟨.out j, by rw [Nat.zero_add]; rfl, h1⟩
theorem places_of {q : Pl} {x : Int} (h : getP ⟨l2, l3, l4⟩ q = some x) : ((x, toL q) : Int × Load) ∈ placesOf l2 l3 l4 := by
  unfold placesOf
  cases q with
  | pin i k =>
    obtain ⟨g, h1, h2⟩ := Option.bind_eq_some_iff.1 h
    have := gate_mem (i := 0) h1 h2
    rw [Nat.zero_add] at this
    exact List.mem_append_left _ this
  | d i =>
    obtain ⟨g, h1, rfl⟩ := Option.map_eq_some_iff.1 h
    have := (flop_mem (i := 0) h1).1
    rw [Nat.zero_add] at this
    exact List.mem_append_right _ (List.mem_append_left _ this)
  | en i =>
    obtain ⟨g, h1, rfl⟩ := Option.map_eq_some_iff.1 h
    have := (flop_mem (i := 0) h1).2
    rw [Nat.zero_add] at this
    exact List.mem_append_right _ (List.mem_append_left _ this)
  | out i =>
    have := out_mem (i := 0) h
    rw [Nat.zero_add] at this
    exact List.mem_append_right _ (List.mem_append_right _ this)
end
theorem load_f0 {a b : Load} (h : a = b) : a.f0 = b.f0 := by rw [h]
theorem load_f1 {a b : Load} (h : a = b) : a.f1 = b.f1 := by rw [h]
theorem load_f2 {a b : Load} (h : a = b) : a.f2 = b.f2 := by rw [h]
theorem pin_nodup (i : Nat) : ∀ (xs : List Int) (k : Nat), ((pinPlaces i xs k).map (·.2)).Nodup
  | [], k => List.nodup_nil
  | x :: r, k => by
    rw [pinPlaces, List.map_cons]
    refine List.nodup_cons.2 ⟨fun h => ?_, pin_nodup i r (k + 1)⟩
    obtain ⟨p, hp, e⟩ := List.mem_map.1 h
    obtain ⟨j, net, _, rfl⟩ := pinPlaces_mem hp
    have := load_f2 e
    simp only at this
    omega
theorem gate_nodup : ∀ (xs : List GateS) (i : Nat), ((gatePlaces xs i).map (·.2)).Nodup
  | [], i => List.nodup_nil
  | x :: r, i => by
    rw [gatePlaces, List.map_append]
    refine List.nodup_append.2 ⟨pin_nodup i x.f2 0, gate_nodup r (i + 1), fun a ha b hb e => ?_⟩
    obtain ⟨p, hp, rfl⟩ := List.mem_map.1 ha
    obtain ⟨p2, hp2, rfl⟩ := List.mem_map.1 hb
    obtain ⟨j, net, _, rfl⟩ := pinPlaces_mem hp
    obtain ⟨j2, k2, x2, net2, _, _, rfl⟩ := gatePlaces_mem hp2
    have := load_f1 e
    simp only at this
    omega
theorem flop_nodup : ∀ (xs : List FlopS) (i : Nat), ((flopPlaces xs i).map (·.2)).Nodup
  | [], i => List.nodup_nil
  | x :: r, i => by
    rw [flopPlaces, List.map_cons, List.map_cons]
    refine List.nodup_cons.2 ⟨fun h => ?_, List.nodup_cons.2 ⟨fun h => ?_, flop_nodup r (i + 1)⟩⟩
    · rcases List.mem_cons.1 h with e | h
      · have := load_f0 e
        simp only at this
        omega
      · obtain ⟨p, hp, e⟩ := List.mem_map.1 h
        obtain ⟨j, y, _, rfl | rfl⟩ := flopPlaces_mem hp
        · have := load_f1 e
          simp only at this
          omega
        · have := load_f1 e
          simp only at this
          omega
    · obtain ⟨p, hp, e⟩ := List.mem_map.1 h
      obtain ⟨j, y, _, rfl | rfl⟩ := flopPlaces_mem hp
      · have := load_f1 e
        simp only at this
        omega
      · have := load_f1 e
        simp only at this
        omega
theorem out_nodup : ∀ (xs : List Int) (i : Nat), ((outPlaces xs i).map (·.2)).Nodup
  | [], i => List.nodup_nil
  | x :: r, i => by
    rw [outPlaces, List.map_cons]
    refine List.nodup_cons.2 ⟨fun h => ?_, out_nodup r (i + 1)⟩
    obtain ⟨p, hp, e⟩ := List.mem_map.1 h
    obtain ⟨j, net, _, rfl⟩ := outPlaces_mem hp
    have := load_f1 e
    simp only at this
    omega
theorem places_nodup (l2 : List FlopS) (l3 : List GateS) (l4 : List Int) : ((placesOf l2 l3 l4).map (·.2)).Nodup := by
  unfold placesOf
  rw [List.map_append, List.map_append]
  refine List.nodup_append.2 ⟨gate_nodup l3 0, List.nodup_append.2 ⟨flop_nodup l2 0, out_nodup l4 0, fun a ha b hb e => ?_⟩, fun a ha b hb e => ?_⟩
  · obtain ⟨p, hp, rfl⟩ := List.mem_map.1 ha
    obtain ⟨p2, hp2, rfl⟩ := List.mem_map.1 hb
    obtain ⟨j2, net2, _, rfl⟩ := outPlaces_mem hp2
    obtain ⟨j, y, _, rfl | rfl⟩ := flopPlaces_mem hp
    all_goals
      have := load_f0 e
      simp only at this
      omega
  · obtain ⟨p, hp, rfl⟩ := List.mem_map.1 ha
    obtain ⟨j, k, x, net, _, _, rfl⟩ := gatePlaces_mem hp
    rcases List.mem_append.1 hb with hb | hb
    · obtain ⟨p2, hp2, rfl⟩ := List.mem_map.1 hb
      obtain ⟨j, y, _, rfl | rfl⟩ := flopPlaces_mem hp2
      all_goals
        have := load_f0 e
        simp only at this
        omega
    · obtain ⟨p2, hp2, rfl⟩ := List.mem_map.1 hb
      obtain ⟨j2, net2, _, rfl⟩ := outPlaces_mem hp2
      have := load_f0 e
      simp only at this
      omega
theorem keyL_inj {l l' : Load} (h : keyL l = keyL l') : l = l' := by
  cases l
  cases l'
  simp only [keyL, Prod.mk.injEq] at h
  obtain ⟨rfl, rfl, rfl⟩ := h
  rfl
theorem numsRow_out {l : Load} : ∀ (row : List Load) (i : Nat) (m : List ((Int × Int × Int) × Int)), l ∉ row → mget (numsRow row i m) (keyL l) = mget m (keyL l)
  | [], i, m, h => rfl
  | l' :: r, i, m, h => by
    rw [numsRow, numsRow_out r (i + 1) _ (fun e => h (List.mem_cons_of_mem _ e)), mget_mput, if_neg (fun e => h (by rw [keyL_inj e]; exact List.mem_cons_self))]
theorem numsRow_in {l : Load} : ∀ (row : List Load) (i : Nat) (m : List ((Int × Int × Int) × Int)) (j : Nat), row.Nodup → row[j]? = some l → mget (numsRow row i m) (keyL l) = some ((i + j : Nat) : Int)
  | [], i, m, j, hn, h => by simp at h
  | l' :: r, i, m, 0, hn, h => by
    obtain rfl : l' = l := by simpa using h
    rw [numsRow, numsRow_out r (i + 1) _ (List.nodup_cons.1 hn).1, mget_mput, if_pos rfl, Nat.add_zero]
  | l' :: r, i, m, j + 1, hn, h => by
    rw [numsRow, numsRow_in r (i + 1) _ j (List.nodup_cons.1 hn).2 (by simpa using h), show i + 1 + j = i + (j + 1) by omega]
theorem numsFrom_out {l : Load} : ∀ (rows : List (List Load)) (m : List ((Int × Int × Int) × Int)), (∀ row ∈ rows, l ∉ row) → mget (numsFrom rows m) (keyL l) = mget m (keyL l)
  | [], m, h => rfl
  | row :: r, m, h => by
    rw [numsFrom, numsFrom_out r _ (fun x hx => h x (List.mem_cons_of_mem _ hx)), numsRow_out _ _ _ (h row List.mem_cons_self)]
theorem numsFrom_in {l : Load} : ∀ (rows : List (List Load)) (m : List ((Int × Int × Int) × Int)) (n : Nat) (row : List Load) (j : Nat), rows[n]? = some row → row.Nodup → row[j]? = some l → (∀ n' row', n < n' → rows[n']? = some row' → l ∉ row') → mget (numsFrom rows m) (keyL l) = some (j : Int)
  | [], m, n, row, j, h, _, _, _ => by simp at h
  | row0 :: r, m, 0, row, j, h, hn, hj, hl => by
    obtain rfl : row0 = row := by simpa using h
    rw [numsFrom, numsFrom_out r _ (fun x hx => by
      obtain ⟨n', hn'⟩ := List.getElem?_of_mem hx
      exact hl (n' + 1) x (by omega) (by rw [List.getElem?_cons_succ]; exact hn')), numsRow_in _ _ _ j hn hj, Nat.zero_add]
  | row0 :: r, m, n + 1, row, j, h, hn, hj, hl => by
    rw [numsFrom]
    exact numsFrom_in r _ n row j (by simpa using h) hn hj (fun n' row' h1 h2 => hl (n' + 1) row' (by omega) (by rw [List.getElem?_cons_succ]; exact h2))
theorem Skel.symm {s s' : NetP} (h : Skel s s') : Skel s' s := ⟨h.fl.symm, h.ga.symm, h.ou.symm⟩
def rowAt (l2 : List FlopS) (l3 : List GateS) (l4 : List Int) (n : Nat) : List Load := ((placesOf l2 l3 l4).filter fun p => decide (p.1 = (n : Int))).map (·.2)
section
variable {l2 : List FlopS} {l3 : List GateS} {l4 : List Int}
theorem rowAt_mem {n : Nat} {q : Pl} : toL q ∈ rowAt l2 l3 l4 n ↔ getP ⟨l2, l3, l4⟩ q = some (n : Int) := by
  constructor
  · intro h
    obtain ⟨p, hp, e⟩ := List.mem_map.1 h
    obtain ⟨hp, hd⟩ := List.mem_filter.1 hp
    obtain ⟨q', e', hq⟩ := places_to hp
    obtain rfl := toL_inj (e'.symm.trans e)
    rw [hq, of_decide_eq_true hd]
  · intro h
    exact List.mem_map.2 ⟨_, List.mem_filter.2 ⟨places_of h, by simp⟩, rfl⟩
theorem rowAt_nodup (n : Nat) : (rowAt l2 l3 l4 n).Nodup := List.Nodup.sublist (List.Sublist.map _ List.filter_sublist) (places_nodup l2 l3 l4)
theorem rowAt_to {n : Nat} : ∀ l ∈ rowAt l2 l3 l4 n, ∃ p, l = toL p := by
  intro l hl
  obtain ⟨p, hp, rfl⟩ := List.mem_map.1 hl
  obtain ⟨q, hq, _⟩ := places_to (List.mem_filter.1 hp).1
  exact ⟨q, hq⟩
theorem inj_br {l0 : List ByteArray} (hfit : loadsFit l0 l2 l3 l4 = true) (a : Nat) (b : Int) (c : Bool) (ha : a < netsOf l0 l2 l3) :
    injRes (loadsOf l0 l2 l3 l4) (a : Int) b c l2 l3 l4 = brOf (nvOf l0 l2 l3 l4 a b c) ⟨l2, l3, l4⟩ := by
  have hrow : ∀ n, n < netsOf l0 l2 l3 → (loadsOf l0 l2 l3 l4)[n]? = some (rowAt l2 l3 l4 n) := fun n hn => loadsOf_row hfit hn
  unfold injRes
  rw [Int.toNat_natCast, List.getD_eq_getElem?_getD, hrow a ha, Option.getD_some]
  refine netP_ext ((skel_br _ _).symm.trans (skel_inject b _ _ 0 _ rowAt_to)) fun q => ?_
  obtain ⟨i1, i2⟩ := getP_inject b (if c = true then 1 else 0) q (rowAt l2 l3 l4 a) 0 ⟨l2, l3, l4⟩ rowAt_to (rowAt_nodup a)
  rw [getP_br]
  cases hq : getP ⟨l2, l3, l4⟩ q with
  | none =>
    rw [hq] at i1 i2
    by_cases hc : ∃ j, (rowAt l2 l3 l4 a)[j]? = some (toL q) ∧ (b < 0 ∨ b = (0 + j : Nat))
    · rw [i1 hc]
      rfl
    · rw [i2 hc]
      rfl
  | some x =>
    rw [hq] at i1 i2
    obtain ⟨r1, r2⟩ := (loadsFit_good hfit).1.rng _ (places_of hq)
    simp only at r1 r2
    obtain ⟨n, rfl⟩ := Int.eq_ofNat_of_zero_le r1
    obtain ⟨j, hj⟩ := List.getElem?_of_mem (rowAt_mem.2 hq)
    have hm : mget (numsOf l0 l2 l3 l4) (keyL (toL q)) = some (j : Int) := by
      unfold numsOf
      refine numsFrom_in _ _ n _ j (hrow n (by omega)) (rowAt_nodup n) hj fun n' row' h1 h2 h3 => ?_
      have hn' := (List.getElem?_eq_some_iff.1 h2).1
      rw [loadsOf_len] at hn'
      rw [hrow n' hn'] at h2
      cases h2
      rw [rowAt_mem, hq] at h3
      injection h3 with h3
      omega
    have hnv : nvOf l0 l2 l3 l4 a b c (toL q) (n : Int) = if (n : Int) = a ∧ (b < 0 ∨ (j : Int) = b) then (if c = true then 1 else 0) else (n : Int) := by
      unfold nvOf newv
      rw [hm, Option.getD_some]
      simp only [putC, Bool.and_eq_true, Bool.or_eq_true, decide_eq_true_eq]
    rw [Option.map_some, hnv]
    by_cases hc : ∃ j, (rowAt l2 l3 l4 a)[j]? = some (toL q) ∧ (b < 0 ∨ b = (0 + j : Nat))
    · rw [i1 hc]
      obtain ⟨j', hj', hb⟩ := hc
      have hna := rowAt_mem.1 (List.mem_of_getElem? hj')
      rw [hq] at hna
      injection hna with hna
      obtain rfl : n = a := by omega
      obtain rfl : j = j' := List.getElem?_inj (List.getElem?_eq_some_iff.1 hj).1 (rowAt_nodup n) |>.1 (hj.trans hj'.symm)
      have hP : (n : Int) = n ∧ (b < 0 ∨ (j : Int) = b) := ⟨rfl, by rcases hb with hb | hb; exact .inl hb; exact .inr (by rw [hb, Nat.zero_add])⟩
      rw [if_pos hP]
      rfl
    · rw [i2 hc]
      have hN : ¬ ((n : Int) = a ∧ (b < 0 ∨ (j : Int) = b)) := by
        rintro ⟨h1, h2⟩
        obtain rfl : n = a := Int.ofNat.inj h1
        exact hc ⟨j, hj, by rcases h2 with h2 | h2; exact .inl h2; exact .inr (by rw [Nat.zero_add]; exact h2.symm)⟩
      rw [if_neg hN]
end
end Go.Proofs.Ytimjccfpobhpeaa
namespace Go.Proofs.Ytimjccfpobhpeaa.PF
open Go.RowKit Go.Proofs.YtimjccfpobhpeaaW.PrintWords Go.Proofs.YtimjccfpobhpeaaW.PrintLast Go.Proofs.YtimjccfpobhpeaaW.PrintMore
set_option linter.unusedVariables false
set_option linter.unusedSimpArgs false
def maskref2_FaultFault.j0 : Nat → List (List (S77)) → Bool → Int → Int → Bool → Option (Int)
  | 0, _, _, _, _, _ => none
  | k + 1, x5, x21, x130000, x130001, x130002 => if x21 = true then (some 7) else (if x130001 < (-1) then (some 2) else (if 0 ≤ x130000 then (if x130000 < (x5.length : Int) then (if x130001 ≥ ((rd_L12 x5 x130000).length : Int) then (some 2) else (some 0)) else (none)) else (none)))
def maskref2_FaultFault.f (k : Nat) (l0_0 : List ByteArray) (l0_1 : List ByteArray) (l0_2 : List (S82)) (l0_3 : List (S80)) (l0_4 : List Int) (a1_0 : Int) (a1_1 : Int) (a1_2 : Bool) : Option (Int) := (netlist_Loads.f k l0_0 l0_1 l0_2 l0_3 l0_4).bind fun bt130 => (if a1_0 < 2 then (maskref2_FaultFault.j0 k bt130.1 true a1_0 a1_1 a1_2) else (maskref2_FaultFault.j0 k bt130.1 (decide (a1_0 ≥ (bt130.1.length : Int))) a1_0 a1_1 a1_2))
set_option maxHeartbeats 8000000 in
set_option maxRecDepth 100000 in
theorem maskref2_FaultFault.calls (k : Nat) (A0_0 : Option Addr) (c0_0 : Nat) (l0_0 : List ByteArray) (A0_1 : Option Addr) (c0_1 : Nat) (l0_1 : List ByteArray) (A0_2 : Option Addr) (c0_2 : Nat) (l0_2 : List (S82)) (A0_3 : Option Addr) (c0_3 : Nat) (l0_3 : List (S80)) (A0_4 : Option Addr) (c0_4 : Nat) (l0_4 : List Int) (a1_0 : Int) (a1_1 : Int) (a1_2 : Bool) (r : Int) (w : World) (hr0_0 : Kd.C Kd.string w A0_0 l0_0.length l0_0) (hc0_0 : l0_0.length ≤ c0_0) (hr0_1 : Kd.C Kd.string w A0_1 l0_1.length l0_1) (hc0_1 : l0_1.length ≤ c0_1) (hr0_2 : Kd.C k82 w A0_2 l0_2.length l0_2) (hc0_2 : l0_2.length ≤ c0_2) (hr0_3 : Kd.C k80 w A0_3 l0_3.length l0_3) (hc0_3 : l0_3.length ≤ c0_3) (hr0_4 : Kd.C (Kd.int .i64) w A0_4 l0_4.length l0_4) (hc0_4 : l0_4.length ≤ c0_4) (h : maskref2_FaultFault.f k l0_0 l0_1 l0_2 l0_3 l0_4 a1_0 a1_1 a1_2 = some r) :
    Calls Try.prog 10 #[.agg #[.slice A0_0 l0_0.length c0_0, .slice A0_1 l0_1.length c0_1, .slice A0_2 l0_2.length c0_2, .slice A0_3 l0_3.length c0_3, .slice A0_4 l0_4.length c0_4], .agg #[.int .i64 a1_0, .int .i64 a1_1, .bool a1_2]] w fun e w' => e = .returned (.int .i64 r) ∧ Below w.heap.size w w' := by
  have hu27 := Try.underlying27
  have hu29 := Try.underlying29
  have HR0_0 := Aside0.mk hr0_0
  have HC0_0 := Aside0.mk hc0_0
  clear hr0_0 hc0_0
  have HR0_1 := Aside0.mk hr0_1
  have HC0_1 := Aside0.mk hc0_1
  clear hr0_1 hc0_1
  have HR0_2 := Aside0.mk hr0_2
  have HC0_2 := Aside0.mk hc0_2
  clear hr0_2 hc0_2
  have HR0_3 := Aside0.mk hr0_3
  have HC0_3 := Aside0.mk hc0_3
  clear hr0_3 hc0_3
  have HR0_4 := Aside0.mk hr0_4
  have HC0_4 := Aside0.mk hc0_4
  clear hr0_4 hc0_4
  have HB := Aside0.mk (Below.refl w.heap.size w)
  have H : ((netlist_Loads.f k l0_0 l0_1 l0_2 l0_3 l0_4).bind fun bt130 => (if a1_0 < 2 then (maskref2_FaultFault.j0 k bt130.1 true a1_0 a1_1 a1_2) else (maskref2_FaultFault.j0 k bt130.1 (decide (a1_0 ≥ (bt130.1.length : Int))) a1_0 a1_1 a1_2))) = some r := h
  clear h
  replace H := Option.bind_eq_some_iff.mp H
  obtain ⟨⟨t130, t133⟩, A30, H⟩ := H
  replace H : (if a1_0 < 2 then (maskref2_FaultFault.j0 k t130 true a1_0 a1_1 a1_2) else (maskref2_FaultFault.j0 k t130 (decide (a1_0 ≥ (t130.length : Int))) a1_0 a1_1 a1_2)) = some r := H
  have A3 := Aside0.mk A30
  clear A30
  have HC4 := Aside0.mk H
  clear H
  go_enter Try.func10, Try.ntmps10
  go_upto_region 2 with (first | ((with_reducible refine gate_dst (N := 2) rfl ?_); (try (refine gate_guard (by rfl) ?_; dsimp only)); refine box_event ?hg (N := 2) ?hd (cs := #[.slice A0_0 l0_0.length c0_0, .slice A0_1 l0_1.length c0_1, .slice A0_2 l0_2.length c0_2, .slice A0_3 l0_3.length c0_3, .slice A0_4 l0_4.length c0_4]) (t := 27) ?hr ?_; (case hd => rfl); (case hg => rfl); (case hr => first | (go_simp; done) | (go_simp; rfl)); intro gb128 hg w5 hbox hb; have n0_ := Aside0.mk (below_step (by repeat (first | (with_reducible first | exact HB.out | apply below_alloc | apply pw_below_drewN | apply below_drew1) | exact HB.out)) hb); have n1_ := Aside0.mk (hbox); have n2_ := Aside0.mk ((by rw [hg]; exact (below_size (by repeat (first | (with_reducible first | exact HB.out | apply below_alloc | apply pw_below_drewN | apply below_drew1) | exact HB.out))) : w.heap.size ≤ gb128)); have n3_ := Aside0.mk ((by rw [hg]; exact (below_size (by repeat (first | (with_reducible first | exact HB.out | apply below_alloc | apply pw_below_drewN | apply below_drew1) | exact HB.out))) : w.heap.size ≤ gb128)); clear HB; have HB := n0_; have BK128 := n1_; have GW128 := n2_; have GE128 := n3_; clear n0_ n1_ n2_ n3_; clear hb hbox hg) | ((with_reducible refine gate_dst (N := 3) rfl ?_); (try (refine gate_guard (by rfl) ?_; dsimp only)); refine box_event ?hg (N := 3) ?hd (cs := #[.int .i64 a1_0, .int .i64 a1_1, .bool a1_2]) (t := 29) ?hr ?_; (case hd => rfl); (case hg => rfl); (case hr => first | (go_simp; done) | (go_simp; rfl)); intro gb129 hg w6 hbox hb; have n0_ := Aside0.mk (blk_below (g := gb128) (o := .cells #[.slice A0_0 l0_0.length c0_0, .slice A0_1 l0_1.length c0_1, .slice A0_2 l0_2.length c0_2, .slice A0_3 l0_3.length c0_3, .slice A0_4 l0_4.length c0_4] 27 (0, 0)) (by (with_reducible repeat (first | refine blk_drewN ?_ _ | refine blk_drew ?_ | refine blk_alloc ?_ _)); exact BK128.out) hb); have n1_ := Aside0.mk (below_step (by repeat (first | (with_reducible first | exact HB.out | apply below_alloc | apply pw_below_drewN | apply below_drew1 | refine below_set ?_ GE128.out) | exact HB.out)) hb); have n2_ := Aside0.mk (hbox); have n3_ := Aside0.mk ((by rw [hg]; exact (below_size (by repeat (first | (with_reducible first | exact HB.out | apply below_alloc | apply pw_below_drewN | apply below_drew1 | refine below_set ?_ GE128.out) | exact HB.out))) : w.heap.size ≤ gb129)); have n4_ := Aside0.mk ((by rw [hg]; exact (below_size (by repeat (first | (with_reducible first | exact HB.out | apply below_alloc | apply pw_below_drewN | apply below_drew1 | refine below_set ?_ GE128.out) | exact HB.out))) : w.heap.size ≤ gb129)); have n5_ := Aside0.mk ((by rw [hg]; exact Nat.ne_of_lt (blk_lt (g := gb128) (o := .cells #[.slice A0_0 l0_0.length c0_0, .slice A0_1 l0_1.length c0_1, .slice A0_2 l0_2.length c0_2, .slice A0_3 l0_3.length c0_3, .slice A0_4 l0_4.length c0_4] 27 (0, 0)) (by (with_reducible repeat (first | refine blk_drewN ?_ _ | refine blk_drew ?_ | refine blk_alloc ?_ _)); exact BK128.out)) : gb128 ≠ gb129)); have n6_ := Aside0.mk ((by rw [hg]; exact Nat.ne_of_gt (blk_lt (g := gb128) (o := .cells #[.slice A0_0 l0_0.length c0_0, .slice A0_1 l0_1.length c0_1, .slice A0_2 l0_2.length c0_2, .slice A0_3 l0_3.length c0_3, .slice A0_4 l0_4.length c0_4] 27 (0, 0)) (by (with_reducible repeat (first | refine blk_drewN ?_ _ | refine blk_drew ?_ | refine blk_alloc ?_ _)); exact BK128.out)) : gb129 ≠ gb128)); clear BK128; clear HB; have BK128 := n0_; have HB := n1_; have BK129 := n2_; have GW129 := n3_; have GE129 := n4_; have NB128_129 := n5_; have NB129_128 := n6_; clear n0_ n1_ n2_ n3_ n4_ n5_ n6_; clear hb hbox hg; have hnb7 := NB128_129.out; have hnc7 := NB129_128.out; have hcz8_0 : w6.cell? ⟨gb128, 0, none⟩ = some (.slice A0_0 l0_0.length c0_0) := (blk_cell BK128.out 0).trans rfl; have hcz8_1 : w6.cell? ⟨gb128, 1, none⟩ = some (.slice A0_1 l0_1.length c0_1) := (blk_cell BK128.out 1).trans rfl; have hcz8_2 : w6.cell? ⟨gb128, 2, none⟩ = some (.slice A0_2 l0_2.length c0_2) := (blk_cell BK128.out 2).trans rfl; have hcz8_3 : w6.cell? ⟨gb128, 3, none⟩ = some (.slice A0_3 l0_3.length c0_3) := (blk_cell BK128.out 3).trans rfl; have hcz8_4 : w6.cell? ⟨gb128, 4, none⟩ = some (.slice A0_4 l0_4.length c0_4) := (blk_cell BK128.out 4).trans rfl; have hfz8_0 := blk_frozen BK128.out 0; have hfz8_1 := blk_frozen BK128.out 1; have hfz8_2 := blk_frozen BK128.out 2; have hfz8_3 := blk_frozen BK128.out 3; have hfz8_4 := blk_frozen BK128.out 4) | (go_at_call 27; (with_reducible refine (netlist_Loads.calls k _ _ l0_0 _ _ l0_1 _ _ l0_2 _ _ l0_3 _ _ l0_4 t130 t133 _ ?side1 ?side2 ?side3 ?side4 ?side5 ?side6 ?side7 ?side8 ?side9 ?side10 A3.out).mono ?_); (case side1 => repeat (first | exact (Kd.C_below HR0_0.out HB.out) | (with_reducible refine Kd.C_alloc ?_ _) | (with_reducible refine Kd.C_drewN ?_ _) | (with_reducible refine Kd.C_drew ?_))); (case side2 => exact HC0_0.out); (case side3 => repeat (first | exact (Kd.C_below HR0_1.out HB.out) | (with_reducible refine Kd.C_alloc ?_ _) | (with_reducible refine Kd.C_drewN ?_ _) | (with_reducible refine Kd.C_drew ?_))); (case side4 => exact HC0_1.out); (case side5 => repeat (first | exact (Kd.C_below HR0_2.out HB.out) | (with_reducible refine Kd.C_alloc ?_ _) | (with_reducible refine Kd.C_drewN ?_ _) | (with_reducible refine Kd.C_drew ?_))); (case side6 => exact HC0_2.out); (case side7 => repeat (first | exact (Kd.C_below HR0_3.out HB.out) | (with_reducible refine Kd.C_alloc ?_ _) | (with_reducible refine Kd.C_drewN ?_ _) | (with_reducible refine Kd.C_drew ?_))); (case side8 => exact HC0_3.out); (case side9 => repeat (first | exact (Kd.C_below HR0_4.out HB.out) | (with_reducible refine Kd.C_alloc ?_ _) | (with_reducible refine Kd.C_drewN ?_ _) | (with_reducible refine Kd.C_drew ?_))); (case side10 => exact HC0_4.out); rintro e w9 ⟨v131, rfl, ho0, hb⟩; have n0_ := Aside0.mk (Kd.S_lower ho0 (below_size (by repeat (first | (with_reducible first | exact HB.out | apply below_alloc | apply pw_below_drewN | apply below_drew1 | refine below_set ?_ GE128.out | refine below_set ?_ GE129.out) | exact HB.out)))); have n1_ := Aside0.mk (blk_below (g := gb128) (o := .cells #[.slice A0_0 l0_0.length c0_0, .slice A0_1 l0_1.length c0_1, .slice A0_2 l0_2.length c0_2, .slice A0_3 l0_3.length c0_3, .slice A0_4 l0_4.length c0_4] 27 (0, 0)) (by (with_reducible repeat (first | refine blk_drewN ?_ _ | refine blk_drew ?_ | refine blk_alloc ?_ _)); exact BK128.out) hb); have n2_ := Aside0.mk (blk_below (g := gb129) (o := .cells #[.int .i64 a1_0, .int .i64 a1_1, .bool a1_2] 29 (0, 0)) (by (with_reducible repeat (first | refine blk_drewN ?_ _ | refine blk_drew ?_ | refine blk_alloc ?_ _)); exact BK129.out) hb); have n3_ := Aside0.mk (below_step (by repeat (first | (with_reducible first | exact HB.out | apply below_alloc | apply pw_below_drewN | apply below_drew1 | refine below_set ?_ GE128.out | refine below_set ?_ GE129.out) | exact HB.out)) hb); clear BK128; clear BK129; clear HB; have HO132 := n0_; have BK128 := n1_; have BK129 := n2_; have HB := n3_; clear n0_ n1_ n2_ n3_; (try clear hb); (try clear hb2); (try clear hk); (try clear hi); (try clear ho0)))
  repeat (go_quiet (first | ((with_reducible refine gate_dst (N := 2) rfl ?_); (try (refine gate_guard (by rfl) ?_; dsimp only)); refine box_event ?hg (N := 2) ?hd (cs := #[.slice A0_0 l0_0.length c0_0, .slice A0_1 l0_1.length c0_1, .slice A0_2 l0_2.length c0_2, .slice A0_3 l0_3.length c0_3, .slice A0_4 l0_4.length c0_4]) (t := 27) ?hr ?_; (case hd => rfl); (case hg => rfl); (case hr => first | (go_simp; done) | (go_simp; rfl)); intro gb128 hg w5 hbox hb; have n0_ := Aside0.mk (below_step (by repeat (first | (with_reducible first | exact HB.out | apply below_alloc | apply pw_below_drewN | apply below_drew1) | exact HB.out)) hb); have n1_ := Aside0.mk (hbox); have n2_ := Aside0.mk ((by rw [hg]; exact (below_size (by repeat (first | (with_reducible first | exact HB.out | apply below_alloc | apply pw_below_drewN | apply below_drew1) | exact HB.out))) : w.heap.size ≤ gb128)); have n3_ := Aside0.mk ((by rw [hg]; exact (below_size (by repeat (first | (with_reducible first | exact HB.out | apply below_alloc | apply pw_below_drewN | apply below_drew1) | exact HB.out))) : w.heap.size ≤ gb128)); clear HB; have HB := n0_; have BK128 := n1_; have GW128 := n2_; have GE128 := n3_; clear n0_ n1_ n2_ n3_; clear hb hbox hg) | ((with_reducible refine gate_dst (N := 3) rfl ?_); (try (refine gate_guard (by rfl) ?_; dsimp only)); refine box_event ?hg (N := 3) ?hd (cs := #[.int .i64 a1_0, .int .i64 a1_1, .bool a1_2]) (t := 29) ?hr ?_; (case hd => rfl); (case hg => rfl); (case hr => first | (go_simp; done) | (go_simp; rfl)); intro gb129 hg w6 hbox hb; have n0_ := Aside0.mk (blk_below (g := gb128) (o := .cells #[.slice A0_0 l0_0.length c0_0, .slice A0_1 l0_1.length c0_1, .slice A0_2 l0_2.length c0_2, .slice A0_3 l0_3.length c0_3, .slice A0_4 l0_4.length c0_4] 27 (0, 0)) (by (with_reducible repeat (first | refine blk_drewN ?_ _ | refine blk_drew ?_ | refine blk_alloc ?_ _)); exact BK128.out) hb); have n1_ := Aside0.mk (below_step (by repeat (first | (with_reducible first | exact HB.out | apply below_alloc | apply pw_below_drewN | apply below_drew1 | refine below_set ?_ GE128.out) | exact HB.out)) hb); have n2_ := Aside0.mk (hbox); have n3_ := Aside0.mk ((by rw [hg]; exact (below_size (by repeat (first | (with_reducible first | exact HB.out | apply below_alloc | apply pw_below_drewN | apply below_drew1 | refine below_set ?_ GE128.out) | exact HB.out))) : w.heap.size ≤ gb129)); have n4_ := Aside0.mk ((by rw [hg]; exact (below_size (by repeat (first | (with_reducible first | exact HB.out | apply below_alloc | apply pw_below_drewN | apply below_drew1 | refine below_set ?_ GE128.out) | exact HB.out))) : w.heap.size ≤ gb129)); have n5_ := Aside0.mk ((by rw [hg]; exact Nat.ne_of_lt (blk_lt (g := gb128) (o := .cells #[.slice A0_0 l0_0.length c0_0, .slice A0_1 l0_1.length c0_1, .slice A0_2 l0_2.length c0_2, .slice A0_3 l0_3.length c0_3, .slice A0_4 l0_4.length c0_4] 27 (0, 0)) (by (with_reducible repeat (first | refine blk_drewN ?_ _ | refine blk_drew ?_ | refine blk_alloc ?_ _)); exact BK128.out)) : gb128 ≠ gb129)); have n6_ := Aside0.mk ((by rw [hg]; exact Nat.ne_of_gt (blk_lt (g := gb128) (o := .cells #[.slice A0_0 l0_0.length c0_0, .slice A0_1 l0_1.length c0_1, .slice A0_2 l0_2.length c0_2, .slice A0_3 l0_3.length c0_3, .slice A0_4 l0_4.length c0_4] 27 (0, 0)) (by (with_reducible repeat (first | refine blk_drewN ?_ _ | refine blk_drew ?_ | refine blk_alloc ?_ _)); exact BK128.out)) : gb129 ≠ gb128)); clear BK128; clear HB; have BK128 := n0_; have HB := n1_; have BK129 := n2_; have GW129 := n3_; have GE129 := n4_; have NB128_129 := n5_; have NB129_128 := n6_; clear n0_ n1_ n2_ n3_ n4_ n5_ n6_; clear hb hbox hg; have hnb7 := NB128_129.out; have hnc7 := NB129_128.out; have hcz8_0 : w6.cell? ⟨gb128, 0, none⟩ = some (.slice A0_0 l0_0.length c0_0) := (blk_cell BK128.out 0).trans rfl; have hcz8_1 : w6.cell? ⟨gb128, 1, none⟩ = some (.slice A0_1 l0_1.length c0_1) := (blk_cell BK128.out 1).trans rfl; have hcz8_2 : w6.cell? ⟨gb128, 2, none⟩ = some (.slice A0_2 l0_2.length c0_2) := (blk_cell BK128.out 2).trans rfl; have hcz8_3 : w6.cell? ⟨gb128, 3, none⟩ = some (.slice A0_3 l0_3.length c0_3) := (blk_cell BK128.out 3).trans rfl; have hcz8_4 : w6.cell? ⟨gb128, 4, none⟩ = some (.slice A0_4 l0_4.length c0_4) := (blk_cell BK128.out 4).trans rfl; have hfz8_0 := blk_frozen BK128.out 0; have hfz8_1 := blk_frozen BK128.out 1; have hfz8_2 := blk_frozen BK128.out 2; have hfz8_3 := blk_frozen BK128.out 3; have hfz8_4 := blk_frozen BK128.out 4) | (go_at_call 27; (with_reducible refine (netlist_Loads.calls k _ _ l0_0 _ _ l0_1 _ _ l0_2 _ _ l0_3 _ _ l0_4 t130 t133 _ ?side1 ?side2 ?side3 ?side4 ?side5 ?side6 ?side7 ?side8 ?side9 ?side10 A3.out).mono ?_); (case side1 => repeat (first | exact (Kd.C_below HR0_0.out HB.out) | (with_reducible refine Kd.C_alloc ?_ _) | (with_reducible refine Kd.C_drewN ?_ _) | (with_reducible refine Kd.C_drew ?_))); (case side2 => exact HC0_0.out); (case side3 => repeat (first | exact (Kd.C_below HR0_1.out HB.out) | (with_reducible refine Kd.C_alloc ?_ _) | (with_reducible refine Kd.C_drewN ?_ _) | (with_reducible refine Kd.C_drew ?_))); (case side4 => exact HC0_1.out); (case side5 => repeat (first | exact (Kd.C_below HR0_2.out HB.out) | (with_reducible refine Kd.C_alloc ?_ _) | (with_reducible refine Kd.C_drewN ?_ _) | (with_reducible refine Kd.C_drew ?_))); (case side6 => exact HC0_2.out); (case side7 => repeat (first | exact (Kd.C_below HR0_3.out HB.out) | (with_reducible refine Kd.C_alloc ?_ _) | (with_reducible refine Kd.C_drewN ?_ _) | (with_reducible refine Kd.C_drew ?_))); (case side8 => exact HC0_3.out); (case side9 => repeat (first | exact (Kd.C_below HR0_4.out HB.out) | (with_reducible refine Kd.C_alloc ?_ _) | (with_reducible refine Kd.C_drewN ?_ _) | (with_reducible refine Kd.C_drew ?_))); (case side10 => exact HC0_4.out); rintro e w9 ⟨v131, rfl, ho0, hb⟩; have n0_ := Aside0.mk (Kd.S_lower ho0 (below_size (by repeat (first | (with_reducible first | exact HB.out | apply below_alloc | apply pw_below_drewN | apply below_drew1 | refine below_set ?_ GE128.out | refine below_set ?_ GE129.out) | exact HB.out)))); have n1_ := Aside0.mk (blk_below (g := gb128) (o := .cells #[.slice A0_0 l0_0.length c0_0, .slice A0_1 l0_1.length c0_1, .slice A0_2 l0_2.length c0_2, .slice A0_3 l0_3.length c0_3, .slice A0_4 l0_4.length c0_4] 27 (0, 0)) (by (with_reducible repeat (first | refine blk_drewN ?_ _ | refine blk_drew ?_ | refine blk_alloc ?_ _)); exact BK128.out) hb); have n2_ := Aside0.mk (blk_below (g := gb129) (o := .cells #[.int .i64 a1_0, .int .i64 a1_1, .bool a1_2] 29 (0, 0)) (by (with_reducible repeat (first | refine blk_drewN ?_ _ | refine blk_drew ?_ | refine blk_alloc ?_ _)); exact BK129.out) hb); have n3_ := Aside0.mk (below_step (by repeat (first | (with_reducible first | exact HB.out | apply below_alloc | apply pw_below_drewN | apply below_drew1 | refine below_set ?_ GE128.out | refine below_set ?_ GE129.out) | exact HB.out)) hb); clear BK128; clear BK129; clear HB; have HO132 := n0_; have BK128 := n1_; have BK129 := n2_; have HB := n3_; clear n0_ n1_ n2_ n3_; (try clear hb); (try clear hb2); (try clear hk); (try clear hi); (try clear ho0))); go_upto_region 2 with (first | ((with_reducible refine gate_dst (N := 2) rfl ?_); (try (refine gate_guard (by rfl) ?_; dsimp only)); refine box_event ?hg (N := 2) ?hd (cs := #[.slice A0_0 l0_0.length c0_0, .slice A0_1 l0_1.length c0_1, .slice A0_2 l0_2.length c0_2, .slice A0_3 l0_3.length c0_3, .slice A0_4 l0_4.length c0_4]) (t := 27) ?hr ?_; (case hd => rfl); (case hg => rfl); (case hr => first | (go_simp; done) | (go_simp; rfl)); intro gb128 hg w5 hbox hb; have n0_ := Aside0.mk (below_step (by repeat (first | (with_reducible first | exact HB.out | apply below_alloc | apply pw_below_drewN | apply below_drew1) | exact HB.out)) hb); have n1_ := Aside0.mk (hbox); have n2_ := Aside0.mk ((by rw [hg]; exact (below_size (by repeat (first | (with_reducible first | exact HB.out | apply below_alloc | apply pw_below_drewN | apply below_drew1) | exact HB.out))) : w.heap.size ≤ gb128)); have n3_ := Aside0.mk ((by rw [hg]; exact (below_size (by repeat (first | (with_reducible first | exact HB.out | apply below_alloc | apply pw_below_drewN | apply below_drew1) | exact HB.out))) : w.heap.size ≤ gb128)); clear HB; have HB := n0_; have BK128 := n1_; have GW128 := n2_; have GE128 := n3_; clear n0_ n1_ n2_ n3_; clear hb hbox hg) | ((with_reducible refine gate_dst (N := 3) rfl ?_); (try (refine gate_guard (by rfl) ?_; dsimp only)); refine box_event ?hg (N := 3) ?hd (cs := #[.int .i64 a1_0, .int .i64 a1_1, .bool a1_2]) (t := 29) ?hr ?_; (case hd => rfl); (case hg => rfl); (case hr => first | (go_simp; done) | (go_simp; rfl)); intro gb129 hg w6 hbox hb; have n0_ := Aside0.mk (blk_below (g := gb128) (o := .cells #[.slice A0_0 l0_0.length c0_0, .slice A0_1 l0_1.length c0_1, .slice A0_2 l0_2.length c0_2, .slice A0_3 l0_3.length c0_3, .slice A0_4 l0_4.length c0_4] 27 (0, 0)) (by (with_reducible repeat (first | refine blk_drewN ?_ _ | refine blk_drew ?_ | refine blk_alloc ?_ _)); exact BK128.out) hb); have n1_ := Aside0.mk (below_step (by repeat (first | (with_reducible first | exact HB.out | apply below_alloc | apply pw_below_drewN | apply below_drew1 | refine below_set ?_ GE128.out) | exact HB.out)) hb); have n2_ := Aside0.mk (hbox); have n3_ := Aside0.mk ((by rw [hg]; exact (below_size (by repeat (first | (with_reducible first | exact HB.out | apply below_alloc | apply pw_below_drewN | apply below_drew1 | refine below_set ?_ GE128.out) | exact HB.out))) : w.heap.size ≤ gb129)); have n4_ := Aside0.mk ((by rw [hg]; exact (below_size (by repeat (first | (with_reducible first | exact HB.out | apply below_alloc | apply pw_below_drewN | apply below_drew1 | refine below_set ?_ GE128.out) | exact HB.out))) : w.heap.size ≤ gb129)); have n5_ := Aside0.mk ((by rw [hg]; exact Nat.ne_of_lt (blk_lt (g := gb128) (o := .cells #[.slice A0_0 l0_0.length c0_0, .slice A0_1 l0_1.length c0_1, .slice A0_2 l0_2.length c0_2, .slice A0_3 l0_3.length c0_3, .slice A0_4 l0_4.length c0_4] 27 (0, 0)) (by (with_reducible repeat (first | refine blk_drewN ?_ _ | refine blk_drew ?_ | refine blk_alloc ?_ _)); exact BK128.out)) : gb128 ≠ gb129)); have n6_ := Aside0.mk ((by rw [hg]; exact Nat.ne_of_gt (blk_lt (g := gb128) (o := .cells #[.slice A0_0 l0_0.length c0_0, .slice A0_1 l0_1.length c0_1, .slice A0_2 l0_2.length c0_2, .slice A0_3 l0_3.length c0_3, .slice A0_4 l0_4.length c0_4] 27 (0, 0)) (by (with_reducible repeat (first | refine blk_drewN ?_ _ | refine blk_drew ?_ | refine blk_alloc ?_ _)); exact BK128.out)) : gb129 ≠ gb128)); clear BK128; clear HB; have BK128 := n0_; have HB := n1_; have BK129 := n2_; have GW129 := n3_; have GE129 := n4_; have NB128_129 := n5_; have NB129_128 := n6_; clear n0_ n1_ n2_ n3_ n4_ n5_ n6_; clear hb hbox hg; have hnb7 := NB128_129.out; have hnc7 := NB129_128.out; have hcz8_0 : w6.cell? ⟨gb128, 0, none⟩ = some (.slice A0_0 l0_0.length c0_0) := (blk_cell BK128.out 0).trans rfl; have hcz8_1 : w6.cell? ⟨gb128, 1, none⟩ = some (.slice A0_1 l0_1.length c0_1) := (blk_cell BK128.out 1).trans rfl; have hcz8_2 : w6.cell? ⟨gb128, 2, none⟩ = some (.slice A0_2 l0_2.length c0_2) := (blk_cell BK128.out 2).trans rfl; have hcz8_3 : w6.cell? ⟨gb128, 3, none⟩ = some (.slice A0_3 l0_3.length c0_3) := (blk_cell BK128.out 3).trans rfl; have hcz8_4 : w6.cell? ⟨gb128, 4, none⟩ = some (.slice A0_4 l0_4.length c0_4) := (blk_cell BK128.out 4).trans rfl; have hfz8_0 := blk_frozen BK128.out 0; have hfz8_1 := blk_frozen BK128.out 1; have hfz8_2 := blk_frozen BK128.out 2; have hfz8_3 := blk_frozen BK128.out 3; have hfz8_4 := blk_frozen BK128.out 4) | (go_at_call 27; (with_reducible refine (netlist_Loads.calls k _ _ l0_0 _ _ l0_1 _ _ l0_2 _ _ l0_3 _ _ l0_4 t130 t133 _ ?side1 ?side2 ?side3 ?side4 ?side5 ?side6 ?side7 ?side8 ?side9 ?side10 A3.out).mono ?_); (case side1 => repeat (first | exact (Kd.C_below HR0_0.out HB.out) | (with_reducible refine Kd.C_alloc ?_ _) | (with_reducible refine Kd.C_drewN ?_ _) | (with_reducible refine Kd.C_drew ?_))); (case side2 => exact HC0_0.out); (case side3 => repeat (first | exact (Kd.C_below HR0_1.out HB.out) | (with_reducible refine Kd.C_alloc ?_ _) | (with_reducible refine Kd.C_drewN ?_ _) | (with_reducible refine Kd.C_drew ?_))); (case side4 => exact HC0_1.out); (case side5 => repeat (first | exact (Kd.C_below HR0_2.out HB.out) | (with_reducible refine Kd.C_alloc ?_ _) | (with_reducible refine Kd.C_drewN ?_ _) | (with_reducible refine Kd.C_drew ?_))); (case side6 => exact HC0_2.out); (case side7 => repeat (first | exact (Kd.C_below HR0_3.out HB.out) | (with_reducible refine Kd.C_alloc ?_ _) | (with_reducible refine Kd.C_drewN ?_ _) | (with_reducible refine Kd.C_drew ?_))); (case side8 => exact HC0_3.out); (case side9 => repeat (first | exact (Kd.C_below HR0_4.out HB.out) | (with_reducible refine Kd.C_alloc ?_ _) | (with_reducible refine Kd.C_drewN ?_ _) | (with_reducible refine Kd.C_drew ?_))); (case side10 => exact HC0_4.out); rintro e w9 ⟨v131, rfl, ho0, hb⟩; have n0_ := Aside0.mk (Kd.S_lower ho0 (below_size (by repeat (first | (with_reducible first | exact HB.out | apply below_alloc | apply pw_below_drewN | apply below_drew1 | refine below_set ?_ GE128.out | refine below_set ?_ GE129.out) | exact HB.out)))); have n1_ := Aside0.mk (blk_below (g := gb128) (o := .cells #[.slice A0_0 l0_0.length c0_0, .slice A0_1 l0_1.length c0_1, .slice A0_2 l0_2.length c0_2, .slice A0_3 l0_3.length c0_3, .slice A0_4 l0_4.length c0_4] 27 (0, 0)) (by (with_reducible repeat (first | refine blk_drewN ?_ _ | refine blk_drew ?_ | refine blk_alloc ?_ _)); exact BK128.out) hb); have n2_ := Aside0.mk (blk_below (g := gb129) (o := .cells #[.int .i64 a1_0, .int .i64 a1_1, .bool a1_2] 29 (0, 0)) (by (with_reducible repeat (first | refine blk_drewN ?_ _ | refine blk_drew ?_ | refine blk_alloc ?_ _)); exact BK129.out) hb); have n3_ := Aside0.mk (below_step (by repeat (first | (with_reducible first | exact HB.out | apply below_alloc | apply pw_below_drewN | apply below_drew1 | refine below_set ?_ GE128.out | refine below_set ?_ GE129.out) | exact HB.out)) hb); clear BK128; clear BK129; clear HB; have HO132 := n0_; have BK128 := n1_; have BK129 := n2_; have HB := n3_; clear n0_ n1_ n2_ n3_; (try clear hb); (try clear hb2); (try clear hk); (try clear hi); (try clear ho0))))
  (try simp only [Act.put, List.setIfInBounds_toArray, List.set_cons_zero, List.set_cons_succ])
  go_cut [21] (fun v21 wc => ∃ (kq : Nat) (x21_3 : Bool), v21 = .bool x21_3 ∧ Aside0 (maskref2_FaultFault.j0 kq t130 x21_3 a1_0 a1_1 a1_2 = some r) ∧ Aside0 (kq ≤ k) ∧ Aside0 (Kd.S (Kd.slice 77 k77) 75 wc w.heap.size (fun _ => True) v131 t130) ∧ Aside0 (wc.heap[gb128]? = some (.cells #[(.slice A0_0 l0_0.length c0_0), (.slice A0_1 l0_1.length c0_1), (.slice A0_2 l0_2.length c0_2), (.slice A0_3 l0_3.length c0_3), (.slice A0_4 l0_4.length c0_4)] 27 (0, 0))) ∧ Aside0 (wc.heap[gb129]? = some (.cells #[.int .i64 a1_0, .int .i64 a1_1, .bool a1_2] 29 (0, 0))) ∧ Aside0 (Below w.heap.size w wc))
  case first =>
    have H := HC4.out
    clear HC4
    by_cases c10 : a1_0 < 2
    · rw [if_pos c10] at H
      have c10b0 : decide (a1_0 < 2) = true := decide_eq_true c10
      clear c10
      (first | rw [c10b0] | (simp only [i64_w, i32_w]; rw [c10b0]) | skip)
      have H' := Aside0.mk H
      clear H
      have hnb11 := NB129_128.out
      have hnc11 := NB128_129.out
      have hcz12_0 : w9.cell? ⟨gb129, 0, none⟩ = some (.int .i64 a1_0) := (blk_cell BK129.out 0).trans rfl
      have hcz12_1 : w9.cell? ⟨gb129, 1, none⟩ = some (.int .i64 a1_1) := (blk_cell BK129.out 1).trans rfl
      have hcz12_2 : w9.cell? ⟨gb129, 2, none⟩ = some (.bool a1_2) := (blk_cell BK129.out 2).trans rfl
      have hfz12_0 := blk_frozen BK129.out 0
      have hfz12_1 := blk_frozen BK129.out 1
      have hfz12_2 := blk_frozen BK129.out 2
      go_wp2
      repeat (go_quiet (fail); try go_wp2)
      go_meet
      case rel => exact ⟨_, (true), (by first | rfl | (simp; done) | (simp [*]; done)), H', ⟨by first | omega | exact Nat.le_refl _⟩, ⟨by (with_reducible repeat (first | apply Kd.S_alloc | apply Kd.S_drewN | apply Kd.S_drew)); exact HO132.out⟩, ⟨by (with_reducible repeat (first | refine blk_drewN ?_ _ | refine blk_drew ?_ | refine blk_alloc ?_ _)); exact BK128.out⟩, ⟨by (with_reducible repeat (first | refine blk_drewN ?_ _ | refine blk_drew ?_ | refine blk_alloc ?_ _)); exact BK129.out⟩, ⟨by repeat (first | (with_reducible first | exact HB.out | apply below_alloc | apply pw_below_drewN | apply below_drew1 | refine below_set ?_ GE128.out | refine below_set ?_ GE129.out) | exact HB.out)⟩⟩
    · rw [if_neg c10] at H
      have c10b0 : decide (a1_0 < 2) = false := decide_eq_false c10
      clear c10
      (first | rw [c10b0] | (simp only [i64_w, i32_w]; rw [c10b0]) | skip)
      have H' := Aside0.mk H
      clear H
      have hnb13 := NB129_128.out
      have hnc13 := NB128_129.out
      have hcz14_0 : w9.cell? ⟨gb129, 0, none⟩ = some (.int .i64 a1_0) := (blk_cell BK129.out 0).trans rfl
      have hcz14_1 : w9.cell? ⟨gb129, 1, none⟩ = some (.int .i64 a1_1) := (blk_cell BK129.out 1).trans rfl
      have hcz14_2 : w9.cell? ⟨gb129, 2, none⟩ = some (.bool a1_2) := (blk_cell BK129.out 2).trans rfl
      have hfz14_0 := blk_frozen BK129.out 0
      have hfz14_1 := blk_frozen BK129.out 1
      have hfz14_2 := blk_frozen BK129.out 2
      obtain ⟨Ao15, co15, eo15⟩ := Kd.S_slice HO132.out
      subst eo15
      go_wp2
      repeat (go_quiet (fail); try go_wp2)
      go_meet
      case rel => exact ⟨_, (decide (a1_0 ≥ (t130.length : Int))), (by first | rfl | (simp; done) | (simp [*]; done)), H', ⟨by first | omega | exact Nat.le_refl _⟩, ⟨by (with_reducible repeat (first | apply Kd.S_alloc | apply Kd.S_drewN | apply Kd.S_drew)); exact HO132.out⟩, ⟨by (with_reducible repeat (first | refine blk_drewN ?_ _ | refine blk_drew ?_ | refine blk_alloc ?_ _)); exact BK128.out⟩, ⟨by (with_reducible repeat (first | refine blk_drewN ?_ _ | refine blk_drew ?_ | refine blk_alloc ?_ _)); exact BK129.out⟩, ⟨by repeat (first | (with_reducible first | exact HB.out | apply below_alloc | apply pw_below_drewN | apply below_drew1 | refine below_set ?_ GE128.out | refine below_set ?_ GE129.out) | exact HB.out)⟩⟩
  case rest =>
    clear HC4
    try clear c1
    try clear p2
    try clear c7
    try clear c10
    try clear c10b0
    try clear c11
    try clear c13
    try clear hcz12_0
    try clear hcz12_1
    try clear hcz12_2
    try clear hcz14_0
    try clear hcz14_1
    try clear hcz14_2
    try clear hcz8_0
    try clear hcz8_1
    try clear hcz8_2
    try clear hcz8_3
    try clear hcz8_4
    try clear hfz12_0
    try clear hfz12_1
    try clear hfz12_2
    try clear hfz14_0
    try clear hfz14_1
    try clear hfz14_2
    try clear hfz8_0
    try clear hfz8_1
    try clear hfz8_2
    try clear hfz8_3
    try clear hfz8_4
    obtain ⟨kq, x21_3, rfl, HA, HJ3, HO_5, BK128, BK129, HB⟩ := hcut
    cases kq with
    | zero => exact absurd HA.out (by simp [maskref2_FaultFault.j0])
    | succ kj3 =>
      have H := HA.out
      clear HA
      simp only [maskref2_FaultFault.j0] at H
      by_cases c16 : x21_3 = true
      · subst c16
        have H1 : (some 7) = some r := by rw [if_pos rfl] at H; exact H
        clear H
        have H := H1
        clear H1
        obtain rfl := Option.some.inj H
        go_wp2
        repeat (go_quiet (fail); try go_wp2)
        go_ret
        exact ⟨by first | rfl | (simp [errW_none, errW_some] <;> rfl) | (simp [*, errW_none, errW_some] <;> rfl), by repeat (first | (with_reducible first | exact HB.out | apply below_alloc | apply pw_below_drewN | apply below_drew1 | refine below_set ?_ GE128.out | refine below_set ?_ GE129.out) | exact HB.out)⟩
      · replace c16 := Bool.eq_false_iff.mpr c16
        subst c16
        have H1 : (if a1_1 < (-1) then (some 2) else (if 0 ≤ a1_0 then (if a1_0 < (t130.length : Int) then (if a1_1 ≥ ((rd_L12 t130 a1_0).length : Int) then (some 2) else (some 0)) else (none)) else (none))) = some r := by rw [if_neg (show ¬ (false = true) by decide)] at H; exact H
        clear H
        have H := H1
        clear H1
        by_cases c17 : a1_1 < (-1)
        · rw [if_pos c17] at H
          have c17b0 : decide (a1_1 < (-1)) = true := decide_eq_true c17
          clear c17
          obtain rfl := Option.some.inj H
          have hnb18 := NB129_128.out
          have hnc18 := NB128_129.out
          have hcz19_0 : wc.cell? ⟨gb129, 0, none⟩ = some (.int .i64 a1_0) := (blk_cell BK129.out 0).trans rfl
          have hcz19_1 : wc.cell? ⟨gb129, 1, none⟩ = some (.int .i64 a1_1) := (blk_cell BK129.out 1).trans rfl
          have hcz19_2 : wc.cell? ⟨gb129, 2, none⟩ = some (.bool a1_2) := (blk_cell BK129.out 2).trans rfl
          have hfz19_0 := blk_frozen BK129.out 0
          have hfz19_1 := blk_frozen BK129.out 1
          have hfz19_2 := blk_frozen BK129.out 2
          go_wp2
          repeat (go_quiet (fail); try go_wp2)
          go_ret
          exact ⟨by first | rfl | (simp [errW_none, errW_some] <;> rfl) | (simp [*, errW_none, errW_some] <;> rfl), by repeat (first | (with_reducible first | exact HB.out | apply below_alloc | apply pw_below_drewN | apply below_drew1 | refine below_set ?_ GE128.out | refine below_set ?_ GE129.out) | exact HB.out)⟩
        · rw [if_neg c17] at H
          have c17b0 : decide (a1_1 < (-1)) = false := decide_eq_false c17
          clear c17
          by_cases c20 : 0 ≤ a1_0
          · rw [if_pos c20] at H
            have c20b0 : decide (0 ≤ a1_0) = true := decide_eq_true c20
            clear c20
            by_cases c21 : a1_0 < (t130.length : Int)
            · rw [if_pos c21] at H
              have c21b0 : decide (a1_0 < (t130.length : Int)) = true := decide_eq_true c21
              clear c21
              by_cases c22 : a1_1 ≥ ((rd_L12 t130 a1_0).length : Int)
              · rw [if_pos c22] at H
                have c22b0 : decide (((rd_L12 t130 a1_0).length : Int) ≤ a1_1) = true := decide_eq_true c22
                clear c22
                obtain rfl := Option.some.inj H
                have hnb23 := NB129_128.out
                have hnc23 := NB128_129.out
                have hcz24_0 : wc.cell? ⟨gb129, 0, none⟩ = some (.int .i64 a1_0) := (blk_cell BK129.out 0).trans rfl
                have hcz24_1 : wc.cell? ⟨gb129, 1, none⟩ = some (.int .i64 a1_1) := (blk_cell BK129.out 1).trans rfl
                have hcz24_2 : wc.cell? ⟨gb129, 2, none⟩ = some (.bool a1_2) := (blk_cell BK129.out 2).trans rfl
                have hfz24_0 := blk_frozen BK129.out 0
                have hfz24_1 := blk_frozen BK129.out 1
                have hfz24_2 := blk_frozen BK129.out 2
                obtain ⟨Ao25, co25, eo25⟩ := Kd.S_slice HO_5.out
                subst eo25
                have p134 : 0 ≤ (a1_0 : Int) := of_decide_eq_true (by first | (with_reducible assumption) | assumption)
                have q134 : a1_0 < (t130.length : Int) := of_decide_eq_true (by first | (with_reducible assumption) | assumption)
                obtain ⟨ad134, A134_0, c134_0, e134, hx134_0, hl134_0, hi134_0⟩ := at_L12 (Kd.S_reads' HO_5.out).2.2 a1_0 p134 q134
                cases e134
                obtain ⟨ce134, hce134, hMe134, hcc134⟩ := Kd.S_get HO_5.out [] a1_0 p134 (by first | exact q134 | exact of_decide_eq_true (by first | (with_reducible assumption) | assumption) | (have e_ := (Kd.S_reads' HO_5.out).1; omega))
                obtain ⟨ve134_0, rfl, ge134_0⟩ := hMe134
                have hv134_0 := hcc134 0 _ rfl
                rw [Nat.add_zero, show ((Kd.slice 77 k77)).sz = 1 from rfl, Nat.mul_one] at hv134_0
                replace hv134_0 := Option.some.inj (hv134_0.symm.trans hx134_0)
                rw [hv134_0] at ge134_0
                have HL134_0 := Aside0.mk (show Kd.R k77 77 _ _ _ _ (rd_L12 t130 a1_0) from ge134_0)
                clear hv134_0 ge134_0
                clear hcc134 hce134
                have HR134_0 := Aside0.mk hi134_0
                have HC134_0 := Aside0.mk hl134_0
                clear hi134_0 hl134_0
                replace p134 := eq_true p134
                replace q134 := eq_true q134
                go_wp2
                repeat (go_quiet (fail); try go_wp2)
                go_ret
                exact ⟨by first | rfl | (simp [errW_none, errW_some] <;> rfl) | (simp [*, errW_none, errW_some] <;> rfl), by repeat (first | (with_reducible first | exact HB.out | apply below_alloc | apply pw_below_drewN | apply below_drew1 | refine below_set ?_ GE128.out | refine below_set ?_ GE129.out) | exact HB.out)⟩
              · rw [if_neg c22] at H
                have c22b0 : decide (((rd_L12 t130 a1_0).length : Int) ≤ a1_1) = false := decide_eq_false c22
                clear c22
                obtain rfl := Option.some.inj H
                have hnb26 := NB129_128.out
                have hnc26 := NB128_129.out
                have hcz27_0 : wc.cell? ⟨gb129, 0, none⟩ = some (.int .i64 a1_0) := (blk_cell BK129.out 0).trans rfl
                have hcz27_1 : wc.cell? ⟨gb129, 1, none⟩ = some (.int .i64 a1_1) := (blk_cell BK129.out 1).trans rfl
                have hcz27_2 : wc.cell? ⟨gb129, 2, none⟩ = some (.bool a1_2) := (blk_cell BK129.out 2).trans rfl
                have hfz27_0 := blk_frozen BK129.out 0
                have hfz27_1 := blk_frozen BK129.out 1
                have hfz27_2 := blk_frozen BK129.out 2
                obtain ⟨Ao28, co28, eo28⟩ := Kd.S_slice HO_5.out
                subst eo28
                have p134 : 0 ≤ (a1_0 : Int) := of_decide_eq_true (by first | (with_reducible assumption) | assumption)
                have q134 : a1_0 < (t130.length : Int) := of_decide_eq_true (by first | (with_reducible assumption) | assumption)
                obtain ⟨ad134, A134_0, c134_0, e134, hx134_0, hl134_0, hi134_0⟩ := at_L12 (Kd.S_reads' HO_5.out).2.2 a1_0 p134 q134
                cases e134
                obtain ⟨ce134, hce134, hMe134, hcc134⟩ := Kd.S_get HO_5.out [] a1_0 p134 (by first | exact q134 | exact of_decide_eq_true (by first | (with_reducible assumption) | assumption) | (have e_ := (Kd.S_reads' HO_5.out).1; omega))
                obtain ⟨ve134_0, rfl, ge134_0⟩ := hMe134
                have hv134_0 := hcc134 0 _ rfl
                rw [Nat.add_zero, show ((Kd.slice 77 k77)).sz = 1 from rfl, Nat.mul_one] at hv134_0
                replace hv134_0 := Option.some.inj (hv134_0.symm.trans hx134_0)
                rw [hv134_0] at ge134_0
                have HL134_0 := Aside0.mk (show Kd.R k77 77 _ _ _ _ (rd_L12 t130 a1_0) from ge134_0)
                clear hv134_0 ge134_0
                clear hcc134 hce134
                have HR134_0 := Aside0.mk hi134_0
                have HC134_0 := Aside0.mk hl134_0
                clear hi134_0 hl134_0
                replace p134 := eq_true p134
                replace q134 := eq_true q134
                go_wp2
                repeat (go_quiet (fail); try go_wp2)
                go_ret
                exact ⟨by first | rfl | (simp [errW_none, errW_some] <;> rfl) | (simp [*, errW_none, errW_some] <;> rfl), by repeat (first | (with_reducible first | exact HB.out | apply below_alloc | apply pw_below_drewN | apply below_drew1 | refine below_set ?_ GE128.out | refine below_set ?_ GE129.out) | exact HB.out)⟩
            · rw [if_neg c21] at H
              exact absurd H (by simp)
          · rw [if_neg c20] at H
            exact absurd H (by simp)
end Go.Proofs.Ytimjccfpobhpeaa.PF
namespace Go.Proofs.Ytimjccfpobhpeaa
open Go.RowKit Go.Proofs.YtimjccfpobhpeaaW.PrintWords Go.Proofs.Ytimjccfpobhpeaa.PF
set_option linter.unusedVariables false
set_option maxRecDepth 100000
theorem gatePlaces_len : ∀ (xs : List GateS) (i : Nat), (∀ x ∈ xs, x.f2.length ≤ 6) → (gatePlaces xs i).length ≤ 6 * xs.length
  | [], i, h => Nat.zero_le _
  | x :: r, i, h => by
    have h1 := gatePlaces_len r (i + 1) (fun y hy => h y (List.mem_cons_of_mem _ hy))
    have h2 := h x List.mem_cons_self
    have h3 : ∀ (ys : List Int) (k : Nat), (pinPlaces i ys k).length = ys.length := by
      intro ys
      induction ys with
      | nil => intro k; rfl
      | cons y ys ih => intro k; rw [pinPlaces, List.length_cons, ih, List.length_cons]
    rw [gatePlaces, List.length_append, h3, List.length_cons]
    omega
theorem flopPlaces_len : ∀ (xs : List FlopS) (i : Nat), (flopPlaces xs i).length = 2 * xs.length
  | [], i => rfl
  | x :: r, i => by
    rw [flopPlaces, List.length_cons, List.length_cons, flopPlaces_len r (i + 1), List.length_cons]
    omega
theorem outPlaces_len : ∀ (xs : List Int) (i : Nat), (outPlaces xs i).length = xs.length
  | [], i => rfl
  | x :: r, i => by rw [outPlaces, List.length_cons, outPlaces_len r (i + 1), List.length_cons]
section
variable {l0 l1 : List ByteArray} {l2 : List FlopS} {l3 : List GateS} {l4 : List Int}
theorem FormOk.fit (h : FormOk l0 l1 l2 l3 l4) : loadsFit l0 l2 l3 l4 = true := by
  have hc0 := h.c0
  have hc1 := h.c1
  have hc2 := h.c2
  have hc3 := h.c3
  have hc4 := h.c4
  have hg := gatePlaces_len l3 0 (fun x hx => by
    obtain ⟨i, hi⟩ := List.getElem?_of_mem hx
    exact (h.pins i x hi).1)
  unfold loadsFit
  simp only [Bool.and_eq_true, decide_eq_true_eq, List.all_eq_true]
  refine ⟨⟨by unfold netsOf; omega, ?_⟩, fun p hp => ?_⟩
  · unfold placesOf
    rw [List.length_append, List.length_append, flopPlaces_len, outPlaces_len]
    omega
  · have hn : (netsOf l0 l2 l3 : Int) = 2 + (l0.length : Int) + l2.length + l3.length := by unfold netsOf; omega
    rw [hn]
    obtain ⟨q, _, hq⟩ := places_to hp
    cases q with
    | pin i k =>
      obtain ⟨g, h1, h2⟩ := Option.bind_eq_some_iff.1 hq
      have hi := (List.getElem?_eq_some_iff.1 h1).1
      simp only at hi
      have := (h.pins i g h1).2 _ (List.mem_of_getElem? h2)
      omega
    | d i =>
      obtain ⟨g, h1, h2⟩ := Option.map_eq_some_iff.1 hq
      have := h.flops g (List.mem_of_getElem? h1)
      omega
    | en i =>
      obtain ⟨g, h1, h2⟩ := Option.map_eq_some_iff.1 hq
      have := h.flops g (List.mem_of_getElem? h1)
      omega
    | out i =>
      have := h.outs _ (List.mem_of_getElem? hq)
      omega
theorem FormOk.copy (h : FormOk l0 l1 l2 l3 l4) : copyFits l0 l1 l2 l3 l4 = true := by
  have hc0 := h.c0
  have hc1 := h.c1
  have hc2 := h.c2
  have hc3 := h.c3
  have hc4 := h.c4
  unfold copyFits
  simp only [Bool.and_eq_true, decide_eq_true_eq, List.all_eq_true]
  refine ⟨⟨⟨⟨⟨by omega, by omega⟩, by omega⟩, by omega⟩, by omega⟩, fun x hx => ?_⟩
  obtain ⟨i, hi⟩ := List.getElem?_of_mem hx
  have := (h.pins i x hi).1
  omega
end
theorem check_ex (rows : List (List S77)) (a b : Int) (c : Bool) : ∃ e, ∀ k, fault_check.f (k + 1) rows a b c = some e ∧
    (if a < 2 then maskref2_FaultFault.j0 (k + 1) rows true a b c else maskref2_FaultFault.j0 (k + 1) rows (decide (a ≥ (rows.length : Int))) a b c) = some e := by
  by_cases h1 : a < 2
  · exact ⟨7, fun k => by rw [fault_check.f, if_pos h1, if_pos h1, fault_check.j0, maskref2_FaultFault.j0, if_pos rfl]; exact ⟨rfl, rfl⟩⟩
  by_cases h2 : a ≥ (rows.length : Int)
  · exact ⟨7, fun k => by rw [fault_check.f, if_neg h1, if_neg h1, decide_eq_true h2, fault_check.j0, maskref2_FaultFault.j0, if_pos rfl]; exact ⟨rfl, rfl⟩⟩
  by_cases h3 : b < -1
  · exact ⟨2, fun k => by rw [fault_check.f, if_neg h1, if_neg h1, decide_eq_false h2, fault_check.j0, maskref2_FaultFault.j0, if_neg (show ¬ (false = true) by decide), if_pos h3]; exact ⟨rfl, rfl⟩⟩
  by_cases h4 : b ≥ ((rd_L12 rows a).length : Int)
  · exact ⟨2, fun k => by rw [fault_check.f, if_neg h1, if_neg h1, decide_eq_false h2, fault_check.j0, maskref2_FaultFault.j0, if_neg (show ¬ (false = true) by decide), if_neg h3, if_pos (show 0 ≤ a by omega), if_pos (show a < (rows.length : Int) by omega), if_pos h4]; exact ⟨rfl, rfl⟩⟩
  · exact ⟨0, fun k => by rw [fault_check.f, if_neg h1, if_neg h1, decide_eq_false h2, fault_check.j0, maskref2_FaultFault.j0, if_neg (show ¬ (false = true) by decide), if_neg h3, if_pos (show 0 ≤ a by omega), if_pos (show a < (rows.length : Int) by omega), if_neg h4]; exact ⟨rfl, rfl⟩⟩
section
variable (l0 l1 : List ByteArray) (l2 : List FlopS) (l3 : List GateS) (l4 : List Int) (a b : Int) (c : Bool)
theorem inject_cases : ∃ K e, (∀ k, K ≤ k → netlist_Form.f k l0 l1 l2 l3 l4 = some e) ∧ (e ≠ 0 → ∀ k, K ≤ k → fault_Inject.f k l0 l1 l2 l3 l4 a b c = some ([], [], [], [], [], e)) ∧
    (e = 0 → FormOk l0 l1 l2 l3 l4 ∧ (∀ k, K ≤ k → netlist_Loads.f k l0 l1 l2 l3 l4 = some (loadsOf l0 l2 l3 l4, 0)) ∧ ∃ e2, (∀ k, K ≤ k → maskref2_FaultFault.f k l0 l1 l2 l3 l4 a b c = some e2) ∧ (∀ k, K ≤ k → fault_check.f k (loadsOf l0 l2 l3 l4) a b c = some e2) ∧
      (e2 ≠ 0 → ∀ k, K ≤ k → fault_Inject.f k l0 l1 l2 l3 l4 a b c = some ([], [], [], [], [], e2)) ∧
      (e2 = 0 → 2 ≤ a ∧ a < netsOf l0 l2 l3 ∧ ∀ k, K ≤ k → fault_Inject.f k l0 l1 l2 l3 l4 a b c = some (l0, l1, brFlops (nvOf l0 l2 l3 l4 a b c) l2 0, brGates (nvOf l0 l2 l3 l4 a b c) l3 0, brOuts (nvOf l0 l2 l3 l4 a b c) l4 0, 0))) := by
  obtain ⟨kF, e, hF, hok⟩ := form_ex l0 l1 l2 l3 l4
  have hform : ∀ k, kF ≤ k → netlist_Form.f k l0 l1 l2 l3 l4 = some e := fun k hk => upK (netlist_Form.mono l0 l1 l2 l3 l4) hk hF
  refine ⟨kF + 1, e, fun k hk => hform k (by omega), fun he k hk => by rw [fault_Inject.f, netlist_Loads.f, hform _ (by omega), Option.bind_some, if_neg he, Option.bind_some, if_neg he], ?_⟩
  intro he
  subst he
  have ok := hok rfl
  have hL : ∀ k, kF ≤ k → netlist_Loads.f k l0 l1 l2 l3 l4 = some (loadsOf l0 l2 l3 l4, 0) := fun k hk => by
    rw [netlist_Loads.f, hform k hk, Option.bind_some, if_pos rfl, if_pos ok.fit]
  obtain ⟨e2, hc⟩ := check_ex (loadsOf l0 l2 l3 l4) a b c
  refine ⟨ok, fun k hk => hL k (by omega), e2, fun k hk => ?_, fun k hk => ?_, ?_, ?_⟩
  · obtain ⟨m, rfl⟩ : ∃ m, k = m + 1 := ⟨k - 1, by omega⟩
    rw [maskref2_FaultFault.f, hL _ (by omega), Option.bind_some]
    exact (hc m).2
  · obtain ⟨m, rfl⟩ : ∃ m, k = m + 1 := ⟨k - 1, by omega⟩
    exact (hc m).1
  · intro h2 k hk
    obtain ⟨m, rfl⟩ : ∃ m, k = m + 1 := ⟨k - 1, by omega⟩
    rw [fault_Inject.f, hL _ (by omega), Option.bind_some, if_pos rfl]
    show ((fault_check.f (m + 1) (loadsOf l0 l2 l3 l4) a b c).bind _) = _
    rw [(hc m).1, Option.bind_some, if_neg h2]
  · intro h2
    subst h2
    obtain ⟨k1, k2, k3, k4⟩ := fault_check.ok (hc kF).1
    rw [loadsOf_len] at k2
    obtain ⟨n, rfl⟩ := Int.eq_ofNat_of_zero_le (show 0 ≤ a by omega)
    have hib := inj_br ok.fit n b c (by omega)
    refine ⟨by omega, k2, fun k hk => ?_⟩
    obtain ⟨m, rfl⟩ : ∃ m, k = m + 1 := ⟨k - 1, by omega⟩
    rw [fault_Inject.f, hL _ (by omega), Option.bind_some, if_pos rfl]
    show ((fault_check.f (m + 1) (loadsOf l0 l2 l3 l4) n b c).bind _) = _
    rw [(hc m).1, Option.bind_some, if_pos rfl, if_pos ok.copy]
    show some (l0, l1, (injRes (loadsOf l0 l2 l3 l4) n b c l2 l3 l4).fl, (injRes (loadsOf l0 l2 l3 l4) n b c l2 l3 l4).ga, (injRes (loadsOf l0 l2 l3 l4) n b c l2 l3 l4).ou, 0) = _
    rw [hib]
    rfl
end
end Go.Proofs.Ytimjccfpobhpeaa
namespace Go.Proofs.Ytimjccfpobhpeaa
open Go.RowKit Go.Proofs.YtimjccfpobhpeaaW.PrintWords Go.Proofs.Ytimjccfpobhpeaa.PF
set_option linter.unusedVariables false
def maskF (n : Nat) : Int := (netlist_Mask.f (n : Int)).getD 0
theorem mask_some (n : Nat) : netlist_Mask.f (n : Int) = some (maskF n) := rfl
section
variable (l0 l1 : List ByteArray) (l2 : List S82) (l3 : List S80) (l4 : List Int)
structure FormNm : Prop where
  n0 : namesF [] (l0 ++ l2.map (·.f0)) = 0
  n1 : namesF [] l1 = 0
  tabs : ∀ x ∈ l3, Go.bits .andNot .u64 x.f1 (maskF x.f2.length) = 0
theorem q_ends_l1 (n : Int) (xs : List Int) (hl : xs.length ≤ 1048576) (H : ∀ x ∈ xs, 0 ≤ x ∧ x < n) : ∀ (d i : Nat), i + d = xs.length → ∃ k, netlist_ends.l1 k n xs xs.length i = some 0
  | 0, i, h => ⟨1, by rw [netlist_ends.l1, if_neg (by omega)]⟩
  | d + 1, i, h => by
    obtain ⟨k, h1⟩ := q_ends_l1 n xs hl H d (i + 1) (by omega)
    obtain ⟨x, hx⟩ := at_ex (show i < xs.length by omega)
    have hb := H x (List.mem_of_getElem? hx)
    refine ⟨k + 1, ?_⟩
    rw [netlist_ends.l1, if_pos (by omega), if_pos (by omega), if_pos (by omega), rd_at hx, if_neg (by omega), if_neg (by omega), wrap_id (by omega) (by omega)]
    exact h1
theorem q_ends_l0 (n : Int) (h2l : l2.length ≤ 1048576) (h4l : l4.length ≤ 1048576) (H2 : ∀ x ∈ l2, 0 ≤ x.f2 ∧ x.f2 < n ∧ 0 ≤ x.f3 ∧ x.f3 < n) (H4 : ∀ x ∈ l4, 0 ≤ x ∧ x < n) : ∀ (d i : Nat), i + d = l2.length → ∃ k, netlist_ends.l0 k n l2 l2.length i l0 l1 l2 l3 l4 = some 0
  | 0, i, h => by
    obtain ⟨k, h1⟩ := q_ends_l1 n l4 h4l H4 l4.length 0 (by omega)
    exact ⟨k + 1, by rw [netlist_ends.l0, if_neg (by omega)]; exact h1⟩
  | d + 1, i, h => by
    obtain ⟨k, h1⟩ := q_ends_l0 n h2l h4l H2 H4 d (i + 1) (by omega)
    obtain ⟨x, hx⟩ := at_ex (show i < l2.length by omega)
    have hb := H2 x (List.mem_of_getElem? hx)
    refine ⟨k + 1, ?_⟩
    rw [netlist_ends.l0, if_pos (by omega), if_pos (by omega), if_pos (by omega), rdF_at hx, if_neg (by omega), if_neg (by omega), if_neg (by omega), if_neg (by omega), wrap_id (by omega) (by omega)]
    exact h1
theorem q_pins (ok : FormOk l0 l1 l2 l3 l4) (i : Nat) (x : S80) (hx : l3[i]? = some x) (H : ∃ k, netlist_Form.l1 k (2 + (l0.length : Int) + l2.length) l3 l3.length (wrap64 ((i : Int) + 1)) l0 l1 l2 l3 l4 = some 0) :
    ∀ (d k2 : Nat), k2 + d = x.f2.length → ∃ k, netlist_Form.l2 k (2 + (l0.length : Int) + l2.length) i l3 l3.length i x.f2 x.f2.length k2 l0 l1 l2 l3 l4 = some 0
  | 0, k2, h => by
    obtain ⟨k, h1⟩ := H
    exact ⟨k + 1, by rw [netlist_Form.l2, if_neg (by omega)]; exact h1⟩
  | d + 1, k2, h => by
    have b0 := ok.c0
    have b2 := ok.c2
    have b3 := ok.c3
    have hi := (List.getElem?_eq_some_iff.1 hx).1
    obtain ⟨hp1, hp2⟩ := ok.pins i x hx
    obtain ⟨k, h1⟩ := q_pins ok i x hx H d (k2 + 1) (by omega)
    obtain ⟨y, hy⟩ := at_ex (show k2 < x.f2.length by omega)
    have hb := hp2 y (List.mem_of_getElem? hy)
    refine ⟨k + 1, ?_⟩
    rw [netlist_Form.l2, if_pos (by omega), if_pos (by omega), if_pos (by omega), rd_at hy, wrap_id (x := (k2 : Int) + 1) (by omega) (by omega), wrap_id (x := 2 + (l0.length : Int) + l2.length + i) (by omega) (by omega), if_neg (by omega), if_neg (by omega)]
    exact h1
theorem q_l1 (ok : FormOk l0 l1 l2 l3 l4) (nm : FormNm l0 l1 l2 l3) : ∀ (d i : Nat), i + d = l3.length → ∃ k, netlist_Form.l1 k (2 + (l0.length : Int) + l2.length) l3 l3.length i l0 l1 l2 l3 l4 = some 0
  | 0, i, h => by
    have b0 := ok.c0
    have b1 := ok.c1
    have b2 := ok.c2
    have b3 := ok.c3
    have b4 := ok.c4
    obtain ⟨k, h1⟩ := q_ends_l0 l0 l1 l2 l3 l4 (2 + (l0.length : Int) + l2.length + l3.length) (by omega) (by omega) ok.flops ok.outs l2.length 0 (by omega)
    refine ⟨k + 1, ?_⟩
    have he : netlist_ends.f k l0 l1 l2 l3 l4 = some 0 := by
      unfold netlist_ends.f netlist_Nets.f netlist_First.f
      rw [wrap_id (x := 2 + (l0.length : Int)) (by omega) (by omega), wrap_id (x := 2 + (l0.length : Int) + l2.length) (by omega) (by omega)]
      show netlist_ends.l0 k (wrap64 (2 + (l0.length : Int) + l2.length + l3.length)) l2 l2.length 0 l0 l1 l2 l3 l4 = some 0
      rw [wrap_id (by omega) (by omega)]
      exact h1
    rw [netlist_Form.l1, if_neg (by omega), he]
    rfl
  | d + 1, i, h => by
    have b3 := ok.c3
    obtain ⟨k, h1⟩ := q_l1 ok nm d (i + 1) (by omega)
    obtain ⟨x, hx⟩ := at_ex (show i < l3.length by omega)
    obtain ⟨hp1, hp2⟩ := ok.pins i x hx
    obtain ⟨k2, h2⟩ := q_pins l0 l1 l2 l3 l4 ok i x hx ⟨k, by rw [wrap_id (by omega) (by omega)]; exact h1⟩ x.f2.length 0 (by omega)
    refine ⟨k2 + 1, ?_⟩
    rw [netlist_Form.l1, if_pos (by omega), if_pos (by omega), if_pos (by omega), rdG_at hx, if_neg (by omega), mask_some, Option.bind_some, if_pos (nm.tabs x (List.mem_of_getElem? hx))]
    exact h2
theorem q_l0 (ok : FormOk l0 l1 l2 l3 l4) (nm : FormNm l0 l1 l2 l3) : ∀ (d i : Nat), i + d = l2.length → ∃ k, netlist_Form.l0 k (l0 ++ (l2.take i).map (·.f0)) l2 l2.length i l0 l1 l2 l3 l4 = some 0
  | 0, i, h => by
    have b0 := ok.c0
    have b2 := ok.c2
    obtain ⟨k, h1⟩ := q_l1 l0 l1 l2 l3 l4 ok nm l3.length 0 (by omega)
    refine ⟨k + 1, ?_⟩
    rw [netlist_Form.l0, if_neg (by omega), List.take_of_length_le (by omega)]
    show (if namesF [] (l0 ++ l2.map (·.f0)) = 0 then (if namesF [] l1 = 0 then netlist_Form.l1 k (wrap64 (wrap64 (2 + (l0.length : Int)) + l2.length)) l3 l3.length 0 l0 l1 l2 l3 l4 else some (namesF [] l1)) else some (namesF [] (l0 ++ l2.map (·.f0)))) = some 0
    rw [if_pos nm.n0, if_pos nm.n1, wrap_id (x := 2 + (l0.length : Int)) (by omega) (by omega), wrap_id (x := 2 + (l0.length : Int) + l2.length) (by omega) (by omega)]
    exact h1
  | d + 1, i, h => by
    have b0 := ok.c0
    have b2 := ok.c2
    obtain ⟨k, h1⟩ := q_l0 ok nm d (i + 1) (by omega)
    obtain ⟨x, hx⟩ := at_ex (show i < l2.length by omega)
    have hn : (l0 ++ (l2.take i).map (·.f0)).length ≤ 1048576 := by
      rw [List.length_append, List.length_map, List.length_take]
      omega
    refine ⟨k + 1, ?_⟩
    rw [netlist_Form.l0, if_pos (by omega), if_pos (by omega), if_pos (by omega), rdF_at hx, if_pos (Nat.lt_of_le_of_lt hn (by decide)), wrap_id (by omega) (by omega), List.append_assoc]
    have e : (l2.take i).map (·.f0) ++ [x.f0] = (l2.take (i + 1)).map (·.f0) := by
      rw [List.take_add_one, hx, Option.toList_some, List.map_append]
      rfl
    rw [e]
    exact h1
theorem form_zero (ok : FormOk l0 l1 l2 l3 l4) (nm : FormNm l0 l1 l2 l3) : ∃ k, netlist_Form.f k l0 l1 l2 l3 l4 = some 0 := by
  have b0 := ok.c0
  have b1 := ok.c1
  have b2 := ok.c2
  have b3 := ok.c3
  have b4 := ok.c4
  obtain ⟨k, h1⟩ := q_l0 l0 l1 l2 l3 l4 ok nm l2.length 0 (by omega)
  refine ⟨k + 1, ?_⟩
  rw [netlist_Form.f, if_neg (by omega), if_neg (by omega), if_neg (by omega), decide_eq_false (by omega), netlist_Form.j0, if_neg (by decide), if_pos (by omega)]
  unfold slices_Clone_string_string.f
  rw [if_pos (by omega)]
  simpa using h1
end
end Go.Proofs.Ytimjccfpobhpeaa
namespace Go.Proofs.Ytimjccfpobhpeaa
open Go.RowKit Go.Proofs.YtimjccfpobhpeaaW.PrintWords Go.Proofs.Ytimjccfpobhpeaa.PF
set_option linter.unusedVariables false
section
variable {l0 l1 : List ByteArray} {l2 : List S82} {l3 : List S80} {l4 : List Int}
theorem z_l2 (x8 x9 x73 x74 x93 : Int) (x72 : List S80) (xs : List Int) : ∀ (k : Nat) (x94 : Int), netlist_Form.l2 k x8 x9 x72 x73 x74 xs x93 x94 l0 l1 l2 l3 l4 = some 0 → ∃ k', k' < k ∧ netlist_Form.l1 k' x8 x72 x73 (wrap64 (x74 + 1)) l0 l1 l2 l3 l4 = some 0
  | 0, x94, h => by
    rw [netlist_Form.l2] at h
    cases h
  | k + 1, x94, h => by
    rw [netlist_Form.l2] at h
    split at h
    · split at h
      · split at h
        · split at h
          · simp at h
          · split at h
            · simp at h
            · obtain ⟨k', h1, h2⟩ := z_l2 x8 x9 x73 x74 x93 x72 xs k _ h
              exact ⟨k', by omega, h2⟩
        · cases h
      · cases h
    · exact ⟨k, by omega, h⟩
theorem z_l1 (x8 : Int) (c3 : l3.length ≤ 1200) (k : Nat) : ∀ (i : Nat), netlist_Form.l1 k x8 l3 l3.length i l0 l1 l2 l3 l4 = some 0 → ∀ j, i ≤ j → ∀ x, l3[j]? = some x → Go.bits .andNot .u64 x.f1 (maskF x.f2.length) = 0 := by
  induction k using Nat.strongRecOn with
  | ind k ih =>
    intro i h j hj x hx
    have hjl := (List.getElem?_eq_some_iff.1 hx).1
    cases k with
    | zero =>
      rw [netlist_Form.l1] at h
      cases h
    | succ k =>
      obtain ⟨y, hy⟩ := at_ex (show i < l3.length by omega)
      rw [netlist_Form.l1, if_pos (by omega), if_pos (by omega), if_pos (by omega), rdG_at hy, mask_some, Option.bind_some] at h
      split at h
      · simp at h
      · split at h
        · rename_i q1 q2
          by_cases hji : j = i
          · subst hji
            rw [hy] at hx
            cases hx
            exact q2
          · obtain ⟨k', h1, h2⟩ := z_l2 _ _ _ _ _ _ _ _ _ h
            rw [wrap_id (by omega) (by omega)] at h2
            exact ih k' (by omega) (i + 1) h2 j (by omega) x hx
        · simp at h
theorem z_l0 (c0 : l0.length ≤ 128) (c2 : l2.length ≤ 288) (c3 : l3.length ≤ 1200) : ∀ (k i : Nat) (names : List ByteArray), netlist_Form.l0 k names l2 l2.length i l0 l1 l2 l3 l4 = some 0 → i ≤ l2.length → namesF [] (names ++ (l2.drop i).map (·.f0)) = 0 ∧ namesF [] l1 = 0 ∧ ∀ x ∈ l3, Go.bits .andNot .u64 x.f1 (maskF x.f2.length) = 0
  | 0, i, names, h, hi => by
    rw [netlist_Form.l0] at h
    cases h
  | k + 1, i, names, h, hi => by
    rw [netlist_Form.l0] at h
    by_cases hlt : i < l2.length
    · obtain ⟨x, hx⟩ := at_ex hlt
      rw [if_pos (by omega), if_pos (by omega), if_pos (by omega), rdF_at hx, wrap_id (by omega) (by omega)] at h
      split at h
      · have := z_l0 c0 c2 c3 k (i + 1) _ h (by omega)
        rw [List.append_assoc] at this
        rw [List.drop_eq_getElem_cons hlt, List.map_cons]
        rw [List.getElem?_eq_getElem hlt] at hx
        injection hx with hx
        rw [hx]
        exact this
      · cases h
    · rw [if_neg (by omega)] at h
      have h2 : (if namesF [] names = 0 then (if namesF [] l1 = 0 then netlist_Form.l1 k (wrap64 (wrap64 (2 + (l0.length : Int)) + l2.length)) l3 l3.length 0 l0 l1 l2 l3 l4 else some (namesF [] l1)) else some (namesF [] names)) = some 0 := h
      split at h2
      · rename_i q1
        split at h2
        · rename_i q2
          rw [List.drop_of_length_le (by omega), List.map_nil, List.append_nil]
          refine ⟨q1, q2, fun x hx => ?_⟩
          obtain ⟨j, hj⟩ := List.getElem?_of_mem hx
          exact z_l1 _ c3 k 0 h2 j (Nat.zero_le _) x hj
        · rename_i q2
          injection h2 with h2
          exact absurd h2 q2
      · rename_i q1
        injection h2 with h2
        exact absurd h2 q1
theorem form_nm {k : Nat} (h : netlist_Form.f k l0 l1 l2 l3 l4 = some 0) : FormOk l0 l1 l2 l3 l4 ∧ FormNm l0 l1 l2 l3 := by
  obtain ⟨k1, e, h1, h2⟩ := form_ex l0 l1 l2 l3 l4
  have a1 := upK (netlist_Form.mono l0 l1 l2 l3 l4) (show k ≤ k + k1 by omega) h
  have a2 := upK (netlist_Form.mono l0 l1 l2 l3 l4) (show k1 ≤ k + k1 by omega) h1
  rw [a1] at a2
  injection a2 with a2
  have ok := h2 a2.symm
  have b0 := ok.c0
  have b1 := ok.c1
  have b2 := ok.c2
  have b3 := ok.c3
  have b4 := ok.c4
  refine ⟨ok, ?_⟩
  rw [netlist_Form.f, if_neg (by omega), if_neg (by omega), if_neg (by omega), decide_eq_false (by omega)] at h
  cases k with
  | zero =>
    rw [netlist_Form.j0] at h
    cases h
  | succ k =>
    rw [netlist_Form.j0, if_neg (by decide), if_pos (by omega)] at h
    unfold slices_Clone_string_string.f at h
    rw [if_pos (by omega), Option.bind_some] at h
    obtain ⟨r1, r2, r3⟩ := z_l0 b0 b2 b3 k 0 l0 h (Nat.zero_le _)
    exact ⟨by simpa using r1, r2, r3⟩
end
end Go.Proofs.Ytimjccfpobhpeaa
namespace Go.Proofs.Ytimjccfpobhpeaa
open Go.RowKit Go.Proofs.YtimjccfpobhpeaaW.PrintWords Go.Proofs.Ytimjccfpobhpeaa.PF
set_option linter.unusedVariables false
section
variable {l0 l1 : List ByteArray} {l2 : List FlopS} {l3 : List GateS} {l4 : List Int} {nv : Load → Int → Int}
def NvOk (nv : Load → Int → Int) : Prop := ∀ l x, nv l x = x ∨ nv l x = 0 ∨ nv l x = 1
theorem newv_ok (net load : Int) (one : Bool) (m : List ((Int × Int × Int) × Int)) : NvOk (newv net load (if one = true then 1 else 0) m) := by
  intro l x
  unfold newv
  split
  · cases one
    · exact .inr (.inl rfl)
    · exact .inr (.inr rfl)
  · exact .inl rfl
theorem NvOk.rng (h : NvOk nv) {l : Load} {x n : Int} (h0 : 0 ≤ x) (h1 : x < n) (hn : 2 ≤ n) : 0 ≤ nv l x ∧ nv l x < n := by
  rcases h l x with e | e | e <;> rw [e] <;> omega
theorem br_form (hv : NvOk nv) (ok : FormOk l0 l1 l2 l3 l4) (nm : FormNm l0 l1 l2 l3) :
    FormOk l0 l1 (brFlops nv l2 0) (brGates nv l3 0) (brOuts nv l4 0) ∧ FormNm l0 l1 (brFlops nv l2 0) (brGates nv l3 0) := by
  have e2 := brFlops_len nv l2 0
  have e3 := brGates_len nv l3 0
  have e4 := brOuts_len nv l4 0
  constructor
  · refine ⟨ok.c0, ok.c1, by rw [e2]; exact ok.c2, by rw [e3]; exact ok.c3, by rw [e4]; exact ok.c4, fun i x hx => ?_, fun x hx => ?_, fun x hx => ?_⟩
    · rw [brGates_at] at hx
      obtain ⟨g, hg, rfl⟩ := Option.map_eq_some_iff.1 hx
      obtain ⟨p1, p2⟩ := ok.pins i g hg
      refine ⟨by simp only [brPins_len]; exact p1, fun y hy => ?_⟩
      obtain ⟨k, hk⟩ := List.getElem?_of_mem hy
      simp only [brPins_at] at hk
      obtain ⟨z, hz, rfl⟩ := Option.map_eq_some_iff.1 hk
      obtain ⟨r1, r2⟩ := p2 z (List.mem_of_getElem? hz)
      rw [e2]
      exact hv.rng r1 r2 (by omega)
    · obtain ⟨i, hi⟩ := List.getElem?_of_mem hx
      rw [brFlops_at] at hi
      obtain ⟨f, hf, rfl⟩ := Option.map_eq_some_iff.1 hi
      obtain ⟨r1, r2, r3, r4⟩ := ok.flops f (List.mem_of_getElem? hf)
      rw [e2, e3]
      exact ⟨(hv.rng r1 r2 (by omega)).1, (hv.rng r1 r2 (by omega)).2, (hv.rng r3 r4 (by omega)).1, (hv.rng r3 r4 (by omega)).2⟩
    · obtain ⟨i, hi⟩ := List.getElem?_of_mem hx
      rw [brOuts_at] at hi
      obtain ⟨z, hz, rfl⟩ := Option.map_eq_some_iff.1 hi
      obtain ⟨r1, r2⟩ := ok.outs z (List.mem_of_getElem? hz)
      rw [e2, e3]
      exact hv.rng r1 r2 (by omega)
  · have hn : (brFlops nv l2 0).map (·.f0) = l2.map (·.f0) := by
      apply List.ext_getElem?
      intro i
      rw [List.getElem?_map, List.getElem?_map, brFlops_at]
      cases l2[i]? <;> rfl
    refine ⟨by rw [hn]; exact nm.n0, nm.n1, fun x hx => ?_⟩
    obtain ⟨i, hi⟩ := List.getElem?_of_mem hx
    rw [brGates_at] at hi
    obtain ⟨g, hg, rfl⟩ := Option.map_eq_some_iff.1 hi
    simp only [brPins_len]
    exact nm.tabs g (List.mem_of_getElem? hg)
end
end Go.Proofs.Ytimjccfpobhpeaa
namespace Go.Proofs.Ytimjccfpobhpeaa.PF
open Go.RowKit Go.Proofs.YtimjccfpobhpeaaW.PrintWords Go.Proofs.YtimjccfpobhpeaaW.PrintLast Go.Proofs.YtimjccfpobhpeaaW.PrintMore
set_option linter.unusedVariables false
set_option linter.unusedSimpArgs false
mutual
def netlist_look.l0 : Nat → Int → List Int → Int → Int → Int → Option (Int)
  | 0, _, _, _, _, _ => none
  | k + 1, x0, x1, x5, x12, x13 => if x13 < x12 then (if 0 ≤ x13 then (if (Go.bits .and .u64 (shr .u64 x0 x13) 1) = 0 then (netlist_look.l0 k x0 x1 x5 x12 (wrap64 (x13 + 1))) else (netlist_look.l1 k x0 x1 x5 x13 18446744073709551615 x12 x13 x1 (x1.length : Int) 0)) else (none)) else (some x5)
def netlist_look.l1 : Nat → Int → List Int → Int → Int → Int → Int → Int → List Int → Int → Int → Option (Int)
  | 0, _, _, _, _, _, _, _, _, _, _ => none
  | k + 1, x0, x1, x5, x6, x7, x12, x13, x21, x22, x23 => if x23 < x22 then (if 0 ≤ x23 then (if x23 < (x21.length : Int) then (if (Go.bits .and .i64 (shr .i64 x6 x23) 1) = 1 then (netlist_look.l1 k x0 x1 x5 x6 (Go.bits .and .u64 x7 (rd x21 x23)) x12 x13 x21 x22 (wrap64 (x23 + 1))) else (netlist_look.l1 k x0 x1 x5 x6 (Go.bits .andNot .u64 x7 (rd x21 x23)) x12 x13 x21 x22 (wrap64 (x23 + 1)))) else (none)) else (none)) else (netlist_look.l0 k x0 x1 (Go.bits .or .u64 x5 x7) x12 (wrap64 (x13 + 1)))
end
def netlist_look.f (k : Nat) (a0 : Int) (l1 : List Int) : Option (Int) := netlist_look.l0 k a0 l1 0 (shl .i64 1 (l1.length : Int)) 0
theorem netlist_look.mono_l : ∀ k, (∀ y0 y1 y2 y3 y4, LeO (netlist_look.l0 k y0 y1 y2 y3 y4) (netlist_look.l0 (k + 1) y0 y1 y2 y3 y4)) ∧ (∀ y0 y1 y2 y3 y4 y5 y6 y7 y8 y9, LeO (netlist_look.l1 k y0 y1 y2 y3 y4 y5 y6 y7 y8 y9) (netlist_look.l1 (k + 1) y0 y1 y2 y3 y4 y5 y6 y7 y8 y9))
  | 0 => ⟨fun _ _ _ _ _ r h => by simp [netlist_look.l0] at h, fun _ _ _ _ _ _ _ _ _ _ r h => by simp [netlist_look.l1] at h⟩
  | k + 1 => by
    obtain ⟨ih0, ih1⟩ := netlist_look.mono_l k
    refine ⟨?_, ?_⟩
    · intro y0 y1 y2 y3 y4
      unfold netlist_look.l0
      repeat' first
      | (with_reducible exact ih0 _ _ _ _ _)
      | (with_reducible exact ih1 _ _ _ _ _ _ _ _ _ _)
      | (with_reducible exact LeO.refl _)
      | (with_reducible exact LeO.none _)
      | (with_reducible refine LeO.ite ?_ ?_)
      | (with_reducible refine LeO.bind ?_ (fun _ => ?_))
      | exact ih0 _ _ _ _ _
      | exact ih1 _ _ _ _ _ _ _ _ _ _
      | exact LeO.none _
      | refine LeO.ite ?_ ?_
      | refine LeO.bind ?_ (fun _ => ?_)
    · intro y0 y1 y2 y3 y4 y5 y6 y7 y8 y9
      unfold netlist_look.l1
      repeat' first
      | (with_reducible exact ih0 _ _ _ _ _)
      | (with_reducible exact ih1 _ _ _ _ _ _ _ _ _ _)
      | (with_reducible exact LeO.refl _)
      | (with_reducible exact LeO.none _)
      | (with_reducible refine LeO.ite ?_ ?_)
      | (with_reducible refine LeO.bind ?_ (fun _ => ?_))
      | exact ih0 _ _ _ _ _
      | exact ih1 _ _ _ _ _ _ _ _ _ _
      | exact LeO.none _
      | refine LeO.ite ?_ ?_
      | refine LeO.bind ?_ (fun _ => ?_)
theorem netlist_look.mono : ∀ a0 a1 k, LeO (netlist_look.f k a0 a1) (netlist_look.f (k + 1) a0 a1) := by
  intro a0 a1 k
  obtain ⟨ih0, ih1⟩ := netlist_look.mono_l k
  unfold netlist_look.f
  repeat' first
      | (with_reducible exact ih0 _ _ _ _ _)
      | (with_reducible exact ih1 _ _ _ _ _ _ _ _ _ _)
      | (with_reducible exact LeO.refl _)
      | (with_reducible exact LeO.none _)
      | (with_reducible refine LeO.ite ?_ ?_)
      | (with_reducible refine LeO.bind ?_ (fun _ => ?_))
      | exact ih0 _ _ _ _ _
      | exact ih1 _ _ _ _ _ _ _ _ _ _
      | exact LeO.none _
      | refine LeO.ite ?_ ?_
      | refine LeO.bind ?_ (fun _ => ?_)
set_option maxHeartbeats 8000000 in
set_option maxRecDepth 100000 in
theorem netlist_look.calls (k : Nat) (a0 : Int) (A1 : Option Addr) (c1 : Nat) (l1 : List Int) (r : Int) (w : World) (hr1 : Kd.C (Kd.int .u64) w A1 l1.length l1) (hc1 : l1.length ≤ c1) (h : netlist_look.f k a0 l1 = some r) :
    Calls Try.prog 64 #[.int .u64 a0, .slice A1 l1.length c1] w fun e w' => e = .returned (.int .u64 r) ∧ Drawn0 w w' := by
  have HR1 := Aside0.mk hr1
  have HC1 := Aside0.mk hc1
  clear hr1 hc1
  have H : (netlist_look.l0 k a0 l1 0 (shl .i64 1 (l1.length : Int)) 0) = some r := h
  clear h
  obtain ⟨ji3, hji3⟩ : ∃ j_ : Int, (shl .i64 1 (l1.length : Int)) = j_ := ⟨_, rfl⟩
  replace H : (netlist_look.l0 k a0 l1 0 ji3 0) = some r := by first | (rw [hji3] at H; exact H) | (simp only [hji3] at H ⊢; exact H)
  have hji3_ : (IntKind.i64.wrap (1 * 2 ^ min (l1.length : Int).toNat 64)) = ji3 := hji3
  have hji3z : (l1.length : Int) ≤ 64 → (IntKind.i64.wrap (1 * 2 ^ (l1.length : Int).toNat)) = ji3 := shl_small hji3
  have hji3p : (IntKind.i64.wrap (1 * 2 ^ min l1.length 64)) = ji3 := hji3_
  have hji3q : (l1.length : Int) ≤ 64 → (IntKind.i64.wrap (1 * 2 ^ l1.length)) = ji3 := hji3z
  have hji3r : (IntKind.i64.wrap (2 ^ min l1.length 64)) = ji3 := by have h_ := hji3p; rw [Int.one_mul] at h_; exact h_
  have hji3s : (l1.length : Int) ≤ 64 → (IntKind.i64.wrap (2 ^ l1.length)) = ji3 := fun hle_ => by have h_ := hji3q hle_; rw [Int.one_mul] at h_; exact h_
  have hji3u : (IntKind.i64.wrap (2 ^ min (l1.length : Int).toNat 64)) = ji3 := by have h_ := hji3_; rw [Int.one_mul] at h_; exact h_
  have hji3v : (l1.length : Int) ≤ 64 → (IntKind.i64.wrap (2 ^ (l1.length : Int).toNat)) = ji3 := fun hle_ => by have h_ := hji3z hle_; rw [Int.one_mul] at h_; exact h_
  have hji3y : (wrap64 (1 * 2 ^ min (l1.length : Int).toNat 64)) = ji3 := (i64_w _).symm.trans hji3_
  have hji3x : (l1.length : Int) ≤ 64 → (wrap64 (1 * 2 ^ (l1.length : Int).toNat)) = ji3 := fun h_ => (i64_w _).symm.trans (hji3z h_)
  have H' := Aside0.mk H
  clear H
  go_enter Try.func64, Try.ntmps64
  go_wp2
  go_loopg [5, 13] k (fun kq v5 v13 w' => ∃ (x5_1 : Int) (x13_1 : Int), v5 = .int .u64 x5_1 ∧ v13 = .int .i64 x13_1 ∧ Aside0 (netlist_look.l0 kq a0 l1 x5_1 ji3 x13_1 = some r) ∧ Aside0 (kq ≤ k) ∧ Drawn0 w w')
  case atStart => exact ⟨(0), (0), (by first | rfl | (simp; done) | (simp [*]; done)), (by first | rfl | (simp; done) | (simp [*]; done)), H', ⟨Nat.le_refl _⟩, by repeat (first | exact Drawn0.refl _ | apply Drawn0.step)⟩
  case round =>
    clear H'
    try clear c1
    try clear p2
    obtain ⟨x5_1, x13_1, rfl, rfl, HA, HK1, ⟨m1, rfl⟩⟩ := hrel
    cases gk with
    | zero => exact absurd HA.out (by simp [netlist_look.l0])
    | succ k1 =>
      have H := HA.out
      clear HA
      simp only [netlist_look.l0] at H
      by_cases c4 : x13_1 < ji3
      · rw [if_pos c4] at H
        have c4b0 : decide (x13_1 < ji3) = true := decide_eq_true c4
        clear c4
        by_cases c5 : 0 ≤ x13_1
        · rw [if_pos c5] at H
          have c5b0 := eq_true c5
          have c5b1 : decide (0 ≤ x13_1) = true := decide_eq_true c5
          clear c5
          obtain ⟨ji6, hji6⟩ : ∃ j_ : Int, (shr .u64 a0 x13_1) = j_ := ⟨_, rfl⟩
          replace H : (if (Go.bits .and .u64 (ji6) 1) = 0 then (netlist_look.l0 k1 a0 l1 x5_1 ji3 (wrap64 (x13_1 + 1))) else (netlist_look.l1 k1 a0 l1 x5_1 x13_1 18446744073709551615 ji3 x13_1 l1 (l1.length : Int) 0)) = some r := by first | (rw [hji6] at H; exact H) | (simp only [hji6] at H ⊢; exact H)
          have hji6_ : (a0 / 2 ^ min x13_1.toNat 64) = ji6 := hji6
          have hji6z : x13_1 ≤ 64 → (a0 / 2 ^ x13_1.toNat) = ji6 := shr_small hji6
          by_cases c7 : (Go.bits .and .u64 (ji6) 1) = 0
          · rw [if_pos c7] at H
            have c7b0 : ((Go.bits .and .u64 (ji6) 1) == 0) = true := beq_iff_eq.mpr c7
            have c7b1 : ((Go.bits .and .u64 (ji6) 1) != 0) = false := bne_eq_false_iff_eq.mpr c7
            clear c7
            have H' := Aside0.mk H
            clear H
            go_wp2
            go_roundg k1
            case measure => have := HK1.out; omega
            case rel => exact ⟨(x5_1), (wrap64 (x13_1 + 1)), (by first | rfl | (simp; done) | (simp [*]; done)), (by first | rfl | (simp; done) | (simp [*]; done)), H', ⟨by have := HK1.out; omega⟩, by repeat (first | exact Drawn0.refl _ | apply Drawn0.step)⟩
          · rw [if_neg c7] at H
            have c7b0 : ((Go.bits .and .u64 (ji6) 1) == 0) = false := beq_eq_false_iff_ne.mpr c7
            have c7b1 : ((Go.bits .and .u64 (ji6) 1) != 0) = true := bne_iff_ne.mpr c7
            have H' := Aside0.mk H
            clear H
            go_wp2
            go_loopg [7, 23] k1 (fun kq v7 v23 w' => ∃ (x7_2 : Int) (x23_2 : Int), v7 = .int .u64 x7_2 ∧ v23 = .int .i64 x23_2 ∧ Aside0 (netlist_look.l1 kq a0 l1 x5_1 x13_1 x7_2 ji3 x13_1 l1 (l1.length : Int) x23_2 = some r) ∧ Aside0 (kq ≤ k1) ∧ Drawn0 w w')
            case atStart => exact ⟨(18446744073709551615), (0), (by first | rfl | (simp; done) | (simp [*]; done)), (by first | rfl | (simp; done) | (simp [*]; done)), H', ⟨Nat.le_refl _⟩, by repeat (first | exact Drawn0.refl _ | apply Drawn0.step)⟩
            case round =>
              clear H'
              try clear c1
              try clear p2
              try clear c4
              try clear c4b0
              try clear c5
              try clear c5b0
              try clear c5b1
              try clear c6
              try clear p6
              try clear c7
              try clear c7b0
              try clear c7b1
              try clear p2
              obtain ⟨x7_2, x23_2, rfl, rfl, HA, HK2, ⟨m2, rfl⟩⟩ := hrel
              cases gk with
              | zero => exact absurd HA.out (by simp [netlist_look.l1])
              | succ k2 =>
                have H := HA.out
                clear HA
                simp only [netlist_look.l1] at H
                by_cases c8 : x23_2 < (l1.length : Int)
                · rw [if_pos c8] at H
                  have c8b0 : decide (x23_2 < (l1.length : Int)) = true := decide_eq_true c8
                  clear c8
                  by_cases c9 : 0 ≤ x23_2
                  · rw [if_pos c9] at H
                    have c9b0 : decide (0 ≤ x23_2) = true := decide_eq_true c9
                    clear c9
                    by_cases c10 : x23_2 < (l1.length : Int)
                    · rw [if_pos c10] at H
                      have c10b0 : decide (x23_2 < (l1.length : Int)) = true := decide_eq_true c10
                      clear c10
                      have c11b0 := eq_true (of_decide_eq_true (by first | (with_reducible assumption) | assumption) : 0 ≤ x23_2)
                      obtain ⟨ji12, hji12⟩ : ∃ j_ : Int, (shr .i64 x13_1 x23_2) = j_ := ⟨_, rfl⟩
                      replace H : (if (Go.bits .and .i64 (ji12) 1) = 1 then (netlist_look.l1 k2 a0 l1 x5_1 x13_1 (Go.bits .and .u64 x7_2 (rd l1 x23_2)) ji3 x13_1 l1 (l1.length : Int) (wrap64 (x23_2 + 1))) else (netlist_look.l1 k2 a0 l1 x5_1 x13_1 (Go.bits .andNot .u64 x7_2 (rd l1 x23_2)) ji3 x13_1 l1 (l1.length : Int) (wrap64 (x23_2 + 1)))) = some r := by first | (rw [hji12] at H; exact H) | (simp only [hji12] at H ⊢; exact H)
                      have hji12_ : (x13_1 / 2 ^ min x23_2.toNat 64) = ji12 := hji12
                      have hji12z : x23_2 ≤ 64 → (x13_1 / 2 ^ x23_2.toNat) = ji12 := shr_small hji12
                      by_cases c13 : (Go.bits .and .i64 (ji12) 1) = 1
                      · rw [if_pos c13] at H
                        have c13b0 : ((Go.bits .and .i64 (ji12) 1) == 1) = true := beq_iff_eq.mpr c13
                        have c13b1 : ((Go.bits .and .i64 (ji12) 1) != 1) = false := bne_eq_false_iff_eq.mpr c13
                        clear c13
                        have H' := Aside0.mk H
                        clear H
                        have p305 : 0 ≤ (x23_2 : Int) := of_decide_eq_true (by first | (with_reducible assumption) | assumption)
                        have q305 : x23_2 < (l1.length : Int) := of_decide_eq_true (by first | (with_reducible assumption) | assumption)
                        obtain ⟨ad305, e305, hx305_0⟩ := Kd.at_int HR1.out x23_2 p305 q305
                        cases e305
                        replace p305 := eq_true p305
                        replace q305 := eq_true q305
                        go_wp2
                        go_roundg k2
                        case measure => have := HK1.out; have := HK2.out; omega
                        case rel => exact ⟨(Go.bits .and .u64 x7_2 (rd l1 x23_2)), (wrap64 (x23_2 + 1)), (by first | rfl | (simp; done) | (simp [*]; done)), (by first | rfl | (simp; done) | (simp [*]; done)), H', ⟨by have := HK1.out; have := HK2.out; omega⟩, by repeat (first | exact Drawn0.refl _ | apply Drawn0.step)⟩
                      · rw [if_neg c13] at H
                        have c13b0 : ((Go.bits .and .i64 (ji12) 1) == 1) = false := beq_eq_false_iff_ne.mpr c13
                        have c13b1 : ((Go.bits .and .i64 (ji12) 1) != 1) = true := bne_iff_ne.mpr c13
                        have H' := Aside0.mk H
                        clear H
                        have p305 : 0 ≤ (x23_2 : Int) := of_decide_eq_true (by first | (with_reducible assumption) | assumption)
                        have q305 : x23_2 < (l1.length : Int) := of_decide_eq_true (by first | (with_reducible assumption) | assumption)
                        obtain ⟨ad305, e305, hx305_0⟩ := Kd.at_int HR1.out x23_2 p305 q305
                        cases e305
                        replace p305 := eq_true p305
                        replace q305 := eq_true q305
                        go_wp2
                        go_roundg k2
                        case measure => have := HK1.out; have := HK2.out; omega
                        case rel => exact ⟨(Go.bits .andNot .u64 x7_2 (rd l1 x23_2)), (wrap64 (x23_2 + 1)), (by first | rfl | (simp; done) | (simp [*]; done)), (by first | rfl | (simp; done) | (simp [*]; done)), H', ⟨by have := HK1.out; have := HK2.out; omega⟩, by repeat (first | exact Drawn0.refl _ | apply Drawn0.step)⟩
                    · rw [if_neg c10] at H
                      exact absurd H (by simp)
                  · rw [if_neg c9] at H
                    exact absurd H (by simp)
                · rw [if_neg c8] at H
                  have c8b0 : decide (x23_2 < (l1.length : Int)) = false := decide_eq_false c8
                  clear c8
                  have H' := Aside0.mk H
                  clear H
                  go_wp2
                  go_roundg k2
                  case measure => have := HK1.out; have := HK2.out; omega
                  case rel => exact ⟨(Go.bits .or .u64 x5_1 x7_2), (wrap64 (x13_1 + 1)), (by first | rfl | (simp; done) | (simp [*]; done)), (by first | rfl | (simp; done) | (simp [*]; done)), H', ⟨by have := HK1.out; have := HK2.out; omega⟩, by repeat (first | exact Drawn0.refl _ | apply Drawn0.step)⟩
        · rw [if_neg c5] at H
          exact absurd H (by simp)
      · rw [if_neg c4] at H
        have c4b0 : decide (x13_1 < ji3) = false := decide_eq_false c4
        clear c4
        obtain rfl := Option.some.inj H
        go_wp2
        go_ret
        exact ⟨by first | rfl | (simp; done) | (simp only [← hji3] <;> (first | rfl | simp)) | (simp [*]; done), by repeat (first | exact Drawn0.refl _ | apply Drawn0.step)⟩
end Go.Proofs.Ytimjccfpobhpeaa.PF
namespace Go.Proofs.Ytimjccfpobhpeaa.PF
open Go.RowKit Go.Proofs.YtimjccfpobhpeaaW.PrintWords Go.Proofs.YtimjccfpobhpeaaW.PrintLast Go.Proofs.YtimjccfpobhpeaaW.PrintMore
set_option linter.unusedVariables false
set_option linter.unusedSimpArgs false
mutual
def netlist_values.l0 : Nat → List Int → List (S80) → Int → Int → Option (List Int)
  | 0, _, _, _, _ => none
  | k + 1, x7, x20, x21, x22 => if x22 < x21 then (if 0 ≤ x22 then (if x22 < (x20.length : Int) then (netlist_values.l1 k x7 ([] : List Int) x20 x21 x22 ((rd_T80 x20 x22).f2) (((rd_T80 x20 x22).f2).length : Int) 0 ((rd_T80 x20 x22).f0) ((rd_T80 x20 x22).f1) ((rd_T80 x20 x22).f2)) else (none)) else (none)) else (some x7)
def netlist_values.l1 : Nat → List Int → List Int → List (S80) → Int → Int → List Int → Int → Int → Int → Int → List Int → Option (List Int)
  | 0, _, _, _, _, _, _, _, _, _, _, _ => none
  | k + 1, x7, x10, x20, x21, x22, x27, x28, x29, x318000, x318001, x318002 => if x29 < x28 then (if 0 ≤ x29 then (if x29 < (x27.length : Int) then (if 0 ≤ (rd x27 x29) then (if (rd x27 x29) < (x7.length : Int) then (if x10.length < 17592186044416 then (netlist_values.l1 k x7 (x10 ++ [rd x7 (rd x27 x29)]) x20 x21 x22 x27 x28 (wrap64 (x29 + 1)) x318000 x318001 x318002) else (none)) else (none)) else (none)) else (none)) else (none)) else ((netlist_look.f k x318001 x10).bind fun t323 => (if x7.length < 17592186044416 then (netlist_values.l0 k (x7 ++ [t323]) x20 x21 (wrap64 (x22 + 1))) else (none)))
end
def netlist_values.f (k : Nat) (l0_0 : List ByteArray) (l0_1 : List ByteArray) (l0_2 : List (S82)) (l0_3 : List (S80)) (l0_4 : List Int) (l1 : List Int) (l2 : List Int) : Option (List Int) := (some (([0, 18446744073709551615] : List Int) : List Int)).bind fun y307 => (if y307.length + l1.length < 17592186044416 then ((some (y307 ++ l1 : List Int)).bind fun y310 => (if y310.length + l2.length < 17592186044416 then (netlist_values.l0 k (y310 ++ l2) l0_3 (l0_3.length : Int) 0) else (none))) else (none))
theorem netlist_values.mono_l : ∀ k, (∀ y0 y1 y2 y3, LeO (netlist_values.l0 k y0 y1 y2 y3) (netlist_values.l0 (k + 1) y0 y1 y2 y3)) ∧ (∀ y0 y1 y2 y3 y4 y5 y6 y7 y8 y9 y10, LeO (netlist_values.l1 k y0 y1 y2 y3 y4 y5 y6 y7 y8 y9 y10) (netlist_values.l1 (k + 1) y0 y1 y2 y3 y4 y5 y6 y7 y8 y9 y10))
  | 0 => ⟨fun _ _ _ _ r h => by simp [netlist_values.l0] at h, fun _ _ _ _ _ _ _ _ _ _ _ r h => by simp [netlist_values.l1] at h⟩
  | k + 1 => by
    obtain ⟨ih0, ih1⟩ := netlist_values.mono_l k
    refine ⟨?_, ?_⟩
    · intro y0 y1 y2 y3
      unfold netlist_values.l0
      repeat' first
      | (with_reducible exact ih0 _ _ _ _)
      | (with_reducible exact ih1 _ _ _ _ _ _ _ _ _ _ _)
      | (with_reducible exact netlist_look.mono _ _ _)
      | (with_reducible exact LeO.refl _)
      | (with_reducible exact LeO.none _)
      | (with_reducible refine LeO.ite ?_ ?_)
      | (with_reducible refine LeO.bind ?_ (fun _ => ?_))
      | exact ih0 _ _ _ _
      | exact ih1 _ _ _ _ _ _ _ _ _ _ _
      | exact netlist_look.mono _ _ _
      | exact LeO.none _
      | refine LeO.ite ?_ ?_
      | refine LeO.bind ?_ (fun _ => ?_)
    · intro y0 y1 y2 y3 y4 y5 y6 y7 y8 y9 y10
      unfold netlist_values.l1
      repeat' first
      | (with_reducible exact ih0 _ _ _ _)
      | (with_reducible exact ih1 _ _ _ _ _ _ _ _ _ _ _)
      | (with_reducible exact netlist_look.mono _ _ _)
      | (with_reducible exact LeO.refl _)
      | (with_reducible exact LeO.none _)
      | (with_reducible refine LeO.ite ?_ ?_)
      | (with_reducible refine LeO.bind ?_ (fun _ => ?_))
      | exact ih0 _ _ _ _
      | exact ih1 _ _ _ _ _ _ _ _ _ _ _
      | exact netlist_look.mono _ _ _
      | exact LeO.none _
      | refine LeO.ite ?_ ?_
      | refine LeO.bind ?_ (fun _ => ?_)
theorem netlist_values.mono : ∀ a0 a1 a2 a3 a4 a5 a6 k, LeO (netlist_values.f k a0 a1 a2 a3 a4 a5 a6) (netlist_values.f (k + 1) a0 a1 a2 a3 a4 a5 a6) := by
  intro a0 a1 a2 a3 a4 a5 a6 k
  obtain ⟨ih0, ih1⟩ := netlist_values.mono_l k
  unfold netlist_values.f
  repeat' first
      | (with_reducible exact ih0 _ _ _ _)
      | (with_reducible exact ih1 _ _ _ _ _ _ _ _ _ _ _)
      | (with_reducible exact netlist_look.mono _ _ _)
      | (with_reducible exact LeO.refl _)
      | (with_reducible exact LeO.none _)
      | (with_reducible refine LeO.ite ?_ ?_)
      | (with_reducible refine LeO.bind ?_ (fun _ => ?_))
      | exact ih0 _ _ _ _
      | exact ih1 _ _ _ _ _ _ _ _ _ _ _
      | exact netlist_look.mono _ _ _
      | exact LeO.none _
      | refine LeO.ite ?_ ?_
      | refine LeO.bind ?_ (fun _ => ?_)
set_option maxHeartbeats 8000000 in
set_option maxRecDepth 100000 in
theorem netlist_values.calls (k : Nat) (A0_0 : Option Addr) (c0_0 : Nat) (l0_0 : List ByteArray) (A0_1 : Option Addr) (c0_1 : Nat) (l0_1 : List ByteArray) (A0_2 : Option Addr) (c0_2 : Nat) (l0_2 : List (S82)) (A0_3 : Option Addr) (c0_3 : Nat) (l0_3 : List (S80)) (A0_4 : Option Addr) (c0_4 : Nat) (l0_4 : List Int) (A1 : Option Addr) (c1 : Nat) (l1 : List Int) (A2 : Option Addr) (c2 : Nat) (l2 : List Int) (r : List Int) (w : World) (hr0_0 : Kd.C Kd.string w A0_0 l0_0.length l0_0) (hc0_0 : l0_0.length ≤ c0_0) (hr0_1 : Kd.C Kd.string w A0_1 l0_1.length l0_1) (hc0_1 : l0_1.length ≤ c0_1) (hr0_2 : Kd.C k82 w A0_2 l0_2.length l0_2) (hc0_2 : l0_2.length ≤ c0_2) (hr0_3 : Kd.C k80 w A0_3 l0_3.length l0_3) (hc0_3 : l0_3.length ≤ c0_3) (hr0_4 : Kd.C (Kd.int .i64) w A0_4 l0_4.length l0_4) (hc0_4 : l0_4.length ≤ c0_4) (hr1 : Kd.C (Kd.int .u64) w A1 l1.length l1) (hc1 : l1.length ≤ c1) (hr2 : Kd.C (Kd.int .u64) w A2 l2.length l2) (hc2 : l2.length ≤ c2) (h : netlist_values.f k l0_0 l0_1 l0_2 l0_3 l0_4 l1 l2 = some r) :
    Calls Try.prog 63 #[.agg #[.slice A0_0 l0_0.length c0_0, .slice A0_1 l0_1.length c0_1, .slice A0_2 l0_2.length c0_2, .slice A0_3 l0_3.length c0_3, .slice A0_4 l0_4.length c0_4], .slice A1 l1.length c1, .slice A2 l2.length c2] w fun e w' => ∃ v0_ : Value, e = .returned (v0_) ∧ Kd.R (Kd.int .u64) 78 w' w.heap.size (fun _ => True) v0_ r ∧ Below w.heap.size w w' := by
  have hu27 := Try.underlying27
  have hu80 := Try.underlying80
  have HR0_0 := Aside0.mk hr0_0
  have HC0_0 := Aside0.mk hc0_0
  clear hr0_0 hc0_0
  have HR0_1 := Aside0.mk hr0_1
  have HC0_1 := Aside0.mk hc0_1
  clear hr0_1 hc0_1
  have HR0_2 := Aside0.mk hr0_2
  have HC0_2 := Aside0.mk hc0_2
  clear hr0_2 hc0_2
  have HR0_3 := Aside0.mk hr0_3
  have HC0_3 := Aside0.mk hc0_3
  clear hr0_3 hc0_3
  have HR0_4 := Aside0.mk hr0_4
  have HC0_4 := Aside0.mk hc0_4
  clear hr0_4 hc0_4
  have HR1 := Aside0.mk hr1
  have HC1 := Aside0.mk hc1
  clear hr1 hc1
  have HR2 := Aside0.mk hr2
  have HC2 := Aside0.mk hc2
  clear hr2 hc2
  have HB := Aside0.mk (Below.refl w.heap.size w)
  have H : ((some (([0, 18446744073709551615] : List Int) : List Int)).bind fun y307 => (if y307.length + l1.length < 17592186044416 then ((some (y307 ++ l1 : List Int)).bind fun y310 => (if y310.length + l2.length < 17592186044416 then (netlist_values.l0 k (y310 ++ l2) l0_3 (l0_3.length : Int) 0) else (none))) else (none))) = some r := h
  clear h
  obtain ⟨y307, hy307⟩ : ∃ y_ : List Int, y_ = (([0, 18446744073709551615] : List Int)) := ⟨_, rfl⟩
  replace H : (if y307.length + l1.length < 17592186044416 then ((some (y307 ++ l1 : List Int)).bind fun y310 => (if y310.length + l2.length < 17592186044416 then (netlist_values.l0 k (y310 ++ l2) l0_3 (l0_3.length : Int) 0) else (none))) else (none)) = some r := by first | (rw [hy307]; with_reducible exact H) | (have H2_ := (Option.bind_some _ _).symm.trans H; rw [hy307]; with_reducible exact H2_) | (have H2_ := (Option.bind_some _ _).symm.trans H; with_reducible exact H2_) | with_reducible exact H | (rw [hy307]; exact H) | exact H
  have Ny307 := Aside0.mk hy307
  clear hy307
  by_cases c4 : y307.length + l1.length < 17592186044416
  · rw [if_pos c4] at H
    have LMc4 := Aside0.mk c4
    clear c4
    obtain ⟨y310, hy310⟩ : ∃ y_ : List Int, y_ = (y307 ++ l1) := ⟨_, rfl⟩
    replace H : (if y310.length + l2.length < 17592186044416 then (netlist_values.l0 k (y310 ++ l2) l0_3 (l0_3.length : Int) 0) else (none)) = some r := by first | (rw [hy310]; with_reducible exact H) | (have H2_ := (Option.bind_some _ _).symm.trans H; rw [hy310]; with_reducible exact H2_) | (have H2_ := (Option.bind_some _ _).symm.trans H; with_reducible exact H2_) | with_reducible exact H | (rw [hy310]; exact H) | exact H
    have Ny310 := Aside0.mk hy310
    clear hy310
    by_cases c5 : y310.length + l2.length < 17592186044416
    · rw [if_pos c5] at H
      have LMc5 := Aside0.mk c5
      clear c5
      obtain ⟨y313, hy313⟩ : ∃ y_ : List Int, y_ = (y310 ++ l2) := ⟨_, rfl⟩
      replace H : (netlist_values.l0 k y313 l0_3 (l0_3.length : Int) 0) = some r := by first | (rw [hy313]; with_reducible exact H) | (have H2_ := (Option.bind_some _ _).symm.trans H; rw [hy313]; with_reducible exact H2_) | (have H2_ := (Option.bind_some _ _).symm.trans H; with_reducible exact H2_) | with_reducible exact H | (rw [hy313]; exact H) | exact H
      have Ny313 := Aside0.mk hy313
      clear hy313
      have H' := Aside0.mk H
      clear H
      go_enter Try.func63, Try.ntmps63
      go_wp2_with (first | ((with_reducible refine gate_dst (N := 3) rfl ?_); refine box_event ?hg (N := 3) ?hd (cs := #[.slice A0_0 l0_0.length c0_0, .slice A0_1 l0_1.length c0_1, .slice A0_2 l0_2.length c0_2, .slice A0_3 l0_3.length c0_3, .slice A0_4 l0_4.length c0_4]) (t := 27) ?hr ?_; (case hd => rfl); (case hg => rfl); (case hr => first | (go_simp; done) | (go_simp; rfl)); intro gb306 hg w6 hbox hb; have n0_ := Aside0.mk (below_step (by repeat (first | (with_reducible first | exact HB.out | apply below_alloc | apply pw_below_drewN | apply below_drew1) | exact HB.out)) hb); have n1_ := Aside0.mk (hbox); have n2_ := Aside0.mk ((by rw [hg]; exact (below_size (by repeat (first | (with_reducible first | exact HB.out | apply below_alloc | apply pw_below_drewN | apply below_drew1) | exact HB.out))) : w.heap.size ≤ gb306)); have n3_ := Aside0.mk ((by rw [hg]; exact (below_size (by repeat (first | (with_reducible first | exact HB.out | apply below_alloc | apply pw_below_drewN | apply below_drew1) | exact HB.out))) : w.heap.size ≤ gb306)); clear HB; have HB := n0_; have BK306 := n1_; have GW306 := n2_; have GE306 := n3_; clear n0_ n1_ n2_ n3_; clear hb hbox hg) | ((with_reducible refine gate_dst (N := 13) rfl ?_); refine Kd.R_lit (Kd.int .u64) _ 78 ?hg (N := 13) ?hd (xs := ([0, 18446744073709551615] : List Int)) (inner := [.int .u64 0, .int .u64 18446744073709551615]) (ok := fun _ => True) (okp := fun _ => True) ?hr ?hp (fun _ hk => hk) trivial (Below.refl _ _) (Nat.le_refl _) (by simp) ?_; (case hd => rfl); (case hg => rfl); (case hr => first | (go_simp; done) | (go_simp; rfl)); (case hp => exact (Reps.one (show Kd.M (Kd.int .u64) _ _ _ 0 [.int .u64 0] from rfl) (Reps.one (show Kd.M (Kd.int .u64) _ _ _ 18446744073709551615 [.int .u64 18446744073709551615] from rfl) (Reps.none _ _)))); intro v308 w7 ho8 hb hg_ hnew_; clear hg_ hnew_; (first | rw [← Ny307.out] at ho8 | (simp only [Int.reduceToNat] at ho8; rw [← Ny307.out] at ho8)); have n0_ := Aside0.mk (Kd.R_lower ho8 (below_size (by repeat (first | (with_reducible first | exact HB.out | apply below_alloc | apply pw_below_drewN | apply below_drew1 | refine below_set ?_ GE306.out) | exact HB.out)))); have n1_ := Aside0.mk (blk_below (g := gb306) (o := .cells #[.slice A0_0 l0_0.length c0_0, .slice A0_1 l0_1.length c0_1, .slice A0_2 l0_2.length c0_2, .slice A0_3 l0_3.length c0_3, .slice A0_4 l0_4.length c0_4] 27 (0, 0)) (by (with_reducible repeat (first | refine blk_drewN ?_ _ | refine blk_drew ?_ | refine blk_alloc ?_ _)); exact BK306.out) hb); have n2_ := Aside0.mk (below_step (by repeat (first | (with_reducible first | exact HB.out | apply below_alloc | apply pw_below_drewN | apply below_drew1 | refine below_set ?_ GE306.out) | exact HB.out)) hb); clear BK306; clear HB; have HO309 := n0_; have BK306 := n1_; have HB := n2_; clear n0_ n1_ n2_; clear hb ho8) | ((with_reducible refine gate_builtin (b := .append) (xs := #[.tmp 13, .tmp 14]) rfl ?_); at_builtin; refine Kd.R_append_rows (Kd.int .u64) (w0 := w) w.heap.size rfl (.tmp 13) (.tmp 14) 110 78 (.int .u64 0) 8 rfl Try.underlying110 info78 rfl (by decide) (by omega) v308 y307 l1 _ _ _ (fun _ => True) (fun _ => False) rfl rfl ?aO ?aR (fun _ _ h => h) (fun _ h => h.elim) ?aF ?aB ?aS ?aL ?_; (case aR => repeat (first | exact (Kd.C_below HR1.out HB.out) | (with_reducible refine Kd.C_alloc ?_ _) | (with_reducible refine Kd.C_drewN ?_ _) | (with_reducible refine Kd.C_drew ?_))); (case aB => exact (by repeat (first | (with_reducible first | exact HB.out | apply below_alloc | apply pw_below_drewN | apply below_drew1 | refine below_set ?_ GE306.out) | exact HB.out))); (case aF => exact (fun _ _ => trivial)); (case aO => exact (by (with_reducible repeat (first | apply Kd.R_alloc | apply Kd.R_drewN | apply Kd.R_drew)); exact HO309.out)); (case aS => exact (below_size (by repeat (first | (with_reducible first | exact HB.out | apply below_alloc | apply pw_below_drewN | apply below_drew1 | refine below_set ?_ GE306.out) | exact HB.out)))); (case aL => have := LMc4.out; omega); intro v311 w9 ho hb hg hat; rw [← Ny310.out] at ho; have n0_ := Aside0.mk (blk_grown (g := gb306) (o := .cells #[.slice A0_0 l0_0.length c0_0, .slice A0_1 l0_1.length c0_1, .slice A0_2 l0_2.length c0_2, .slice A0_3 l0_3.length c0_3, .slice A0_4 l0_4.length c0_4] 27 (0, 0)) (by (with_reducible repeat (first | refine blk_drewN ?_ _ | refine blk_drew ?_ | refine blk_alloc ?_ _)); exact BK306.out) hg (Kd.R_ne HO309.out BK306.out (by decide))); have n1_ := Aside0.mk (hb); have n2_ := Aside0.mk (ho); clear BK306; clear HB; clear HO309; have BK306 := n0_; have HB := n1_; have HO312 := n2_; clear n0_ n1_ n2_; clear ho hb hg hat) | ((with_reducible refine gate_builtin (b := .append) (xs := #[.tmp 16, .tmp 17]) rfl ?_); at_builtin; refine Kd.R_append_rows (Kd.int .u64) (w0 := w) w.heap.size rfl (.tmp 16) (.tmp 17) 110 78 (.int .u64 0) 8 rfl Try.underlying110 info78 rfl (by decide) (by omega) v311 y310 l2 _ _ _ (fun _ => True) (fun _ => False) rfl rfl ?aO ?aR (fun _ _ h => h) (fun _ h => h.elim) ?aF ?aB ?aS ?aL ?_; (case aR => repeat (first | exact (Kd.C_below HR2.out HB.out) | (with_reducible refine Kd.C_alloc ?_ _) | (with_reducible refine Kd.C_drewN ?_ _) | (with_reducible refine Kd.C_drew ?_))); (case aB => exact (by repeat (first | (with_reducible first | exact HB.out | apply below_alloc | apply pw_below_drewN | apply below_drew1 | refine below_set ?_ GE306.out) | exact HB.out))); (case aF => exact (fun _ _ => trivial)); (case aO => exact (by (with_reducible repeat (first | apply Kd.R_alloc | apply Kd.R_drewN | apply Kd.R_drew)); exact HO312.out)); (case aS => exact (below_size (by repeat (first | (with_reducible first | exact HB.out | apply below_alloc | apply pw_below_drewN | apply below_drew1 | refine below_set ?_ GE306.out) | exact HB.out)))); (case aL => have := LMc5.out; omega); intro v314 w10 ho hb hg hat; rw [← Ny313.out] at ho; have n0_ := Aside0.mk (blk_grown (g := gb306) (o := .cells #[.slice A0_0 l0_0.length c0_0, .slice A0_1 l0_1.length c0_1, .slice A0_2 l0_2.length c0_2, .slice A0_3 l0_3.length c0_3, .slice A0_4 l0_4.length c0_4] 27 (0, 0)) (by (with_reducible repeat (first | refine blk_drewN ?_ _ | refine blk_drew ?_ | refine blk_alloc ?_ _)); exact BK306.out) hg (Kd.R_ne HO312.out BK306.out (by decide))); have n1_ := Aside0.mk (hb); have n2_ := Aside0.mk (ho); clear BK306; clear HB; clear HO312; have BK306 := n0_; have HB := n1_; have HO315 := n2_; clear n0_ n1_ n2_; clear ho hb hg hat; have hcz11_0 : w10.cell? ⟨gb306, 0, none⟩ = some (.slice A0_0 l0_0.length c0_0) := (blk_cell BK306.out 0).trans rfl; have hcz11_1 : w10.cell? ⟨gb306, 1, none⟩ = some (.slice A0_1 l0_1.length c0_1) := (blk_cell BK306.out 1).trans rfl; have hcz11_2 : w10.cell? ⟨gb306, 2, none⟩ = some (.slice A0_2 l0_2.length c0_2) := (blk_cell BK306.out 2).trans rfl; have hcz11_3 : w10.cell? ⟨gb306, 3, none⟩ = some (.slice A0_3 l0_3.length c0_3) := (blk_cell BK306.out 3).trans rfl; have hcz11_4 : w10.cell? ⟨gb306, 4, none⟩ = some (.slice A0_4 l0_4.length c0_4) := (blk_cell BK306.out 4).trans rfl; have hfz11_0 := blk_frozen BK306.out 0; have hfz11_1 := blk_frozen BK306.out 1; have hfz11_2 := blk_frozen BK306.out 2; have hfz11_3 := blk_frozen BK306.out 3; have hfz11_4 := blk_frozen BK306.out 4))
      go_loopg [7, 22] k (fun kq v7 v22 w' => ∃ (x7_1 : List Int) (x22_1 : Int), v22 = .int .i64 x22_1 ∧ Aside0 (netlist_values.l0 kq x7_1 l0_3 (l0_3.length : Int) x22_1 = some r) ∧ Aside0 (kq ≤ k) ∧ Aside0 (Kd.R (Kd.int .u64) 78 w' w.heap.size (fun _ => True) v7 x7_1) ∧ Aside0 (w'.heap[gb306]? = some (.cells #[(.slice A0_0 l0_0.length c0_0), (.slice A0_1 l0_1.length c0_1), (.slice A0_2 l0_2.length c0_2), (.slice A0_3 l0_3.length c0_3), (.slice A0_4 l0_4.length c0_4)] 27 (0, 0))) ∧ Aside0 (Below w.heap.size w w'))
      case atStart => exact ⟨(y313), (0), (by first | rfl | (simp; done) | (simp [*]; done)), H', ⟨Nat.le_refl _⟩, ⟨by (with_reducible repeat (first | apply Kd.R_alloc | apply Kd.R_drewN | apply Kd.R_drew)); exact HO315.out⟩, ⟨by (with_reducible repeat (first | refine blk_drewN ?_ _ | refine blk_drew ?_ | refine blk_alloc ?_ _)); exact BK306.out⟩, ⟨by repeat (first | (with_reducible first | exact HB.out | apply below_alloc | apply pw_below_drewN | apply below_drew1 | refine below_set ?_ GE306.out) | exact HB.out)⟩⟩
      case round =>
        clear H'
        try clear c1
        try clear c2
        try clear p2
        try clear c4
        try clear c5
        try clear c6
        try clear hcz11_0
        try clear hcz11_1
        try clear hcz11_2
        try clear hcz11_3
        try clear hcz11_4
        try clear hfz11_0
        try clear hfz11_1
        try clear hfz11_2
        try clear hfz11_3
        try clear hfz11_4
        obtain ⟨x7_1, x22_1, rfl, HA, HK1, HO_7, BK306, HB⟩ := hrel
        cases gk with
        | zero => exact absurd HA.out (by simp [netlist_values.l0])
        | succ k1 =>
          have H := HA.out
          clear HA
          simp only [netlist_values.l0] at H
          by_cases c12 : x22_1 < (l0_3.length : Int)
          · rw [if_pos c12] at H
            have c12b0 : decide (x22_1 < (l0_3.length : Int)) = true := decide_eq_true c12
            clear c12
            by_cases c13 : 0 ≤ x22_1
            · rw [if_pos c13] at H
              have c13b0 : decide (0 ≤ x22_1) = true := decide_eq_true c13
              clear c13
              by_cases c14 : x22_1 < (l0_3.length : Int)
              · rw [if_pos c14] at H
                have c14b0 : decide (x22_1 < (l0_3.length : Int)) = true := decide_eq_true c14
                clear c14
                have H' := Aside0.mk H
                clear H
                have p316 : 0 ≤ (x22_1 : Int) := of_decide_eq_true (by first | (with_reducible assumption) | assumption)
                have q316 : x22_1 < (l0_3.length : Int) := of_decide_eq_true (by first | (with_reducible assumption) | assumption)
                obtain ⟨ad316, A316_2, c316_2, e316, hx316_0, hx316_1, hx316_2, hl316_2, hi316_2⟩ := at_T80 HR0_3.out x22_1 p316 q316
                cases e316
                replace hx316_0 := (HB.out.cell (World.block_lt_of_cell? w _ hx316_0)).trans hx316_0
                replace hx316_1 := (HB.out.cell (World.block_lt_of_cell? w _ hx316_1)).trans hx316_1
                replace hx316_2 := (HB.out.cell (World.block_lt_of_cell? w _ hx316_2)).trans hx316_2
                have HR316_2 := Aside0.mk hi316_2
                have HC316_2 := Aside0.mk hl316_2
                clear hi316_2 hl316_2
                replace p316 := eq_true p316
                replace q316 := eq_true q316
                go_wp2_with (first | ((with_reducible refine gate_dst (N := 9) rfl ?_); refine box_event ?hg (N := 9) ?hd (cs := #[.int .i64 0, .int .u64 0, .slice none 0 0]) (t := 80) ?hr ?_; (case hd => rfl); (case hg => rfl); (case hr => first | (go_simp; done) | (go_simp; rfl)); intro gb317 hg w15 hbox hb; have n0_ := Aside0.mk (Kd.R_below (by (with_reducible repeat (first | apply Kd.R_alloc | apply Kd.R_drewN | apply Kd.R_drew)); exact HO_7.out) hb); have n1_ := Aside0.mk (blk_below (g := gb306) (o := .cells #[.slice A0_0 l0_0.length c0_0, .slice A0_1 l0_1.length c0_1, .slice A0_2 l0_2.length c0_2, .slice (some ad316) l0_3.length c0_3, .slice A0_4 l0_4.length c0_4] 27 (0, 0)) (by (with_reducible repeat (first | refine blk_drewN ?_ _ | refine blk_drew ?_ | refine blk_alloc ?_ _)); exact BK306.out) hb); have n2_ := Aside0.mk (below_step (by repeat (first | (with_reducible first | exact HB.out | apply below_alloc | apply pw_below_drewN | apply below_drew1 | refine below_set ?_ GE306.out) | exact HB.out)) hb); have n3_ := Aside0.mk (hbox); have n4_ := Aside0.mk ((by rw [hg]; exact (below_size (by repeat (first | (with_reducible first | exact HB.out | apply below_alloc | apply pw_below_drewN | apply below_drew1 | refine below_set ?_ GE306.out) | exact HB.out))) : w.heap.size ≤ gb317)); have n5_ := Aside0.mk ((by rw [hg]; exact (below_size (by repeat (first | (with_reducible first | exact HB.out | apply below_alloc | apply pw_below_drewN | apply below_drew1 | refine below_set ?_ GE306.out) | exact HB.out))) : w.heap.size ≤ gb317)); have n6_ := Aside0.mk ((by rw [hg]; exact Nat.ne_of_lt (blk_lt (g := gb306) (o := .cells #[.slice A0_0 l0_0.length c0_0, .slice A0_1 l0_1.length c0_1, .slice A0_2 l0_2.length c0_2, .slice (some ad316) l0_3.length c0_3, .slice A0_4 l0_4.length c0_4] 27 (0, 0)) (by (with_reducible repeat (first | refine blk_drewN ?_ _ | refine blk_drew ?_ | refine blk_alloc ?_ _)); exact BK306.out)) : gb306 ≠ gb317)); have n7_ := Aside0.mk ((by rw [hg]; exact Nat.ne_of_gt (blk_lt (g := gb306) (o := .cells #[.slice A0_0 l0_0.length c0_0, .slice A0_1 l0_1.length c0_1, .slice A0_2 l0_2.length c0_2, .slice (some ad316) l0_3.length c0_3, .slice A0_4 l0_4.length c0_4] 27 (0, 0)) (by (with_reducible repeat (first | refine blk_drewN ?_ _ | refine blk_drew ?_ | refine blk_alloc ?_ _)); exact BK306.out)) : gb317 ≠ gb306)); clear HO_7; clear BK306; clear HB; have HO_7 := n0_; have BK306 := n1_; have HB := n2_; have BK317 := n3_; have GW317 := n4_; have GE317 := n5_; have NB306_317 := n6_; have NB317_306 := n7_; clear n0_ n1_ n2_ n3_ n4_ n5_ n6_ n7_; clear hb hbox hg; have hnb16 := NB317_306.out; have hnc16 := NB306_317.out; have hcz17_0 : w15.cell? ⟨gb317, 0, none⟩ = some (.int .i64 0) := (blk_cell BK317.out 0).trans rfl; have hcz17_1 : w15.cell? ⟨gb317, 1, none⟩ = some (.int .u64 0) := (blk_cell BK317.out 1).trans rfl; have hcz17_2 : w15.cell? ⟨gb317, 2, none⟩ = some (.slice none 0 0) := (blk_cell BK317.out 2).trans rfl; have hfz17_0 := blk_frozen BK317.out 0; have hfz17_1 := blk_frozen BK317.out 1; have hfz17_2 := blk_frozen BK317.out 2))
                go_loopg [10, 29] k1 (fun kq v10 v29 w' => ∃ (x10_2 : List Int) (x29_2 : Int), v29 = .int .i64 x29_2 ∧ Aside0 (netlist_values.l1 kq x7_1 x10_2 l0_3 (l0_3.length : Int) x22_1 ((rd_T80 l0_3 x22_1).f2) (((rd_T80 l0_3 x22_1).f2).length : Int) x29_2 ((rd_T80 l0_3 x22_1).f0) ((rd_T80 l0_3 x22_1).f1) ((rd_T80 l0_3 x22_1).f2) = some r) ∧ Aside0 (kq ≤ k1) ∧ Aside0 (Kd.R (Kd.int .u64) 78 w' w.heap.size (fun k_ => some k_ ≠ (v10 : Value).ownBlock) u7 x7_1) ∧ Aside0 (Kd.R (Kd.int .u64) 78 w' w.heap.size (fun k_ => some k_ ≠ (u7 : Value).ownBlock) v10 x10_2) ∧ Aside0 (w'.heap[gb306]? = some (.cells #[(.slice A0_0 l0_0.length c0_0), (.slice A0_1 l0_1.length c0_1), (.slice A0_2 l0_2.length c0_2), (.slice (some ad316) l0_3.length c0_3), (.slice A0_4 l0_4.length c0_4)] 27 (0, 0))) ∧ Aside0 (w'.heap[gb317]? = some (.cells #[.int .i64 ((rd_T80 l0_3 x22_1).f0), .int .u64 ((rd_T80 l0_3 x22_1).f1), (.slice A316_2 ((rd_T80 l0_3 x22_1).f2).length c316_2)] 80 (0, 0))) ∧ Aside0 (Below w.heap.size w w'))
                case atStart => exact ⟨(([] : List Int)), (0), (by first | rfl | (simp; done) | (simp [*]; done)), H', ⟨Nat.le_refl _⟩, ⟨by (with_reducible repeat (first | apply Kd.R_alloc | apply Kd.R_drewN | apply Kd.R_drew)); exact Kd.R_mono (Kd.R_far (p := ⟨gb317, 2, none⟩) (Kd.R_far (p := ⟨gb317, 1, none⟩) (Kd.R_far (p := ⟨gb317, 0, none⟩) (Kd.R_types HO_7.out BK317.out (by decide)) (fun _ hk => hk.2) (.int .i64 ((rd_T80 l0_3 x22_1).f0))) (fun _ hk => hk.2) (.int .u64 ((rd_T80 l0_3 x22_1).f1))) (fun _ hk => hk.2) (.slice A316_2 ((rd_T80 l0_3 x22_1).f2).length c316_2)) (fun _ hk => (by simp [Value.ownBlock]))⟩, ⟨by first | exact Kd.R_nil _ _ _ _ _ | exact Kd.N_nil _ _ _ _ _ | exact Kd.V_nil _ _ _ _ _ | exact Kd.Q_nil _ _ _ _ _ | exact Kd.S_nil _ _ _ _ _⟩, ⟨by (with_reducible repeat (first | refine blk_drewN ?_ _ | refine blk_drew ?_ | refine blk_alloc ?_ _)); refine blk_far ?_ NB306_317.out _; (with_reducible repeat (first | refine blk_drewN ?_ _ | refine blk_drew ?_ | refine blk_alloc ?_ _)); refine blk_far ?_ NB306_317.out _; (with_reducible repeat (first | refine blk_drewN ?_ _ | refine blk_drew ?_ | refine blk_alloc ?_ _)); refine blk_far ?_ NB306_317.out _; (with_reducible repeat (first | refine blk_drewN ?_ _ | refine blk_drew ?_ | refine blk_alloc ?_ _)); exact BK306.out⟩, ⟨by (with_reducible repeat (first | refine blk_drewN ?_ _ | refine blk_drew ?_ | refine blk_alloc ?_ _)); refine blk_put (cs := #[.int .i64 ((rd_T80 l0_3 x22_1).f0), .int .u64 ((rd_T80 l0_3 x22_1).f1), .slice none 0 0]) ?_ 2 _ rfl; (with_reducible repeat (first | refine blk_drewN ?_ _ | refine blk_drew ?_ | refine blk_alloc ?_ _)); refine blk_put (cs := #[.int .i64 ((rd_T80 l0_3 x22_1).f0), .int .u64 0, .slice none 0 0]) ?_ 1 _ rfl; (with_reducible repeat (first | refine blk_drewN ?_ _ | refine blk_drew ?_ | refine blk_alloc ?_ _)); refine blk_put (cs := #[.int .i64 0, .int .u64 0, .slice none 0 0]) ?_ 0 _ rfl; (with_reducible repeat (first | refine blk_drewN ?_ _ | refine blk_drew ?_ | refine blk_alloc ?_ _)); exact BK317.out⟩, ⟨by repeat (first | (with_reducible first | exact HB.out | apply below_alloc | apply pw_below_drewN | apply below_drew1 | refine below_set ?_ GE306.out | refine below_set ?_ GE317.out) | exact HB.out)⟩⟩
                case round =>
                  clear H'
                  try clear c1
                  try clear c2
                  try clear p2
                  try clear c3
                  try clear p3
                  try clear q3
                  try clear hx3
                  try clear c4
                  try clear c5
                  try clear c6
                  try clear c12
                  try clear c12b0
                  try clear c13
                  try clear c13b0
                  try clear c14
                  try clear c14b0
                  try clear c16
                  try clear hcz11_0
                  try clear hcz11_1
                  try clear hcz11_2
                  try clear hcz11_3
                  try clear hcz11_4
                  try clear hcz17_0
                  try clear hcz17_1
                  try clear hcz17_2
                  try clear hfz11_0
                  try clear hfz11_1
                  try clear hfz11_2
                  try clear hfz11_3
                  try clear hfz11_4
                  try clear hfz17_0
                  try clear hfz17_1
                  try clear hfz17_2
                  try clear hx316_0
                  try clear hx316_1
                  try clear hx316_2
                  try clear p2
                  try clear p316
                  try clear q316
                  obtain ⟨x10_2, x29_2, rfl, HA, HK2, HO_7, HO_10, BK306, BK317, HB⟩ := hrel
                  cases gk with
                  | zero => exact absurd HA.out (by simp [netlist_values.l1])
                  | succ k2 =>
                    have H := HA.out
                    clear HA
                    simp only [netlist_values.l1] at H
                    by_cases c18 : x29_2 < (((rd_T80 l0_3 x22_1).f2).length : Int)
                    · rw [if_pos c18] at H
                      have c18b0 : decide (x29_2 < (((rd_T80 l0_3 x22_1).f2).length : Int)) = true := decide_eq_true c18
                      clear c18
                      by_cases c19 : 0 ≤ x29_2
                      · rw [if_pos c19] at H
                        have c19b0 : decide (0 ≤ x29_2) = true := decide_eq_true c19
                        clear c19
                        by_cases c20 : x29_2 < (((rd_T80 l0_3 x22_1).f2).length : Int)
                        · rw [if_pos c20] at H
                          have c20b0 : decide (x29_2 < (((rd_T80 l0_3 x22_1).f2).length : Int)) = true := decide_eq_true c20
                          clear c20
                          by_cases c21 : 0 ≤ (rd ((rd_T80 l0_3 x22_1).f2) x29_2)
                          · rw [if_pos c21] at H
                            have c21b0 : decide (0 ≤ (rd ((rd_T80 l0_3 x22_1).f2) x29_2)) = true := decide_eq_true c21
                            clear c21
                            by_cases c22 : (rd ((rd_T80 l0_3 x22_1).f2) x29_2) < (x7_1.length : Int)
                            · rw [if_pos c22] at H
                              have c22b0 : decide ((rd ((rd_T80 l0_3 x22_1).f2) x29_2) < (x7_1.length : Int)) = true := decide_eq_true c22
                              clear c22
                              by_cases c23 : x10_2.length < 17592186044416
                              · rw [if_pos c23] at H
                                have LMc23 := Aside0.mk c23
                                clear c23
                                obtain ⟨y320, hy320⟩ : ∃ y_ : List Int, y_ = (x10_2 ++ [rd x7_1 (rd ((rd_T80 l0_3 x22_1).f2) x29_2)]) := ⟨_, rfl⟩
                                replace H : (netlist_values.l1 k2 x7_1 y320 l0_3 (l0_3.length : Int) x22_1 ((rd_T80 l0_3 x22_1).f2) (((rd_T80 l0_3 x22_1).f2).length : Int) (wrap64 (x29_2 + 1)) ((rd_T80 l0_3 x22_1).f0) ((rd_T80 l0_3 x22_1).f1) ((rd_T80 l0_3 x22_1).f2)) = some r := by first | (rw [hy320]; with_reducible exact H) | (have H2_ := (Option.bind_some _ _).symm.trans H; rw [hy320]; with_reducible exact H2_) | (have H2_ := (Option.bind_some _ _).symm.trans H; with_reducible exact H2_) | with_reducible exact H | (rw [hy320]; exact H) | exact H
                                have Ny320 := Aside0.mk hy320
                                clear hy320
                                have H' := Aside0.mk H
                                clear H
                                have p318 : 0 ≤ (x29_2 : Int) := of_decide_eq_true (by first | (with_reducible assumption) | assumption)
                                have q318 : x29_2 < (((rd_T80 l0_3 x22_1).f2).length : Int) := of_decide_eq_true (by first | (with_reducible assumption) | assumption)
                                obtain ⟨ad318, e318, hx318_0⟩ := Kd.at_int HR316_2.out x29_2 p318 q318
                                cases e318
                                replace hx318_0 := (HB.out.cell (World.block_lt_of_cell? w _ hx318_0)).trans hx318_0
                                replace p318 := eq_true p318
                                replace q318 := eq_true q318
                                obtain ⟨Ao24, co24, eo24⟩ := Kd.R_slice HO_7.out
                                subst eo24
                                have p319 : 0 ≤ ((rd ((rd_T80 l0_3 x22_1).f2) x29_2) : Int) := of_decide_eq_true (by first | (with_reducible assumption) | assumption)
                                have q319 : (rd ((rd_T80 l0_3 x22_1).f2) x29_2) < (x7_1.length : Int) := of_decide_eq_true (by first | (with_reducible assumption) | assumption)
                                obtain ⟨ad319, e319, hx319_0⟩ := Kd.at_int (Kd.R_reads' HO_7.out).2.2 (rd ((rd_T80 l0_3 x22_1).f2) x29_2) p319 q319
                                cases e319
                                replace p319 := eq_true p319
                                replace q319 := eq_true q319
                                go_wp2_with (first | ((with_reducible refine gate_builtin (b := .append) (xs := #[.tmp 33, .tmp 38]) rfl ?_); at_builtin; refine Kd.R_append (Kd.int .u64) (w0 := w) w.heap.size rfl (.tmp 33) (.tmp 38) 110 78 (.int .u64 0) 8 rfl Try.underlying110 info78 rfl (by decide) (by omega) u10 x10_2 (rd x7_1 (rd ((rd_T80 l0_3 x22_1).f2) x29_2)) [.int .u64 (rd x7_1 (rd ((rd_T80 l0_3 x22_1).f2) x29_2))] (fun k_ => some k_ ≠ (.slice (some ad319) x7_1.length co24 : Value).ownBlock) (fun _ => False) rfl rfl ?aP (fun _ hk => hk.elim) ?aF ?aO ?aB ?aS ?aL ?_; (case aP => exact rfl); (case aB => exact (by repeat (first | (with_reducible first | exact HB.out | apply below_alloc | apply pw_below_drewN | apply below_drew1 | refine below_set ?_ GE306.out | refine below_set ?_ GE317.out) | exact HB.out))); (case aF => exact (fun k_ hk => Kd.fresh' (Kd.R_lt (by (with_reducible repeat (first | apply Kd.R_alloc | apply Kd.R_drewN | apply Kd.R_drew)); exact HO_7.out)) k_ hk)); (case aO => exact (by (with_reducible repeat (first | apply Kd.R_alloc | apply Kd.R_drewN | apply Kd.R_drew)); exact HO_10.out)); (case aS => exact (below_size (by repeat (first | (with_reducible first | exact HB.out | apply below_alloc | apply pw_below_drewN | apply below_drew1 | refine below_set ?_ GE306.out | refine below_set ?_ GE317.out) | exact HB.out)))); (case aL => have := LMc23.out; omega); intro v321 w25 ho hb hg hat; rw [← Ny320.out] at ho; have n0_ := Aside0.mk (Kd.R_after (ok := (fun _ => True)) (by (with_reducible repeat (first | apply Kd.R_alloc | apply Kd.R_drewN | apply Kd.R_drew)); exact Kd.R_mono HO_7.out (fun _ hk => ⟨trivial, hk⟩)) hg hat); have n1_ := Aside0.mk (blk_grown (g := gb306) (o := .cells #[.slice A0_0 l0_0.length c0_0, .slice A0_1 l0_1.length c0_1, .slice A0_2 l0_2.length c0_2, .slice (some ad316) l0_3.length c0_3, .slice A0_4 l0_4.length c0_4] 27 (0, 0)) (by (with_reducible repeat (first | refine blk_drewN ?_ _ | refine blk_drew ?_ | refine blk_alloc ?_ _)); exact BK306.out) hg (Kd.R_ne HO_10.out BK306.out (by decide))); have n2_ := Aside0.mk (blk_grown (g := gb317) (o := .cells #[.int .i64 ((rd_T80 l0_3 x22_1).f0), .int .u64 ((rd_T80 l0_3 x22_1).f1), .slice (some ad318) ((rd_T80 l0_3 x22_1).f2).length c316_2] 80 (0, 0)) (by (with_reducible repeat (first | refine blk_drewN ?_ _ | refine blk_drew ?_ | refine blk_alloc ?_ _)); exact BK317.out) hg (Kd.R_ne HO_10.out BK317.out (by decide))); have n3_ := Aside0.mk (hb); have n4_ := Aside0.mk (ho); clear HO_7; clear BK306; clear BK317; clear HB; clear HO_10; have HO_7 := n0_; have BK306 := n1_; have BK317 := n2_; have HB := n3_; have HO322 := n4_; clear n0_ n1_ n2_ n3_ n4_; clear ho hb hg hat))
                                go_roundg k2
                                case measure => have := HK1.out; have := HK2.out; omega
                                case rel => exact ⟨(y320), (wrap64 (x29_2 + 1)), (by first | rfl | (simp; done) | (simp [*]; done)), H', ⟨by have := HK1.out; have := HK2.out; omega⟩, ⟨by (with_reducible repeat (first | apply Kd.R_alloc | apply Kd.R_drewN | apply Kd.R_drew)); exact Kd.R_mono HO_7.out (fun _ hk => hk.2)⟩, ⟨by (with_reducible repeat (first | apply Kd.R_alloc | apply Kd.R_drewN | apply Kd.R_drew)); exact HO322.out⟩, ⟨by (with_reducible repeat (first | refine blk_drewN ?_ _ | refine blk_drew ?_ | refine blk_alloc ?_ _)); exact BK306.out⟩, ⟨by (with_reducible repeat (first | refine blk_drewN ?_ _ | refine blk_drew ?_ | refine blk_alloc ?_ _)); exact BK317.out⟩, ⟨by repeat (first | (with_reducible first | exact HB.out | apply below_alloc | apply pw_below_drewN | apply below_drew1 | refine below_set ?_ GE306.out | refine below_set ?_ GE317.out) | exact HB.out)⟩⟩
                              · rw [if_neg c23] at H
                                exact absurd H (by simp)
                            · rw [if_neg c22] at H
                              exact absurd H (by simp)
                          · rw [if_neg c21] at H
                            exact absurd H (by simp)
                        · rw [if_neg c20] at H
                          exact absurd H (by simp)
                      · rw [if_neg c19] at H
                        exact absurd H (by simp)
                    · rw [if_neg c18] at H
                      have c18b0 : decide (x29_2 < (((rd_T80 l0_3 x22_1).f2).length : Int)) = false := decide_eq_false c18
                      clear c18
                      replace H := Option.bind_eq_some_iff.mp H
                      obtain ⟨t323, A260, H⟩ := H
                      replace H : (if x7_1.length < 17592186044416 then (netlist_values.l0 k2 (x7_1 ++ [t323]) l0_3 (l0_3.length : Int) (wrap64 (x22_1 + 1))) else (none)) = some r := H
                      have A26 := Aside0.mk A260
                      clear A260
                      by_cases c27 : x7_1.length < 17592186044416
                      · rw [if_pos c27] at H
                        have LMc27 := Aside0.mk c27
                        clear c27
                        obtain ⟨y324, hy324⟩ : ∃ y_ : List Int, y_ = (x7_1 ++ [t323]) := ⟨_, rfl⟩
                        replace H : (netlist_values.l0 k2 y324 l0_3 (l0_3.length : Int) (wrap64 (x22_1 + 1))) = some r := by first | (rw [hy324]; with_reducible exact H) | (have H2_ := (Option.bind_some _ _).symm.trans H; rw [hy324]; with_reducible exact H2_) | (have H2_ := (Option.bind_some _ _).symm.trans H; with_reducible exact H2_) | with_reducible exact H | (rw [hy324]; exact H) | exact H
                        have Ny324 := Aside0.mk hy324
                        clear hy324
                        have H' := Aside0.mk H
                        clear H
                        have hnb28 := NB317_306.out
                        have hnc28 := NB306_317.out
                        have hcz29_0 : wr.cell? ⟨gb317, 0, none⟩ = some (.int .i64 ((rd_T80 l0_3 x22_1).f0)) := (blk_cell BK317.out 0).trans rfl
                        have hcz29_1 : wr.cell? ⟨gb317, 1, none⟩ = some (.int .u64 ((rd_T80 l0_3 x22_1).f1)) := (blk_cell BK317.out 1).trans rfl
                        have hcz29_2 : wr.cell? ⟨gb317, 2, none⟩ = some (.slice A316_2 ((rd_T80 l0_3 x22_1).f2).length c316_2) := (blk_cell BK317.out 2).trans rfl
                        have hfz29_0 := blk_frozen BK317.out 0
                        have hfz29_1 := blk_frozen BK317.out 1
                        have hfz29_2 := blk_frozen BK317.out 2
                        obtain ⟨Ao30, co30, eo30⟩ := Kd.R_slice HO_10.out
                        subst eo30
                        go_wp2_with (first | ((with_reducible refine gate_callee (f := 64) rfl ?_); refine goesL_ (some 45) rfl rfl Try.func64 (by kernel_rfl) rfl #[.int .u64 ((rd_T80 l0_3 x22_1).f1), .slice Ao30 x10_2.length co30] rfl (by (try simp only [List.map_toArray, List.map_cons, List.map_nil]); first | done | rfl | (simp only [List.length_drop, List.length_take]; rfl)) ?_; (with_reducible refine (netlist_look.calls k2 ((rd_T80 l0_3 x22_1).f1) _ _ x10_2 t323 _ ?side1 ?side2 A26.out).mono ?_); (case side1 => repeat (first | exact (Kd.R_reads' HO_10.out).2.2 | (with_reducible refine Kd.C_alloc ?_ _) | (with_reducible refine Kd.C_drewN ?_ _) | (with_reducible refine Kd.C_drew ?_))); (case side2 => exact (Kd.R_reads' HO_10.out).2.1); rintro e w' ⟨rfl, ⟨nd, rfl⟩⟩; refine ⟨_, rfl, ?_⟩) | ((with_reducible refine gate_builtin (b := .append) (xs := #[.tmp 41, .tmp 46]) rfl ?_); at_builtin; refine Kd.R_append (Kd.int .u64) (w0 := w) w.heap.size rfl (.tmp 41) (.tmp 46) 110 78 (.int .u64 0) 8 rfl Try.underlying110 info78 rfl (by decide) (by omega) u7 x7_1 t323 [.int .u64 t323] (fun k_ => some k_ ≠ (.slice Ao30 x10_2.length co30 : Value).ownBlock) (fun _ => False) rfl rfl ?aP (fun _ hk => hk.elim) ?aF ?aO ?aB ?aS ?aL ?_; (case aP => exact rfl); (case aB => exact (by repeat (first | (with_reducible first | exact HB.out | apply below_alloc | apply pw_below_drewN | apply below_drew1 | refine below_set ?_ GE306.out | refine below_set ?_ GE317.out) | exact HB.out))); (case aF => exact (fun k_ hk => Kd.fresh' (Kd.R_lt (by (with_reducible repeat (first | apply Kd.R_alloc | apply Kd.R_drewN | apply Kd.R_drew)); exact HO_10.out)) k_ hk)); (case aO => exact (by (with_reducible repeat (first | apply Kd.R_alloc | apply Kd.R_drewN | apply Kd.R_drew)); exact HO_7.out)); (case aS => exact (below_size (by repeat (first | (with_reducible first | exact HB.out | apply below_alloc | apply pw_below_drewN | apply below_drew1 | refine below_set ?_ GE306.out | refine below_set ?_ GE317.out) | exact HB.out)))); (case aL => have := LMc27.out; omega); intro v325 w31 ho hb hg hat; rw [← Ny324.out] at ho; have n0_ := Aside0.mk (Kd.R_after (ok := (fun _ => True)) (by (with_reducible repeat (first | apply Kd.R_alloc | apply Kd.R_drewN | apply Kd.R_drew)); exact Kd.R_mono HO_10.out (fun _ hk => ⟨trivial, hk⟩)) hg hat); have n1_ := Aside0.mk (blk_grown (g := gb306) (o := .cells #[.slice A0_0 l0_0.length c0_0, .slice A0_1 l0_1.length c0_1, .slice A0_2 l0_2.length c0_2, .slice (some ad316) l0_3.length c0_3, .slice A0_4 l0_4.length c0_4] 27 (0, 0)) (by (with_reducible repeat (first | refine blk_drewN ?_ _ | refine blk_drew ?_ | refine blk_alloc ?_ _)); exact BK306.out) hg (Kd.R_ne HO_7.out BK306.out (by decide))); have n2_ := Aside0.mk (blk_grown (g := gb317) (o := .cells #[.int .i64 ((rd_T80 l0_3 x22_1).f0), .int .u64 ((rd_T80 l0_3 x22_1).f1), .slice A316_2 ((rd_T80 l0_3 x22_1).f2).length c316_2] 80 (0, 0)) (by (with_reducible repeat (first | refine blk_drewN ?_ _ | refine blk_drew ?_ | refine blk_alloc ?_ _)); exact BK317.out) hg (Kd.R_ne HO_7.out BK317.out (by decide))); have n3_ := Aside0.mk (hb); have n4_ := Aside0.mk (ho); clear HO_10; clear BK306; clear BK317; clear HB; clear HO_7; have HO_10 := n0_; have BK306 := n1_; have BK317 := n2_; have HB := n3_; have HO326 := n4_; clear n0_ n1_ n2_ n3_ n4_; clear ho hb hg hat))
                        go_roundg k2
                        case measure => have := HK1.out; have := HK2.out; omega
                        case rel => exact ⟨(y324), (wrap64 (x22_1 + 1)), (by first | rfl | (simp; done) | (simp [*]; done)), H', ⟨by have := HK1.out; have := HK2.out; omega⟩, ⟨by (with_reducible repeat (first | apply Kd.R_alloc | apply Kd.R_drewN | apply Kd.R_drew)); exact Kd.R_mono HO326.out (fun _ hk => trivial)⟩, ⟨by (with_reducible repeat (first | refine blk_drewN ?_ _ | refine blk_drew ?_ | refine blk_alloc ?_ _)); exact BK306.out⟩, ⟨by repeat (first | (with_reducible first | exact HB.out | apply below_alloc | apply pw_below_drewN | apply below_drew1 | refine below_set ?_ GE306.out | refine below_set ?_ GE317.out) | exact HB.out)⟩⟩
                      · rw [if_neg c27] at H
                        exact absurd H (by simp)
              · rw [if_neg c14] at H
                exact absurd H (by simp)
            · rw [if_neg c13] at H
              exact absurd H (by simp)
          · rw [if_neg c12] at H
            have c12b0 : decide (x22_1 < (l0_3.length : Int)) = false := decide_eq_false c12
            clear c12
            obtain rfl := Option.some.inj H
            go_wp2
            go_ret
            exact ⟨_, by first | rfl | (simp [errW_none, errW_some] <;> rfl) | (simp [*, errW_none, errW_some] <;> rfl), by (with_reducible repeat (first | apply Kd.R_alloc | apply Kd.R_drewN | apply Kd.R_drew)); exact HO_7.out, by repeat (first | (with_reducible first | exact HB.out | apply below_alloc | apply pw_below_drewN | apply below_drew1 | refine below_set ?_ GE306.out) | exact HB.out)⟩
    · rw [if_neg c5] at H
      exact absurd H (by simp)
  · rw [if_neg c4] at H
    exact absurd H (by simp)
end Go.Proofs.Ytimjccfpobhpeaa.PF
