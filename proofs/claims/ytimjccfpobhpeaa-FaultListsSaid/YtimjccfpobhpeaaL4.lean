/- Joined by this session's own program out of its texts: ListQ PFx26 Fixed Inject2 PlP PFx16 PFx12 PFx17 NumP InjP Lead ListR. -/
import Derived.Test.YtimjccfpobhpeaaL3
import Derived.Test.YtimjccfpobhpeaaL1
import Derived.Test.YtimjccfpobhpeaaL2
import Derived.Test.YtimjccfpobhpeaaProg
import Derived.DeepKeys4
import Derived.KernelRfl
namespace Go.Proofs.Ytimjccfpobhpeaa
open Go.RowKit Go.Proofs.YtimjccfpobhpeaaW.PrintWords Go.Proofs.Ytimjccfpobhpeaa.PF
set_option linter.unusedVariables false
theorem mem_pairF {net i : Int} {f : FaultS} (h : f ∈ pairF net i) : f.f0 = net ∧ f.f1 = i := by
  unfold pairF at h
  simp only [List.mem_cons, List.not_mem_nil, or_false] at h
  rcases h with rfl | rfl <;> exact ⟨rfl, rfl⟩
theorem mem_bodyF {net : Int} {k s : Nat} {f : FaultS} (h : f ∈ bodyF net k s) : f.f0 = net ∧ f.f1 = (s : Int) - 1 ∧ 0 < k := by
  unfold bodyF at h
  split at h
  · rename_i c
    exact ⟨(mem_pairF h).1, (mem_pairF h).2, c.1⟩
  · cases h
theorem mem_netF {net : Int} {k : Nat} {f : FaultS} (h : f ∈ netF net k) : f.f0 = net ∧ -1 ≤ f.f1 ∧ f.f1 < k ∧ 0 < k := by
  obtain ⟨s, hs, hf⟩ := List.mem_flatMap.1 h
  obtain ⟨h1, h2, h3⟩ := mem_bodyF hf
  have hs2 : s < k + 1 := by
    have := List.mem_range'_1.1 hs
    omega
  exact ⟨h1, by omega, by omega, h3⟩
theorem mem_listFrom : ∀ {rs : List (List Load)} {n : Nat} {f : FaultS}, f ∈ listFrom rs n → ∃ m r, n ≤ m ∧ rs[m - n]? = some r ∧ f ∈ netF m r.length
  | [], n, f, h => by cases h
  | r :: rs, n, f, h => by
    rcases List.mem_append.1 h with h | h
    · exact ⟨n, r, Nat.le_refl _, by rw [Nat.sub_self]; rfl, h⟩
    · obtain ⟨m, x, h1, h2, h3⟩ := mem_listFrom h
      refine ⟨m, x, by omega, ?_, h3⟩
      rw [show m - n = (m - (n + 1)) + 1 by omega]
      exact h2
theorem listFrom_ge {rs : List (List Load)} {n : Nat} {f : FaultS} (h : f ∈ listFrom rs n) : (n : Int) ≤ f.f0 := by
  obtain ⟨m, r, h1, _, h3⟩ := mem_listFrom h
  have := (mem_netF h3).1
  omega
theorem bodies_nodup (net : Int) (k : Nat) : ∀ (d s : Nat), ((List.range' s d).flatMap (bodyF net k)).Nodup
  | 0, s => by simp
  | d + 1, s => by
    rw [List.range'_succ, List.flatMap_cons, List.nodup_append]
    refine ⟨?_, bodies_nodup net k d (s + 1), fun a ha b hb e => ?_⟩
    · unfold bodyF pairF
      split
      · simp
      · exact List.nodup_nil
    · subst e
      obtain ⟨t, ht, hb⟩ := List.mem_flatMap.1 hb
      have h1 := (mem_bodyF ha).2.1
      have h2 := (mem_bodyF hb).2.1
      have := List.mem_range'_1.1 ht
      omega
theorem listFrom_nodup : ∀ (rs : List (List Load)) (n : Nat), (listFrom rs n).Nodup
  | [], n => List.nodup_nil
  | r :: rs, n => by
    rw [listFrom, List.nodup_append]
    refine ⟨bodies_nodup _ _ _ _, listFrom_nodup rs (n + 1), fun a ha b hb e => ?_⟩
    subst e
    have h1 := (mem_netF ha).1
    have h2 := listFrom_ge hb
    omega
theorem listFrom_sorted : ∀ (rs : List (List Load)) (n : Nat), (listFrom rs n).Pairwise fun a b => a.f0 ≤ b.f0
  | [], n => List.Pairwise.nil
  | r :: rs, n => by
    rw [listFrom, List.pairwise_append]
    refine ⟨?_, listFrom_sorted rs (n + 1), fun a ha b hb => ?_⟩
    · exact List.Pairwise.imp_of_mem (R := fun _ _ => True) (fun ha hb _ => by rw [(mem_netF ha).1, (mem_netF hb).1]; exact Int.le_refl _) (List.pairwise_of_forall fun _ _ => trivial)
    · have h1 := (mem_netF ha).1
      have h2 := listFrom_ge hb
      omega
theorem sorted_lt {l : List FaultS} (h : l.Pairwise fun a b => a.f0 ≤ b.f0) {i k : Nat} {x y : FaultS} (hi : l[i]? = some x) (hk : l[k]? = some y) (hlt : x.f0 < y.f0) : i < k := by
  rcases Nat.lt_or_ge i k with c | c
  · exact c
  · rcases Nat.eq_or_lt_of_le c with e | c
    · subst e
      rw [hi] at hk
      injection hk with e
      subst e
      omega
    · obtain ⟨a1, a2⟩ := List.getElem?_eq_some_iff.1 hi
      obtain ⟨b1, b2⟩ := List.getElem?_eq_some_iff.1 hk
      have := List.pairwise_iff_getElem.1 h k i b1 a1 c
      rw [a2, b2] at this
      omega
end Go.Proofs.Ytimjccfpobhpeaa
namespace Go.Proofs.Ytimjccfpobhpeaa.PF
open Go.RowKit Go.Proofs.YtimjccfpobhpeaaW.PrintWords Go.Proofs.YtimjccfpobhpeaaW.PrintLast Go.Proofs.YtimjccfpobhpeaaW.PrintMore
set_option linter.unusedVariables false
set_option linter.unusedSimpArgs false
mutual
def fault_fixed.l0 : Nat → Int → Bool → Bool → Bool → Int → Int → Int → Int → List Int → Option (Int)
  | 0, _, _, _, _, _, _, _, _, _ => none
  | k + 1, x1, x2, x7, x8, x13, x14, x275000, x275001, x275002 => if x14 < x13 then (if 0 ≤ x1 then (if (((Go.bits .and .i64 (shr .i64 x14 x1) 1) == 1) != x2) = true then (fault_fixed.l0 k x1 x2 x7 x8 x13 (wrap64 (x14 + 1)) x275000 x275001 x275002) else (if 0 ≤ x14 then (if (Go.bits .and .u64 (shr .u64 x275001 x14) 1) = 1 then (fault_fixed.l0 k x1 x2 x7 true x13 (wrap64 (x14 + 1)) x275000 x275001 x275002) else (fault_fixed.l0 k x1 x2 true x8 x13 (wrap64 (x14 + 1)) x275000 x275001 x275002)) else (none))) else (none)) else (if x7 = true then (fault_fixed.j1 k x8 x8) else (fault_fixed.j1 k x8 false))
def fault_fixed.j1 : Nat → Bool → Bool → Option (Int)
  | 0, _, _ => none
  | k + 1, x8, x31 => if x31 = true then (some (-1)) else (if x8 = true then (some 1) else (some 0))
end
def fault_fixed.f (k : Nat) (a0_0 : Int) (a0_1 : Int) (l0_2 : List Int) (a1 : Int) (a2 : Bool) : Option (Int) := fault_fixed.l0 k a1 a2 false false (shl .i64 1 (l0_2.length : Int)) 0 a0_0 a0_1 l0_2
set_option maxHeartbeats 8000000 in
set_option maxRecDepth 100000 in
theorem fault_fixed.calls (k : Nat) (a0_0 : Int) (a0_1 : Int) (A0_2 : Option Addr) (c0_2 : Nat) (l0_2 : List Int) (a1 : Int) (a2 : Bool) (r : Int) (w : World) (hr0_2 : Kd.C (Kd.int .i64) w A0_2 l0_2.length l0_2) (hc0_2 : l0_2.length ≤ c0_2) (h : fault_fixed.f k a0_0 a0_1 l0_2 a1 a2 = some r) :
    Calls Try.prog 43 #[.agg #[.int .i64 a0_0, .int .u64 a0_1, .slice A0_2 l0_2.length c0_2], .int .i64 a1, .bool a2] w fun e w' => e = .returned (.int .i64 r) ∧ Below w.heap.size w w' := by
  have hu80 := Try.underlying80
  have HR0_2 := Aside0.mk hr0_2
  have HC0_2 := Aside0.mk hc0_2
  clear hr0_2 hc0_2
  have HB := Aside0.mk (Below.refl w.heap.size w)
  have H : (fault_fixed.l0 k a1 a2 false false (shl .i64 1 (l0_2.length : Int)) 0 a0_0 a0_1 l0_2) = some r := h
  clear h
  obtain ⟨ji4, hji4⟩ : ∃ j_ : Int, (shl .i64 1 (l0_2.length : Int)) = j_ := ⟨_, rfl⟩
  replace H : (fault_fixed.l0 k a1 a2 false false ji4 0 a0_0 a0_1 l0_2) = some r := by first | (rw [hji4] at H; exact H) | (simp only [hji4] at H ⊢; exact H)
  have hji4_ : (IntKind.i64.wrap (1 * 2 ^ min (l0_2.length : Int).toNat 64)) = ji4 := hji4
  have hji4z : (l0_2.length : Int) ≤ 64 → (IntKind.i64.wrap (1 * 2 ^ (l0_2.length : Int).toNat)) = ji4 := shl_small hji4
  have hji4p : (IntKind.i64.wrap (1 * 2 ^ min l0_2.length 64)) = ji4 := hji4_
  have hji4q : (l0_2.length : Int) ≤ 64 → (IntKind.i64.wrap (1 * 2 ^ l0_2.length)) = ji4 := hji4z
  have hji4r : (IntKind.i64.wrap (2 ^ min l0_2.length 64)) = ji4 := by have h_ := hji4p; rw [Int.one_mul] at h_; exact h_
  have hji4s : (l0_2.length : Int) ≤ 64 → (IntKind.i64.wrap (2 ^ l0_2.length)) = ji4 := fun hle_ => by have h_ := hji4q hle_; rw [Int.one_mul] at h_; exact h_
  have hji4u : (IntKind.i64.wrap (2 ^ min (l0_2.length : Int).toNat 64)) = ji4 := by have h_ := hji4_; rw [Int.one_mul] at h_; exact h_
  have hji4v : (l0_2.length : Int) ≤ 64 → (IntKind.i64.wrap (2 ^ (l0_2.length : Int).toNat)) = ji4 := fun hle_ => by have h_ := hji4z hle_; rw [Int.one_mul] at h_; exact h_
  have hji4y : (wrap64 (1 * 2 ^ min (l0_2.length : Int).toNat 64)) = ji4 := (i64_w _).symm.trans hji4_
  have hji4x : (l0_2.length : Int) ≤ 64 → (wrap64 (1 * 2 ^ (l0_2.length : Int).toNat)) = ji4 := fun h_ => (i64_w _).symm.trans (hji4z h_)
  have H' := Aside0.mk H
  clear H
  go_enter Try.func43, Try.ntmps43
  go_wp2_with (first | ((with_reducible refine gate_dst (N := 3) rfl ?_); refine box_event ?hg (N := 3) ?hd (cs := #[.int .i64 a0_0, .int .u64 a0_1, .slice A0_2 l0_2.length c0_2]) (t := 80) ?hr ?_; (case hd => rfl); (case hg => rfl); (case hr => first | (go_simp; done) | (go_simp; rfl)); intro gb274 hg w5 hbox hb; have n0_ := Aside0.mk (below_step (by repeat (first | (with_reducible first | exact HB.out | apply below_alloc | apply pw_below_drewN | apply below_drew1) | exact HB.out)) hb); have n1_ := Aside0.mk (hbox); have n2_ := Aside0.mk ((by rw [hg]; exact (below_size (by repeat (first | (with_reducible first | exact HB.out | apply below_alloc | apply pw_below_drewN | apply below_drew1) | exact HB.out))) : w.heap.size ≤ gb274)); have n3_ := Aside0.mk ((by rw [hg]; exact (below_size (by repeat (first | (with_reducible first | exact HB.out | apply below_alloc | apply pw_below_drewN | apply below_drew1) | exact HB.out))) : w.heap.size ≤ gb274)); clear HB; have HB := n0_; have BK274 := n1_; have GW274 := n2_; have GE274 := n3_; clear n0_ n1_ n2_ n3_; clear hb hbox hg; have hcz6_0 : w5.cell? ⟨gb274, 0, none⟩ = some (.int .i64 a0_0) := (blk_cell BK274.out 0).trans rfl; have hcz6_1 : w5.cell? ⟨gb274, 1, none⟩ = some (.int .u64 a0_1) := (blk_cell BK274.out 1).trans rfl; have hcz6_2 : w5.cell? ⟨gb274, 2, none⟩ = some (.slice A0_2 l0_2.length c0_2) := (blk_cell BK274.out 2).trans rfl; have hfz6_0 := blk_frozen BK274.out 0; have hfz6_1 := blk_frozen BK274.out 1; have hfz6_2 := blk_frozen BK274.out 2))
  go_loopg [7, 8, 14] k (fun kq v7 v8 v14 w' => ∃ (x7_1 : Bool) (x8_1 : Bool) (x14_1 : Int), v7 = .bool x7_1 ∧ v8 = .bool x8_1 ∧ v14 = .int .i64 x14_1 ∧ Aside0 (fault_fixed.l0 kq a1 a2 x7_1 x8_1 ji4 x14_1 a0_0 a0_1 l0_2 = some r) ∧ Aside0 (kq ≤ k) ∧ Aside0 (w'.heap[gb274]? = some (.cells #[.int .i64 a0_0, .int .u64 a0_1, (.slice A0_2 l0_2.length c0_2)] 80 (0, 0))) ∧ Aside0 (Below w.heap.size w w'))
  case atStart => exact ⟨(false), (false), (0), (by first | rfl | (simp; done) | (simp [*]; done)), (by first | rfl | (simp; done) | (simp [*]; done)), (by first | rfl | (simp; done) | (simp [*]; done)), H', ⟨Nat.le_refl _⟩, ⟨by (with_reducible repeat (first | refine blk_drewN ?_ _ | refine blk_drew ?_ | refine blk_alloc ?_ _)); exact BK274.out⟩, ⟨by repeat (first | (with_reducible first | exact HB.out | apply below_alloc | apply pw_below_drewN | apply below_drew1 | refine below_set ?_ GE274.out) | exact HB.out)⟩⟩
  case round =>
    clear H'
    try clear p2
    try clear c4
    try clear p6
    try clear hcz6_0
    try clear hcz6_1
    try clear hcz6_2
    try clear hfz6_0
    try clear hfz6_1
    try clear hfz6_2
    obtain ⟨x7_1, x8_1, x14_1, rfl, rfl, rfl, HA, HK1, BK274, HB⟩ := hrel
    cases gk with
    | zero => exact absurd HA.out (by simp [fault_fixed.l0])
    | succ k1 =>
      have H := HA.out
      clear HA
      simp only [fault_fixed.l0] at H
      by_cases c7 : x14_1 < ji4
      · rw [if_pos c7] at H
        have c7b0 : decide (x14_1 < ji4) = true := decide_eq_true c7
        clear c7
        by_cases c8 : 0 ≤ a1
        · rw [if_pos c8] at H
          have c8b0 := eq_true c8
          have c8b1 : decide (0 ≤ a1) = true := decide_eq_true c8
          clear c8
          obtain ⟨ji9, hji9⟩ : ∃ j_ : Int, (shr .i64 x14_1 a1) = j_ := ⟨_, rfl⟩
          replace H : (if (((Go.bits .and .i64 (ji9) 1) == 1) != a2) = true then (fault_fixed.l0 k1 a1 a2 x7_1 x8_1 ji4 (wrap64 (x14_1 + 1)) a0_0 a0_1 l0_2) else (if 0 ≤ x14_1 then (if (Go.bits .and .u64 (shr .u64 a0_1 x14_1) 1) = 1 then (fault_fixed.l0 k1 a1 a2 x7_1 true ji4 (wrap64 (x14_1 + 1)) a0_0 a0_1 l0_2) else (fault_fixed.l0 k1 a1 a2 true x8_1 ji4 (wrap64 (x14_1 + 1)) a0_0 a0_1 l0_2)) else (none))) = some r := by first | (rw [hji9] at H; exact H) | (simp only [hji9] at H ⊢; exact H)
          have hji9_ : (x14_1 / 2 ^ min a1.toNat 64) = ji9 := hji9
          have hji9z : a1 ≤ 64 → (x14_1 / 2 ^ a1.toNat) = ji9 := shr_small hji9
          by_cases c10 : (((Go.bits .and .i64 (ji9) 1) == 1) != a2) = true
          · rw [if_pos c10] at H
            have c10b0 : (((Go.bits .and .i64 (ji9) 1) == 1) != a2) = true := c10
            (try (have c10b1 : decide (((Go.bits .and .i64 (ji9) 1) == 1) = a2) = false := by simpa using c10))
            (try (have c10b2 : (((Go.bits .and .i64 (ji9) 1) == 1) == a2) = false := by simpa using c10))
            (try (have c10b3 : ¬ (((Go.bits .and .i64 (ji9) 1) == 1) = a2) := by simpa using c10))
            clear c10
            have H' := Aside0.mk H
            clear H
            go_wp2
            go_roundg k1
            case measure => have := HK1.out; omega
            case rel => exact ⟨(x7_1), (x8_1), (wrap64 (x14_1 + 1)), (by first | rfl | (simp; done) | (simp [*]; done)), (by first | rfl | (simp; done) | (simp [*]; done)), (by first | rfl | (simp; done) | (simp [*]; done)), H', ⟨by have := HK1.out; omega⟩, ⟨by (with_reducible repeat (first | refine blk_drewN ?_ _ | refine blk_drew ?_ | refine blk_alloc ?_ _)); exact BK274.out⟩, ⟨by repeat (first | (with_reducible first | exact HB.out | apply below_alloc | apply pw_below_drewN | apply below_drew1 | refine below_set ?_ GE274.out) | exact HB.out)⟩⟩
          · rw [if_neg c10] at H
            have c10b0 : (((Go.bits .and .i64 (ji9) 1) == 1) != a2) = false := by simpa using c10
            (try (have c10b1 : decide (((Go.bits .and .i64 (ji9) 1) == 1) = a2) = true := by simpa using c10))
            (try (have c10b2 : (((Go.bits .and .i64 (ji9) 1) == 1) == a2) = true := by simpa using c10))
            clear c10
            by_cases c11 : 0 ≤ x14_1
            · rw [if_pos c11] at H
              have c11b0 := eq_true c11
              have c11b1 : decide (0 ≤ x14_1) = true := decide_eq_true c11
              clear c11
              obtain ⟨ji12, hji12⟩ : ∃ j_ : Int, (shr .u64 a0_1 x14_1) = j_ := ⟨_, rfl⟩
              replace H : (if (Go.bits .and .u64 (ji12) 1) = 1 then (fault_fixed.l0 k1 a1 a2 x7_1 true ji4 (wrap64 (x14_1 + 1)) a0_0 a0_1 l0_2) else (fault_fixed.l0 k1 a1 a2 true x8_1 ji4 (wrap64 (x14_1 + 1)) a0_0 a0_1 l0_2)) = some r := by first | (rw [hji12] at H; exact H) | (simp only [hji12] at H ⊢; exact H)
              have hji12_ : (a0_1 / 2 ^ min x14_1.toNat 64) = ji12 := hji12
              have hji12z : x14_1 ≤ 64 → (a0_1 / 2 ^ x14_1.toNat) = ji12 := shr_small hji12
              by_cases c13 : (Go.bits .and .u64 (ji12) 1) = 1
              · rw [if_pos c13] at H
                have c13b0 : ((Go.bits .and .u64 (ji12) 1) == 1) = true := beq_iff_eq.mpr c13
                have c13b1 : ((Go.bits .and .u64 (ji12) 1) != 1) = false := bne_eq_false_iff_eq.mpr c13
                clear c13
                have H' := Aside0.mk H
                clear H
                have hcz14_0 : wr.cell? ⟨gb274, 0, none⟩ = some (.int .i64 a0_0) := (blk_cell BK274.out 0).trans rfl
                have hcz14_1 : wr.cell? ⟨gb274, 1, none⟩ = some (.int .u64 a0_1) := (blk_cell BK274.out 1).trans rfl
                have hcz14_2 : wr.cell? ⟨gb274, 2, none⟩ = some (.slice A0_2 l0_2.length c0_2) := (blk_cell BK274.out 2).trans rfl
                have hfz14_0 := blk_frozen BK274.out 0
                have hfz14_1 := blk_frozen BK274.out 1
                have hfz14_2 := blk_frozen BK274.out 2
                go_wp2
                go_roundg k1
                case measure => have := HK1.out; omega
                case rel => exact ⟨(x7_1), (true), (wrap64 (x14_1 + 1)), (by first | rfl | (simp; done) | (simp [*]; done)), (by first | rfl | (simp; done) | (simp [*]; done)), (by first | rfl | (simp; done) | (simp [*]; done)), H', ⟨by have := HK1.out; omega⟩, ⟨by (with_reducible repeat (first | refine blk_drewN ?_ _ | refine blk_drew ?_ | refine blk_alloc ?_ _)); exact BK274.out⟩, ⟨by repeat (first | (with_reducible first | exact HB.out | apply below_alloc | apply pw_below_drewN | apply below_drew1 | refine below_set ?_ GE274.out) | exact HB.out)⟩⟩
              · rw [if_neg c13] at H
                have c13b0 : ((Go.bits .and .u64 (ji12) 1) == 1) = false := beq_eq_false_iff_ne.mpr c13
                have c13b1 : ((Go.bits .and .u64 (ji12) 1) != 1) = true := bne_iff_ne.mpr c13
                have H' := Aside0.mk H
                clear H
                have hcz15_0 : wr.cell? ⟨gb274, 0, none⟩ = some (.int .i64 a0_0) := (blk_cell BK274.out 0).trans rfl
                have hcz15_1 : wr.cell? ⟨gb274, 1, none⟩ = some (.int .u64 a0_1) := (blk_cell BK274.out 1).trans rfl
                have hcz15_2 : wr.cell? ⟨gb274, 2, none⟩ = some (.slice A0_2 l0_2.length c0_2) := (blk_cell BK274.out 2).trans rfl
                have hfz15_0 := blk_frozen BK274.out 0
                have hfz15_1 := blk_frozen BK274.out 1
                have hfz15_2 := blk_frozen BK274.out 2
                go_wp2
                go_roundg k1
                case measure => have := HK1.out; omega
                case rel => exact ⟨(true), (x8_1), (wrap64 (x14_1 + 1)), (by first | rfl | (simp; done) | (simp [*]; done)), (by first | rfl | (simp; done) | (simp [*]; done)), (by first | rfl | (simp; done) | (simp [*]; done)), H', ⟨by have := HK1.out; omega⟩, ⟨by (with_reducible repeat (first | refine blk_drewN ?_ _ | refine blk_drew ?_ | refine blk_alloc ?_ _)); exact BK274.out⟩, ⟨by repeat (first | (with_reducible first | exact HB.out | apply below_alloc | apply pw_below_drewN | apply below_drew1 | refine below_set ?_ GE274.out) | exact HB.out)⟩⟩
            · rw [if_neg c11] at H
              exact absurd H (by simp)
        · rw [if_neg c8] at H
          exact absurd H (by simp)
      · rw [if_neg c7] at H
        have c7b0 : decide (x14_1 < ji4) = false := decide_eq_false c7
        clear c7
        have HC16 := Aside0.mk H
        clear H
        go_upto_region 10 with (fail)
        go_cut [31] (fun v31 wc => ∃ (kq : Nat) (x31_15 : Bool), v31 = .bool x31_15 ∧ Aside0 (fault_fixed.j1 kq x8_1 x31_15 = some r) ∧ Aside0 (kq ≤ k1) ∧ Aside0 (wc.heap[gb274]? = some (.cells #[.int .i64 a0_0, .int .u64 a0_1, (.slice A0_2 l0_2.length c0_2)] 80 (0, 0))) ∧ Aside0 (Below w.heap.size w wc))
        case first =>
          have H := HC16.out
          clear HC16
          by_cases c17 : x7_1 = true
          · subst c17
            have H1 : (fault_fixed.j1 k1 x8_1 x8_1) = some r := by rw [if_pos rfl] at H; exact H
            clear H
            have H := H1
            clear H1
            have H' := Aside0.mk H
            clear H
            go_wp2
            go_meet
            case rel => exact ⟨_, (x8_1), (by first | rfl | (simp; done) | (simp [*]; done)), H', ⟨by have := HK1.out; first | omega | exact Nat.le_refl _⟩, ⟨by (with_reducible repeat (first | refine blk_drewN ?_ _ | refine blk_drew ?_ | refine blk_alloc ?_ _)); exact BK274.out⟩, ⟨by repeat (first | (with_reducible first | exact HB.out | apply below_alloc | apply pw_below_drewN | apply below_drew1 | refine below_set ?_ GE274.out) | exact HB.out)⟩⟩
          · replace c17 := Bool.eq_false_iff.mpr c17
            subst c17
            have H1 : (fault_fixed.j1 k1 x8_1 false) = some r := by rw [if_neg (show ¬ (false = true) by decide)] at H; exact H
            clear H
            have H := H1
            clear H1
            have H' := Aside0.mk H
            clear H
            go_wp2
            go_meet
            case rel => exact ⟨_, (false), (by first | rfl | (simp; done) | (simp [*]; done)), H', ⟨by have := HK1.out; first | omega | exact Nat.le_refl _⟩, ⟨by (with_reducible repeat (first | refine blk_drewN ?_ _ | refine blk_drew ?_ | refine blk_alloc ?_ _)); exact BK274.out⟩, ⟨by repeat (first | (with_reducible first | exact HB.out | apply below_alloc | apply pw_below_drewN | apply below_drew1 | refine below_set ?_ GE274.out) | exact HB.out)⟩⟩
        case rest =>
          clear HC16
          try clear c1
          try clear p2
          try clear c4
          try clear p6
          try clear c7
          try clear c7b0
          try clear c8
          try clear c8b0
          try clear c8b1
          try clear c10
          try clear c10b0
          try clear c10b1
          try clear c10b2
          try clear c11
          try clear c11b0
          try clear c11b1
          try clear c13
          try clear c13b0
          try clear c13b1
          try clear c17
          try clear hcz14_0
          try clear hcz14_1
          try clear hcz14_2
          try clear hcz15_0
          try clear hcz15_1
          try clear hcz15_2
          try clear hcz6_0
          try clear hcz6_1
          try clear hcz6_2
          try clear hfz14_0
          try clear hfz14_1
          try clear hfz14_2
          try clear hfz15_0
          try clear hfz15_1
          try clear hfz15_2
          try clear hfz6_0
          try clear hfz6_1
          try clear hfz6_2
          try clear p2
          try clear p6
          obtain ⟨kq, x31_15, rfl, HA, HJ15, BK274, HB⟩ := hcut
          cases kq with
          | zero => exact absurd HA.out (by simp [fault_fixed.j1])
          | succ kj15 =>
            have H := HA.out
            clear HA
            simp only [fault_fixed.j1] at H
            by_cases c18 : x31_15 = true
            · subst c18
              have H1 : (some (-1)) = some r := by rw [if_pos rfl] at H; exact H
              clear H
              have H := H1
              clear H1
              obtain rfl := Option.some.inj H
              go_wp2
              go_ret
              exact ⟨by first | rfl | (simp [errW_none, errW_some] <;> rfl) | (simp only [← hji4]; first | rfl | (simp [errW_none, errW_some] <;> rfl)) | (simp [*, errW_none, errW_some] <;> rfl), by repeat (first | (with_reducible first | exact HB.out | apply below_alloc | apply pw_below_drewN | apply below_drew1 | refine below_set ?_ GE274.out) | exact HB.out)⟩
            · replace c18 := Bool.eq_false_iff.mpr c18
              subst c18
              have H1 : (if x8_1 = true then (some 1) else (some 0)) = some r := by rw [if_neg (show ¬ (false = true) by decide)] at H; exact H
              clear H
              have H := H1
              clear H1
              by_cases c19 : x8_1 = true
              · subst c19
                have H1 : (some 1) = some r := by rw [if_pos rfl] at H; exact H
                clear H
                have H := H1
                clear H1
                obtain rfl := Option.some.inj H
                go_wp2
                go_ret
                exact ⟨by first | rfl | (simp [errW_none, errW_some] <;> rfl) | (simp only [← hji4]; first | rfl | (simp [errW_none, errW_some] <;> rfl)) | (simp [*, errW_none, errW_some] <;> rfl), by repeat (first | (with_reducible first | exact HB.out | apply below_alloc | apply pw_below_drewN | apply below_drew1 | refine below_set ?_ GE274.out) | exact HB.out)⟩
              · replace c19 := Bool.eq_false_iff.mpr c19
                subst c19
                have H1 : (some 0) = some r := by rw [if_neg (show ¬ (false = true) by decide)] at H; exact H
                clear H
                have H := H1
                clear H1
                obtain rfl := Option.some.inj H
                go_wp2
                go_ret
                exact ⟨by first | rfl | (simp [errW_none, errW_some] <;> rfl) | (simp only [← hji4]; first | rfl | (simp [errW_none, errW_some] <;> rfl)) | (simp [*, errW_none, errW_some] <;> rfl), by repeat (first | (with_reducible first | exact HB.out | apply below_alloc | apply pw_below_drewN | apply below_drew1 | refine below_set ?_ GE274.out) | exact HB.out)⟩
end Go.Proofs.Ytimjccfpobhpeaa.PF
namespace Go.Proofs.Ytimjccfpobhpeaa
open Go.RowKit Go.Proofs.YtimjccfpobhpeaaW.PrintWords Go.Proofs.Ytimjccfpobhpeaa.PF
set_option linter.unusedVariables false
theorem shl_fix (n : Nat) (h : n ≤ 6) : shl .i64 1 (n : Int) = ((2 ^ n : Nat) : Int) := by
  have hc : n = 0 ∨ n = 1 ∨ n = 2 ∨ n = 3 ∨ n = 4 ∨ n = 5 ∨ n = 6 := by omega
  rcases hc with rfl | rfl | rfl | rfl | rfl | rfl | rfl <;> decide
theorem anyOne_succ (tab pin : Int) (one : Bool) (n : Nat) : anyOne tab pin one (n + 1) = (anyOne tab pin one n || (selB pin one n && bitB tab n)) := by
  unfold anyOne
  rw [List.range_succ, List.any_append, List.any_cons, List.any_nil, Bool.or_false]
theorem anyZero_succ (tab pin : Int) (one : Bool) (n : Nat) : anyZero tab pin one (n + 1) = (anyZero tab pin one n || (selB pin one n && !bitB tab n)) := by
  unfold anyZero
  rw [List.range_succ, List.any_append, List.any_cons, List.any_nil, Bool.or_false]
theorem fixed_l0 (a0 tab : Int) (l : List Int) (pin : Int) (hp : 0 ≤ pin) (one : Bool) (n : Nat) (hn : n ≤ 64) : ∀ (d i : Nat), i + d = n → ∀ k, d + 1 < k →
    fault_fixed.l0 k pin one (anyZero tab pin one i) (anyOne tab pin one i) n i a0 tab l = some (fixV tab pin one n)
  | 0, i, h, k, hk => by
    obtain ⟨m, rfl⟩ : ∃ m, k = m + 2 := ⟨k - 2, by omega⟩
    obtain rfl : i = n := by omega
    rw [fault_fixed.l0, if_neg (by omega)]
    unfold fixV
    cases anyZero tab pin one i <;> cases anyOne tab pin one i <;> rfl
  | d + 1, i, h, k, hk => by
    obtain ⟨m, rfl⟩ : ∃ m, k = m + 1 := ⟨k - 1, by omega⟩
    have ih := fixed_l0 a0 tab l pin hp one n hn d (i + 1) (by omega) m (by omega)
    rw [anyOne_succ, anyZero_succ] at ih
    have g1 : (i : Int) < (n : Int) := by omega
    have g2 : (0 : Int) ≤ (i : Int) := by omega
    have hw : wrap64 ((i : Int) + 1) = ((i + 1 : Nat) : Int) := by rw [wrap_id (by omega) (by omega)]; rfl
    rw [fault_fixed.l0, if_pos g1, if_pos hp, hw]
    have hs : selB pin one i = (((Go.bits .and .i64 (shr .i64 (i : Int) pin) 1) == 1) == one) := rfl
    by_cases c : ((((Go.bits .and .i64 (shr .i64 (i : Int) pin) 1) == 1) != one) = true)
    · have e : selB pin one i = false := by
        rw [hs]
        revert c
        generalize ((Go.bits .and .i64 (shr .i64 (i : Int) pin) 1) == 1) = y
        cases y <;> cases one <;> decide
      rw [if_pos c]
      rw [e, Bool.false_and, Bool.false_and, Bool.or_false, Bool.or_false] at ih
      exact ih
    · have e : selB pin one i = true := by
        rw [hs]
        revert c
        generalize ((Go.bits .and .i64 (shr .i64 (i : Int) pin) 1) == 1) = y
        cases y <;> cases one <;> decide
      rw [if_neg c, if_pos g2]
      by_cases b : (Go.bits .and .u64 (shr .u64 tab (i : Int)) 1) = 1
      · have eb : bitB tab i = true := decide_eq_true b
        rw [if_pos b]
        rw [e, eb, Bool.true_and, Bool.true_and, Bool.or_true, Bool.not_true, Bool.or_false] at ih
        exact ih
      · have eb : bitB tab i = false := decide_eq_false b
        rw [if_neg b]
        rw [e, eb, Bool.true_and, Bool.true_and, Bool.not_false, Bool.or_true, Bool.or_false] at ih
        exact ih
theorem fixed_eq (a0 tab : Int) (l : List Int) (hl : l.length ≤ 6) (pin : Int) (hp : 0 ≤ pin) (one : Bool) : ∀ k, 66 < k → fault_fixed.f k a0 tab l pin one = some (fixV tab pin one (2 ^ l.length)) := by
  intro k hk
  have hn : 2 ^ l.length ≤ 64 := by
    have : 2 ^ l.length ≤ 2 ^ 6 := Nat.pow_le_pow_right (by decide) hl
    omega
  rw [fault_fixed.f, shl_fix _ hl]
  exact fixed_l0 a0 tab l pin hp one (2 ^ l.length) hn (2 ^ l.length) 0 (by omega) k (by omega)
end Go.Proofs.Ytimjccfpobhpeaa
namespace Go.Proofs.Ytimjccfpobhpeaa
open Go.RowKit Go.Proofs.YtimjccfpobhpeaaW.PrintWords Go.Proofs.Ytimjccfpobhpeaa.PF
set_option maxRecDepth 100000
instance (w : World) : Nonempty (Under w) := ⟨Under.refl w⟩
structure NetAt (T : Nat → Prop) (B : Nat) (w : World) (g : Nat) (v0 v1 v2 v3 v4 : Value) (l0 l1 : List ByteArray) (s : NetP) : Prop where
  blk : w.heap[g]? = some (.cells #[v0, v1, v2, v3, v4] 27 (0, 0))
  r : NetR T B w v0 v1 v2 v3 v4 l0 l1 s.fl s.ga s.ou
theorem NetAt.below {T : Nat → Prop} {B : Nat} {w w1 : World} {g : Nat} {v0 v1 v2 v3 v4 : Value} {l0 l1 : List ByteArray} {s : NetP} (h : NetAt T B w g v0 v1 v2 v3 v4 l0 l1 s) (hb : Below w.heap.size w w1) : NetAt T B w1 g v0 v1 v2 v3 v4 l0 l1 s :=
  ⟨(hb.block g (Array.getElem?_eq_some_iff.1 h.blk).1).trans h.blk, h.r.below hb⟩
theorem blkFar {w : World} {g gi t t' : Nat} {cs cs' : Array Value} {v : Value} {j : Nat} (h : w.heap[g]? = some (.cells cs t (0, 0))) (h' : w.heap[gi]? = some (.cells cs' t' (0, 0))) (ht : t ≠ t') : (w.setCell ⟨gi, j, none⟩ v).heap[g]? = some (.cells cs t (0, 0)) :=
  (Below.heap_setCell w ⟨gi, j, none⟩ v g (ne_typed h h' ht)).trans h
theorem NetAt.set {T : Nat → Prop} {B : Nat} {w : World} {g gi t j : Nat} {v0 v1 v2 v3 v4 v : Value} {l0 l1 : List ByteArray} {s s' : NetP} {cs : Array Value} (h : NetAt T B w g v0 v1 v2 v3 v4 l0 l1 s) (hc : w.heap[gi]? = some (.cells cs t (0, 0))) (ht : 27 ≠ t)
    (hr : NetR T B (w.setCell ⟨gi, j, none⟩ v) v0 v1 v2 v3 v4 l0 l1 s'.fl s'.ga s'.ou) : NetAt T B (w.setCell ⟨gi, j, none⟩ v) g v0 v1 v2 v3 v4 l0 l1 s' := ⟨blkFar h.blk hc ht, hr⟩
theorem NetAt.cell {T : Nat → Prop} {B : Nat} {w : World} {g : Nat} {v0 v1 v2 v3 v4 : Value} {l0 l1 : List ByteArray} {s : NetP} (h : NetAt T B w g v0 v1 v2 v3 v4 l0 l1 s) : g < w.heap.size ∧ w.cell? ⟨g, 0, none⟩ = some v0 ∧ w.cell? ⟨g, 1, none⟩ = some v1 ∧ w.cell? ⟨g, 2, none⟩ = some v2 ∧ w.cell? ⟨g, 3, none⟩ = some v3 ∧ w.cell? ⟨g, 4, none⟩ = some v4 :=
  ⟨(Array.getElem?_eq_some_iff.1 h.blk).1, (cell_of_row _ _ 0 _ _ _ h.blk).trans rfl, (cell_of_row _ _ 1 _ _ _ h.blk).trans rfl, (cell_of_row _ _ 2 _ _ _ h.blk).trans rfl, (cell_of_row _ _ 3 _ _ _ h.blk).trans rfl, (cell_of_row _ _ 4 _ _ _ h.blk).trans rfl⟩
set_option maxHeartbeats 16000000 in
theorem inject_ok_t (A0 A1 A2 A3 A4 : Option Addr) (c0 c1 c2 c3 c4 : Nat) (l0 l1 : List ByteArray) (l2 : List Flop) (l3 : List Gate) (l4 : List Int) (nn : Nat) (load : Int) (w : World)
    (h0 : Kd.C Kd.string w A0 l0.length l0) (h1 : Kd.C Kd.string w A1 l1.length l1) (h2 : Kd.C kFlop w A2 l2.length l2) (h3 : Kd.C kGate w A3 l3.length l3) (h4 : Kd.C (Kd.int .i64) w A4 l4.length l4)
    (m0 : l0.length * 16 ≤ 140737488355328) (m1 : l1.length * 16 ≤ 140737488355328) (m2 : l2.length * 48 ≤ 140737488355328) (m3 : l3.length * 40 ≤ 140737488355328) (m4 : l4.length * 8 ≤ 140737488355328) (m5 : ∀ x ∈ l3, x.f2.length * 8 ≤ 140737488355328)
    (rows : List (List Load)) (row : List Load) (hrow : rows[nn]? = some row) (hval : ∀ l ∈ row, ValidL ⟨l2, l3, l4⟩ l)
    (HL : ∀ W, Below w.heap.size w W → Calls Try.prog 27 #[.agg #[.slice A0 l0.length c0, .slice A1 l1.length c1, .slice A2 l2.length c2, .slice A3 l3.length c3, .slice A4 l4.length c4]] W fun e w' => ∃ v, e = .returned (.tuple #[v, .int .i64 0]) ∧ Kd.S (Kd.slice 77 kLoad) 75 w' W.heap.size (fun _ => True) v rows ∧ Below W.heap.size W w')
    (HC : ∀ W v, Kd.S (Kd.slice 77 kLoad) 75 W (w.heap.size + 3) (fun _ => True) v rows → Calls Try.prog 28 #[v, .agg #[.int .i64 (nn : Int), .int .i64 load, .bool true]] W fun e w' => e = .returned (.int .i64 0) ∧ Below W.heap.size W w') :
    Calls Try.prog 8 #[.agg #[.slice A0 l0.length c0, .slice A1 l1.length c1, .slice A2 l2.length c2, .slice A3 l3.length c3, .slice A4 l4.length c4], .agg #[.int .i64 (nn : Int), .int .i64 load, .bool true]] w fun e w' => ∃ v0 v1 v2 v3 v4 : Value, e = .returned (.tuple #[.agg #[v0, v1, v2, v3, v4], .int .i64 0]) ∧
      NetR (fun _ => True) w.heap.size w' v0 v1 v2 v3 v4 l0 l1 (injectF load 1 row 0 ⟨l2, l3, l4⟩).fl (injectF load 1 row 0 ⟨l2, l3, l4⟩).ga (injectF load 1 row 0 ⟨l2, l3, l4⟩).ou ∧ Below w.heap.size w w' := by
  have hu := Try.underlying27
  have huF := Try.underlying29
  have huL := Try.underlying77
  have huG := Try.underlying80
  have huP := Try.underlying82
  have hW0 : Below w.heap.size w (((w.alloc (.cells #[.slice A0 l0.length c0, .slice A1 l1.length c1, .slice A2 l2.length c2, .slice A3 l3.length c3, .slice A4 l4.length c4] 27)).alloc (.cells #[.int .i64 (nn : Int), .int .i64 load, .bool true] 29)).alloc (.cells #[.slice none 0 0, .slice none 0 0, .slice none 0 0, .slice none 0 0, .slice none 0 0] 27)) := (((Below.refl _ _).alloc (Nat.le_refl _) _).alloc (by simp) _).alloc (by simp; omega) _
  have bel : ∀ x : Under (((w.alloc (.cells #[.slice A0 l0.length c0, .slice A1 l1.length c1, .slice A2 l2.length c2, .slice A3 l3.length c3, .slice A4 l4.length c4] 27)).alloc (.cells #[.int .i64 (nn : Int), .int .i64 load, .bool true] 29)).alloc (.cells #[.slice none 0 0, .slice none 0 0, .slice none 0 0, .slice none 0 0, .slice none 0 0] 27)), Below w.heap.size w x.val := fun x => hW0.trans (x.ok.mono (by simp; omega))
  have hsz : ∀ x : Under (((w.alloc (.cells #[.slice A0 l0.length c0, .slice A1 l1.length c1, .slice A2 l2.length c2, .slice A3 l3.length c3, .slice A4 l4.length c4] 27)).alloc (.cells #[.int .i64 (nn : Int), .int .i64 load, .bool true] 29)).alloc (.cells #[.slice none 0 0, .slice none 0 0, .slice none 0 0, .slice none 0 0, .slice none 0 0] 27)), w.heap.size + 2 < x.val.heap.size := fun x => Nat.lt_of_lt_of_le (by simp) x.size
  have hb3 : w.heap.size + 3 ≤ ((((w.alloc (.cells #[.slice A0 l0.length c0, .slice A1 l1.length c1, .slice A2 l2.length c2, .slice A3 l3.length c3, .slice A4 l4.length c4] 27)).alloc (.cells #[.int .i64 (nn : Int), .int .i64 load, .bool true] 29)).alloc (.cells #[.slice none 0 0, .slice none 0 0, .slice none 0 0, .slice none 0 0, .slice none 0 0] 27))).heap.size := Nat.le_of_eq (by simp)
  have hrb : ∀ x : Under (((w.alloc (.cells #[.slice A0 l0.length c0, .slice A1 l1.length c1, .slice A2 l2.length c2, .slice A3 l3.length c3, .slice A4 l4.length c4] 27)).alloc (.cells #[.int .i64 (nn : Int), .int .i64 load, .bool true] 29)).alloc (.cells #[.slice none 0 0, .slice none 0 0, .slice none 0 0, .slice none 0 0, .slice none 0 0] 27)), x.val.heap[w.heap.size + 1 + 1]? = some (.cells #[.slice none 0 0, .slice none 0 0, .slice none 0 0, .slice none 0 0, .slice none 0 0] 27 (0, 0)) := fun x => (x.ok.block (w.heap.size + 1 + 1) (by simp)).trans (heap_alloc3_new w _ _ _)
  have hnl : nn < rows.length := (List.getElem?_eq_some_iff.1 hrow).1
  have hnl2 : (nn : Int) < (rows.length : Int) := by omega
  have hrowh := Lib.hid hrow
  have hvalh := Lib.hid hval
  clear hrow hval
  go_enter Try.func8, Try.ntmps8
  go_wp2_with (first
    | (go_at_call 27; refine (HL _ hW0).mono ?_; rintro e w1 ⟨v, rfl, hS1, hB1⟩; obtain ⟨x1, rfl⟩ : ∃ x : Under (((w.alloc (.cells #[.slice A0 l0.length c0, .slice A1 l1.length c1, .slice A2 l2.length c2, .slice A3 l3.length c3, .slice A4 l4.length c4] 27)).alloc (.cells #[.int .i64 (nn : Int), .int .i64 load, .bool true] 29)).alloc (.cells #[.slice none 0 0, .slice none 0 0, .slice none 0 0, .slice none 0 0, .slice none 0 0] 27)), w1 = x.val := ⟨⟨w1, hB1⟩, rfl⟩; have hs1 := hsz x1; have hS1' := Kd.S_lower (base' := w.heap.size + 3) hS1 hb3; have hs1a : w.heap.size < x1.val.heap.size := (by omega); have hs1b : w.heap.size + 1 < x1.val.heap.size := (by omega); have HC1 := HC _ _ hS1'; obtain ⟨AR, cR, rfl, _, hR1⟩ := Kd.S_reads hS1)
    | (go_at_call 28; refine HC1.mono ?_; rintro e w2 ⟨rfl, hB2⟩; obtain ⟨x2, rfl⟩ : ∃ x : Under (((w.alloc (.cells #[.slice A0 l0.length c0, .slice A1 l1.length c1, .slice A2 l2.length c2, .slice A3 l3.length c3, .slice A4 l4.length c4] 27)).alloc (.cells #[.int .i64 (nn : Int), .int .i64 load, .bool true] 29)).alloc (.cells #[.slice none 0 0, .slice none 0 0, .slice none 0 0, .slice none 0 0, .slice none 0 0] 27)), w2 = x.val := ⟨⟨w2, x1.ok.trans (hB2.mono x1.size)⟩, rfl⟩; have hs2 := hsz x2; have hR2 := Kd.C_below hR1 hB2; have hs2a : w.heap.size < x2.val.heap.size := (by omega); have hs2b : w.heap.size + 1 < x2.val.heap.size := (by omega))
    | (go_at_call 29; refine (copy_calls A0 A1 A2 A3 A4 c0 c1 c2 c3 c4 l0 l1 l2 l3 l4 x2.val (Kd.C_below h0 (bel x2)) (Kd.C_below h1 (bel x2)) (Kd.C_below h2 (bel x2)) (Kd.C_below h3 (bel x2)) (Kd.C_below h4 (bel x2)) m0 m1 m2 m3 m4 m5).mono ?_; rintro e w3 ⟨v0, v1, v2, v3, v4, rfl, hr0, hr1, hr2, hr3, hr4, hB3⟩; obtain ⟨x3, rfl⟩ : ∃ x : Under x2.val, w3 = x.val := ⟨⟨w3, hB3⟩, rfl⟩; obtain ⟨B0, d0, rfl⟩ := Kd.R_slice hr0; obtain ⟨B1, d1, rfl⟩ := Kd.R_slice hr1; obtain ⟨B2, d2, rfl⟩ := Kd.R_slice hr2; obtain ⟨B3, d3, rfl⟩ := Kd.S_slice hr3; obtain ⟨B4, d4, rfl⟩ := Kd.R_slice hr4; have hs3 := x3.size; obtain ⟨br, or, Al, cl, rfl, hbr, hcr, hCl⟩ := kd_rows hR2 hrowh.out; have hs3a : w.heap.size < x3.val.heap.size := (by omega); have hs3b : w.heap.size + 1 < x3.val.heap.size := (by omega); have hs3c : br < x3.val.heap.size := (by omega)))
  have hN0 : NetAt (fun _ => True) x2.val.heap.size (x3.val.alloc (.cells #[.slice B0 l0.length d0, .slice B1 l1.length d1, .slice B2 l2.length d2, .slice B3 l3.length d3, .slice B4 l4.length d4] 27)) x3.val.heap.size (.slice B0 l0.length d0) (.slice B1 l1.length d1) (.slice B2 l2.length d2) (.slice B3 l3.length d3) (.slice B4 l4.length d4) l0 l1 ⟨l2, l3, l4⟩ :=
    ⟨heap_alloc_new _ _, NetR.below ⟨Kd.R_mono hr0 (fun _ h => ⟨trivial, h⟩), Kd.R_mono hr1 (fun _ h => ⟨trivial, h⟩), hr2, Kd.S_mono hr3 (fun _ h => ⟨trivial, h⟩), hr4⟩ (below_alloc (Below.refl _ _) _)⟩
  have hg9B := x3.size
  clear hr0 hr1 hr2 hr3 hr4 hR1 hR2 hS1 hS1' HC1 HL HC hB1 hB2 hB3
  generalize hg9 : x3.val.heap.size = g9 at *
  have hml := (kd_len hCl).2
  have hcb := Lib.hid (show True from trivial)
  go_loopg [11, 12, 39] row.length (fun d _ _ t wr => ∃ (i : Nat) (y : Under x2.val) (s : NetP), t = .int .i64 i ∧ wr = y.val ∧ Aside (i + d = row.length) ∧ NetAt (fun _ => True) x2.val.heap.size y.val g9 (.slice B0 l0.length d0) (.slice B1 l1.length d1) (.slice B2 l2.length d2) (.slice B3 l3.length d3) (.slice B4 l4.length d4) l0 l1 s ∧
    Shape ⟨l2, l3, l4⟩ s ∧ Aside (injectF load 1 (row.drop i) i s = injectF load 1 row 0 ⟨l2, l3, l4⟩))
  case atStart => exact ⟨0, x3.alloc _, ⟨l2, l3, l4⟩, rfl, rfl, by show 0 + row.length = row.length; omega, hN0, Shape.refl _, rfl⟩
  case round =>
    clear hN0
    obtain ⟨i, y, s, rfl, rfl, hi, hN, hSh, hL⟩ := hrel
    obtain ⟨hgl, hn0, hn1, hn2, hn3, hn4⟩ := hN.cell
    have hyl := y.size
    have hya : w.heap.size < y.val.heap.size := by omega
    have hyb : w.heap.size + 1 < y.val.heap.size := by omega
    have hyc : w.heap.size + 1 + 1 < y.val.heap.size := by omega
    by_cases hlt : i < row.length
    · obtain ⟨l, hl⟩ := get_ex hlt
      obtain ⟨b, ob, rfl, hb, hk0, hk1, hk2⟩ := kd_load hCl hl
      obtain ⟨gO, rfl⟩ : ∃ m, gk = m + 1 := ⟨gk - 1, by have := hi.out; omega⟩
      have hvl := (hvalh.out l (List.mem_of_getElem? hl)).shape hSh
      have hby : b < y.val.heap.size := by omega
      have hbn : b ≠ y.val.heap.size := by omega
      rw [drop_cons hl, injectF] at hL
      have hih := Lib.hid hi.out
      have hLh := Lib.hid hL.out
      clear hi hL hl
      by_cases hskip : 0 ≤ load ∧ load ≠ (i : Int)
      · obtain ⟨hs0, hs1⟩ := hskip
        rw [if_pos ⟨hs0, hs1⟩] at hLh
        have q1 : (load != (i : Int)) = true := by simpa using hs1
        have q2 : decide (0 ≤ load) = true := decide_eq_true hs0
        have hsh := Lib.hid hSh
        have hNh := Lib.hid hN
        clear hs1 hSh hN hvl
        go_wp2
        go_roundg gO
        case measure => have := hih.out; omega
        case rel => exact ⟨i + 1, y.alloc _, s, by go_num, rfl, by show i + 1 + gO = row.length; have := hih.out; omega, hNh.out.below (below_alloc (Below.refl _ _) _), hsh.out, hLh.out⟩
      · rw [if_neg hskip] at hLh
        have q12 : (decide (0 ≤ load) = false) ∨ (decide (0 ≤ load) = true ∧ (load != (i : Int)) = false) := by
          by_cases h : 0 ≤ load
          · exact .inr ⟨decide_eq_true h, by simpa using fun e => hskip ⟨h, e⟩⟩
          · exact .inl (decide_eq_false h)
        have hput := putOne_shape s l 1
        have hsh := Lib.hid (hSh.trans hput)
        have hNh := Lib.hid hN
        obtain ⟨f0, f1, f2⟩ := l
        simp only [ValidL] at hvl
        clear hskip hput hSh
        rcases hvl with ⟨rfl, i', k', x, rfl, rfl, hx, hk⟩ | ⟨rfl, i', x, rfl, hx⟩ | ⟨rfl, i', x, rfl, hx⟩ | ⟨rfl, i', rfl, hx⟩
        · obtain ⟨g3, c3', gi, ci, he3, hc3, hci, hfi, hg3l, hgil, hg3B, hgiB, -, hg3t, ⟨cs, hgit⟩, hset⟩ := hN.r.pin hx hk
          have hi3 : i' < l3.length := by
            have h5 := (List.getElem?_eq_some_iff.1 hx).1
            injection he3 with _ h6 _
            omega
          have hs' : putOne s ⟨0, i', k'⟩ 1 = ⟨s.fl, s.ga.set i' ⟨x.f0, x.f1, x.f2.set k' 1⟩, s.ou⟩ := by
            unfold putOne
            rw [if_pos rfl, Int.toNat_natCast, Int.toNat_natCast, modify_at _ hx]
          injection he3 with he3 he6 he3'
          clear he6
          subst he3
          subst he3'
          rw [hs'] at hsh hLh
          have hg9t := hN.blk
          have hx2 := Lib.hid hx
          clear hs' hN hx hg3t
          rcases q12 with q1 | ⟨q1, q2⟩
          all_goals
            go_wp2
            refine wp_region_splitT (fun w' => ∃ z : Under (y.val.alloc (.cells #[.int .i64 0, .int .i64 i', .int .i64 k'] 77)), w' = z.val) [true, true, true, true, true, true, true, true, true, true, false, false] (by kernel_rfl) (by kernel_rfl) (by decide) ⟨(Under.refl _).drew, rfl⟩ (fun _ _ d _ _ h => by cases d <;> exact h) ?_
            simp only [pickB, dropB]
            repeat (go_big_quiet_step (fail))
            refine wpQuiet_nil ?_
            refine wpListT_step (fun Q' hQ' => ?_)
            go_wp2_with fail
            refine ⟨⟨(Under.refl _).drew, rfl⟩, ?_⟩
            refine wpListT_last (fun Q' hQ' => ?_)
            go_wp2
            go_roundg gO
            case measure => have := hih.out; omega
            case rel =>
              refine ⟨i + 1, ((y.setCell ⟨gi, k', none⟩ hgiB _).alloc _).drew, _, by go_num, rfl, by show i + 1 + gO = row.length; have := hih.out; omega, ((NetAt.set hNh.out hgit (by decide) (hset 1)).below (below_alloc (Below.refl _ _) _)).below (below_drew (Below.refl _ _)), hsh.out, hLh.out⟩
        · obtain ⟨g2, c2', he2, hg2l, hg2B, -, ⟨cs, hg2t⟩, hd2, hd3, hf2, hf3, hset⟩ := hN.r.flop hx
          have hi2 : i' < l2.length := by
            have h5 := (List.getElem?_eq_some_iff.1 hx).1
            injection he2 with _ h6 _
            omega
          have hs' : putOne s ⟨1, i', f2⟩ 1 = ⟨s.fl.set i' ⟨x.f0, x.f1, 1, x.f3, x.f4⟩, s.ga, s.ou⟩ := by
            unfold putOne
            rw [if_neg (show ¬ ((1 : Int) = 0) by decide), if_pos rfl, Int.toNat_natCast, modify_at _ hx]
          injection he2 with he2 he6 he2'
          clear he6
          subst he2
          subst he2'
          rw [hs'] at hsh hLh
          clear hs' hN hx
          rcases q12 with q1 | ⟨q1, q2⟩
          all_goals
            go_wp2
            go_roundg gO
            case measure => have := hih.out; omega
            case rel =>
              refine ⟨i + 1, (y.setCell ⟨g2, i' * 5 + 2, none⟩ hg2B _).alloc _, _, by go_num, rfl, by show i + 1 + gO = row.length; have := hih.out; omega, (NetAt.set hNh.out hg2t (by decide) (hset 1).1).below (below_alloc (Below.refl _ _) _), hsh.out, hLh.out⟩
        · obtain ⟨g2, c2', he2, hg2l, hg2B, -, ⟨cs, hg2t⟩, hd2, hd3, hf2, hf3, hset⟩ := hN.r.flop hx
          have hi2 : i' < l2.length := by
            have h5 := (List.getElem?_eq_some_iff.1 hx).1
            injection he2 with _ h6 _
            omega
          have hs' : putOne s ⟨2, i', f2⟩ 1 = ⟨s.fl.set i' ⟨x.f0, x.f1, x.f2, 1, x.f4⟩, s.ga, s.ou⟩ := by
            unfold putOne
            rw [if_neg (show ¬ ((2 : Int) = 0) by decide), if_neg (show ¬ ((2 : Int) = 1) by decide), if_pos rfl, Int.toNat_natCast, modify_at _ hx]
          injection he2 with he2 he6 he2'
          clear he6
          subst he2
          subst he2'
          rw [hs'] at hsh hLh
          clear hs' hN hx
          rcases q12 with q1 | ⟨q1, q2⟩
          all_goals
            go_wp2
            go_roundg gO
            case measure => have := hih.out; omega
            case rel =>
              refine ⟨i + 1, (y.setCell ⟨g2, i' * 5 + 3, none⟩ hg2B _).alloc _, _, by go_num, rfl, by show i + 1 + gO = row.length; have := hih.out; omega, (NetAt.set hNh.out hg2t (by decide) (hset 1).2).below (below_alloc (Below.refl _ _) _), hsh.out, hLh.out⟩
        · obtain ⟨g4, c4', he4, hg4l, hg4B, -, ⟨cs, hg4t⟩, hd4, hf4, hset⟩ := hN.r.out hx
          have hi4 : i' < l4.length := by
            injection he4 with _ h6 _
            omega
          have hs' : putOne s ⟨3, i', f2⟩ 1 = ⟨s.fl, s.ga, s.ou.set i' 1⟩ := by
            unfold putOne
            rw [if_neg (show ¬ ((3 : Int) = 0) by decide), if_neg (show ¬ ((3 : Int) = 1) by decide), if_neg (show ¬ ((3 : Int) = 2) by decide), Int.toNat_natCast]
          injection he4 with he4 he6 he4'
          clear he6
          subst he4
          subst he4'
          rw [hs'] at hsh hLh
          clear hs' hN hx
          rcases q12 with q1 | ⟨q1, q2⟩
          all_goals
            go_wp2
            go_roundg gO
            case measure => have := hih.out; omega
            case rel =>
              refine ⟨i + 1, (y.setCell ⟨g4, i', none⟩ hg4B _).alloc _, _, by go_num, rfl, by show i + 1 + gO = row.length; have := hih.out; omega, (NetAt.set hNh.out hg4t (by decide) (hset 1)).below (below_alloc (Below.refl _ _) _), hsh.out, hLh.out⟩
    · obtain rfl : i = row.length := by have := hi.out; omega
      rw [drop_end, injectF] at hL
      have hrbx := (y.ok.block (w.heap.size + 1 + 1) (by omega)).trans (hrb x2)
      have hLh := Lib.hid hL.out
      have hNh := Lib.hid hN
      clear hi hL hN hSh
      go_wp2
      ((try simp only [Exit.inBlock, Exit.then]); refine bodyPost_ret (results_cell_tmp_row rfl _ _ (w.heap.size + 1 + 1) _ _ _ _ rfl (set5 (.slice B0 l0.length d0) (.slice B1 l1.length d1) (.slice B2 l2.length d2) (.slice B3 l3.length d3) (.slice B4 l4.length d4) hrbx).1 Try.underlying27 rfl (by kernel_rfl)) rfl ?_)
      have hBy : Below w.heap.size w y.val := (bel x2).trans (y.ok.mono (by omega))
      rw [hLh.out] at hNh
      refine ⟨_, _, _, _, _, rfl, (hNh.out.r.vars (fun k hk hB => (set5 _ _ _ _ _ hrbx).2 k (by omega))).lower (by omega), ((((hBy.setCell (p := ⟨w.heap.size + 1 + 1, 0, none⟩) (by simp; omega) _).setCell (p := ⟨w.heap.size + 1 + 1, 1, none⟩) (by simp; omega) _).setCell (p := ⟨w.heap.size + 1 + 1, 2, none⟩) (by simp; omega) _).setCell (p := ⟨w.heap.size + 1 + 1, 3, none⟩) (by simp; omega) _).setCell (p := ⟨w.heap.size + 1 + 1, 4, none⟩) (by simp; omega) _⟩
set_option maxHeartbeats 16000000 in
theorem inject_ok_f (A0 A1 A2 A3 A4 : Option Addr) (c0 c1 c2 c3 c4 : Nat) (l0 l1 : List ByteArray) (l2 : List Flop) (l3 : List Gate) (l4 : List Int) (nn : Nat) (load : Int) (w : World)
    (h0 : Kd.C Kd.string w A0 l0.length l0) (h1 : Kd.C Kd.string w A1 l1.length l1) (h2 : Kd.C kFlop w A2 l2.length l2) (h3 : Kd.C kGate w A3 l3.length l3) (h4 : Kd.C (Kd.int .i64) w A4 l4.length l4)
    (m0 : l0.length * 16 ≤ 140737488355328) (m1 : l1.length * 16 ≤ 140737488355328) (m2 : l2.length * 48 ≤ 140737488355328) (m3 : l3.length * 40 ≤ 140737488355328) (m4 : l4.length * 8 ≤ 140737488355328) (m5 : ∀ x ∈ l3, x.f2.length * 8 ≤ 140737488355328)
    (rows : List (List Load)) (row : List Load) (hrow : rows[nn]? = some row) (hval : ∀ l ∈ row, ValidL ⟨l2, l3, l4⟩ l)
    (HL : ∀ W, Below w.heap.size w W → Calls Try.prog 27 #[.agg #[.slice A0 l0.length c0, .slice A1 l1.length c1, .slice A2 l2.length c2, .slice A3 l3.length c3, .slice A4 l4.length c4]] W fun e w' => ∃ v, e = .returned (.tuple #[v, .int .i64 0]) ∧ Kd.S (Kd.slice 77 kLoad) 75 w' W.heap.size (fun _ => True) v rows ∧ Below W.heap.size W w')
    (HC : ∀ W v, Kd.S (Kd.slice 77 kLoad) 75 W (w.heap.size + 3) (fun _ => True) v rows → Calls Try.prog 28 #[v, .agg #[.int .i64 (nn : Int), .int .i64 load, .bool false]] W fun e w' => e = .returned (.int .i64 0) ∧ Below W.heap.size W w') :
    Calls Try.prog 8 #[.agg #[.slice A0 l0.length c0, .slice A1 l1.length c1, .slice A2 l2.length c2, .slice A3 l3.length c3, .slice A4 l4.length c4], .agg #[.int .i64 (nn : Int), .int .i64 load, .bool false]] w fun e w' => ∃ v0 v1 v2 v3 v4 : Value, e = .returned (.tuple #[.agg #[v0, v1, v2, v3, v4], .int .i64 0]) ∧
      NetR (fun _ => True) w.heap.size w' v0 v1 v2 v3 v4 l0 l1 (injectF load 0 row 0 ⟨l2, l3, l4⟩).fl (injectF load 0 row 0 ⟨l2, l3, l4⟩).ga (injectF load 0 row 0 ⟨l2, l3, l4⟩).ou ∧ Below w.heap.size w w' := by
  have hu := Try.underlying27
  have huF := Try.underlying29
  have huL := Try.underlying77
  have huG := Try.underlying80
  have huP := Try.underlying82
  have hW0 : Below w.heap.size w (((w.alloc (.cells #[.slice A0 l0.length c0, .slice A1 l1.length c1, .slice A2 l2.length c2, .slice A3 l3.length c3, .slice A4 l4.length c4] 27)).alloc (.cells #[.int .i64 (nn : Int), .int .i64 load, .bool false] 29)).alloc (.cells #[.slice none 0 0, .slice none 0 0, .slice none 0 0, .slice none 0 0, .slice none 0 0] 27)) := (((Below.refl _ _).alloc (Nat.le_refl _) _).alloc (by simp) _).alloc (by simp; omega) _
  have bel : ∀ x : Under (((w.alloc (.cells #[.slice A0 l0.length c0, .slice A1 l1.length c1, .slice A2 l2.length c2, .slice A3 l3.length c3, .slice A4 l4.length c4] 27)).alloc (.cells #[.int .i64 (nn : Int), .int .i64 load, .bool false] 29)).alloc (.cells #[.slice none 0 0, .slice none 0 0, .slice none 0 0, .slice none 0 0, .slice none 0 0] 27)), Below w.heap.size w x.val := fun x => hW0.trans (x.ok.mono (by simp; omega))
  have hsz : ∀ x : Under (((w.alloc (.cells #[.slice A0 l0.length c0, .slice A1 l1.length c1, .slice A2 l2.length c2, .slice A3 l3.length c3, .slice A4 l4.length c4] 27)).alloc (.cells #[.int .i64 (nn : Int), .int .i64 load, .bool false] 29)).alloc (.cells #[.slice none 0 0, .slice none 0 0, .slice none 0 0, .slice none 0 0, .slice none 0 0] 27)), w.heap.size + 2 < x.val.heap.size := fun x => Nat.lt_of_lt_of_le (by simp) x.size
  have hb3 : w.heap.size + 3 ≤ ((((w.alloc (.cells #[.slice A0 l0.length c0, .slice A1 l1.length c1, .slice A2 l2.length c2, .slice A3 l3.length c3, .slice A4 l4.length c4] 27)).alloc (.cells #[.int .i64 (nn : Int), .int .i64 load, .bool false] 29)).alloc (.cells #[.slice none 0 0, .slice none 0 0, .slice none 0 0, .slice none 0 0, .slice none 0 0] 27))).heap.size := Nat.le_of_eq (by simp)
  have hrb : ∀ x : Under (((w.alloc (.cells #[.slice A0 l0.length c0, .slice A1 l1.length c1, .slice A2 l2.length c2, .slice A3 l3.length c3, .slice A4 l4.length c4] 27)).alloc (.cells #[.int .i64 (nn : Int), .int .i64 load, .bool false] 29)).alloc (.cells #[.slice none 0 0, .slice none 0 0, .slice none 0 0, .slice none 0 0, .slice none 0 0] 27)), x.val.heap[w.heap.size + 1 + 1]? = some (.cells #[.slice none 0 0, .slice none 0 0, .slice none 0 0, .slice none 0 0, .slice none 0 0] 27 (0, 0)) := fun x => (x.ok.block (w.heap.size + 1 + 1) (by simp)).trans (heap_alloc3_new w _ _ _)
  have hnl : nn < rows.length := (List.getElem?_eq_some_iff.1 hrow).1
  have hnl2 : (nn : Int) < (rows.length : Int) := by omega
  have hrowh := Lib.hid hrow
  have hvalh := Lib.hid hval
  clear hrow hval
  go_enter Try.func8, Try.ntmps8
  go_wp2_with (first
    | (go_at_call 27; refine (HL _ hW0).mono ?_; rintro e w1 ⟨v, rfl, hS1, hB1⟩; obtain ⟨x1, rfl⟩ : ∃ x : Under (((w.alloc (.cells #[.slice A0 l0.length c0, .slice A1 l1.length c1, .slice A2 l2.length c2, .slice A3 l3.length c3, .slice A4 l4.length c4] 27)).alloc (.cells #[.int .i64 (nn : Int), .int .i64 load, .bool false] 29)).alloc (.cells #[.slice none 0 0, .slice none 0 0, .slice none 0 0, .slice none 0 0, .slice none 0 0] 27)), w1 = x.val := ⟨⟨w1, hB1⟩, rfl⟩; have hs1 := hsz x1; have hS1' := Kd.S_lower (base' := w.heap.size + 3) hS1 hb3; have hs1a : w.heap.size < x1.val.heap.size := (by omega); have hs1b : w.heap.size + 1 < x1.val.heap.size := (by omega); have HC1 := HC _ _ hS1'; obtain ⟨AR, cR, rfl, _, hR1⟩ := Kd.S_reads hS1)
    | (go_at_call 28; refine HC1.mono ?_; rintro e w2 ⟨rfl, hB2⟩; obtain ⟨x2, rfl⟩ : ∃ x : Under (((w.alloc (.cells #[.slice A0 l0.length c0, .slice A1 l1.length c1, .slice A2 l2.length c2, .slice A3 l3.length c3, .slice A4 l4.length c4] 27)).alloc (.cells #[.int .i64 (nn : Int), .int .i64 load, .bool false] 29)).alloc (.cells #[.slice none 0 0, .slice none 0 0, .slice none 0 0, .slice none 0 0, .slice none 0 0] 27)), w2 = x.val := ⟨⟨w2, x1.ok.trans (hB2.mono x1.size)⟩, rfl⟩; have hs2 := hsz x2; have hR2 := Kd.C_below hR1 hB2; have hs2a : w.heap.size < x2.val.heap.size := (by omega); have hs2b : w.heap.size + 1 < x2.val.heap.size := (by omega))
    | (go_at_call 29; refine (copy_calls A0 A1 A2 A3 A4 c0 c1 c2 c3 c4 l0 l1 l2 l3 l4 x2.val (Kd.C_below h0 (bel x2)) (Kd.C_below h1 (bel x2)) (Kd.C_below h2 (bel x2)) (Kd.C_below h3 (bel x2)) (Kd.C_below h4 (bel x2)) m0 m1 m2 m3 m4 m5).mono ?_; rintro e w3 ⟨v0, v1, v2, v3, v4, rfl, hr0, hr1, hr2, hr3, hr4, hB3⟩; obtain ⟨x3, rfl⟩ : ∃ x : Under x2.val, w3 = x.val := ⟨⟨w3, hB3⟩, rfl⟩; obtain ⟨B0, d0, rfl⟩ := Kd.R_slice hr0; obtain ⟨B1, d1, rfl⟩ := Kd.R_slice hr1; obtain ⟨B2, d2, rfl⟩ := Kd.R_slice hr2; obtain ⟨B3, d3, rfl⟩ := Kd.S_slice hr3; obtain ⟨B4, d4, rfl⟩ := Kd.R_slice hr4; have hs3 := x3.size; obtain ⟨br, or, Al, cl, rfl, hbr, hcr, hCl⟩ := kd_rows hR2 hrowh.out; have hs3a : w.heap.size < x3.val.heap.size := (by omega); have hs3b : w.heap.size + 1 < x3.val.heap.size := (by omega); have hs3c : br < x3.val.heap.size := (by omega)))
  have hN0 : NetAt (fun _ => True) x2.val.heap.size (x3.val.alloc (.cells #[.slice B0 l0.length d0, .slice B1 l1.length d1, .slice B2 l2.length d2, .slice B3 l3.length d3, .slice B4 l4.length d4] 27)) x3.val.heap.size (.slice B0 l0.length d0) (.slice B1 l1.length d1) (.slice B2 l2.length d2) (.slice B3 l3.length d3) (.slice B4 l4.length d4) l0 l1 ⟨l2, l3, l4⟩ :=
    ⟨heap_alloc_new _ _, NetR.below ⟨Kd.R_mono hr0 (fun _ h => ⟨trivial, h⟩), Kd.R_mono hr1 (fun _ h => ⟨trivial, h⟩), hr2, Kd.S_mono hr3 (fun _ h => ⟨trivial, h⟩), hr4⟩ (below_alloc (Below.refl _ _) _)⟩
  have hg9B := x3.size
  clear hr0 hr1 hr2 hr3 hr4 hR1 hR2 hS1 hS1' HC1 HL HC hB1 hB2 hB3
  generalize hg9 : x3.val.heap.size = g9 at *
  have hml := (kd_len hCl).2
  have hcb := Lib.hid (show True from trivial)
  go_loopg [11, 12, 39] row.length (fun d _ _ t wr => ∃ (i : Nat) (y : Under x2.val) (s : NetP), t = .int .i64 i ∧ wr = y.val ∧ Aside (i + d = row.length) ∧ NetAt (fun _ => True) x2.val.heap.size y.val g9 (.slice B0 l0.length d0) (.slice B1 l1.length d1) (.slice B2 l2.length d2) (.slice B3 l3.length d3) (.slice B4 l4.length d4) l0 l1 s ∧
    Shape ⟨l2, l3, l4⟩ s ∧ Aside (injectF load 0 (row.drop i) i s = injectF load 0 row 0 ⟨l2, l3, l4⟩))
  case atStart => exact ⟨0, x3.alloc _, ⟨l2, l3, l4⟩, rfl, rfl, by show 0 + row.length = row.length; omega, hN0, Shape.refl _, rfl⟩
  case round =>
    clear hN0
    obtain ⟨i, y, s, rfl, rfl, hi, hN, hSh, hL⟩ := hrel
    obtain ⟨hgl, hn0, hn1, hn2, hn3, hn4⟩ := hN.cell
    have hyl := y.size
    have hya : w.heap.size < y.val.heap.size := by omega
    have hyb : w.heap.size + 1 < y.val.heap.size := by omega
    have hyc : w.heap.size + 1 + 1 < y.val.heap.size := by omega
    by_cases hlt : i < row.length
    · obtain ⟨l, hl⟩ := get_ex hlt
      obtain ⟨b, ob, rfl, hb, hk0, hk1, hk2⟩ := kd_load hCl hl
      obtain ⟨gO, rfl⟩ : ∃ m, gk = m + 1 := ⟨gk - 1, by have := hi.out; omega⟩
      have hvl := (hvalh.out l (List.mem_of_getElem? hl)).shape hSh
      have hby : b < y.val.heap.size := by omega
      have hbn : b ≠ y.val.heap.size := by omega
      rw [drop_cons hl, injectF] at hL
      have hih := Lib.hid hi.out
      have hLh := Lib.hid hL.out
      clear hi hL hl
      by_cases hskip : 0 ≤ load ∧ load ≠ (i : Int)
      · obtain ⟨hs0, hs1⟩ := hskip
        rw [if_pos ⟨hs0, hs1⟩] at hLh
        have q1 : (load != (i : Int)) = true := by simpa using hs1
        have q2 : decide (0 ≤ load) = true := decide_eq_true hs0
        have hsh := Lib.hid hSh
        have hNh := Lib.hid hN
        clear hs1 hSh hN hvl
        go_wp2
        go_roundg gO
        case measure => have := hih.out; omega
        case rel => exact ⟨i + 1, y.alloc _, s, by go_num, rfl, by show i + 1 + gO = row.length; have := hih.out; omega, hNh.out.below (below_alloc (Below.refl _ _) _), hsh.out, hLh.out⟩
      · rw [if_neg hskip] at hLh
        have q12 : (decide (0 ≤ load) = false) ∨ (decide (0 ≤ load) = true ∧ (load != (i : Int)) = false) := by
          by_cases h : 0 ≤ load
          · exact .inr ⟨decide_eq_true h, by simpa using fun e => hskip ⟨h, e⟩⟩
          · exact .inl (decide_eq_false h)
        have hput := putOne_shape s l 0
        have hsh := Lib.hid (hSh.trans hput)
        have hNh := Lib.hid hN
        obtain ⟨f0, f1, f2⟩ := l
        simp only [ValidL] at hvl
        clear hskip hput hSh
        rcases hvl with ⟨rfl, i', k', x, rfl, rfl, hx, hk⟩ | ⟨rfl, i', x, rfl, hx⟩ | ⟨rfl, i', x, rfl, hx⟩ | ⟨rfl, i', rfl, hx⟩
        · obtain ⟨g3, c3', gi, ci, he3, hc3, hci, hfi, hg3l, hgil, hg3B, hgiB, -, hg3t, ⟨cs, hgit⟩, hset⟩ := hN.r.pin hx hk
          have hi3 : i' < l3.length := by
            have h5 := (List.getElem?_eq_some_iff.1 hx).1
            injection he3 with _ h6 _
            omega
          have hs' : putOne s ⟨0, i', k'⟩ 0 = ⟨s.fl, s.ga.set i' ⟨x.f0, x.f1, x.f2.set k' 0⟩, s.ou⟩ := by
            unfold putOne
            rw [if_pos rfl, Int.toNat_natCast, Int.toNat_natCast, modify_at _ hx]
          injection he3 with he3 he6 he3'
          clear he6
          subst he3
          subst he3'
          rw [hs'] at hsh hLh
          have hg9t := hN.blk
          have hx2 := Lib.hid hx
          clear hs' hN hx hg3t
          rcases q12 with q1 | ⟨q1, q2⟩
          all_goals
            go_wp2
            refine wp_region_splitT (fun w' => ∃ z : Under (y.val.alloc (.cells #[.int .i64 0, .int .i64 i', .int .i64 k'] 77)), w' = z.val) [true, true, true, true, true, true, true, true, true, true, false, false] (by kernel_rfl) (by kernel_rfl) (by decide) ⟨(Under.refl _).drew, rfl⟩ (fun _ _ d _ _ h => by cases d <;> exact h) ?_
            simp only [pickB, dropB]
            repeat (go_big_quiet_step (fail))
            refine wpQuiet_nil ?_
            refine wpListT_step (fun Q' hQ' => ?_)
            go_wp2_with fail
            refine ⟨⟨(Under.refl _).drew, rfl⟩, ?_⟩
            refine wpListT_last (fun Q' hQ' => ?_)
            go_wp2
            go_roundg gO
            case measure => have := hih.out; omega
            case rel =>
              refine ⟨i + 1, ((y.setCell ⟨gi, k', none⟩ hgiB _).alloc _).drew, _, by go_num, rfl, by show i + 1 + gO = row.length; have := hih.out; omega, ((NetAt.set hNh.out hgit (by decide) (hset 0)).below (below_alloc (Below.refl _ _) _)).below (below_drew (Below.refl _ _)), hsh.out, hLh.out⟩
        · obtain ⟨g2, c2', he2, hg2l, hg2B, -, ⟨cs, hg2t⟩, hd2, hd3, hf2, hf3, hset⟩ := hN.r.flop hx
          have hi2 : i' < l2.length := by
            have h5 := (List.getElem?_eq_some_iff.1 hx).1
            injection he2 with _ h6 _
            omega
          have hs' : putOne s ⟨1, i', f2⟩ 0 = ⟨s.fl.set i' ⟨x.f0, x.f1, 0, x.f3, x.f4⟩, s.ga, s.ou⟩ := by
            unfold putOne
            rw [if_neg (show ¬ ((1 : Int) = 0) by decide), if_pos rfl, Int.toNat_natCast, modify_at _ hx]
          injection he2 with he2 he6 he2'
          clear he6
          subst he2
          subst he2'
          rw [hs'] at hsh hLh
          clear hs' hN hx
          rcases q12 with q1 | ⟨q1, q2⟩
          all_goals
            go_wp2
            go_roundg gO
            case measure => have := hih.out; omega
            case rel =>
              refine ⟨i + 1, (y.setCell ⟨g2, i' * 5 + 2, none⟩ hg2B _).alloc _, _, by go_num, rfl, by show i + 1 + gO = row.length; have := hih.out; omega, (NetAt.set hNh.out hg2t (by decide) (hset 0).1).below (below_alloc (Below.refl _ _) _), hsh.out, hLh.out⟩
        · obtain ⟨g2, c2', he2, hg2l, hg2B, -, ⟨cs, hg2t⟩, hd2, hd3, hf2, hf3, hset⟩ := hN.r.flop hx
          have hi2 : i' < l2.length := by
            have h5 := (List.getElem?_eq_some_iff.1 hx).1
            injection he2 with _ h6 _
            omega
          have hs' : putOne s ⟨2, i', f2⟩ 0 = ⟨s.fl.set i' ⟨x.f0, x.f1, x.f2, 0, x.f4⟩, s.ga, s.ou⟩ := by
            unfold putOne
            rw [if_neg (show ¬ ((2 : Int) = 0) by decide), if_neg (show ¬ ((2 : Int) = 1) by decide), if_pos rfl, Int.toNat_natCast, modify_at _ hx]
          injection he2 with he2 he6 he2'
          clear he6
          subst he2
          subst he2'
          rw [hs'] at hsh hLh
          clear hs' hN hx
          rcases q12 with q1 | ⟨q1, q2⟩
          all_goals
            go_wp2
            go_roundg gO
            case measure => have := hih.out; omega
            case rel =>
              refine ⟨i + 1, (y.setCell ⟨g2, i' * 5 + 3, none⟩ hg2B _).alloc _, _, by go_num, rfl, by show i + 1 + gO = row.length; have := hih.out; omega, (NetAt.set hNh.out hg2t (by decide) (hset 0).2).below (below_alloc (Below.refl _ _) _), hsh.out, hLh.out⟩
        · obtain ⟨g4, c4', he4, hg4l, hg4B, -, ⟨cs, hg4t⟩, hd4, hf4, hset⟩ := hN.r.out hx
          have hi4 : i' < l4.length := by
            injection he4 with _ h6 _
            omega
          have hs' : putOne s ⟨3, i', f2⟩ 0 = ⟨s.fl, s.ga, s.ou.set i' 0⟩ := by
            unfold putOne
            rw [if_neg (show ¬ ((3 : Int) = 0) by decide), if_neg (show ¬ ((3 : Int) = 1) by decide), if_neg (show ¬ ((3 : Int) = 2) by decide), Int.toNat_natCast]
          injection he4 with he4 he6 he4'
          clear he6
          subst he4
          subst he4'
          rw [hs'] at hsh hLh
          clear hs' hN hx
          rcases q12 with q1 | ⟨q1, q2⟩
          all_goals
            go_wp2
            go_roundg gO
            case measure => have := hih.out; omega
            case rel =>
              refine ⟨i + 1, (y.setCell ⟨g4, i', none⟩ hg4B _).alloc _, _, by go_num, rfl, by show i + 1 + gO = row.length; have := hih.out; omega, (NetAt.set hNh.out hg4t (by decide) (hset 0)).below (below_alloc (Below.refl _ _) _), hsh.out, hLh.out⟩
    · obtain rfl : i = row.length := by have := hi.out; omega
      rw [drop_end, injectF] at hL
      have hrbx := (y.ok.block (w.heap.size + 1 + 1) (by omega)).trans (hrb x2)
      have hLh := Lib.hid hL.out
      have hNh := Lib.hid hN
      clear hi hL hN hSh
      go_wp2
      ((try simp only [Exit.inBlock, Exit.then]); refine bodyPost_ret (results_cell_tmp_row rfl _ _ (w.heap.size + 1 + 1) _ _ _ _ rfl (set5 (.slice B0 l0.length d0) (.slice B1 l1.length d1) (.slice B2 l2.length d2) (.slice B3 l3.length d3) (.slice B4 l4.length d4) hrbx).1 Try.underlying27 rfl (by kernel_rfl)) rfl ?_)
      have hBy : Below w.heap.size w y.val := (bel x2).trans (y.ok.mono (by omega))
      rw [hLh.out] at hNh
      refine ⟨_, _, _, _, _, rfl, (hNh.out.r.vars (fun k hk hB => (set5 _ _ _ _ _ hrbx).2 k (by omega))).lower (by omega), ((((hBy.setCell (p := ⟨w.heap.size + 1 + 1, 0, none⟩) (by simp; omega) _).setCell (p := ⟨w.heap.size + 1 + 1, 1, none⟩) (by simp; omega) _).setCell (p := ⟨w.heap.size + 1 + 1, 2, none⟩) (by simp; omega) _).setCell (p := ⟨w.heap.size + 1 + 1, 3, none⟩) (by simp; omega) _).setCell (p := ⟨w.heap.size + 1 + 1, 4, none⟩) (by simp; omega) _⟩
end Go.Proofs.Ytimjccfpobhpeaa
namespace Go.Proofs.Ytimjccfpobhpeaa
open Go.RowKit Go.Proofs.YtimjccfpobhpeaaW.PrintWords Go.Proofs.Ytimjccfpobhpeaa.PF
set_option linter.unusedVariables false
inductive Pl
  | pin (i k : Nat)
  | d (i : Nat)
  | en (i : Nat)
  | out (i : Nat)
def toL : Pl → Load
  | .pin i k => ⟨0, i, k⟩
  | .d i => ⟨1, i, 0⟩
  | .en i => ⟨2, i, 0⟩
  | .out i => ⟨3, i, 0⟩
theorem toL_inj {p q : Pl} (h : toL p = toL q) : p = q := by
  cases p <;> cases q <;> simp only [toL] at h <;> injection h with h0 h1 h2 <;> first | (have e1 := Int.ofNat.inj h1; have e2 := Int.ofNat.inj h2; subst e1 e2; rfl) | (have e1 := Int.ofNat.inj h1; subst e1; rfl) | (exfalso; omega)
def getP (s : NetP) : Pl → Option Int
  | .pin i k => (s.ga[i]?).bind fun x => x.f2[k]?
  | .d i => (s.fl[i]?).map (·.f2)
  | .en i => (s.fl[i]?).map (·.f3)
  | .out i => s.ou[i]?
end Go.Proofs.Ytimjccfpobhpeaa
namespace Go.Proofs.Ytimjccfpobhpeaa.PF
open Go.RowKit Go.Proofs.YtimjccfpobhpeaaW.PrintWords Go.Proofs.YtimjccfpobhpeaaW.PrintLast Go.Proofs.YtimjccfpobhpeaaW.PrintMore
set_option linter.unusedVariables false
set_option linter.unusedSimpArgs false
def copyFits (l0 l1 : List ByteArray) (l2 : List S82) (l3 : List S80) (l4 : List Int) : Bool :=
  decide (l0.length * 16 ≤ 140737488355328) && decide (l1.length * 16 ≤ 140737488355328) && decide (l2.length * 48 ≤ 140737488355328) && decide (l3.length * 40 ≤ 140737488355328) && decide (l4.length * 8 ≤ 140737488355328) && l3.all fun x => decide (x.f2.length * 8 ≤ 140737488355328)
end Go.Proofs.Ytimjccfpobhpeaa.PF
namespace Go.Proofs.Ytimjccfpobhpeaa.PF
open Go.RowKit Go.Proofs.YtimjccfpobhpeaaW.PrintWords Go.Proofs.YtimjccfpobhpeaaW.PrintLast Go.Proofs.YtimjccfpobhpeaaW.PrintMore
set_option linter.unusedVariables false
set_option linter.unusedSimpArgs false
def fault_check.j0 : Nat → List (List (S77)) → Bool → Int → Int → Bool → Option (Int)
  | 0, _, _, _, _, _ => none
  | k + 1, x0, x5, x127000, x127001, x127002 => if x5 = true then (some 7) else (if x127001 < (-1) then (some 2) else (if 0 ≤ x127000 then (if x127000 < (x0.length : Int) then (if x127001 ≥ ((rd_L12 x0 x127000).length : Int) then (some 2) else (some 0)) else (none)) else (none)))
def fault_check.f (k : Nat) (l0 : List (List (S77))) (a1_0 : Int) (a1_1 : Int) (a1_2 : Bool) : Option (Int) := if a1_0 < 2 then (fault_check.j0 k l0 true a1_0 a1_1 a1_2) else (fault_check.j0 k l0 (decide (a1_0 ≥ (l0.length : Int))) a1_0 a1_1 a1_2)
theorem fault_check.mono_l : ∀ k, (∀ y0 y1 y2 y3 y4, LeO (fault_check.j0 k y0 y1 y2 y3 y4) (fault_check.j0 (k + 1) y0 y1 y2 y3 y4))
  | 0 => fun _ _ _ _ _ r h => by simp [fault_check.j0] at h
  | k + 1 => by
    have ih0 := fault_check.mono_l k
    · intro y0 y1 y2 y3 y4
      unfold fault_check.j0
      repeat' first
      | (with_reducible exact ih0 _ _ _ _ _)
      | (with_reducible exact LeO.refl _)
      | (with_reducible exact LeO.none _)
      | (with_reducible refine LeO.ite ?_ ?_)
      | (with_reducible refine LeO.bind ?_ (fun _ => ?_))
      | exact ih0 _ _ _ _ _
      | exact LeO.none _
      | refine LeO.ite ?_ ?_
      | refine LeO.bind ?_ (fun _ => ?_)
theorem fault_check.mono : ∀ a0 a1 a2 a3 k, LeO (fault_check.f k a0 a1 a2 a3) (fault_check.f (k + 1) a0 a1 a2 a3) := by
  intro a0 a1 a2 a3 k
  have ih0 := fault_check.mono_l k
  unfold fault_check.f
  repeat' first
      | (with_reducible exact ih0 _ _ _ _ _)
      | (with_reducible exact LeO.refl _)
      | (with_reducible exact LeO.none _)
      | (with_reducible refine LeO.ite ?_ ?_)
      | (with_reducible refine LeO.bind ?_ (fun _ => ?_))
      | exact ih0 _ _ _ _ _
      | exact LeO.none _
      | refine LeO.ite ?_ ?_
      | refine LeO.bind ?_ (fun _ => ?_)
set_option maxHeartbeats 8000000 in
set_option maxRecDepth 100000 in
theorem fault_check.calls (k : Nat) (A0 : Option Addr) (c0 : Nat) (l0 : List (List (S77))) (a1_0 : Int) (a1_1 : Int) (a1_2 : Bool) (r : Int) (w : World) (hr0 : Kd.C (Kd.slice 77 k77) w A0 l0.length l0) (hc0 : l0.length ≤ c0) (h : fault_check.f k l0 a1_0 a1_1 a1_2 = some r) :
    Calls Try.prog 28 #[.slice A0 l0.length c0, .agg #[.int .i64 a1_0, .int .i64 a1_1, .bool a1_2]] w fun e w' => e = .returned (.int .i64 r) ∧ Below w.heap.size w w' := by
  have hu29 := Try.underlying29
  have HR0 := Aside0.mk hr0
  have HC0 := Aside0.mk hc0
  clear hr0 hc0
  have HB := Aside0.mk (Below.refl w.heap.size w)
  have H : (if a1_0 < 2 then (fault_check.j0 k l0 true a1_0 a1_1 a1_2) else (fault_check.j0 k l0 (decide (a1_0 ≥ (l0.length : Int))) a1_0 a1_1 a1_2)) = some r := h
  clear h
  have HC3 := Aside0.mk H
  clear H
  go_enter Try.func28, Try.ntmps28
  go_upto_region 1 with (first | ((with_reducible refine gate_dst (N := 3) rfl ?_); (try (refine gate_guard (by rfl) ?_; dsimp only)); refine box_event ?hg (N := 3) ?hd (cs := #[.int .i64 a1_0, .int .i64 a1_1, .bool a1_2]) (t := 29) ?hr ?_; (case hd => rfl); (case hg => rfl); (case hr => first | (go_simp; done) | (go_simp; rfl)); intro gb126 hg w4 hbox hb; have n0_ := Aside0.mk (below_step (by repeat (first | (with_reducible first | exact HB.out | apply below_alloc | apply pw_below_drewN | apply below_drew1) | exact HB.out)) hb); have n1_ := Aside0.mk (hbox); have n2_ := Aside0.mk ((by rw [hg]; exact (below_size (by repeat (first | (with_reducible first | exact HB.out | apply below_alloc | apply pw_below_drewN | apply below_drew1) | exact HB.out))) : w.heap.size ≤ gb126)); have n3_ := Aside0.mk ((by rw [hg]; exact (below_size (by repeat (first | (with_reducible first | exact HB.out | apply below_alloc | apply pw_below_drewN | apply below_drew1) | exact HB.out))) : w.heap.size ≤ gb126)); clear HB; have HB := n0_; have BK126 := n1_; have GW126 := n2_; have GE126 := n3_; clear n0_ n1_ n2_ n3_; clear hb hbox hg))
  repeat (go_quiet (first | ((with_reducible refine gate_dst (N := 3) rfl ?_); (try (refine gate_guard (by rfl) ?_; dsimp only)); refine box_event ?hg (N := 3) ?hd (cs := #[.int .i64 a1_0, .int .i64 a1_1, .bool a1_2]) (t := 29) ?hr ?_; (case hd => rfl); (case hg => rfl); (case hr => first | (go_simp; done) | (go_simp; rfl)); intro gb126 hg w4 hbox hb; have n0_ := Aside0.mk (below_step (by repeat (first | (with_reducible first | exact HB.out | apply below_alloc | apply pw_below_drewN | apply below_drew1) | exact HB.out)) hb); have n1_ := Aside0.mk (hbox); have n2_ := Aside0.mk ((by rw [hg]; exact (below_size (by repeat (first | (with_reducible first | exact HB.out | apply below_alloc | apply pw_below_drewN | apply below_drew1) | exact HB.out))) : w.heap.size ≤ gb126)); have n3_ := Aside0.mk ((by rw [hg]; exact (below_size (by repeat (first | (with_reducible first | exact HB.out | apply below_alloc | apply pw_below_drewN | apply below_drew1) | exact HB.out))) : w.heap.size ≤ gb126)); clear HB; have HB := n0_; have BK126 := n1_; have GW126 := n2_; have GE126 := n3_; clear n0_ n1_ n2_ n3_; clear hb hbox hg)); go_upto_region 1 with (first | ((with_reducible refine gate_dst (N := 3) rfl ?_); (try (refine gate_guard (by rfl) ?_; dsimp only)); refine box_event ?hg (N := 3) ?hd (cs := #[.int .i64 a1_0, .int .i64 a1_1, .bool a1_2]) (t := 29) ?hr ?_; (case hd => rfl); (case hg => rfl); (case hr => first | (go_simp; done) | (go_simp; rfl)); intro gb126 hg w4 hbox hb; have n0_ := Aside0.mk (below_step (by repeat (first | (with_reducible first | exact HB.out | apply below_alloc | apply pw_below_drewN | apply below_drew1) | exact HB.out)) hb); have n1_ := Aside0.mk (hbox); have n2_ := Aside0.mk ((by rw [hg]; exact (below_size (by repeat (first | (with_reducible first | exact HB.out | apply below_alloc | apply pw_below_drewN | apply below_drew1) | exact HB.out))) : w.heap.size ≤ gb126)); have n3_ := Aside0.mk ((by rw [hg]; exact (below_size (by repeat (first | (with_reducible first | exact HB.out | apply below_alloc | apply pw_below_drewN | apply below_drew1) | exact HB.out))) : w.heap.size ≤ gb126)); clear HB; have HB := n0_; have BK126 := n1_; have GW126 := n2_; have GE126 := n3_; clear n0_ n1_ n2_ n3_; clear hb hbox hg)))
  (try simp only [Act.put, List.setIfInBounds_toArray, List.set_cons_zero, List.set_cons_succ])
  go_cut [5] (fun v5 wc => ∃ (kq : Nat) (x5_2 : Bool), v5 = .bool x5_2 ∧ Aside0 (fault_check.j0 kq l0 x5_2 a1_0 a1_1 a1_2 = some r) ∧ Aside0 (kq ≤ k) ∧ Aside0 (wc.heap[gb126]? = some (.cells #[.int .i64 a1_0, .int .i64 a1_1, .bool a1_2] 29 (0, 0))) ∧ Aside0 (Below w.heap.size w wc))
  case first =>
    have H := HC3.out
    clear HC3
    by_cases c5 : a1_0 < 2
    · rw [if_pos c5] at H
      have c5b0 : decide (a1_0 < 2) = true := decide_eq_true c5
      clear c5
      (first | rw [c5b0] | (simp only [i64_w, i32_w]; rw [c5b0]) | skip)
      have H' := Aside0.mk H
      clear H
      have hcz6_0 : w4.cell? ⟨gb126, 0, none⟩ = some (.int .i64 a1_0) := (blk_cell BK126.out 0).trans rfl
      have hcz6_1 : w4.cell? ⟨gb126, 1, none⟩ = some (.int .i64 a1_1) := (blk_cell BK126.out 1).trans rfl
      have hcz6_2 : w4.cell? ⟨gb126, 2, none⟩ = some (.bool a1_2) := (blk_cell BK126.out 2).trans rfl
      have hfz6_0 := blk_frozen BK126.out 0
      have hfz6_1 := blk_frozen BK126.out 1
      have hfz6_2 := blk_frozen BK126.out 2
      go_wp2
      repeat (go_quiet (fail); try go_wp2)
      go_meet
      case rel => exact ⟨_, (true), (by first | rfl | (simp; done) | (simp [*]; done)), H', ⟨by first | omega | exact Nat.le_refl _⟩, ⟨by (with_reducible repeat (first | refine blk_drewN ?_ _ | refine blk_drew ?_ | refine blk_alloc ?_ _)); exact BK126.out⟩, ⟨by repeat (first | (with_reducible first | exact HB.out | apply below_alloc | apply pw_below_drewN | apply below_drew1 | refine below_set ?_ GE126.out) | exact HB.out)⟩⟩
    · rw [if_neg c5] at H
      have c5b0 : decide (a1_0 < 2) = false := decide_eq_false c5
      clear c5
      (first | rw [c5b0] | (simp only [i64_w, i32_w]; rw [c5b0]) | skip)
      have H' := Aside0.mk H
      clear H
      have hcz7_0 : w4.cell? ⟨gb126, 0, none⟩ = some (.int .i64 a1_0) := (blk_cell BK126.out 0).trans rfl
      have hcz7_1 : w4.cell? ⟨gb126, 1, none⟩ = some (.int .i64 a1_1) := (blk_cell BK126.out 1).trans rfl
      have hcz7_2 : w4.cell? ⟨gb126, 2, none⟩ = some (.bool a1_2) := (blk_cell BK126.out 2).trans rfl
      have hfz7_0 := blk_frozen BK126.out 0
      have hfz7_1 := blk_frozen BK126.out 1
      have hfz7_2 := blk_frozen BK126.out 2
      go_wp2
      repeat (go_quiet (fail); try go_wp2)
      go_meet
      case rel => exact ⟨_, (decide (a1_0 ≥ (l0.length : Int))), (by first | rfl | (simp; done) | (simp [*]; done)), H', ⟨by first | omega | exact Nat.le_refl _⟩, ⟨by (with_reducible repeat (first | refine blk_drewN ?_ _ | refine blk_drew ?_ | refine blk_alloc ?_ _)); exact BK126.out⟩, ⟨by repeat (first | (with_reducible first | exact HB.out | apply below_alloc | apply pw_below_drewN | apply below_drew1 | refine below_set ?_ GE126.out) | exact HB.out)⟩⟩
  case rest =>
    clear HC3
    try clear c2
    try clear p2
    try clear c5
    try clear c5b0
    try clear hcz6_0
    try clear hcz6_1
    try clear hcz6_2
    try clear hcz7_0
    try clear hcz7_1
    try clear hcz7_2
    try clear hfz6_0
    try clear hfz6_1
    try clear hfz6_2
    try clear hfz7_0
    try clear hfz7_1
    try clear hfz7_2
    obtain ⟨kq, x5_2, rfl, HA, HJ2, BK126, HB⟩ := hcut
    cases kq with
    | zero => exact absurd HA.out (by simp [fault_check.j0])
    | succ kj2 =>
      have H := HA.out
      clear HA
      simp only [fault_check.j0] at H
      by_cases c8 : x5_2 = true
      · subst c8
        have H1 : (some 7) = some r := by rw [if_pos rfl] at H; exact H
        clear H
        have H := H1
        clear H1
        obtain rfl := Option.some.inj H
        go_wp2
        repeat (go_quiet (fail); try go_wp2)
        go_ret
        exact ⟨by first | rfl | (simp [errW_none, errW_some] <;> rfl) | (simp [*, errW_none, errW_some] <;> rfl), by repeat (first | (with_reducible first | exact HB.out | apply below_alloc | apply pw_below_drewN | apply below_drew1 | refine below_set ?_ GE126.out) | exact HB.out)⟩
      · replace c8 := Bool.eq_false_iff.mpr c8
        subst c8
        have H1 : (if a1_1 < (-1) then (some 2) else (if 0 ≤ a1_0 then (if a1_0 < (l0.length : Int) then (if a1_1 ≥ ((rd_L12 l0 a1_0).length : Int) then (some 2) else (some 0)) else (none)) else (none))) = some r := by rw [if_neg (show ¬ (false = true) by decide)] at H; exact H
        clear H
        have H := H1
        clear H1
        by_cases c9 : a1_1 < (-1)
        · rw [if_pos c9] at H
          have c9b0 : decide (a1_1 < (-1)) = true := decide_eq_true c9
          clear c9
          obtain rfl := Option.some.inj H
          have hcz10_0 : wc.cell? ⟨gb126, 0, none⟩ = some (.int .i64 a1_0) := (blk_cell BK126.out 0).trans rfl
          have hcz10_1 : wc.cell? ⟨gb126, 1, none⟩ = some (.int .i64 a1_1) := (blk_cell BK126.out 1).trans rfl
          have hcz10_2 : wc.cell? ⟨gb126, 2, none⟩ = some (.bool a1_2) := (blk_cell BK126.out 2).trans rfl
          have hfz10_0 := blk_frozen BK126.out 0
          have hfz10_1 := blk_frozen BK126.out 1
          have hfz10_2 := blk_frozen BK126.out 2
          go_wp2
          repeat (go_quiet (fail); try go_wp2)
          go_ret
          exact ⟨by first | rfl | (simp [errW_none, errW_some] <;> rfl) | (simp [*, errW_none, errW_some] <;> rfl), by repeat (first | (with_reducible first | exact HB.out | apply below_alloc | apply pw_below_drewN | apply below_drew1 | refine below_set ?_ GE126.out) | exact HB.out)⟩
        · rw [if_neg c9] at H
          have c9b0 : decide (a1_1 < (-1)) = false := decide_eq_false c9
          clear c9
          by_cases c11 : 0 ≤ a1_0
          · rw [if_pos c11] at H
            have c11b0 : decide (0 ≤ a1_0) = true := decide_eq_true c11
            clear c11
            by_cases c12 : a1_0 < (l0.length : Int)
            · rw [if_pos c12] at H
              have c12b0 : decide (a1_0 < (l0.length : Int)) = true := decide_eq_true c12
              clear c12
              by_cases c13 : a1_1 ≥ ((rd_L12 l0 a1_0).length : Int)
              · rw [if_pos c13] at H
                have c13b0 : decide (((rd_L12 l0 a1_0).length : Int) ≤ a1_1) = true := decide_eq_true c13
                clear c13
                obtain rfl := Option.some.inj H
                have hcz14_0 : wc.cell? ⟨gb126, 0, none⟩ = some (.int .i64 a1_0) := (blk_cell BK126.out 0).trans rfl
                have hcz14_1 : wc.cell? ⟨gb126, 1, none⟩ = some (.int .i64 a1_1) := (blk_cell BK126.out 1).trans rfl
                have hcz14_2 : wc.cell? ⟨gb126, 2, none⟩ = some (.bool a1_2) := (blk_cell BK126.out 2).trans rfl
                have hfz14_0 := blk_frozen BK126.out 0
                have hfz14_1 := blk_frozen BK126.out 1
                have hfz14_2 := blk_frozen BK126.out 2
                have p127 : 0 ≤ (a1_0 : Int) := of_decide_eq_true (by first | (with_reducible assumption) | assumption)
                have q127 : a1_0 < (l0.length : Int) := of_decide_eq_true (by first | (with_reducible assumption) | assumption)
                obtain ⟨ad127, A127_0, c127_0, e127, hx127_0, hl127_0, hi127_0⟩ := at_L12 HR0.out a1_0 p127 q127
                cases e127
                replace hx127_0 := (HB.out.cell (World.block_lt_of_cell? w _ hx127_0)).trans hx127_0
                have HR127_0 := Aside0.mk hi127_0
                have HC127_0 := Aside0.mk hl127_0
                clear hi127_0 hl127_0
                replace p127 := eq_true p127
                replace q127 := eq_true q127
                go_wp2
                repeat (go_quiet (fail); try go_wp2)
                go_ret
                exact ⟨by first | rfl | (simp [errW_none, errW_some] <;> rfl) | (simp [*, errW_none, errW_some] <;> rfl), by repeat (first | (with_reducible first | exact HB.out | apply below_alloc | apply pw_below_drewN | apply below_drew1 | refine below_set ?_ GE126.out) | exact HB.out)⟩
              · rw [if_neg c13] at H
                have c13b0 : decide (((rd_L12 l0 a1_0).length : Int) ≤ a1_1) = false := decide_eq_false c13
                clear c13
                obtain rfl := Option.some.inj H
                have hcz15_0 : wc.cell? ⟨gb126, 0, none⟩ = some (.int .i64 a1_0) := (blk_cell BK126.out 0).trans rfl
                have hcz15_1 : wc.cell? ⟨gb126, 1, none⟩ = some (.int .i64 a1_1) := (blk_cell BK126.out 1).trans rfl
                have hcz15_2 : wc.cell? ⟨gb126, 2, none⟩ = some (.bool a1_2) := (blk_cell BK126.out 2).trans rfl
                have hfz15_0 := blk_frozen BK126.out 0
                have hfz15_1 := blk_frozen BK126.out 1
                have hfz15_2 := blk_frozen BK126.out 2
                have p127 : 0 ≤ (a1_0 : Int) := of_decide_eq_true (by first | (with_reducible assumption) | assumption)
                have q127 : a1_0 < (l0.length : Int) := of_decide_eq_true (by first | (with_reducible assumption) | assumption)
                obtain ⟨ad127, A127_0, c127_0, e127, hx127_0, hl127_0, hi127_0⟩ := at_L12 HR0.out a1_0 p127 q127
                cases e127
                replace hx127_0 := (HB.out.cell (World.block_lt_of_cell? w _ hx127_0)).trans hx127_0
                have HR127_0 := Aside0.mk hi127_0
                have HC127_0 := Aside0.mk hl127_0
                clear hi127_0 hl127_0
                replace p127 := eq_true p127
                replace q127 := eq_true q127
                go_wp2
                repeat (go_quiet (fail); try go_wp2)
                go_ret
                exact ⟨by first | rfl | (simp [errW_none, errW_some] <;> rfl) | (simp [*, errW_none, errW_some] <;> rfl), by repeat (first | (with_reducible first | exact HB.out | apply below_alloc | apply pw_below_drewN | apply below_drew1 | refine below_set ?_ GE126.out) | exact HB.out)⟩
            · rw [if_neg c12] at H
              exact absurd H (by simp)
          · rw [if_neg c11] at H
            exact absurd H (by simp)
end Go.Proofs.Ytimjccfpobhpeaa.PF
namespace Go.Proofs.Ytimjccfpobhpeaa.PF
open Go.RowKit Go.Proofs.YtimjccfpobhpeaaW.PrintWords Go.Proofs.YtimjccfpobhpeaaW.PrintLast Go.Proofs.YtimjccfpobhpeaaW.PrintMore
set_option linter.unusedVariables false
set_option linter.unusedSimpArgs false
theorem fault_check.ok {k : Nat} {rows : List (List S77)} {a b : Int} {c : Bool} (h : fault_check.f k rows a b c = some 0) : 2 ≤ a ∧ a < rows.length ∧ -1 ≤ b ∧ b < ((rows.getD a.toNat []).length : Int) := by
  unfold fault_check.f at h
  cases k with
  | zero => split at h <;> simp [fault_check.j0] at h
  | succ k =>
    split at h
    · simp [fault_check.j0] at h
    · rename_i h1
      rw [fault_check.j0] at h
      split at h
      · simp at h
      · rename_i h2
        split at h
        · simp at h
        · split at h
          · split at h
            · split at h
              · simp at h
              · rename_i h3 h4 h5 h6
                simp only [rd_L12] at h6
                simp only [decide_eq_true_eq] at h2
                exact ⟨by omega, by omega, by omega, by omega⟩
            · simp at h
          · simp at h
theorem netlist_Loads.ok {k : Nat} {l0 l1 : List ByteArray} {l2 : List S82} {l3 : List S80} {l4 : List Int} {rows : List (List S77)} (h : netlist_Loads.f k l0 l1 l2 l3 l4 = some (rows, 0)) :
    netlist_Form.f k l0 l1 l2 l3 l4 = some 0 ∧ loadsFit l0 l2 l3 l4 = true ∧ rows = loadsOf l0 l2 l3 l4 := by
  unfold netlist_Loads.f at h
  obtain ⟨e, he, h2⟩ := Option.bind_eq_some_iff.1 h
  by_cases h0 : e = 0
  · subst h0
    rw [if_pos rfl] at h2
    by_cases hf : loadsFit l0 l2 l3 l4 = true
    · rw [if_pos hf] at h2
      simp only [Option.some.injEq, Prod.mk.injEq] at h2
      exact ⟨he, hf, h2.1.symm⟩
    · rw [if_neg hf] at h2
      cases h2
  · rw [if_neg h0] at h2
    simp only [Option.some.injEq, Prod.mk.injEq] at h2
    exact absurd h2.2 h0
theorem loadsOf_row {l0 : List ByteArray} {l2 : List S82} {l3 : List S80} {l4 : List Int} (hf : loadsFit l0 l2 l3 l4 = true) {j : Nat} (hj : j < netsOf l0 l2 l3) : (loadsOf l0 l2 l3 l4)[j]? = some (((placesOf l2 l3 l4).filter fun p => decide (p.1 = (j : Int))).map (·.2)) := by
  have hg := (loadsFit_good hf).1
  have hr := loadsFrom_row (placesOf l2 l3 l4) (List.replicate (netsOf l0 l2 l3) []) (fun p hp => by rw [hg.len]; exact hg.rng p hp) j (by rw [hg.len]; exact hj)
  have hl : (loadsOf l0 l2 l3 l4).length = netsOf l0 l2 l3 := by
    unfold loadsOf
    rw [loadsFrom_len, hg.len]
  rw [List.getD_eq_getElem?_getD] at hr
  have h2 : (loadsOf l0 l2 l3 l4)[j]? = some ((loadsOf l0 l2 l3 l4)[j]'(by omega)) := List.getElem?_eq_getElem _
  unfold loadsOf at h2
  rw [h2, Option.getD_some] at hr
  unfold loadsOf
  rw [h2, hr]
  simp [List.getD, List.getElem?_replicate, hj]
theorem loadsOf_len {l0 : List ByteArray} {l2 : List S82} {l3 : List S80} {l4 : List Int} : (loadsOf l0 l2 l3 l4).length = netsOf l0 l2 l3 := by
  unfold loadsOf
  rw [loadsFrom_len, List.length_replicate]
def injRes (rows : List (List S77)) (a b : Int) (c : Bool) (l2 : List S82) (l3 : List S80) (l4 : List Int) : NetP := injectF b (if c = true then 1 else 0) (rows.getD a.toNat []) 0 ⟨l2, l3, l4⟩
def fault_Inject.f (k : Nat) (l0_0 : List ByteArray) (l0_1 : List ByteArray) (l0_2 : List (S82)) (l0_3 : List (S80)) (l0_4 : List Int) (a1_0 : Int) (a1_1 : Int) (a1_2 : Bool) : Option (List ByteArray × List ByteArray × (List (S82)) × (List (S80)) × List Int × Int) := (netlist_Loads.f k l0_0 l0_1 l0_2 l0_3 l0_4).bind fun r => if r.2 = 0 then ((fault_check.f k r.1 a1_0 a1_1 a1_2).bind fun e2 => if e2 = 0 then (if copyFits l0_0 l0_1 l0_2 l0_3 l0_4 = true then some (l0_0, l0_1, (injRes r.1 a1_0 a1_1 a1_2 l0_2 l0_3 l0_4).fl, (injRes r.1 a1_0 a1_1 a1_2 l0_2 l0_3 l0_4).ga, (injRes r.1 a1_0 a1_1 a1_2 l0_2 l0_3 l0_4).ou, 0) else none) else some ([], [], [], [], [], e2)) else some ([], [], [], [], [], r.2)
theorem fault_Inject.mono : ∀ a0 a1 a2 a3 a4 a5 a6 a7 k, LeO (fault_Inject.f k a0 a1 a2 a3 a4 a5 a6 a7) (fault_Inject.f (k + 1) a0 a1 a2 a3 a4 a5 a6 a7) := fun a0 a1 a2 a3 a4 a5 a6 a7 k => LeO.bind (netlist_Loads.mono a0 a1 a2 a3 a4 k) (fun r => LeO.ite (LeO.bind (fault_check.mono _ _ _ _ k) (fun _ => LeO.refl _)) (LeO.refl _))
set_option maxHeartbeats 2000000 in
theorem fault_Inject.calls (k : Nat) (A0_0 : Option Addr) (c0_0 : Nat) (l0_0 : List ByteArray) (A0_1 : Option Addr) (c0_1 : Nat) (l0_1 : List ByteArray) (A0_2 : Option Addr) (c0_2 : Nat) (l0_2 : List (S82)) (A0_3 : Option Addr) (c0_3 : Nat) (l0_3 : List (S80)) (A0_4 : Option Addr) (c0_4 : Nat) (l0_4 : List Int) (a1_0 : Int) (a1_1 : Int) (a1_2 : Bool) (r1 : List ByteArray) (r2 : List ByteArray) (r3 : List (S82)) (r4 : List (S80)) (r5 : List Int) (r6 : Int) (w : World) (hr0_0 : Kd.C Kd.string w A0_0 l0_0.length l0_0) (hc0_0 : l0_0.length ≤ c0_0) (hr0_1 : Kd.C Kd.string w A0_1 l0_1.length l0_1) (hc0_1 : l0_1.length ≤ c0_1) (hr0_2 : Kd.C k82 w A0_2 l0_2.length l0_2) (hc0_2 : l0_2.length ≤ c0_2) (hr0_3 : Kd.C k80 w A0_3 l0_3.length l0_3) (hc0_3 : l0_3.length ≤ c0_3) (hr0_4 : Kd.C (Kd.int .i64) w A0_4 l0_4.length l0_4) (hc0_4 : l0_4.length ≤ c0_4) (h : fault_Inject.f k l0_0 l0_1 l0_2 l0_3 l0_4 a1_0 a1_1 a1_2 = some (r1, r2, r3, r4, r5, r6)) :
    Calls Try.prog 8 #[.agg #[.slice A0_0 l0_0.length c0_0, .slice A0_1 l0_1.length c0_1, .slice A0_2 l0_2.length c0_2, .slice A0_3 l0_3.length c0_3, .slice A0_4 l0_4.length c0_4], .agg #[.int .i64 a1_0, .int .i64 a1_1, .bool a1_2]] w fun e w' => ∃ v0_ v1_ v2_ v3_ v4_ : Value, e = .returned (.tuple #[.agg #[v0_, v1_, v2_, v3_, v4_], .int .i64 r6]) ∧ Kd.R Kd.string 9 w' w.heap.size (fun k_ => some k_ ≠ (v1_ : Value).ownBlock) v0_ r1 ∧ Kd.R Kd.string 9 w' w.heap.size (fun k_ => some k_ ≠ (v0_ : Value).ownBlock) v1_ r2 ∧ Kd.R k82 82 w' w.heap.size (fun _ => True) v2_ r3 ∧ Kd.S k80 80 w' w.heap.size (fun k_ => some k_ ≠ (v4_ : Value).ownBlock) v3_ r4 ∧ Kd.R (Kd.int .i64) 3 w' w.heap.size (fun _ => True) v4_ r5 ∧ Below w.heap.size w w' := by
  unfold fault_Inject.f at h
  obtain ⟨⟨rows, e1⟩, hL, h2⟩ := Option.bind_eq_some_iff.1 h
  have HL := fun (W : World) (hW : Below w.heap.size w W) => netlist_Loads.calls k A0_0 c0_0 l0_0 A0_1 c0_1 l0_1 A0_2 c0_2 l0_2 A0_3 c0_3 l0_3 A0_4 c0_4 l0_4 rows e1 W (Kd.C_below hr0_0 hW) hc0_0 (Kd.C_below hr0_1 hW) hc0_1 (Kd.C_below hr0_2 hW) hc0_2 (Kd.C_below hr0_3 hW) hc0_3 (Kd.C_below hr0_4 hW) hc0_4 hL
  by_cases h0 : e1 = 0
  · subst h0
    rw [if_pos rfl] at h2
    obtain ⟨e2, hC, h3⟩ := Option.bind_eq_some_iff.1 h2
    have HC : ∀ (W : World) (v : Value), Kd.S (Kd.slice 77 k77) 75 W (w.heap.size + 3) (fun _ => True) v rows → Calls Try.prog 28 #[v, .agg #[.int .i64 a1_0, .int .i64 a1_1, .bool a1_2]] W fun e w' => e = .returned (.int .i64 e2) ∧ Below W.heap.size W w' := fun W v hS => by
      obtain ⟨A, c, rfl, hc, hr⟩ := Kd.S_reads hS
      exact fault_check.calls k A c rows a1_0 a1_1 a1_2 e2 W hr hc hC
    by_cases h4 : e2 = 0
    · subst h4
      rw [if_pos rfl] at h3
      by_cases hf : copyFits l0_0 l0_1 l0_2 l0_3 l0_4 = true
      · rw [if_pos hf] at h3
        simp only [Option.some.injEq, Prod.mk.injEq] at h3
        obtain ⟨rfl, rfl, rfl, rfl, rfl, rfl⟩ := h3
        obtain ⟨hF, hfit, hrows⟩ := netlist_Loads.ok hL
        obtain ⟨hk1, hk2, hk3, hk4⟩ := fault_check.ok (rows := rows) hC
        obtain ⟨nn, rfl⟩ := Int.eq_ofNat_of_zero_le (show 0 ≤ a1_0 by omega)
        have hrow := loadsOf_row hfit (j := nn) (by rw [← loadsOf_len (l4 := l0_4), ← hrows]; omega)
        rw [← hrows] at hrow
        have hval : ∀ l ∈ ((placesOf l0_2 l0_3 l0_4).filter fun p => decide (p.1 = (nn : Int))).map (·.2), ValidL ⟨l0_2, l0_3, l0_4⟩ l := by
          intro l hl
          obtain ⟨p, hp, rfl⟩ := List.mem_map.1 hl
          exact placesOf_valid (List.mem_filter.1 hp).1
        have hres : ∀ v, injRes rows (nn : Int) a1_1 v l0_2 l0_3 l0_4 = injectF a1_1 (if v = true then 1 else 0) (((placesOf l0_2 l0_3 l0_4).filter fun p => decide (p.1 = (nn : Int))).map (·.2)) 0 ⟨l0_2, l0_3, l0_4⟩ := fun v => by
          unfold injRes
          rw [Int.toNat_natCast, List.getD_eq_getElem?_getD, hrow, Option.getD_some]
        simp only [copyFits, Bool.and_eq_true, decide_eq_true_eq, List.all_eq_true] at hf
        obtain ⟨⟨⟨⟨⟨m0, m1⟩, m2⟩, m3⟩, m4⟩, m5⟩ := hf
        have fin : ∀ {s : NetP} {e : Ending} {w' : World}, (∃ v0 v1 v2 v3 v4 : Value, e = .returned (.tuple #[.agg #[v0, v1, v2, v3, v4], .int .i64 0]) ∧ NetR (fun _ => True) w.heap.size w' v0 v1 v2 v3 v4 l0_0 l0_1 s.fl s.ga s.ou ∧ Below w.heap.size w w') → ∃ v0_ v1_ v2_ v3_ v4_ : Value, e = .returned (.tuple #[.agg #[v0_, v1_, v2_, v3_, v4_], .int .i64 0]) ∧ Kd.R Kd.string 9 w' w.heap.size (fun k_ => some k_ ≠ (v1_ : Value).ownBlock) v0_ l0_0 ∧ Kd.R Kd.string 9 w' w.heap.size (fun k_ => some k_ ≠ (v0_ : Value).ownBlock) v1_ l0_1 ∧ Kd.R k82 82 w' w.heap.size (fun _ => True) v2_ s.fl ∧ Kd.S k80 80 w' w.heap.size (fun k_ => some k_ ≠ (v4_ : Value).ownBlock) v3_ s.ga ∧ Kd.R (Kd.int .i64) 3 w' w.heap.size (fun _ => True) v4_ s.ou ∧ Below w.heap.size w w' := by
          rintro s e w' ⟨v0, v1, v2, v3, v4, he, hr, hb⟩
          exact ⟨v0, v1, v2, v3, v4, he, Kd.R_mono hr.r0 (fun _ h => h.2), Kd.R_mono hr.r1 (fun _ h => h.2), hr.r2, Kd.S_mono hr.r3 (fun _ h => h.2), hr.r4, hb⟩
        cases a1_2
        · rw [hres]
          exact (inject_ok_f A0_0 A0_1 A0_2 A0_3 A0_4 c0_0 c0_1 c0_2 c0_3 c0_4 l0_0 l0_1 l0_2 l0_3 l0_4 nn a1_1 w hr0_0 hr0_1 hr0_2 hr0_3 hr0_4 m0 m1 m2 m3 m4 m5 rows _ hrow hval HL HC).mono fun _ _ hp => fin hp
        · rw [hres]
          exact (inject_ok_t A0_0 A0_1 A0_2 A0_3 A0_4 c0_0 c0_1 c0_2 c0_3 c0_4 l0_0 l0_1 l0_2 l0_3 l0_4 nn a1_1 w hr0_0 hr0_1 hr0_2 hr0_3 hr0_4 m0 m1 m2 m3 m4 m5 rows _ hrow hval HL HC).mono fun _ _ hp => fin hp
      · rw [if_neg hf] at h3
        cases h3
    · rw [if_neg h4] at h3
      simp only [Option.some.injEq, Prod.mk.injEq] at h3
      obtain ⟨rfl, rfl, rfl, rfl, rfl, rfl⟩ := h3
      exact (inject_err2 A0_0 A0_1 A0_2 A0_3 A0_4 c0_0 c0_1 c0_2 c0_3 c0_4 l0_0 l0_1 l0_2 l0_3 l0_4 a1_0 a1_1 a1_2 w rows _ h4 HL HC).mono fun _ _ ⟨v0, v1, v2, v3, v4, he, hr, hb⟩ => ⟨v0, v1, v2, v3, v4, he, Kd.R_mono hr.r0 (fun _ h => h.2), Kd.R_mono hr.r1 (fun _ h => h.2), hr.r2, Kd.S_mono hr.r3 (fun _ h => h.2), hr.r4, hb⟩
  · rw [if_neg h0] at h2
    simp only [Option.some.injEq, Prod.mk.injEq] at h2
    obtain ⟨rfl, rfl, rfl, rfl, rfl, rfl⟩ := h2
    exact (inject_err1 A0_0 A0_1 A0_2 A0_3 A0_4 c0_0 c0_1 c0_2 c0_3 c0_4 l0_0 l0_1 l0_2 l0_3 l0_4 a1_0 a1_1 a1_2 w _ h0 (fun W hW => (HL W hW).mono fun _ _ ⟨v, he, _, hb⟩ => ⟨v, he, hb⟩)).mono fun _ _ ⟨v0, v1, v2, v3, v4, he, hr, hb⟩ => ⟨v0, v1, v2, v3, v4, he, Kd.R_mono hr.r0 (fun _ h => h.2), Kd.R_mono hr.r1 (fun _ h => h.2), hr.r2, Kd.S_mono hr.r3 (fun _ h => h.2), hr.r4, hb⟩
end Go.Proofs.Ytimjccfpobhpeaa.PF
namespace Go.Proofs.Ytimjccfpobhpeaa
open Go.RowKit Go.Proofs.YtimjccfpobhpeaaW.PrintWords Go.Proofs.Ytimjccfpobhpeaa.PF
set_option linter.unusedVariables false
theorem pin_mem {i : Nat} {net : Int} : ∀ {xs : List Int} {k j : Nat}, xs[j]? = some net → ((net, ⟨0, i, (k + j : Nat)⟩) : Int × Load) ∈ pinPlaces i xs k
  | [], _, _, h => by simp at h
  | x :: r, k, 0, h => by
    obtain rfl : x = net := by simpa using h
    rw [pinPlaces]
    exact List.mem_cons_self
  | x :: r, k, j + 1, h => by
    rw [pinPlaces]
    have := pin_mem (i := i) (k := k + 1) (j := j) (xs := r) (net := net) (by simpa using h)
    rw [show k + 1 + j = k + (j + 1) by omega] at this
    exact List.mem_cons_of_mem _ this
theorem gate_mem {k : Nat} {net : Int} : ∀ {xs : List GateS} {i j : Nat} {x : GateS}, xs[j]? = some x → x.f2[k]? = some net → ((net, ⟨0, (i + j : Nat), k⟩) : Int × Load) ∈ gatePlaces xs i
  | [], _, _, _, h, _ => by simp at h
  | y :: r, i, 0, x, h, hk => by
    obtain rfl : y = x := by simpa using h
    rw [gatePlaces]
    have := pin_mem (i := i) (k := 0) hk
    rw [Nat.zero_add] at this
    exact List.mem_append_left _ this
  | y :: r, i, j + 1, x, h, hk => by
    rw [gatePlaces]
    have := gate_mem (i := i + 1) (j := j) (xs := r) (x := x) (by simpa using h) hk
    rw [show i + 1 + j = i + (j + 1) by omega] at this
    exact List.mem_append_right _ this
theorem flop_mem : ∀ {xs : List FlopS} {i j : Nat} {x : FlopS}, xs[j]? = some x → ((x.f2, ⟨1, (i + j : Nat), 0⟩) : Int × Load) ∈ flopPlaces xs i ∧ ((x.f3, ⟨2, (i + j : Nat), 0⟩) : Int × Load) ∈ flopPlaces xs i
  | [], _, _, _, h => by simp at h
  | y :: r, i, 0, x, h => by
    obtain rfl : y = x := by simpa using h
    rw [flopPlaces]
    exact ⟨List.mem_cons_self, List.mem_cons_of_mem _ List.mem_cons_self⟩
  | y :: r, i, j + 1, x, h => by
    rw [flopPlaces]
    have := flop_mem (i := i + 1) (j := j) (xs := r) (x := x) (by simpa using h)
    rw [show i + 1 + j = i + (j + 1) by omega] at this
    exact ⟨List.mem_cons_of_mem _ (List.mem_cons_of_mem _ this.1), List.mem_cons_of_mem _ (List.mem_cons_of_mem _ this.2)⟩
theorem out_mem {net : Int} : ∀ {xs : List Int} {i j : Nat}, xs[j]? = some net → ((net, ⟨3, (i + j : Nat), 0⟩) : Int × Load) ∈ outPlaces xs i
  | [], _, _, h => by simp at h
  | x :: r, i, 0, h => by
    obtain rfl : x = net := by simpa using h
    rw [outPlaces]
    exact List.mem_cons_self
  | x :: r, i, j + 1, h => by
    rw [outPlaces]
    have := out_mem (i := i + 1) (j := j) (xs := r) (net := net) (by simpa using h)
    rw [show i + 1 + j = i + (j + 1) by omega] at this
    exact List.mem_cons_of_mem _ this
section
variable {l2 : List FlopS} {l3 : List GateS} {l4 : List Int}
theorem places_to {p : Int × Load} (h : p ∈ placesOf l2 l3 l4) : ∃ q, p.2 = toL q ∧ getP ⟨l2, l3, l4⟩ q = some p.1 := by
  unfold placesOf at h
  rcases List.mem_append.1 h with h | h
  · obtain ⟨j, k, x, net, h1, h2, rfl⟩ := gatePlaces_mem h
    exact ⟨.pin j k, by rw [Nat.zero_add]; rfl, by simp only [getP]; rw [h1]; exact h2⟩
  rcases List.mem_append.1 h with h | h
  · obtain ⟨j, x, h1, rfl | rfl⟩ := flopPlaces_mem h
    · exact ⟨.d j, by rw [Nat.zero_add]; rfl, by simp only [getP]; rw [h1]; rfl⟩
    · exact ⟨.en j, by rw [Nat.zero_add]; rfl, by simp only [getP]; rw [h1]; rfl⟩
  · obtain ⟨j, net, h1, rfl⟩ := outPlaces_mem h
    exact ⟨.out j, by rw [Nat.zero_add]; rfl, h1⟩
theorem places_of {q : Pl} {x : Int} (h : getP ⟨l2, l3, l4⟩ q = some x) : ((x, toL q) : Int × Load) ∈ placesOf l2 l3 l4 := by
  unfold placesOf
  cases q with
  | pin i k =>
    obtain ⟨g, h1, h2⟩ := Option.bind_eq_some_iff.1 h
    have := gate_mem (i := 0) h1 h2
    rw [Nat.zero_add] at this
    exact List.mem_append_left _ this
  | d i =>
    obtain ⟨g, h1, rfl⟩ := Option.map_eq_some_iff.1 h
    have := (flop_mem (i := 0) h1).1
    rw [Nat.zero_add] at this
    exact List.mem_append_right _ (List.mem_append_left _ this)
  | en i =>
    obtain ⟨g, h1, rfl⟩ := Option.map_eq_some_iff.1 h
    have := (flop_mem (i := 0) h1).2
    rw [Nat.zero_add] at this
    exact List.mem_append_right _ (List.mem_append_left _ this)
  | out i =>
    have := out_mem (i := 0) h
    rw [Nat.zero_add] at this
    exact List.mem_append_right _ (List.mem_append_right _ this)
end
def rowAt (l2 : List FlopS) (l3 : List GateS) (l4 : List Int) (n : Nat) : List Load := ((placesOf l2 l3 l4).filter fun p => decide (p.1 = (n : Int))).map (·.2)
section
variable {l2 : List FlopS} {l3 : List GateS} {l4 : List Int}
theorem rowAt_mem {n : Nat} {q : Pl} : toL q ∈ rowAt l2 l3 l4 n ↔ getP ⟨l2, l3, l4⟩ q = some (n : Int) := by
  constructor
  · intro h
    obtain ⟨p, hp, e⟩ := List.mem_map.1 h
    obtain ⟨hp, hd⟩ := List.mem_filter.1 hp
    obtain ⟨q', e', hq⟩ := places_to hp
    obtain rfl := toL_inj (e'.symm.trans e)
    rw [hq, of_decide_eq_true hd]
  · intro h
    exact List.mem_map.2 ⟨_, List.mem_filter.2 ⟨places_of h, by simp⟩, rfl⟩
theorem rowAt_to {n : Nat} : ∀ l ∈ rowAt l2 l3 l4 n, ∃ p, l = toL p := by
  intro l hl
  obtain ⟨p, hp, rfl⟩ := List.mem_map.1 hl
  obtain ⟨q, hq, _⟩ := places_to (List.mem_filter.1 hp).1
  exact ⟨q, hq⟩
end
end Go.Proofs.Ytimjccfpobhpeaa
namespace Go.Proofs.Ytimjccfpobhpeaa
open Go.RowKit Go.Proofs.YtimjccfpobhpeaaW.PrintWords Go.Proofs.Ytimjccfpobhpeaa.PF
set_option linter.unusedVariables false
set_option maxRecDepth 100000
theorem gatePlaces_len : ∀ (xs : List GateS) (i : Nat), (∀ x ∈ xs, x.f2.length ≤ 6) → (gatePlaces xs i).length ≤ 6 * xs.length
  | [], i, h => Nat.zero_le _
  | x :: r, i, h => by
    have h1 := gatePlaces_len r (i + 1) (fun y hy => h y (List.mem_cons_of_mem _ hy))
    have h2 := h x List.mem_cons_self
    have h3 : ∀ (ys : List Int) (k : Nat), (pinPlaces i ys k).length = ys.length := by
      intro ys
      induction ys with
      | nil => intro k; rfl
      | cons y ys ih => intro k; rw [pinPlaces, List.length_cons, ih, List.length_cons]
    rw [gatePlaces, List.length_append, h3, List.length_cons]
    omega
theorem flopPlaces_len : ∀ (xs : List FlopS) (i : Nat), (flopPlaces xs i).length = 2 * xs.length
  | [], i => rfl
  | x :: r, i => by
    rw [flopPlaces, List.length_cons, List.length_cons, flopPlaces_len r (i + 1), List.length_cons]
    omega
theorem outPlaces_len : ∀ (xs : List Int) (i : Nat), (outPlaces xs i).length = xs.length
  | [], i => rfl
  | x :: r, i => by rw [outPlaces, List.length_cons, outPlaces_len r (i + 1), List.length_cons]
section
variable {l0 l1 : List ByteArray} {l2 : List FlopS} {l3 : List GateS} {l4 : List Int}
theorem FormOk.fit (h : FormOk l0 l1 l2 l3 l4) : loadsFit l0 l2 l3 l4 = true := by
  have hc0 := h.c0
  have hc1 := h.c1
  have hc2 := h.c2
  have hc3 := h.c3
  have hc4 := h.c4
  have hg := gatePlaces_len l3 0 (fun x hx => by
    obtain ⟨i, hi⟩ := List.getElem?_of_mem hx
    exact (h.pins i x hi).1)
  unfold loadsFit
  simp only [Bool.and_eq_true, decide_eq_true_eq, List.all_eq_true]
  refine ⟨⟨by unfold netsOf; omega, ?_⟩, fun p hp => ?_⟩
  · unfold placesOf
    rw [List.length_append, List.length_append, flopPlaces_len, outPlaces_len]
    omega
  · have hn : (netsOf l0 l2 l3 : Int) = 2 + (l0.length : Int) + l2.length + l3.length := by unfold netsOf; omega
    rw [hn]
    obtain ⟨q, _, hq⟩ := places_to hp
    cases q with
    | pin i k =>
      obtain ⟨g, h1, h2⟩ := Option.bind_eq_some_iff.1 hq
      have hi := (List.getElem?_eq_some_iff.1 h1).1
      simp only at hi
      have := (h.pins i g h1).2 _ (List.mem_of_getElem? h2)
      omega
    | d i =>
      obtain ⟨g, h1, h2⟩ := Option.map_eq_some_iff.1 hq
      have := h.flops g (List.mem_of_getElem? h1)
      omega
    | en i =>
      obtain ⟨g, h1, h2⟩ := Option.map_eq_some_iff.1 hq
      have := h.flops g (List.mem_of_getElem? h1)
      omega
    | out i =>
      have := h.outs _ (List.mem_of_getElem? hq)
      omega
end
end Go.Proofs.Ytimjccfpobhpeaa
namespace Go.Proofs.Ytimjccfpobhpeaa
open Go.RowKit Go.Proofs.YtimjccfpobhpeaaW.PrintWords Go.Proofs.Ytimjccfpobhpeaa.PF
set_option linter.unusedVariables false
theorem eqF_iff {a b : FaultS} : eqF a b = true ↔ a = b := by
  obtain ⟨a0, a1, a2⟩ := a
  obtain ⟨b0, b1, b2⟩ := b
  unfold eqF
  simp only [Bool.and_eq_true, decide_eq_true_eq, beq_iff_eq]
  constructor
  · rintro ⟨⟨h0, h1⟩, h2⟩
    rw [h0, h1, h2]
  · intro h
    injection h with h0 h1 h2
    exact ⟨⟨h0, h1⟩, h2⟩
section
variable {l0 l1 : List ByteArray} {l2 : List FlopS} {l3 : List GateS} {l4 : List Int}
theorem targetR_row (ok : FormOk l0 l1 l2 l3 l4) {f t : FaultS} (h : targetR (loadsOf l0 l2 l3 l4) l0 l2 l3 f = some t) : ∃ x, rowAt l2 l3 l4 f.f0.toNat = [x] ∧ targetAt l0 l2 l3 f.f2 x = some t := by
  unfold targetR at h
  split at h
  · rename_i x hx
    have hl := (List.getElem?_eq_some_iff.1 hx).1
    rw [loadsOf_len] at hl
    have h1 := loadsOf_row ok.fit hl
    rw [hx] at h1
    injection h1 with h1
    exact ⟨x, h1.symm, h⟩
  · cases h
theorem target_up (ok : FormOk l0 l1 l2 l3 l4) {f t : FaultS} (h0 : 0 ≤ f.f0) (h : targetR (loadsOf l0 l2 l3 l4) l0 l2 l3 f = some t) : f.f0 < t.f0 := by
  obtain ⟨x, hx, h⟩ := targetR_row ok h
  · unfold targetAt at h
    split at h
    · rename_i hk
      obtain ⟨q, hq⟩ := rowAt_to x (by rw [hx]; exact List.mem_singleton_self x)
      have hm : toL q ∈ rowAt l2 l3 l4 f.f0.toNat := by rw [hx, ← hq]; exact List.mem_singleton_self x
      have hg := rowAt_mem.1 hm
      subst hq
      cases q with
      | pin i k =>
        cases hi : l3[i]? with
        | none => rw [getP] at hg; simp [hi] at hg
        | some g =>
          have hp : g.f2[k]? = some ((f.f0.toNat : Nat) : Int) := by
            rw [getP] at hg
            simpa [hi] using hg
          have hb := ((ok.pins i g hi).2 _ (List.mem_of_getElem? hp)).2
          have e1 : (toL (Pl.pin i k)).f1 = (i : Int) := rfl
          rw [e1, Int.toNat_natCast, hi, Option.bind_some] at h
          split at h
          · injection h with h
            rw [← h]
            show f.f0 < 2 + (l0.length : Int) + l2.length + (i : Int)
            omega
          · cases h
      | d i => exact absurd hk (show ¬ (1 : Int) = 0 by decide)
      | en i => exact absurd hk (show ¬ (2 : Int) = 0 by decide)
      | out i => exact absurd hk (show ¬ (3 : Int) = 0 by decide)
    · cases h
theorem lead_up (ok : FormOk l0 l1 l2 l3 l4) {rs : List (List Load)} : ∀ i k, leadR (loadsOf l0 l2 l3 l4) l0 l2 l3 (listFrom rs 2) i = some k → i < k := by
  intro i k h
  unfold leadR at h
  cases hi : (listFrom rs 2)[i]? with
  | none => rw [hi] at h; cases h
  | some f =>
    rw [hi, Option.bind_some] at h
    cases ht : targetR (loadsOf l0 l2 l3 l4) l0 l2 l3 f with
    | none => rw [ht] at h; cases h
    | some t =>
      rw [ht, Option.bind_some] at h
      have hf := listFrom_ge (List.mem_of_getElem? hi)
      obtain ⟨hk, he, _⟩ := List.findIdx?_eq_some_iff_getElem.1 h
      have hkt : (listFrom rs 2)[k]? = some t := by rw [List.getElem?_eq_getElem hk, ← eqF_iff.1 he]
      exact sorted_lt (listFrom_sorted rs 2) hi hkt (target_up ok (by omega) ht)
end
end Go.Proofs.Ytimjccfpobhpeaa
namespace Go.Proofs.Ytimjccfpobhpeaa
open Go.RowKit Go.Proofs.YtimjccfpobhpeaaW.PrintWords Go.Proofs.Ytimjccfpobhpeaa.PF
set_option linter.unusedVariables false
section
variable {l0 l1 : List ByteArray} {l2 : List FlopS} {l3 : List GateS} {l4 : List Int}
theorem rowAt_len (ok : FormOk l0 l1 l2 l3 l4) (n : Nat) : (rowAt l2 l3 l4 n).length ≤ 8000 := by
  have hg := gatePlaces_len l3 0 (fun x hx => by
    obtain ⟨i, hi⟩ := List.getElem?_of_mem hx
    exact (ok.pins i x hi).1)
  have b1 := ok.c1
  have b2 := ok.c2
  have b3 := ok.c3
  have b4 := ok.c4
  have h1 : (placesOf l2 l3 l4).length ≤ 8000 := by
    unfold placesOf
    rw [List.length_append, List.length_append, flopPlaces_len, outPlaces_len]
    omega
  unfold rowAt
  rw [List.length_map]
  exact Nat.le_trans (List.length_filter_le _ _) h1
theorem rows_len (ok : FormOk l0 l1 l2 l3 l4) : ∀ r ∈ loadsOf l0 l2 l3 l4, r.length ≤ 8000 := by
  intro r hr
  obtain ⟨j, hj⟩ := List.getElem?_of_mem hr
  have hl := (List.getElem?_eq_some_iff.1 hj).1
  rw [loadsOf_len] at hl
  have h := loadsOf_row ok.fit hl
  rw [hj] at h
  have e : r = rowAt l2 l3 l4 j := by injection h
  rw [e]
  exact rowAt_len ok j
variable (l0 l2 l3 l4)
def listOf : List FaultS := listFrom ((loadsOf l0 l2 l3 l4).drop 2) 2
variable {l0 l2 l3 l4}
theorem listOf_len (ok : FormOk l0 l1 l2 l3 l4) : (listOf l0 l2 l3 l4).length ≤ 30000000 := by
  have b0 := ok.c0
  have b2 := ok.c2
  have b3 := ok.c3
  have h := listFrom_len 8000 ((loadsOf l0 l2 l3 l4).drop 2) 2 fun r hr => rows_len ok r (List.mem_of_mem_drop hr)
  have hl : ((loadsOf l0 l2 l3 l4).drop 2).length ≤ 1616 := by
    rw [List.length_drop, loadsOf_len]
    unfold netsOf
    omega
  have h2 := Nat.mul_le_mul_right (2 * (8000 + 1)) hl
  unfold listOf
  omega
theorem list_ex (ok : FormOk l0 l1 l2 l3 l4) {kF : Nat} (hF : netlist_Form.f kF l0 l1 l2 l3 l4 = some 0) : ∃ K, ∀ k, K ≤ k → fault_List.f k l0 l1 l2 l3 l4 = some (listOf l0 l2 l3 l4, 0) := by
  have b0 := ok.c0
  have b2 := ok.c2
  have b3 := ok.c3
  have hlen : (loadsOf l0 l2 l3 l4).length = 2 + l0.length + l2.length + l3.length := by rw [loadsOf_len]; rfl
  refine ⟨kF + ((loadsOf l0 l2 l3 l4).length - 2) * (8000 + 3) + 2, fun k hk => ?_⟩
  have hL : netlist_Loads.f k l0 l1 l2 l3 l4 = some (loadsOf l0 l2 l3 l4, 0) := by
    rw [netlist_Loads.f, upK (netlist_Form.mono l0 l1 l2 l3 l4) (show kF ≤ k by omega) hF, Option.bind_some, if_pos rfl, if_pos ok.fit]
  rw [fault_List.f, hL, Option.bind_some]
  show (if (0 : Int) = 0 then (fault_List.l0 k (loadsOf l0 l2 l3 l4) ([] : List FaultS) 2) else _) = _
  rw [if_pos rfl]
  exact list_l0 (loadsOf l0 l2 l3 l4) 8000 (by decide) (by omega) (rows_len ok) ((loadsOf l0 l2 l3 l4).length - 2) 2 [] (by omega) (Nat.zero_le _) k (by omega)
variable (l0 l2 l3 l4)
variable {l0 l2 l3 l4}
end
end Go.Proofs.Ytimjccfpobhpeaa
