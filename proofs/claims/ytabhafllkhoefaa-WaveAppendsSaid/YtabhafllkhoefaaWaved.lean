/- The example works. -/
import Derived.Test.YtabhafllkhoefaaOf
import Derived.Test.YtabhafllkhoefaaBox
import Derived.Test.YtabhafllkhoefaaSplitA
namespace Go.Proofs.Ytabhafllkhoefaa
open Go.RowKit
set_option maxRecDepth 100000

theorem ex_ok : waveFault exWave = 0 := by decide +kernel
theorem ex_find : findErr exWave ⟨#[97]⟩ = 0 := by decide +kernel
theorem ex_idx : (idxFrom ⟨#[97]⟩ exWave.Lines 0).toNat = 0 := by decide +kernel
theorem ex_index : indexOf exLine.At 4 = 1 := by decide +kernel
theorem ex_len : (boxedOf exWave).length = 17 := by decide +kernel
theorem ex_take : (boxedOf exWave).take 13 = [119, 1, 5, 1, 8, 1, 97, 1, 2, 0, 0, 12, 1] := by decide +kernel
theorem ex_pk : WavePk exWave := by
  refine ⟨by decide, by decide, by decide, fun l hl => ?_⟩
  obtain rfl : l = exLine := by simpa [exWave] using hl
  refine ⟨by decide, by decide, by decide, ⟨by decide, by decide, ?_⟩, ?_, ?_⟩
  · intro t ht
    simp [exLine] at ht
    rcases ht with rfl | rfl <;> omega
  · have h : ∀ c ∈ chgOf exLine, (decide (0 ≤ c.step) && decide (c.step ≤ 1099511627776)) = true := by
      have h0 : (chgOf exLine).all (fun c => decide (0 ≤ c.step) && decide (c.step ≤ 1099511627776)) = true := by decide +kernel
      exact List.all_eq_true.1 h0
    intro c hc
    have := h c hc
    simp only [Bool.and_eq_true, decide_eq_true_eq] at this
    exact this
  · intro t ht
    simp [exLine] at ht
    exact ht.symm

set_option maxHeartbeats 2000000 in
theorem waved_calls (w : World) : Calls Try.prog 12 #[] w fun e w' => e = .returned (.bool true) ∧ Is w w' := by
  have hu3 := Try.underlying41
  have hP : Is w w := Is.refl w
  have hW : Is w w := Is.refl w
  go_enter Try.func12, Try.ntmps12
  go_wp2_with (first
    | (go_at_call 46; refine (example_calls _).mono ?_; rintro e w1 ⟨⟨A1, c1, rfl, hs1⟩, ⟨x1, rfl⟩⟩; have hP := hP.step x1; have hW := hW.step x1)
    | (go_at_call 10; refine (pack_calls exWave A1 c1 _ _ (InK.mk64 (by decide)) hs1 (fun _ => ex_pk)).mono ?_; rintro e w2 ⟨hor, ⟨x2, rfl⟩⟩; obtain ⟨_, v2, rfl, ho2⟩ := hor.resolve_left (fun h => h.1 ex_ok); obtain ⟨A2, c2, hv2, hs2⟩ := ho2.sl; rw [ex_len] at hv2; subst hv2; have hc2 := hs2.le; rw [ex_len] at hc2; have hc2m := hs2.cap_le; have hP := Is.refl x2.val; have hW := hW.step x2)
    | (go_at_call 21; refine (value_ok exWave ⟨#[97]⟩ 4 A1 c1 _ _ (InK.mk64 (by decide)) hs1 ex_find (by decide) (by decide) exLine (by rw [ex_idx]; rfl) ⟨1, 1, 0⟩ (by rw [ex_index]; rfl) (by rw [ex_index]; decide)).mono ?_; rintro e w3 ⟨rfl, ⟨x3, rfl⟩⟩; have hP := hP.step x3; have hW := hW.step x3))
  refine wp_region_splitA (fun w' => ∃ y : Under _, w' = y.val) [true, true, true, true, true, true, true, true, false, false, false, false, false, false, false, false, false, false, false, false, false, false, false] 15 #[true, true, true, true, true, true, true, true, false, false, false, false, false, false, false, false, false, false, false, false, false, false, false] (by kernel_rfl) (by kernel_rfl) (by decide) (by decide) ⟨(Under.refl _).drew, rfl⟩ (fun _ _ d _ _ h => by cases d <;> exact h) ?_
  simp only [pickB]
  repeat (go_big_quiet_step (fail))
  refine wpQuiet_nil ?_
  refine anyT_one (i := 8) #[true, true, true, true, true, true, true, true, true, false, false, false, false, false, false, false, false, false, false, false, false, false, false] (by kernel_rfl) rfl (by decide) (fun Q' hQ' => ?_)
  go_wp2_with (go_at_call 47; refine (of11_calls _).mono ?_; rintro e w4 ⟨rfl, ⟨x4, rfl⟩⟩)
  refine ⟨(by first | exact .inr ⟨((Under.refl _).drew.trans x4), rfl⟩ | exact ⟨((Under.refl _).drew.trans x4), rfl⟩), ?_⟩
  refine anyT_one (i := 9) #[true, true, true, true, true, true, true, true, true, true, false, false, false, false, false, false, false, false, false, false, false, false, false] (by kernel_rfl) rfl (by decide) (fun Q' hQ' => ?_)
  go_wp2
  refine ⟨(by first | exact .inr ⟨((Under.refl _).drew.trans x4), rfl⟩ | exact ⟨((Under.refl _).drew.trans x4), rfl⟩), ?_⟩
  refine anyT_one (i := 10) #[true, true, true, true, true, true, true, true, true, true, true, false, false, false, false, false, false, false, false, false, false, false, false] (by kernel_rfl) rfl (by decide) (fun Q' hQ' => ?_)
  go_wp2
  refine ⟨(by first | exact .inr ⟨((Under.refl _).drew.trans x4), rfl⟩ | exact ⟨((Under.refl _).drew.trans x4), rfl⟩), ?_⟩
  refine anyT_one (i := 11) #[true, true, true, true, true, true, true, true, true, true, true, true, false, false, false, false, false, false, false, false, false, false, false] (by kernel_rfl) rfl (by decide) (fun Q' hQ' => ?_)
  go_wp2
  refine ⟨(by first | exact .inr ⟨((Under.refl _).drew.trans x4), rfl⟩ | exact ⟨((Under.refl _).drew.trans x4), rfl⟩), ?_⟩
  refine anyT_one (i := 12) #[true, true, true, true, true, true, true, true, true, true, true, true, true, false, false, false, false, false, false, false, false, false, false] (by kernel_rfl) rfl (by decide) (fun Q' hQ' => ?_)
  go_wp2
  refine ⟨(by first | exact .inr ⟨((Under.refl _).drew.trans x4), rfl⟩ | exact ⟨((Under.refl _).drew.trans x4), rfl⟩), ?_⟩
  refine anyT_one (i := 13) #[true, true, true, true, true, true, true, true, true, true, true, true, true, true, false, false, false, false, false, false, false, false, false] (by kernel_rfl) rfl (by decide) (fun Q' hQ' => ?_)
  go_wp2
  refine ⟨(by first | exact .inr ⟨((Under.refl _).drew.trans x4), rfl⟩ | exact ⟨((Under.refl _).drew.trans x4), rfl⟩), ?_⟩
  refine anyT_one (i := 14) #[true, true, true, true, true, true, true, true, true, true, true, true, true, true, true, false, false, false, false, false, false, false, false] (by kernel_rfl) rfl (by decide) (fun Q' hQ' => ?_)
  go_wp2
  refine ⟨(by first | exact .inr ⟨((Under.refl _).drew.trans x4), rfl⟩ | exact ⟨((Under.refl _).drew.trans x4), rfl⟩), ?_⟩
  refine anyT_one (i := 15) #[true, true, true, true, true, true, true, true, true, true, true, true, true, true, true, true, false, false, false, false, false, false, false] (by kernel_rfl) rfl (by decide) (fun Q' hQ' => ?_)
  go_wp2
  refine ⟨(by first | exact .inr ⟨((Under.refl _).drew.trans x4), rfl⟩ | exact ⟨((Under.refl _).drew.trans x4), rfl⟩), ?_⟩
  refine anyT_one (i := 16) #[true, true, true, true, true, true, true, true, true, true, true, true, true, true, true, true, true, false, false, false, false, false, false] (by kernel_rfl) rfl (by decide) (fun Q' hQ' => ?_)
  go_wp2
  refine ⟨(by first | exact .inr ⟨((Under.refl _).drew.trans x4), rfl⟩ | exact ⟨((Under.refl _).drew.trans x4), rfl⟩), ?_⟩
  refine anyT_two (i := 17) (j := 19) #[true, true, true, true, true, true, true, true, true, true, true, true, true, true, true, true, true, true, false, false, false, false, false] #[true, true, true, true, true, true, true, true, true, true, true, true, true, true, true, true, true, false, false, true, false, false, false] (by kernel_rfl) rfl rfl (by decide) (by decide) (fun Q' hQ' => ?_) (fun Q' hQ' => ?_)
  · go_wp2
    refine ⟨(by first | exact .inr ⟨((Under.refl _).drew.trans x4), rfl⟩ | exact ⟨((Under.refl _).drew.trans x4), rfl⟩), ?_⟩
    refine anyT_two (i := 18) (j := 19) #[true, true, true, true, true, true, true, true, true, true, true, true, true, true, true, true, true, true, true, false, false, false, false] #[true, true, true, true, true, true, true, true, true, true, true, true, true, true, true, true, true, true, false, true, false, false, false] (by kernel_rfl) rfl rfl (by decide) (by decide) (fun Q' hQ' => ?_) (fun Q' hQ' => ?_)
    · go_wp2
      refine ⟨(by first | exact .inr ⟨((Under.refl _).drew.trans x4), rfl⟩ | exact ⟨((Under.refl _).drew.trans x4), rfl⟩), ?_⟩
      refine anyT_one (i := 19) #[true, true, true, true, true, true, true, true, true, true, true, true, true, true, true, true, true, true, true, true, false, false, false] (by kernel_rfl) rfl (by decide) (fun Q' hQ' => ?_)
      go_wp2
      refine ⟨(by first | exact .inr ⟨(((Under.refl _).drew.trans x4).alloc (.cells #[.int .u8 119, .int .u8 1, .int .u8 5, .int .u8 1, .int .u8 8, .int .u8 1, .int .u8 97, .int .u8 1, .int .u8 2, .int .u8 0, .int .u8 0, .int .u8 12, .int .u8 1] 5)), rfl⟩ | exact ⟨(((Under.refl _).drew.trans x4).alloc (.cells #[.int .u8 119, .int .u8 1, .int .u8 5, .int .u8 1, .int .u8 8, .int .u8 1, .int .u8 97, .int .u8 1, .int .u8 2, .int .u8 0, .int .u8 0, .int .u8 12, .int .u8 1] 5)), rfl⟩), ?_⟩
      have hcur := (((hP.alloc (.cells #[.int .i64 1, .int .u64 1, .int .u64 0] 41)).drew).step x4).alloc (.cells #[.int .u8 119, .int .u8 1, .int .u8 5, .int .u8 1, .int .u8 8, .int .u8 1, .int .u8 97, .int .u8 1, .int .u8 2, .int .u8 0, .int .u8 0, .int .u8 12, .int .u8 1] 5)
      have hT : Rep.Sl kByte x2.val _ A2 c2 [(119 : Int), 1, 5, 1, 8, 1, 97, 1, 2, 0, 0, 12, 1] := ex_take ▸ hs2.take 13
      have hL : Rep.Sl kByte (x4.val.alloc (.cells #[.int .u8 119, .int .u8 1, .int .u8 5, .int .u8 1, .int .u8 8, .int .u8 1, .int .u8 97, .int .u8 1, .int .u8 2, .int .u8 0, .int .u8 0, .int .u8 12, .int .u8 1] 5)) (fun k => NoB k ∨ k = x4.val.heap.size) (some ⟨x4.val.heap.size, 0, none⟩) 13 [(119 : Int), 1, 5, 1, 8, 1, 97, 1, 2, 0, 0, 12, 1] := ⟨by simp, by simp, fun e => (by cases e), row_block (heap_alloc_new x4.val _) (all_ints (by
        intro q hq
        simp only [List.mem_cons, List.not_mem_nil, or_false] at hq
        rcases hq with rfl | rfl | rfl | rfl | rfl | rfl | rfl | rfl | rfl | rfl | rfl | rfl | rfl <;> exact InK.mku8 (by decide)))⟩
      refine anyT_one (i := 20) #[true, true, true, true, true, true, true, true, true, true, true, true, true, true, true, true, true, true, true, true, true, false, false] (by kernel_rfl) rfl (by decide) (fun Q' hQ' => ?_)
      go_wp2_with (go_at_call 15; refine (eqBytes_calls A2 (some ⟨x4.val.heap.size, 0, none⟩) c2 13 [(119 : Int), 1, 5, 1, 8, 1, 97, 1, 2, 0, 0, 12, 1] [(119 : Int), 1, 5, 1, 8, 1, 97, 1, 2, 0, 0, 12, 1] _ _ _ (hT.is hcur) hL).mono ?_; rintro e w5 ⟨rfl, ⟨x5, rfl⟩⟩)
      refine ⟨(by first | exact .inr ⟨((((Under.refl _).drew.trans x4).alloc (.cells #[.int .u8 119, .int .u8 1, .int .u8 5, .int .u8 1, .int .u8 8, .int .u8 1, .int .u8 97, .int .u8 1, .int .u8 2, .int .u8 0, .int .u8 0, .int .u8 12, .int .u8 1] 5)).trans x5), rfl⟩ | exact ⟨((((Under.refl _).drew.trans x4).alloc (.cells #[.int .u8 119, .int .u8 1, .int .u8 5, .int .u8 1, .int .u8 8, .int .u8 1, .int .u8 97, .int .u8 1, .int .u8 2, .int .u8 0, .int .u8 0, .int .u8 12, .int .u8 1] 5)).trans x5), rfl⟩), ?_⟩
      refine anyT_one (i := 21) #[true, true, true, true, true, true, true, true, true, true, true, true, true, true, true, true, true, true, true, true, true, true, false] (by kernel_rfl) rfl (by decide) (fun Q' hQ' => ?_)
      go_wp2
      refine ⟨(by first | exact .inr ⟨((((Under.refl _).drew.trans x4).alloc (.cells #[.int .u8 119, .int .u8 1, .int .u8 5, .int .u8 1, .int .u8 8, .int .u8 1, .int .u8 97, .int .u8 1, .int .u8 2, .int .u8 0, .int .u8 0, .int .u8 12, .int .u8 1] 5)).trans x5), rfl⟩ | exact ⟨((((Under.refl _).drew.trans x4).alloc (.cells #[.int .u8 119, .int .u8 1, .int .u8 5, .int .u8 1, .int .u8 8, .int .u8 1, .int .u8 97, .int .u8 1, .int .u8 2, .int .u8 0, .int .u8 0, .int .u8 12, .int .u8 1] 5)).trans x5), rfl⟩), ?_⟩
      refine anyT_one (i := 22) #[true, true, true, true, true, true, true, true, true, true, true, true, true, true, true, true, true, true, true, true, true, true, true] (by kernel_rfl) rfl (by decide) (fun Q' hQ' => ?_)
      go_wp2
      refine ⟨(by first | exact .inr ⟨((((Under.refl _).drew.trans x4).alloc (.cells #[.int .u8 119, .int .u8 1, .int .u8 5, .int .u8 1, .int .u8 8, .int .u8 1, .int .u8 97, .int .u8 1, .int .u8 2, .int .u8 0, .int .u8 0, .int .u8 12, .int .u8 1] 5)).trans x5), rfl⟩ | exact ⟨((((Under.refl _).drew.trans x4).alloc (.cells #[.int .u8 119, .int .u8 1, .int .u8 5, .int .u8 1, .int .u8 8, .int .u8 1, .int .u8 97, .int .u8 1, .int .u8 2, .int .u8 0, .int .u8 0, .int .u8 12, .int .u8 1] 5)).trans x5), rfl⟩), ?_⟩
      try refine anyT_end (by kernel_rfl) ?_
      go_wp2
      go_ret
      exact ⟨rfl, ((((hW.alloc (.cells #[.int .i64 1, .int .u64 1, .int .u64 0] 41)).drew).step x4).alloc (.cells #[.int .u8 119, .int .u8 1, .int .u8 5, .int .u8 1, .int .u8 8, .int .u8 1, .int .u8 97, .int .u8 1, .int .u8 2, .int .u8 0, .int .u8 0, .int .u8 12, .int .u8 1] 5)).step x5⟩
    · go_wp2
      refine ⟨(by first | exact .inr ⟨(((Under.refl _).drew.trans x4).alloc (.cells #[.int .u8 119, .int .u8 1, .int .u8 5, .int .u8 1, .int .u8 8, .int .u8 1, .int .u8 97, .int .u8 1, .int .u8 2, .int .u8 0, .int .u8 0, .int .u8 12, .int .u8 1] 5)), rfl⟩ | exact ⟨(((Under.refl _).drew.trans x4).alloc (.cells #[.int .u8 119, .int .u8 1, .int .u8 5, .int .u8 1, .int .u8 8, .int .u8 1, .int .u8 97, .int .u8 1, .int .u8 2, .int .u8 0, .int .u8 0, .int .u8 12, .int .u8 1] 5)), rfl⟩), ?_⟩
      refine anyT_one (i := 18) #[true, true, true, true, true, true, true, true, true, true, true, true, true, true, true, true, true, true, true, true, false, false, false] (by kernel_rfl) rfl (by decide) (fun Q' hQ' => ?_)
      go_wp2
      refine ⟨(by first | exact .inr ⟨(((Under.refl _).drew.trans x4).alloc (.cells #[.int .u8 119, .int .u8 1, .int .u8 5, .int .u8 1, .int .u8 8, .int .u8 1, .int .u8 97, .int .u8 1, .int .u8 2, .int .u8 0, .int .u8 0, .int .u8 12, .int .u8 1] 5)), rfl⟩ | exact ⟨(((Under.refl _).drew.trans x4).alloc (.cells #[.int .u8 119, .int .u8 1, .int .u8 5, .int .u8 1, .int .u8 8, .int .u8 1, .int .u8 97, .int .u8 1, .int .u8 2, .int .u8 0, .int .u8 0, .int .u8 12, .int .u8 1] 5)), rfl⟩), ?_⟩
      have hcur := (((hP.alloc (.cells #[.int .i64 1, .int .u64 1, .int .u64 0] 41)).drew).step x4).alloc (.cells #[.int .u8 119, .int .u8 1, .int .u8 5, .int .u8 1, .int .u8 8, .int .u8 1, .int .u8 97, .int .u8 1, .int .u8 2, .int .u8 0, .int .u8 0, .int .u8 12, .int .u8 1] 5)
      have hT : Rep.Sl kByte x2.val _ A2 c2 [(119 : Int), 1, 5, 1, 8, 1, 97, 1, 2, 0, 0, 12, 1] := ex_take ▸ hs2.take 13
      have hL : Rep.Sl kByte (x4.val.alloc (.cells #[.int .u8 119, .int .u8 1, .int .u8 5, .int .u8 1, .int .u8 8, .int .u8 1, .int .u8 97, .int .u8 1, .int .u8 2, .int .u8 0, .int .u8 0, .int .u8 12, .int .u8 1] 5)) (fun k => NoB k ∨ k = x4.val.heap.size) (some ⟨x4.val.heap.size, 0, none⟩) 13 [(119 : Int), 1, 5, 1, 8, 1, 97, 1, 2, 0, 0, 12, 1] := ⟨by simp, by simp, fun e => (by cases e), row_block (heap_alloc_new x4.val _) (all_ints (by
        intro q hq
        simp only [List.mem_cons, List.not_mem_nil, or_false] at hq
        rcases hq with rfl | rfl | rfl | rfl | rfl | rfl | rfl | rfl | rfl | rfl | rfl | rfl | rfl <;> exact InK.mku8 (by decide)))⟩
      refine anyT_one (i := 20) #[true, true, true, true, true, true, true, true, true, true, true, true, true, true, true, true, true, true, true, true, true, false, false] (by kernel_rfl) rfl (by decide) (fun Q' hQ' => ?_)
      go_wp2_with (go_at_call 15; refine (eqBytes_calls A2 (some ⟨x4.val.heap.size, 0, none⟩) c2 13 [(119 : Int), 1, 5, 1, 8, 1, 97, 1, 2, 0, 0, 12, 1] [(119 : Int), 1, 5, 1, 8, 1, 97, 1, 2, 0, 0, 12, 1] _ _ _ (hT.is hcur) hL).mono ?_; rintro e w5 ⟨rfl, ⟨x5, rfl⟩⟩)
      refine ⟨(by first | exact .inr ⟨((((Under.refl _).drew.trans x4).alloc (.cells #[.int .u8 119, .int .u8 1, .int .u8 5, .int .u8 1, .int .u8 8, .int .u8 1, .int .u8 97, .int .u8 1, .int .u8 2, .int .u8 0, .int .u8 0, .int .u8 12, .int .u8 1] 5)).trans x5), rfl⟩ | exact ⟨((((Under.refl _).drew.trans x4).alloc (.cells #[.int .u8 119, .int .u8 1, .int .u8 5, .int .u8 1, .int .u8 8, .int .u8 1, .int .u8 97, .int .u8 1, .int .u8 2, .int .u8 0, .int .u8 0, .int .u8 12, .int .u8 1] 5)).trans x5), rfl⟩), ?_⟩
      refine anyT_one (i := 21) #[true, true, true, true, true, true, true, true, true, true, true, true, true, true, true, true, true, true, true, true, true, true, false] (by kernel_rfl) rfl (by decide) (fun Q' hQ' => ?_)
      go_wp2
      refine ⟨(by first | exact .inr ⟨((((Under.refl _).drew.trans x4).alloc (.cells #[.int .u8 119, .int .u8 1, .int .u8 5, .int .u8 1, .int .u8 8, .int .u8 1, .int .u8 97, .int .u8 1, .int .u8 2, .int .u8 0, .int .u8 0, .int .u8 12, .int .u8 1] 5)).trans x5), rfl⟩ | exact ⟨((((Under.refl _).drew.trans x4).alloc (.cells #[.int .u8 119, .int .u8 1, .int .u8 5, .int .u8 1, .int .u8 8, .int .u8 1, .int .u8 97, .int .u8 1, .int .u8 2, .int .u8 0, .int .u8 0, .int .u8 12, .int .u8 1] 5)).trans x5), rfl⟩), ?_⟩
      refine anyT_one (i := 22) #[true, true, true, true, true, true, true, true, true, true, true, true, true, true, true, true, true, true, true, true, true, true, true] (by kernel_rfl) rfl (by decide) (fun Q' hQ' => ?_)
      go_wp2
      refine ⟨(by first | exact .inr ⟨((((Under.refl _).drew.trans x4).alloc (.cells #[.int .u8 119, .int .u8 1, .int .u8 5, .int .u8 1, .int .u8 8, .int .u8 1, .int .u8 97, .int .u8 1, .int .u8 2, .int .u8 0, .int .u8 0, .int .u8 12, .int .u8 1] 5)).trans x5), rfl⟩ | exact ⟨((((Under.refl _).drew.trans x4).alloc (.cells #[.int .u8 119, .int .u8 1, .int .u8 5, .int .u8 1, .int .u8 8, .int .u8 1, .int .u8 97, .int .u8 1, .int .u8 2, .int .u8 0, .int .u8 0, .int .u8 12, .int .u8 1] 5)).trans x5), rfl⟩), ?_⟩
      try refine anyT_end (by kernel_rfl) ?_
      go_wp2
      go_ret
      exact ⟨rfl, ((((hW.alloc (.cells #[.int .i64 1, .int .u64 1, .int .u64 0] 41)).drew).step x4).alloc (.cells #[.int .u8 119, .int .u8 1, .int .u8 5, .int .u8 1, .int .u8 8, .int .u8 1, .int .u8 97, .int .u8 1, .int .u8 2, .int .u8 0, .int .u8 0, .int .u8 12, .int .u8 1] 5)).step x5⟩
  · go_wp2
    refine ⟨(by first | exact .inr ⟨(((Under.refl _).drew.trans x4).alloc (.cells #[.int .u8 119, .int .u8 1, .int .u8 5, .int .u8 1, .int .u8 8, .int .u8 1, .int .u8 97, .int .u8 1, .int .u8 2, .int .u8 0, .int .u8 0, .int .u8 12, .int .u8 1] 5)), rfl⟩ | exact ⟨(((Under.refl _).drew.trans x4).alloc (.cells #[.int .u8 119, .int .u8 1, .int .u8 5, .int .u8 1, .int .u8 8, .int .u8 1, .int .u8 97, .int .u8 1, .int .u8 2, .int .u8 0, .int .u8 0, .int .u8 12, .int .u8 1] 5)), rfl⟩), ?_⟩
    refine anyT_one (i := 17) #[true, true, true, true, true, true, true, true, true, true, true, true, true, true, true, true, true, true, false, true, false, false, false] (by kernel_rfl) rfl (by decide) (fun Q' hQ' => ?_)
    go_wp2
    refine ⟨(by first | exact .inr ⟨(((Under.refl _).drew.trans x4).alloc (.cells #[.int .u8 119, .int .u8 1, .int .u8 5, .int .u8 1, .int .u8 8, .int .u8 1, .int .u8 97, .int .u8 1, .int .u8 2, .int .u8 0, .int .u8 0, .int .u8 12, .int .u8 1] 5)), rfl⟩ | exact ⟨(((Under.refl _).drew.trans x4).alloc (.cells #[.int .u8 119, .int .u8 1, .int .u8 5, .int .u8 1, .int .u8 8, .int .u8 1, .int .u8 97, .int .u8 1, .int .u8 2, .int .u8 0, .int .u8 0, .int .u8 12, .int .u8 1] 5)), rfl⟩), ?_⟩
    refine anyT_one (i := 18) #[true, true, true, true, true, true, true, true, true, true, true, true, true, true, true, true, true, true, true, true, false, false, false] (by kernel_rfl) rfl (by decide) (fun Q' hQ' => ?_)
    go_wp2
    refine ⟨(by first | exact .inr ⟨(((Under.refl _).drew.trans x4).alloc (.cells #[.int .u8 119, .int .u8 1, .int .u8 5, .int .u8 1, .int .u8 8, .int .u8 1, .int .u8 97, .int .u8 1, .int .u8 2, .int .u8 0, .int .u8 0, .int .u8 12, .int .u8 1] 5)), rfl⟩ | exact ⟨(((Under.refl _).drew.trans x4).alloc (.cells #[.int .u8 119, .int .u8 1, .int .u8 5, .int .u8 1, .int .u8 8, .int .u8 1, .int .u8 97, .int .u8 1, .int .u8 2, .int .u8 0, .int .u8 0, .int .u8 12, .int .u8 1] 5)), rfl⟩), ?_⟩
    have hcur := (((hP.alloc (.cells #[.int .i64 1, .int .u64 1, .int .u64 0] 41)).drew).step x4).alloc (.cells #[.int .u8 119, .int .u8 1, .int .u8 5, .int .u8 1, .int .u8 8, .int .u8 1, .int .u8 97, .int .u8 1, .int .u8 2, .int .u8 0, .int .u8 0, .int .u8 12, .int .u8 1] 5)
    have hT : Rep.Sl kByte x2.val _ A2 c2 [(119 : Int), 1, 5, 1, 8, 1, 97, 1, 2, 0, 0, 12, 1] := ex_take ▸ hs2.take 13
    have hL : Rep.Sl kByte (x4.val.alloc (.cells #[.int .u8 119, .int .u8 1, .int .u8 5, .int .u8 1, .int .u8 8, .int .u8 1, .int .u8 97, .int .u8 1, .int .u8 2, .int .u8 0, .int .u8 0, .int .u8 12, .int .u8 1] 5)) (fun k => NoB k ∨ k = x4.val.heap.size) (some ⟨x4.val.heap.size, 0, none⟩) 13 [(119 : Int), 1, 5, 1, 8, 1, 97, 1, 2, 0, 0, 12, 1] := ⟨by simp, by simp, fun e => (by cases e), row_block (heap_alloc_new x4.val _) (all_ints (by
      intro q hq
      simp only [List.mem_cons, List.not_mem_nil, or_false] at hq
      rcases hq with rfl | rfl | rfl | rfl | rfl | rfl | rfl | rfl | rfl | rfl | rfl | rfl | rfl <;> exact InK.mku8 (by decide)))⟩
    refine anyT_one (i := 20) #[true, true, true, true, true, true, true, true, true, true, true, true, true, true, true, true, true, true, true, true, true, false, false] (by kernel_rfl) rfl (by decide) (fun Q' hQ' => ?_)
    go_wp2_with (go_at_call 15; refine (eqBytes_calls A2 (some ⟨x4.val.heap.size, 0, none⟩) c2 13 [(119 : Int), 1, 5, 1, 8, 1, 97, 1, 2, 0, 0, 12, 1] [(119 : Int), 1, 5, 1, 8, 1, 97, 1, 2, 0, 0, 12, 1] _ _ _ (hT.is hcur) hL).mono ?_; rintro e w5 ⟨rfl, ⟨x5, rfl⟩⟩)
    refine ⟨(by first | exact .inr ⟨((((Under.refl _).drew.trans x4).alloc (.cells #[.int .u8 119, .int .u8 1, .int .u8 5, .int .u8 1, .int .u8 8, .int .u8 1, .int .u8 97, .int .u8 1, .int .u8 2, .int .u8 0, .int .u8 0, .int .u8 12, .int .u8 1] 5)).trans x5), rfl⟩ | exact ⟨((((Under.refl _).drew.trans x4).alloc (.cells #[.int .u8 119, .int .u8 1, .int .u8 5, .int .u8 1, .int .u8 8, .int .u8 1, .int .u8 97, .int .u8 1, .int .u8 2, .int .u8 0, .int .u8 0, .int .u8 12, .int .u8 1] 5)).trans x5), rfl⟩), ?_⟩
    refine anyT_one (i := 21) #[true, true, true, true, true, true, true, true, true, true, true, true, true, true, true, true, true, true, true, true, true, true, false] (by kernel_rfl) rfl (by decide) (fun Q' hQ' => ?_)
    go_wp2
    refine ⟨(by first | exact .inr ⟨((((Under.refl _).drew.trans x4).alloc (.cells #[.int .u8 119, .int .u8 1, .int .u8 5, .int .u8 1, .int .u8 8, .int .u8 1, .int .u8 97, .int .u8 1, .int .u8 2, .int .u8 0, .int .u8 0, .int .u8 12, .int .u8 1] 5)).trans x5), rfl⟩ | exact ⟨((((Under.refl _).drew.trans x4).alloc (.cells #[.int .u8 119, .int .u8 1, .int .u8 5, .int .u8 1, .int .u8 8, .int .u8 1, .int .u8 97, .int .u8 1, .int .u8 2, .int .u8 0, .int .u8 0, .int .u8 12, .int .u8 1] 5)).trans x5), rfl⟩), ?_⟩
    refine anyT_one (i := 22) #[true, true, true, true, true, true, true, true, true, true, true, true, true, true, true, true, true, true, true, true, true, true, true] (by kernel_rfl) rfl (by decide) (fun Q' hQ' => ?_)
    go_wp2
    refine ⟨(by first | exact .inr ⟨((((Under.refl _).drew.trans x4).alloc (.cells #[.int .u8 119, .int .u8 1, .int .u8 5, .int .u8 1, .int .u8 8, .int .u8 1, .int .u8 97, .int .u8 1, .int .u8 2, .int .u8 0, .int .u8 0, .int .u8 12, .int .u8 1] 5)).trans x5), rfl⟩ | exact ⟨((((Under.refl _).drew.trans x4).alloc (.cells #[.int .u8 119, .int .u8 1, .int .u8 5, .int .u8 1, .int .u8 8, .int .u8 1, .int .u8 97, .int .u8 1, .int .u8 2, .int .u8 0, .int .u8 0, .int .u8 12, .int .u8 1] 5)).trans x5), rfl⟩), ?_⟩
    try refine anyT_end (by kernel_rfl) ?_
    go_wp2
    go_ret
    exact ⟨rfl, ((((hW.alloc (.cells #[.int .i64 1, .int .u64 1, .int .u64 0] 41)).drew).step x4).alloc (.cells #[.int .u8 119, .int .u8 1, .int .u8 5, .int .u8 1, .int .u8 8, .int .u8 1, .int .u8 97, .int .u8 1, .int .u8 2, .int .u8 0, .int .u8 0, .int .u8 12, .int .u8 1] 5)).step x5⟩
end Go.Proofs.Ytabhafllkhoefaa
