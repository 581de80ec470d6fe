/- The law function WaveChecks. -/
import Derived.Test.YtabhafllkhoefaaSame
import Derived.Test.YtabhafllkhoefaaValueErr
import Derived.Test.YtabhafllkhoefaaHad
import Derived.Test.YtabhafllkhoefaaWaved
import Derived.Test.YtabhafllkhoefaaWaveFault
namespace Go.Proofs.Ytabhafllkhoefaa
open Go.RowKit
set_option maxRecDepth 100000

set_option maxHeartbeats 8000000 in
theorem waveChecks_bad (x y : Wave) (s : ByteArray) (t : Int) (A B : Option Addr) (c d : Nat) (w : World) (F G : Nat → Prop) (he : InK .i64 x.End) (h : Rep.Sl kLine w F A c x.Lines) (hy : Rep.Sl kLine w G B d y.Lines) (hwf : waveFault x ≠ 0) :
    Calls Try.prog 4 #[.agg #[.int .i64 x.End, .slice A x.Lines.length c], .agg #[.int .i64 y.End, .slice B y.Lines.length d], .string s, .int .i64 t] w fun e w' => e = .returned (.bool true) ∧ Is w w' := by
  have hu := Try.underlying50
  have hu2 := Try.underlying24
  have hu3 := Try.underlying41
  have hm := h.len
  have hb1 : (waveFault x != 0) = true := by simpa using hwf
  have hb2 : (waveFault x == 0) = false := by simpa using hwf
  have hfe : findErr x s = waveFault x := by unfold findErr; rw [if_pos hwf]
  have hfh := Lib.hid hfe
  have hwh := Lib.hid hwf
  clear hwf hfe
  have hW : Is w ((w.alloc (.cells #[.int .i64 x.End, .slice A x.Lines.length c] 24)).alloc (.cells #[.int .i64 y.End, .slice B y.Lines.length d] 24)) := ((Is.refl w).alloc _).alloc _
  have hB : ∀ z : Under ((w.alloc (.cells #[.int .i64 x.End, .slice A x.Lines.length c] 24)).alloc (.cells #[.int .i64 y.End, .slice B y.Lines.length d] 24)), w.heap.size < z.val.heap.size ∧ w.heap.size + 1 < z.val.heap.size := fun z => ⟨z.lt _ (by simp; omega), z.lt _ (by simp)⟩
  go_enter Try.func4, Try.ntmps4
  go_wp2_with (go_at_call 11; refine (waveFault_calls x A c _ F he (h.is hW)).mono ?_; rintro e w1 ⟨rfl, ⟨x1, rfl⟩⟩; have hW1 := hW.step x1; have hb3 := (hB x1).1; have hb4 := (hB x1).2)
  refine wp_region_under (by kernel_rfl) (by kernel_rfl) ?_
  repeat (go_big_quiet_step (first
    | (go_at_call 12; exact Calls.under _ (waved_calls _))
    | (go_at_call 17; exact Calls.under _ (check_calls x A c _ F he (h.is (hW1.step _))))
    | (go_at_call 18; exact Calls.under _ (same_calls x y A B c d _ F G (h.is (hW1.step _)) (hy.is (hW1.step _))))
    | (go_at_call 19; exact Calls.under _ (sameWave_calls x y A B c d _ F G (h.is (hW1.step _)) (hy.is (hW1.step _))))))
  refine wpQuiet_nil ?_
  rintro _ ⟨x2, rfl⟩
  have hW2 := hW1.step x2
  have p3 := x2.lt _ hb3
  have p4 := x2.lt _ hb4
  go_wp2_with (first
    | (go_at_call 20; refine (called_calls x s A c _ F (h.is hW2)).mono ?_; rintro e w3 ⟨hor, ⟨x3, rfl⟩⟩; obtain ⟨p, rfl⟩ : ∃ p, e = .returned (.pointer p) := by { rcases hor with ⟨_, rfl⟩ | ⟨_, _, _, _, rfl⟩ <;> exact ⟨_, rfl⟩ }; clear hor; have hW3 := hW2.step x3; have p5 := x3.lt _ p3; have p6 := x3.lt _ p4)
    | (go_at_call 21; refine (value_err x s t A c _ F he (h.is hW3) (by rw [hfh.out]; exact hwh.out)).mono ?_; rintro e w4 ⟨rfl, ⟨x4, rfl⟩⟩; rw [hfh.out]; have hW4 := (hW3.step x4).alloc (.cells #[.int .i64 0, .int .u64 0, .int .u64 0] 41); have p7 := x4.lt _ p5; have p8 := x4.lt _ p6)
    | (go_at_call 22; refine (next_calls x s t A c _ F he (h.is hW4)).mono ?_; rintro e w5 ⟨hor, ⟨x5, rfl⟩⟩; obtain ⟨_, rfl⟩ := hor.resolve_right (fun h => hwh.out (hfh.out ▸ h.1)); rw [hfh.out]; have hW5 := hW4.step x5; have p9 : x4.val.heap.size < x5.val.heap.size := x5.lt _ (by simp); have p10 : w.heap.size < x5.val.heap.size := x5.lt _ (by simp; omega); have p11 : w.heap.size + 1 < x5.val.heap.size := x5.lt _ (by simp; omega); have q1 : x5.val.cell? ⟨x4.val.heap.size, 0, none⟩ = some (.int .i64 0) := by { rw [x5.cell _ _ (by simp)]; go_simp }; have q2 : x5.val.cell? ⟨x4.val.heap.size, 1, none⟩ = some (.int .u64 0) := by { rw [x5.cell _ _ (by simp)]; go_simp }; have q3 : x5.val.cell? ⟨x4.val.heap.size, 2, none⟩ = some (.int .u64 0) := by { rw [x5.cell _ _ (by simp)]; go_simp }; clear hor))
  go_ret
  exact ⟨ret_bool (by simp), hW5⟩

set_option maxHeartbeats 8000000 in
theorem waveChecks_none (x y : Wave) (s : ByteArray) (t : Int) (A B : Option Addr) (c d : Nat) (w : World) (F G : Nat → Prop) (he : InK .i64 x.End) (h : Rep.Sl kLine w F A c x.Lines) (hy : Rep.Sl kLine w G B d y.Lines) (hwf : waveFault x = 0) (hix : idxFrom s x.Lines 0 < 0) :
    Calls Try.prog 4 #[.agg #[.int .i64 x.End, .slice A x.Lines.length c], .agg #[.int .i64 y.End, .slice B y.Lines.length d], .string s, .int .i64 t] w fun e w' => e = .returned (.bool true) ∧ Is w w' := by
  have hu := Try.underlying50
  have hu2 := Try.underlying24
  have hu3 := Try.underlying41
  have hm := h.len
  have hfe : findErr x s = 7 := by unfold findErr; rw [if_neg (by simpa using hwf), if_pos hix]
  have hfh := Lib.hid hfe
  have hih := Lib.hid hix
  clear hfe hix
  have hwh := Lib.hid hwf
  clear hwf
  have hW : Is w ((w.alloc (.cells #[.int .i64 x.End, .slice A x.Lines.length c] 24)).alloc (.cells #[.int .i64 y.End, .slice B y.Lines.length d] 24)) := ((Is.refl w).alloc _).alloc _
  have hB : ∀ z : Under ((w.alloc (.cells #[.int .i64 x.End, .slice A x.Lines.length c] 24)).alloc (.cells #[.int .i64 y.End, .slice B y.Lines.length d] 24)), w.heap.size < z.val.heap.size ∧ w.heap.size + 1 < z.val.heap.size := fun z => ⟨z.lt _ (by simp; omega), z.lt _ (by simp)⟩
  have hck : ∀ W, Is w W → Calls Try.prog 17 #[.agg #[.int .i64 x.End, .slice A x.Lines.length c]] W fun e w' => e = .returned (.int .i64 0) ∧ Is W w' := fun W hW => by
    have := check_calls x A c W F he (h.is hW)
    rw [hwh.out] at this
    exact this
  go_enter Try.func4, Try.ntmps4
  go_wp2_with (go_at_call 11; refine (waveFault_calls x A c _ F he (h.is hW)).mono ?_; rintro e w1 ⟨rfl, ⟨x1, rfl⟩⟩; rw [hwh.out]; have hW1 := hW.step x1; have hb3 := (hB x1).1; have hb4 := (hB x1).2)
  refine wp_region_under (by kernel_rfl) (by kernel_rfl) ?_
  repeat (go_big_quiet_step (first
    | (go_at_call 12; exact Calls.under _ (waved_calls _))
    | (go_at_call 17; exact Calls.under _ (hck _ (hW1.step _)))
    | (go_at_call 18; exact Calls.under _ (same_calls x y A B c d _ F G (h.is (hW1.step _)) (hy.is (hW1.step _))))
    | (go_at_call 19; exact Calls.under _ (sameWave_calls x y A B c d _ F G (h.is (hW1.step _)) (hy.is (hW1.step _))))))
  refine wpQuiet_nil ?_
  rintro _ ⟨x2, rfl⟩
  have hW2 := hW1.step x2
  have p3 := x2.lt _ hb3
  have p4 := x2.lt _ hb4
  go_wp2_with (first
    | (go_at_call 20; refine (called_calls x s A c _ F (h.is hW2)).mono ?_; rintro e w3 ⟨hor, ⟨x3, rfl⟩⟩; obtain ⟨_, rfl⟩ := hor.resolve_right (fun h => by have := hih.out; omega); clear hor; have hW3 := hW2.step x3; have p5 := x3.lt _ p3; have p6 := x3.lt _ p4)
    | (go_at_call 21; refine (value_err x s t A c _ F he (h.is hW3) (by rw [hfh.out]; decide)).mono ?_; rintro e w4 ⟨rfl, ⟨x4, rfl⟩⟩; rw [hfh.out]; have hW4 := (hW3.step x4).alloc (.cells #[.int .i64 0, .int .u64 0, .int .u64 0] 41); have p7 := x4.lt _ p5; have p8 := x4.lt _ p6)
    | (go_at_call 22; refine (next_calls x s t A c _ F he (h.is hW4)).mono ?_; rintro e w5 ⟨hor, ⟨x5, rfl⟩⟩; obtain ⟨_, rfl⟩ := hor.resolve_right (fun h => by have := h.1; rw [hfh.out] at this; exact absurd this (by decide)); rw [hfh.out]; have hW5 := hW4.step x5; have p9 : x4.val.heap.size < x5.val.heap.size := x5.lt _ (by simp); have p10 : w.heap.size < x5.val.heap.size := x5.lt _ (by simp; omega); have p11 : w.heap.size + 1 < x5.val.heap.size := x5.lt _ (by simp; omega); have q1 : x5.val.cell? ⟨x4.val.heap.size, 0, none⟩ = some (.int .i64 0) := by { rw [x5.cell _ _ (by simp)]; go_simp }; have q2 : x5.val.cell? ⟨x4.val.heap.size, 1, none⟩ = some (.int .u64 0) := by { rw [x5.cell _ _ (by simp)]; go_simp }; have q3 : x5.val.cell? ⟨x4.val.heap.size, 2, none⟩ = some (.int .u64 0) := by { rw [x5.cell _ _ (by simp)]; go_simp }; clear hor))
  go_ret
  exact ⟨ret_bool (by simp), hW5⟩
end Go.Proofs.Ytabhafllkhoefaa
