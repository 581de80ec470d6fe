/- The law function WaveAppends at the early errors. -/
import Derived.Test.YtabhafllkhoefaaBehind
namespace Go.Proofs.Ytabhafllkhoefaa
open Go.RowKit
set_option maxRecDepth 100000

theorem zero_same (W : World) : Calls Try.prog 18 #[.agg #[.int .i64 0, .slice none 0 0], .agg #[.int .i64 0, .slice none 0 0]] W fun e w' => e = .returned (.bool true) ∧ Is W w' := by
  have := same_calls ⟨0, []⟩ ⟨0, []⟩ none none 0 0 W (fun _ => False) (fun _ => False) (Rep.Sl.empty _ _ _) (Rep.Sl.empty _ _ _)
  rw [sameWave_refl] at this
  exact this

set_option maxHeartbeats 1000000 in
theorem waveAppends_err (x y : Wave) (A B : Option Addr) (c d : Nat) (w : World) (F G : Nat → Prop) (he : InK .i64 x.End) (hey : InK .i64 y.End) (h : Rep.Sl kLine w F A c x.Lines) (k : Rep.Sl kLine w G B d y.Lines) (er : Int) (hc : AppErr x y er) :
    Calls Try.prog 6 #[.agg #[.int .i64 x.End, .slice A x.Lines.length c], .agg #[.int .i64 y.End, .slice B y.Lines.length d]] w fun e w' => e = .returned (.bool true) ∧ Is w w' := by
  have hu := Try.underlying50
  have hu2 := Try.underlying24
  have hm := h.len
  have hW : Is w ((w.alloc (.cells #[.int .i64 x.End, .slice A x.Lines.length c] 24)).alloc (.cells #[.int .i64 y.End, .slice B y.Lines.length d] 24)) := ((Is.refl w).alloc _).alloc _
  have hB : ∀ z : Under ((w.alloc (.cells #[.int .i64 x.End, .slice A x.Lines.length c] 24)).alloc (.cells #[.int .i64 y.End, .slice B y.Lines.length d] 24)), w.heap.size < z.val.heap.size ∧ w.heap.size + 1 < z.val.heap.size := fun z => ⟨z.lt _ (by simp; omega), z.lt _ (by simp)⟩
  have hch := Lib.hid hc
  rcases hc with ⟨hwf, rfl⟩ | ⟨hx, hwf, rfl⟩ | ⟨hx, hy, hf, rfl⟩ | ⟨hx, hy, hf, hl, rfl⟩
  · have hb : (waveFault x == 0) = false := by simpa using hwf
    have hb' : (waveFault x != 0) = true := by simpa using hwf
    clear hwf
    go_enter Try.func6, Try.ntmps6
    go_wp2_with (first
      | (go_at_call 18; refine (zero_same _).mono ?_; rintro e w6 ⟨rfl, ⟨x6, rfl⟩⟩; have hW6 := hW5.step x6)
      | (go_at_call 12; refine (waved_calls _).mono ?_; rintro e w5 ⟨rfl, ⟨x5, rfl⟩⟩; have hW5 := hW2.step x5; have p12 := x5.lt _ p5)
      | (go_at_call 11; refine (waveFault_calls x A c _ F he (h.is hW1)).mono ?_; rintro e w2 ⟨rfl, ⟨x2, rfl⟩⟩; have hW2 := hW1.step x2; have p3 : w.heap.size < x2.val.heap.size := x2.lt _ (by simp; omega); have p4 : w.heap.size + 1 < x2.val.heap.size := x2.lt _ (by simp; omega); have p5 : x1.val.heap.size < x2.val.heap.size := x2.lt _ (by simp))
      | (go_at_call 26; refine (append_err x y A B c d _ F G he hey (h.is hW) (k.is hW) _ hch.out).mono ?_; rintro e w1 ⟨rfl, ⟨x1, rfl⟩⟩; have hW1 := (hW.step x1).alloc (.cells #[.int .i64 0, .slice none 0 0] 24); have p1 := (hB x1).1; have p2 := (hB x1).2))
    go_ret
    exact ⟨ret_bool (by simp), hW6⟩
  · have hb : (waveFault y != 0) = true := by simpa using hwf
    have hxh := Lib.hid hx
    clear hx hwf
    go_enter Try.func6, Try.ntmps6
    go_wp2_with (first
      | (go_at_call 18; refine (zero_same _).mono ?_; rintro e w6 ⟨rfl, ⟨x6, rfl⟩⟩; have hW6 := hW5.step x6)
      | (go_at_call 12; refine (waved_calls _).mono ?_; rintro e w5 ⟨rfl, ⟨x5, rfl⟩⟩; have hW5 := hW3.step x5; have p12 := x5.lt _ p8)
      | (go_at_call 11; refine (waveFault_calls y B d _ G hey (k.is hW2)).mono ?_; rintro e w3 ⟨rfl, ⟨x3, rfl⟩⟩; have hW3 := hW2.step x3; have p6 := x3.lt _ p3; have p7 := x3.lt _ p4; have p8 := x3.lt _ p5)
      | (go_at_call 11; refine (waveFault_calls x A c _ F he (h.is hW1)).mono ?_; rintro e w2 ⟨rfl, ⟨x2, rfl⟩⟩; rw [hxh.out]; have hW2 := hW1.step x2; have p3 : w.heap.size < x2.val.heap.size := x2.lt _ (by simp; omega); have p4 : w.heap.size + 1 < x2.val.heap.size := x2.lt _ (by simp; omega); have p5 : x1.val.heap.size < x2.val.heap.size := x2.lt _ (by simp))
      | (go_at_call 26; refine (append_err x y A B c d _ F G he hey (h.is hW) (k.is hW) _ hch.out).mono ?_; rintro e w1 ⟨rfl, ⟨x1, rfl⟩⟩; have hW1 := (hW.step x1).alloc (.cells #[.int .i64 0, .slice none 0 0] 24); have p1 := (hB x1).1; have p2 := (hB x1).2))
    go_ret
    exact ⟨ret_bool (by simp), hW6⟩
  · have hxh := Lib.hid hx
    have hyh := Lib.hid hy
    have hfh := Lib.hid hf
    clear hx hy hf
    go_enter Try.func6, Try.ntmps6
    go_wp2_with (first
      | (go_at_call 18; refine (zero_same _).mono ?_; rintro e w6 ⟨rfl, ⟨x6, rfl⟩⟩; have hW6 := hW5.step x6)
      | (go_at_call 12; refine (waved_calls _).mono ?_; rintro e w5 ⟨rfl, ⟨x5, rfl⟩⟩; have hW5 := hW4.step x5; have p12 := x5.lt _ p11)
      | (go_at_call 28; refine (eqFits2_calls x.Lines y.Lines A B c d _ _ _ (h.is hW3) (k.is hW3)).mono ?_; rw [hfh.out]; rintro e w4 ⟨rfl, ⟨x4, rfl⟩⟩; have hW4 := hW3.step x4; have p9 := x4.lt _ p6; have p10 := x4.lt _ p7; have p11 := x4.lt _ p8)
      | (go_at_call 11; refine (waveFault_calls y B d _ G hey (k.is hW2)).mono ?_; rintro e w3 ⟨rfl, ⟨x3, rfl⟩⟩; rw [hyh.out]; have hW3 := hW2.step x3; have p6 := x3.lt _ p3; have p7 := x3.lt _ p4; have p8 := x3.lt _ p5)
      | (go_at_call 11; refine (waveFault_calls x A c _ F he (h.is hW1)).mono ?_; rintro e w2 ⟨rfl, ⟨x2, rfl⟩⟩; rw [hxh.out]; have hW2 := hW1.step x2; have p3 : w.heap.size < x2.val.heap.size := x2.lt _ (by simp; omega); have p4 : w.heap.size + 1 < x2.val.heap.size := x2.lt _ (by simp; omega); have p5 : x1.val.heap.size < x2.val.heap.size := x2.lt _ (by simp))
      | (go_at_call 26; refine (append_err x y A B c d _ F G he hey (h.is hW) (k.is hW) _ hch.out).mono ?_; rintro e w1 ⟨rfl, ⟨x1, rfl⟩⟩; have hW1 := (hW.step x1).alloc (.cells #[.int .i64 0, .slice none 0 0] 24); have p1 := (hB x1).1; have p2 := (hB x1).2))
    go_ret
    exact ⟨ret_bool (by simp), hW6⟩
  · have hxh := Lib.hid hx
    have hyh := Lib.hid hy
    have hfh := Lib.hid hf
    have e1 := (wave_end hx).1
    have e2 := (wave_end hx).2
    have e3 := (wave_end hy).1
    have e4 := (wave_end hy).2
    clear hx hy hf
    go_enter Try.func6, Try.ntmps6
    go_wp2_with (first
      | (go_at_call 18; refine (zero_same _).mono ?_; rintro e w6 ⟨rfl, ⟨x6, rfl⟩⟩; have hW6 := hW5.step x6)
      | (go_at_call 12; refine (waved_calls _).mono ?_; rintro e w5 ⟨rfl, ⟨x5, rfl⟩⟩; have hW5 := hW4.step x5; have p12 := x5.lt _ p11)
      | (go_at_call 28; refine (eqFits2_calls x.Lines y.Lines A B c d _ _ _ (h.is hW3) (k.is hW3)).mono ?_; rw [hfh.out]; rintro e w4 ⟨rfl, ⟨x4, rfl⟩⟩; have hW4 := hW3.step x4; have p9 := x4.lt _ p6; have p10 := x4.lt _ p7; have p11 := x4.lt _ p8)
      | (go_at_call 11; refine (waveFault_calls y B d _ G hey (k.is hW2)).mono ?_; rintro e w3 ⟨rfl, ⟨x3, rfl⟩⟩; rw [hyh.out]; have hW3 := hW2.step x3; have p6 := x3.lt _ p3; have p7 := x3.lt _ p4; have p8 := x3.lt _ p5)
      | (go_at_call 11; refine (waveFault_calls x A c _ F he (h.is hW1)).mono ?_; rintro e w2 ⟨rfl, ⟨x2, rfl⟩⟩; rw [hxh.out]; have hW2 := hW1.step x2; have p3 : w.heap.size < x2.val.heap.size := x2.lt _ (by simp; omega); have p4 : w.heap.size + 1 < x2.val.heap.size := x2.lt _ (by simp; omega); have p5 : x1.val.heap.size < x2.val.heap.size := x2.lt _ (by simp))
      | (go_at_call 26; refine (append_err x y A B c d _ F G he hey (h.is hW) (k.is hW) _ hch.out).mono ?_; rintro e w1 ⟨rfl, ⟨x1, rfl⟩⟩; have hW1 := (hW.step x1).alloc (.cells #[.int .i64 0, .slice none 0 0] 24); have p1 := (hB x1).1; have p2 := (hB x1).2))
    go_ret
    exact ⟨ret_bool (by simp), hW6⟩
end Go.Proofs.Ytabhafllkhoefaa
