/- The law function WavePacks. -/
import Derived.Test.YtabhafllkhoefaaWaved
import Derived.Test.YtabhafllkhoefaaValid
import Derived.Test.YtabhafllkhoefaaBoxR
import Derived.Test.YtabhafllkhoefaaWaveFault
namespace Go.Proofs.Ytabhafllkhoefaa
open Go.RowKit
set_option maxRecDepth 100000

set_option maxHeartbeats 4000000 in
theorem wavePacks_calls (x : Wave) (xs : List Int) (A B : Option Addr) (c cb : Nat) (w : World) (F G : Nat → Prop) (he : InK .i64 x.End) (h : Rep.Sl kLine w F A c x.Lines) (hb : Rep.Sl kByte w G B cb xs)
    (hs : ∀ l ∈ x.Lines, l.At.length ≤ 140737488355328) (hx : xs.length ≤ 140737488351232) :
    Calls Try.prog 3 #[.agg #[.int .i64 x.End, .slice A x.Lines.length c], .slice B xs.length cb] w fun e w' => e = .returned (.bool true) ∧ Is w w' := by
  have hu := Try.underlying50
  have hu2 := Try.underlying24
  have hm := h.len
  have hW : Is w (w.alloc (.cells #[.int .i64 x.End, .slice A x.Lines.length c] 24)) := (Is.refl w).alloc _
  have hB : ∀ y : Under (w.alloc (.cells #[.int .i64 x.End, .slice A x.Lines.length c] 24)), w.heap.size < y.val.heap.size := fun y => y.lt _ (by simp)
  by_cases hwf : waveFault x = 0
  · have hpk := wave_pk hwf hs
    have hwf2 := Lib.hid hwf
    go_enter Try.func3, Try.ntmps3
    go_wp2_with (first
      | (go_at_call 10; refine (pack_calls x A c _ F he (h.is hW) (fun _ => hpk)).mono ?_; rintro e w1 ⟨hor, ⟨x1, rfl⟩⟩; obtain ⟨_, v1, rfl, ho1⟩ := hor.resolve_left (fun h => h.1 hwf2.out); have hW := hW.step x1; have hp1 := hB x1; obtain ⟨A1, c1, rfl, hs1⟩ := ho1.sl; have hP := Is.refl x1.val)
      | (go_at_call 11; refine (waveFault_calls x A c _ F he (h.is hW)).mono ?_; rintro e w2 ⟨rfl, ⟨x2, rfl⟩⟩; have hW := hW.step x2; have hP := hP.step x2; have hp2 := x2.lt _ hp1)
      | (go_at_call 12; refine (waved_calls _).mono ?_; rintro e w3 ⟨rfl, ⟨x3, rfl⟩⟩; have hW := hW.step x3; have hP := hP.step x3; have hp3 := x3.lt _ hp2)
      | (go_at_call 13; refine (sum_calls B cb xs _ G (hb.is hW)).mono ?_; rintro e w4 ⟨rfl, ⟨x4, rfl⟩⟩; have hW := hW.step x4; have hP := hP.step x4; have hp4 := x4.lt _ hp3)
      | (go_at_call 14; refine (checksum_calls B cb xs _ G (hb.is hW) hx).mono ?_; rintro e w5 ⟨rfl, ⟨x5, rfl⟩⟩; have hW := hW.step x5; have hP := hP.step x5; have hp5 := x5.lt _ hp4)
      | (go_at_call 16; refine (boxed_calls x A c _ F (h.is hW) hpk).mono ?_; rintro e w6 ⟨⟨v6, rfl, ho6⟩, ⟨x6, rfl⟩⟩; have hW := hW.step x6; have hP := hP.step x6; obtain ⟨A6, c6, rfl, hs6⟩ := ho6.sl)
      | (go_at_call 15; refine (eqBytes_calls A1 A6 c1 c6 (boxedOf x) (boxedOf x) _ _ _ (hs1.is hP) hs6).mono ?_; rintro e w7 ⟨rfl, ⟨x7, rfl⟩⟩; have hW := hW.step x7))
    go_ret
    exact ⟨ret_bool (by simp), hW⟩
  · have hwf2 := Lib.hid hwf
    have hb1 : (waveFault x != 0) = true := by simpa using hwf
    clear hwf
    go_enter Try.func3, Try.ntmps3
    go_wp2_with (first
      | (go_at_call 10; refine (pack_calls x A c _ F he (h.is hW) (fun h => absurd h hwf2.out)).mono ?_; rintro e w1 ⟨hor, ⟨x1, rfl⟩⟩; obtain ⟨_, rfl⟩ := hor.resolve_right (fun h => hwf2.out h.1); have hW := hW.step x1; have hp1 := hB x1)
      | (go_at_call 11; refine (waveFault_calls x A c _ F he (h.is hW)).mono ?_; rintro e w2 ⟨rfl, ⟨x2, rfl⟩⟩; have hW := hW.step x2)
      | (go_at_call 12; refine (waved_calls _).mono ?_; rintro e w3 ⟨rfl, ⟨x3, rfl⟩⟩; have hW := hW.step x3)
      | (go_at_call 13; refine (sum_calls B cb xs _ G (hb.is hW)).mono ?_; rintro e w4 ⟨rfl, ⟨x4, rfl⟩⟩; have hW := hW.step x4)
      | (go_at_call 14; refine (checksum_calls B cb xs _ G (hb.is hW) hx).mono ?_; rintro e w5 ⟨rfl, ⟨x5, rfl⟩⟩; have hW := hW.step x5))
    go_ret
    exact ⟨ret_bool (by simp), hW⟩
end Go.Proofs.Ytabhafllkhoefaa
