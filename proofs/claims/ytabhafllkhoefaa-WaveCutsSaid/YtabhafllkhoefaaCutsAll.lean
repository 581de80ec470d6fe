/- The law function WaveCuts where there is a piece, and at all inputs. -/
import Derived.Test.YtabhafllkhoefaaCutsLaw
namespace Go.Proofs.Ytabhafllkhoefaa
open Go.RowKit
set_option maxRecDepth 100000

set_option maxHeartbeats 8000000 in
theorem waveCuts_ok (x : Wave) (f tq : Int) (A : Option Addr) (c : Nat) (w : World) (F : Nat → Prop) (he : InK .i64 x.End) (h : Rep.Sl kLine w F A c x.Lines) (hwf : waveFault x = 0) (hf : 0 ≤ f ∧ f ≤ x.End) (hto : f ≤ tq ∧ tq ≤ x.End) (hE : x.End ≤ 1099511627776) (hn : x.Lines.length ≤ 160) (hl : ∀ l ∈ x.Lines, CutLn l f) :
    Calls Try.prog 5 #[.agg #[.int .i64 x.End, .slice A x.Lines.length c], .int .i64 f, .int .i64 tq] w fun e w' => e = .returned (.bool true) ∧ Is w w' := by
  have hu := Try.underlying50
  have hu2 := Try.underlying24
  have hm := h.len
  have hf0 := hf.1
  have hf1 := hf.2
  have ht0 := hto.1
  have ht1 := hto.2
  have q3 : 0 ≤ tq := by omega
  have q4 : ¬ tq < 0 := by omega
  have hwh := Lib.hid hwf
  clear hwf
  have hW : Is w (w.alloc (.cells #[.int .i64 x.End, .slice A x.Lines.length c] 24)) := (Is.refl w).alloc _
  have hB : ∀ z : Under (w.alloc (.cells #[.int .i64 x.End, .slice A x.Lines.length c] 24)), w.heap.size < z.val.heap.size := fun z => z.lt _ (by simp)
  go_enter Try.func5, Try.ntmps5
  go_wp2_with (first
    | (go_at_call 24; refine (cut_ok x f tq A c _ F he (h.is hW) hwh.out hf hto hE hn hl).mono ?_; rintro e w1 ⟨A1, c1, rfl, hs1, ⟨x1, rfl⟩⟩; have hW1 := (hW.step x1).alloc (.cells #[.int .i64 (tq - f), .slice A1 (cutOf x f tq).Lines.length c1] 24); have p1 := hB x1)
    | (go_at_call 11; refine (waveFault_calls x A c _ F he (h.is hW1)).mono ?_; rintro e w2 ⟨rfl, ⟨x2, rfl⟩⟩; rw [hwh.out]; have hW2 := hW1.step x2; have p2 : w.heap.size < x2.val.heap.size := x2.lt _ (by simp; omega); have p3 : x1.val.heap.size < x2.val.heap.size := x2.lt _ (by simp); have s2 := ((hs1.is ((Is.refl _).alloc _)).is (Is.val x2))))
  refine wp_region_splitL (fun w' => ∃ z' : Under x2.val, w' = z'.val) [false, false, false, false, false, false, false, false, false, false, false, false, false, false] [false, false, false, false, false, false, false, false, false, false, false, false, false, false] [] 14 #[false, false, false, false, false, false, false, false, false, false, false, false, false, false] (by kernel_rfl) (by kernel_rfl) (by decide) ⟨(Under.refl _).drew, rfl⟩ (fun _ _ d _ _ h => by cases d <;> exact h) ?_
  simp only [pickB]
  refine wpQuiet_nil ?_
  refine wpQuiet_nil ?_
  refine anyL_one (i := 0) #[true, false, false, false, false, false, false, false, false, false, false, false, false, false] (by kernel_rfl) rfl (by decide) (fun Q' hQ' => ?_)
  go_wp2_with (go_at_call 12; refine (waved_calls _).mono ?_; rintro e w3 ⟨rfl, ⟨x3, rfl⟩⟩)
  have hW3 := (hW2.drew).step x3
  have p4 : x1.val.heap.size < x3.val.heap.size := x3.lt _ p3
  have p5 : w.heap.size < x3.val.heap.size := x3.lt _ p2
  refine ⟨(by first | exact .inr ⟨((Under.refl _).drew).trans x3, rfl⟩ | exact ⟨((Under.refl _).drew).trans x3, rfl⟩), ?_⟩
  refine anyL_one (i := 1) #[true, true, false, false, false, false, false, false, false, false, false, false, false, false] (by kernel_rfl) rfl (by decide) (fun Q' hQ' => ?_)
  go_wp2
  refine ⟨(by first | exact .inr ⟨((Under.refl _).drew).trans x3, rfl⟩ | exact ⟨((Under.refl _).drew).trans x3, rfl⟩), ?_⟩
  refine anyL_one (i := 2) #[true, true, true, false, false, false, false, false, false, false, false, false, false, false] (by kernel_rfl) rfl (by decide) (fun Q' hQ' => ?_)
  go_wp2
  refine ⟨(by first | exact .inr ⟨((Under.refl _).drew).trans x3, rfl⟩ | exact ⟨((Under.refl _).drew).trans x3, rfl⟩), ?_⟩
  refine anyL_one (i := 3) #[true, true, true, true, false, false, false, false, false, false, false, false, false, false] (by kernel_rfl) rfl (by decide) (fun Q' hQ' => ?_)
  go_wp2
  refine ⟨(by first | exact .inr ⟨((Under.refl _).drew).trans x3, rfl⟩ | exact ⟨((Under.refl _).drew).trans x3, rfl⟩), ?_⟩
  refine anyL_one (i := 4) #[true, true, true, true, true, false, false, false, false, false, false, false, false, false] (by kernel_rfl) rfl (by decide) (fun Q' hQ' => ?_)
  go_wp2
  refine ⟨(by first | exact .inr ⟨((Under.refl _).drew).trans x3, rfl⟩ | exact ⟨((Under.refl _).drew).trans x3, rfl⟩), ?_⟩
  refine anyL_one (i := 5) #[true, true, true, true, true, true, false, false, false, false, false, false, false, false] (by kernel_rfl) rfl (by decide) (fun Q' hQ' => ?_)
  go_wp2
  refine ⟨(by first | exact .inr ⟨((Under.refl _).drew).trans x3, rfl⟩ | exact ⟨((Under.refl _).drew).trans x3, rfl⟩), ?_⟩
  refine anyL_take (i := 6) #[true, true, true, true, true, true, true, false, false, false, false, false, false, false] (by kernel_rfl) rfl (by decide) ⟨((Under.refl _).drew).trans x3, rfl⟩ (fun _ _ d _ _ h => by cases d <;> exact h) ?_
  repeat (go_big_quiet_step (fail))
  refine wpQuiet_nil ?_
  refine anyL_take (i := 7) #[true, true, true, true, true, true, true, true, false, false, false, false, false, false] (by kernel_rfl) rfl (by decide) ⟨((Under.refl _).drew).trans x3, rfl⟩ (fun _ _ d _ _ h => by cases d <;> exact h) ?_
  repeat (go_big_quiet_step (fail))
  refine wpQuiet_nil ?_
  refine anyL_take (i := 8) #[true, true, true, true, true, true, true, true, true, false, false, false, false, false] (by kernel_rfl) rfl (by decide) ⟨((Under.refl _).drew).trans x3, rfl⟩ (fun _ _ d _ _ h => by cases d <;> exact h) ?_
  repeat (go_big_quiet_step (fail))
  refine wpQuiet_nil ?_
  refine anyL_take (i := 9) #[true, true, true, true, true, true, true, true, true, true, false, false, false, false] (by kernel_rfl) rfl (by decide) ⟨((Under.refl _).drew).trans x3, rfl⟩ (fun _ _ d _ _ h => by cases d <;> exact h) ?_
  repeat (go_big_quiet_step (fail))
  refine wpQuiet_nil ?_
  refine anyL_one (i := 10) #[true, true, true, true, true, true, true, true, true, true, true, false, false, false] (by kernel_rfl) rfl (by decide) (fun Q' hQ' => ?_)
  go_wp2_with (go_at_call 25; refine (piece_calls x f tq A c _ F (h.is hW3) ⟨hf0, by omega⟩ ⟨q3, by omega⟩ hn (fun l hl' => (hl l hl').ok)).mono ?_; rintro e w4 ⟨A4, c4, rfl, hs4, ⟨x4, rfl⟩⟩)
  have hW4 := hW3.step x4
  have s4 := (s2.is ((Is.refl _).drew)).is (Is.val x3) |>.is (Is.val x4)
  refine ⟨(by first | exact .inr ⟨(((Under.refl _).drew).trans x3).trans x4, rfl⟩ | exact ⟨(((Under.refl _).drew).trans x3).trans x4, rfl⟩), ?_⟩
  refine anyL_one (i := 11) #[true, true, true, true, true, true, true, true, true, true, true, true, false, false] (by kernel_rfl) rfl (by decide) (fun Q' hQ' => ?_)
  go_wp2_with (go_at_call 19; refine (sameWave_calls (cutOf x f tq) (cutOf x f tq) A1 A4 c1 c4 _ _ _ s4 hs4).mono ?_; rw [sameWave_refl]; rintro e w5 ⟨rfl, ⟨x5, rfl⟩⟩)
  have hW5 := hW4.step x5
  refine ⟨(by first | exact .inr ⟨((((Under.refl _).drew).trans x3).trans x4).trans x5, rfl⟩ | exact ⟨((((Under.refl _).drew).trans x3).trans x4).trans x5, rfl⟩), ?_⟩
  refine anyL_one (i := 12) #[true, true, true, true, true, true, true, true, true, true, true, true, true, false] (by kernel_rfl) rfl (by decide) (fun Q' hQ' => ?_)
  go_wp2
  refine ⟨(by first | exact .inr ⟨((((Under.refl _).drew).trans x3).trans x4).trans x5, rfl⟩ | exact ⟨((((Under.refl _).drew).trans x3).trans x4).trans x5, rfl⟩), ?_⟩
  refine anyL_one (i := 13) #[true, true, true, true, true, true, true, true, true, true, true, true, true, true] (by kernel_rfl) rfl (by decide) (fun Q' hQ' => ?_)
  go_wp2
  refine ⟨(by first | exact .inr ⟨((((Under.refl _).drew).trans x3).trans x4).trans x5, rfl⟩ | exact ⟨((((Under.refl _).drew).trans x3).trans x4).trans x5, rfl⟩), ?_⟩
  refine anyL_end (by kernel_rfl) ?_
  go_wp2
  go_ret
  exact ⟨ret_bool (by simp), hW5⟩

theorem waveCuts_calls (x : Wave) (f tq : Int) (A : Option Addr) (c : Nat) (w : World) (F : Nat → Prop) (he : InK .i64 x.End) (h : Rep.Sl kLine w F A c x.Lines) (hs : ∀ l ∈ x.Lines, l.At.length ≤ 140737488355328) :
    Calls Try.prog 5 #[.agg #[.int .i64 x.End, .slice A x.Lines.length c], .int .i64 f, .int .i64 tq] w fun e w' => e = .returned (.bool true) ∧ Is w w' := by
  by_cases hwf : waveFault x = 0
  · by_cases hb : f < 0 ∨ x.End < f ∨ tq < 0 ∨ x.End < tq
    · exact waveCuts_err x f tq A c w F he h 2 (by decide) (.inr (.inl ⟨hwf, hb, rfl⟩))
    · by_cases hlt : tq < f
      · exact waveCuts_err x f tq A c w F he h 5 (by decide) (.inr (.inr ⟨hwf, hb, hlt, rfl⟩))
      · have hfew := wave_few hwf hs
        have hend := wave_end hwf
        refine waveCuts_ok x f tq A c w F he h hwf ⟨by omega, by omega⟩ ⟨by omega, by omega⟩ hend.2 hfew.1 (fun l hl => ?_)
        obtain ⟨i, hi⟩ := List.getElem?_of_mem hl
        obtain ⟨_, _, _, _, _, _, _, _, _, _, _, _, hk, _, _⟩ := Rep.rowLine h.row hi
        exact cutLn_of (wave_lv hwf l hl) hend.2 hk (hfew.2 l hl) (by omega)
  · exact waveCuts_err x f tq A c w F he h (waveFault x) hwf (.inl ⟨hwf, rfl⟩)
end Go.Proofs.Ytabhafllkhoefaa
