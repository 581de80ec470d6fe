/- wave.Append: its early errors. -/
import Derived.Test.YtabhafllkhoefaaClone
import Derived.Test.YtabhafllkhoefaaCutsLaw
namespace Go.Proofs.Ytabhafllkhoefaa
open Go.RowKit
set_option maxRecDepth 100000

/-- Append's early errors. -/
def AppErr (x y : Wave) (er : Int) : Prop :=
  (waveFault x ≠ 0 ∧ er = waveFault x) ∨ (waveFault x = 0 ∧ waveFault y ≠ 0 ∧ er = waveFault y) ∨ (waveFault x = 0 ∧ waveFault y = 0 ∧ all2 lineFits x.Lines y.Lines = false ∧ er = 4) ∨
  (waveFault x = 0 ∧ waveFault y = 0 ∧ all2 lineFits x.Lines y.Lines = true ∧ 1099511627776 < x.End + 1 + y.End ∧ er = 3)

set_option maxHeartbeats 1000000 in
theorem append_err (x y : Wave) (A B : Option Addr) (c d : Nat) (w : World) (F G : Nat → Prop) (he : InK .i64 x.End) (hey : InK .i64 y.End) (h : Rep.Sl kLine w F A c x.Lines) (k : Rep.Sl kLine w G B d y.Lines) (er : Int) (hc : AppErr x y er) :
    Calls Try.prog 26 #[.agg #[.int .i64 x.End, .slice A x.Lines.length c], .agg #[.int .i64 y.End, .slice B y.Lines.length d]] w fun e w' =>
      e = .returned (.tuple #[.agg #[.int .i64 0, .slice none 0 0], .int .i64 er]) ∧ Is w w' := by
  have hu := Try.underlying50
  have hu2 := Try.underlying24
  have hm := h.len
  have hW : Is w (((w.alloc (.cells #[.int .i64 x.End, .slice A x.Lines.length c] 24)).alloc (.cells #[.int .i64 y.End, .slice B y.Lines.length d] 24)).alloc (.cells #[.int .i64 0, .slice none 0 0] 24)) := (((Is.refl w).alloc _).alloc _).alloc _
  have hB : ∀ z : Under (((w.alloc (.cells #[.int .i64 x.End, .slice A x.Lines.length c] 24)).alloc (.cells #[.int .i64 y.End, .slice B y.Lines.length d] 24)).alloc (.cells #[.int .i64 0, .slice none 0 0] 24)), w.heap.size < z.val.heap.size ∧ w.heap.size + 1 < z.val.heap.size ∧ w.heap.size + 1 + 1 < z.val.heap.size ∧ z.val.heap[w.heap.size + 1 + 1]? = some (.cells #[.int .i64 0, .slice none 0 0] 24 (0, 0)) := fun z => ⟨z.lt _ (by simp; omega), z.lt _ (by simp), z.lt _ (by simp), (z.ok.block _ (by simp)).trans (heap_alloc3_new w _ _ _)⟩
  have hx0 : waveFault x = 0 → ∀ W, Is w W → Calls Try.prog 17 #[.agg #[.int .i64 x.End, .slice A x.Lines.length c]] W fun e w' => e = .returned (.int .i64 0) ∧ Is W w' := fun hwf W hW => by
    have := check_calls x A c W F he (h.is hW)
    rw [hwf] at this
    exact this
  have hy0 : waveFault y = 0 → ∀ W, Is w W → Calls Try.prog 17 #[.agg #[.int .i64 y.End, .slice B y.Lines.length d]] W fun e w' => e = .returned (.int .i64 0) ∧ Is W w' := fun hwf W hW => by
    have := check_calls y B d W G hey (k.is hW)
    rw [hwf] at this
    exact this
  rcases hc with ⟨hwf, rfl⟩ | ⟨hx, hwf, rfl⟩ | ⟨hx, hy, hf, rfl⟩ | ⟨hx, hy, hf, hl, rfl⟩
  · have hb : (waveFault x != 0) = true := by simpa using hwf
    clear hwf hx0 hy0
    go_enter Try.func26, Try.ntmps26
    go_wp2_with (go_at_call 17; refine (check_calls x A c _ F he (h.is hW)).mono ?_; rintro e w1 ⟨rfl, ⟨x1, rfl⟩⟩; have hW1 := hW.step x1; obtain ⟨p1, p2, p3, hr1⟩ := hB x1)
    have hrow := heap_setCell_same _ (w.heap.size + 1 + 1) 1 _ _ (.slice none 0 0) (heap_setCell_same x1.val (w.heap.size + 1 + 1) 0 _ _ (.int .i64 0) hr1)
    ((try simp only [Exit.inBlock, Exit.then]); refine bodyPost_ret (results_cell_tmp_row rfl _ _ (w.heap.size + 1 + 1) _ _ _ _ rfl hrow Try.underlying24 rfl (by kernel_rfl)) rfl ?_)
    exact ⟨rfl, (hW1.setCell (by simp; omega) _).setCell (by simp; omega) _⟩
  · have hb : (waveFault y != 0) = true := by simpa using hwf
    clear hwf
    have hxh := Lib.hid hx
    clear hx
    go_enter Try.func26, Try.ntmps26
    go_wp2_with (first
      | (go_at_call 17; refine (check_calls y B d _ G hey (k.is hW1)).mono ?_; rintro e w2 ⟨rfl, ⟨x2, rfl⟩⟩; have hW2 := hW1.step x2; have p4 := x2.lt _ p1; have p5 := x2.lt _ p2; have p6 := x2.lt _ p3; have hr2 := (x2.ok.block _ p3).trans hr1)
      | (go_at_call 17; refine (hx0 hxh.out _ hW).mono ?_; rintro e w1 ⟨rfl, ⟨x1, rfl⟩⟩; have hW1 := hW.step x1; obtain ⟨p1, p2, p3, hr1⟩ := hB x1))
    have hrow := heap_setCell_same _ (w.heap.size + 1 + 1) 1 _ _ (.slice none 0 0) (heap_setCell_same x2.val (w.heap.size + 1 + 1) 0 _ _ (.int .i64 0) hr2)
    ((try simp only [Exit.inBlock, Exit.then]); refine bodyPost_ret (results_cell_tmp_row rfl _ _ (w.heap.size + 1 + 1) _ _ _ _ rfl hrow Try.underlying24 rfl (by kernel_rfl)) rfl ?_)
    exact ⟨rfl, (hW2.setCell (by simp; omega) _).setCell (by simp; omega) _⟩
  · have hfh := Lib.hid hf
    clear hf
    go_enter Try.func26, Try.ntmps26
    go_wp2_with (first
      | (go_at_call 53; refine (fits_calls x y A B c d _ _ _ (h.is hW2) (k.is hW2)).mono ?_; rw [hfh.out]; rintro e w3 ⟨rfl, ⟨x3, rfl⟩⟩; have hW3 := hW2.step x3; have p7 := x3.lt _ p4; have p8 := x3.lt _ p5; have p9 := x3.lt _ p6; have hr3 := (x3.ok.block _ p6).trans hr2)
      | (go_at_call 17; refine (hy0 hy _ hW1).mono ?_; rintro e w2 ⟨rfl, ⟨x2, rfl⟩⟩; have hW2 := hW1.step x2; have p4 := x2.lt _ p1; have p5 := x2.lt _ p2; have p6 := x2.lt _ p3; have hr2 := (x2.ok.block _ p3).trans hr1)
      | (go_at_call 17; refine (hx0 hx _ hW).mono ?_; rintro e w1 ⟨rfl, ⟨x1, rfl⟩⟩; have hW1 := hW.step x1; obtain ⟨p1, p2, p3, hr1⟩ := hB x1))
    have hrow := heap_setCell_same _ (w.heap.size + 1 + 1) 1 _ _ (.slice none 0 0) (heap_setCell_same x3.val (w.heap.size + 1 + 1) 0 _ _ (.int .i64 0) hr3)
    ((try simp only [Exit.inBlock, Exit.then]); refine bodyPost_ret (results_cell_tmp_row rfl _ _ (w.heap.size + 1 + 1) _ _ _ _ rfl hrow Try.underlying24 rfl (by kernel_rfl)) rfl ?_)
    exact ⟨rfl, (hW3.setCell (by simp; omega) _).setCell (by simp; omega) _⟩
  · have hfh := Lib.hid hf
    have e1 := (wave_end hx).1
    have e2 := (wave_end hx).2
    have e3 := (wave_end hy).1
    have e4 := (wave_end hy).2
    clear hf
    go_enter Try.func26, Try.ntmps26
    go_wp2_with (first
      | (go_at_call 53; refine (fits_calls x y A B c d _ _ _ (h.is hW2) (k.is hW2)).mono ?_; rw [hfh.out]; rintro e w3 ⟨rfl, ⟨x3, rfl⟩⟩; have hW3 := hW2.step x3; have p7 := x3.lt _ p4; have p8 := x3.lt _ p5; have p9 := x3.lt _ p6; have hr3 := (x3.ok.block _ p6).trans hr2)
      | (go_at_call 17; refine (hy0 hy _ hW1).mono ?_; rintro e w2 ⟨rfl, ⟨x2, rfl⟩⟩; have hW2 := hW1.step x2; have p4 := x2.lt _ p1; have p5 := x2.lt _ p2; have p6 := x2.lt _ p3; have hr2 := (x2.ok.block _ p3).trans hr1)
      | (go_at_call 17; refine (hx0 hx _ hW).mono ?_; rintro e w1 ⟨rfl, ⟨x1, rfl⟩⟩; have hW1 := hW.step x1; obtain ⟨p1, p2, p3, hr1⟩ := hB x1))
    have hrow := heap_setCell_same _ (w.heap.size + 1 + 1) 1 _ _ (.slice none 0 0) (heap_setCell_same x3.val (w.heap.size + 1 + 1) 0 _ _ (.int .i64 0) hr3)
    ((try simp only [Exit.inBlock, Exit.then]); refine bodyPost_ret (results_cell_tmp_row rfl _ _ (w.heap.size + 1 + 1) _ _ _ _ rfl hrow Try.underlying24 rfl (by kernel_rfl)) rfl ?_)
    exact ⟨rfl, (hW3.setCell (by simp; omega) _).setCell (by simp; omega) _⟩
end Go.Proofs.Ytabhafllkhoefaa
