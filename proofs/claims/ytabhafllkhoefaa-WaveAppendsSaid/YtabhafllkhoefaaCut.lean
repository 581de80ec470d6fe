/- wave.Cut. -/
import Derived.Test.YtabhafllkhoefaaPiece
import Derived.Test.YtabhafllkhoefaaHad
namespace Go.Proofs.Ytabhafllkhoefaa
open Go.RowKit
set_option maxRecDepth 100000

/-- What the walk of Cut needs to know of a line. -/
structure CutLn (l : Line) (f : Int) : Prop where
  ok : CutOk l 1099511627776
  vals : ∀ (j : Nat) (t : Int), l.At[j]? = some t → l.Val[j]? = some (had l t)
  idx : ∃ k : Nat, indexOf l.At f = k ∧ k < l.Val.length ∧ l.Val[k]? = some (had l f)

set_option maxHeartbeats 4000000 in
theorem cut_err (x : Wave) (f tq : Int) (A : Option Addr) (c : Nat) (w : World) (F : Nat → Prop) (he : InK .i64 x.End) (h : Rep.Sl kLine w F A c x.Lines) (er : Int)
    (hc : (waveFault x ≠ 0 ∧ er = waveFault x) ∨ (waveFault x = 0 ∧ (f < 0 ∨ x.End < f ∨ tq < 0 ∨ x.End < tq) ∧ er = 2) ∨ (waveFault x = 0 ∧ ¬ (f < 0 ∨ x.End < f ∨ tq < 0 ∨ x.End < tq) ∧ tq < f ∧ er = 5)) :
    Calls Try.prog 24 #[.agg #[.int .i64 x.End, .slice A x.Lines.length c], .int .i64 f, .int .i64 tq] w fun e w' =>
      e = .returned (.tuple #[.agg #[.int .i64 0, .slice none 0 0], .int .i64 er]) ∧ Is w w' := by
  have hu := Try.underlying50
  have hu2 := Try.underlying24
  have hm := h.len
  rcases hc with ⟨hwf, rfl⟩ | hc
  · have hb : (waveFault x != 0) = true := by simpa using hwf
    have hwh := Lib.hid hwf
    clear hwf
    go_enter Try.func24, Try.ntmps24
    go_wp2_with (go_at_call 17; refine (check_calls x A c _ F he (h.is (((Is.refl w).alloc _).alloc _))).mono ?_; rintro e w1 ⟨rfl, ⟨x1, rfl⟩⟩; have hx0 : w.heap.size < x1.val.heap.size := x1.lt _ (by simp; omega); have hx1 : w.heap.size + 1 < x1.val.heap.size := x1.lt _ (by simp); have hr1 : x1.val.heap[w.heap.size + 1]? = some (.cells #[.int .i64 0, .slice none 0 0] 24 (0, 0)) := (x1.ok.block _ (by simp)).trans (heap_alloc2_new w _ _))
    have hrow := heap_setCell_same _ (w.heap.size + 1) 1 _ _ (.slice none 0 0) (heap_setCell_same x1.val (w.heap.size + 1) 0 _ _ (.int .i64 0) hr1)
    ((try simp only [Exit.inBlock, Exit.then]); refine bodyPost_ret (results_cell_tmp_row rfl _ _ (w.heap.size + 1) _ _ _ _ rfl hrow Try.underlying24 rfl (by kernel_rfl)) rfl ?_)
    exact ⟨rfl, (((((Is.refl w).alloc _).alloc _).step x1).setCell (by simp) _).setCell (by simp) _⟩
  · have hwf : waveFault x = 0 := by rcases hc with hc | hc <;> exact hc.1
    have hck : ∀ W, Is w W → Calls Try.prog 17 #[.agg #[.int .i64 x.End, .slice A x.Lines.length c]] W fun e w' => e = .returned (.int .i64 0) ∧ Is W w' := fun W hW => by
      have := check_calls x A c W F he (h.is hW)
      rw [hwf] at this
      exact this
    rcases hc with ⟨_, hbad, rfl⟩ | ⟨_, hin, hlt, rfl⟩
    · by_cases c1 : f < 0
      · clear hbad hwf
        go_enter Try.func24, Try.ntmps24
        go_wp2_with (go_at_call 17; refine (hck _ (((Is.refl w).alloc _).alloc _)).mono ?_; rintro e w1 ⟨rfl, ⟨x1, rfl⟩⟩; have hx0 : w.heap.size < x1.val.heap.size := x1.lt _ (by simp; omega); have hx1 : w.heap.size + 1 < x1.val.heap.size := x1.lt _ (by simp); have hr1 : x1.val.heap[w.heap.size + 1]? = some (.cells #[.int .i64 0, .slice none 0 0] 24 (0, 0)) := (x1.ok.block _ (by simp)).trans (heap_alloc2_new w _ _))
        have hrow := heap_setCell_same _ (w.heap.size + 1) 1 _ _ (.slice none 0 0) (heap_setCell_same x1.val (w.heap.size + 1) 0 _ _ (.int .i64 0) hr1)
        ((try simp only [Exit.inBlock, Exit.then]); refine bodyPost_ret (results_cell_tmp_row rfl _ _ (w.heap.size + 1) _ _ _ _ rfl hrow Try.underlying24 rfl (by kernel_rfl)) rfl ?_)
        exact ⟨rfl, (((((Is.refl w).alloc _).alloc _).step x1).setCell (by simp) _).setCell (by simp) _⟩
      by_cases c2 : x.End < f
      · clear hbad hwf
        go_enter Try.func24, Try.ntmps24
        go_wp2_with (go_at_call 17; refine (hck _ (((Is.refl w).alloc _).alloc _)).mono ?_; rintro e w1 ⟨rfl, ⟨x1, rfl⟩⟩; have hx0 : w.heap.size < x1.val.heap.size := x1.lt _ (by simp; omega); have hx1 : w.heap.size + 1 < x1.val.heap.size := x1.lt _ (by simp); have hr1 : x1.val.heap[w.heap.size + 1]? = some (.cells #[.int .i64 0, .slice none 0 0] 24 (0, 0)) := (x1.ok.block _ (by simp)).trans (heap_alloc2_new w _ _))
        have hrow := heap_setCell_same _ (w.heap.size + 1) 1 _ _ (.slice none 0 0) (heap_setCell_same x1.val (w.heap.size + 1) 0 _ _ (.int .i64 0) hr1)
        ((try simp only [Exit.inBlock, Exit.then]); refine bodyPost_ret (results_cell_tmp_row rfl _ _ (w.heap.size + 1) _ _ _ _ rfl hrow Try.underlying24 rfl (by kernel_rfl)) rfl ?_)
        exact ⟨rfl, (((((Is.refl w).alloc _).alloc _).step x1).setCell (by simp) _).setCell (by simp) _⟩
      by_cases c3 : tq < 0
      · clear hbad hwf
        go_enter Try.func24, Try.ntmps24
        go_wp2_with (go_at_call 17; refine (hck _ (((Is.refl w).alloc _).alloc _)).mono ?_; rintro e w1 ⟨rfl, ⟨x1, rfl⟩⟩; have hx0 : w.heap.size < x1.val.heap.size := x1.lt _ (by simp; omega); have hx1 : w.heap.size + 1 < x1.val.heap.size := x1.lt _ (by simp); have hr1 : x1.val.heap[w.heap.size + 1]? = some (.cells #[.int .i64 0, .slice none 0 0] 24 (0, 0)) := (x1.ok.block _ (by simp)).trans (heap_alloc2_new w _ _))
        have hrow := heap_setCell_same _ (w.heap.size + 1) 1 _ _ (.slice none 0 0) (heap_setCell_same x1.val (w.heap.size + 1) 0 _ _ (.int .i64 0) hr1)
        ((try simp only [Exit.inBlock, Exit.then]); refine bodyPost_ret (results_cell_tmp_row rfl _ _ (w.heap.size + 1) _ _ _ _ rfl hrow Try.underlying24 rfl (by kernel_rfl)) rfl ?_)
        exact ⟨rfl, (((((Is.refl w).alloc _).alloc _).step x1).setCell (by simp) _).setCell (by simp) _⟩
      have c4 : x.End < tq := by omega
      clear hbad hwf
      go_enter Try.func24, Try.ntmps24
      go_wp2_with (go_at_call 17; refine (hck _ (((Is.refl w).alloc _).alloc _)).mono ?_; rintro e w1 ⟨rfl, ⟨x1, rfl⟩⟩; have hx0 : w.heap.size < x1.val.heap.size := x1.lt _ (by simp; omega); have hx1 : w.heap.size + 1 < x1.val.heap.size := x1.lt _ (by simp); have hr1 : x1.val.heap[w.heap.size + 1]? = some (.cells #[.int .i64 0, .slice none 0 0] 24 (0, 0)) := (x1.ok.block _ (by simp)).trans (heap_alloc2_new w _ _))
      have hrow := heap_setCell_same _ (w.heap.size + 1) 1 _ _ (.slice none 0 0) (heap_setCell_same x1.val (w.heap.size + 1) 0 _ _ (.int .i64 0) hr1)
      ((try simp only [Exit.inBlock, Exit.then]); refine bodyPost_ret (results_cell_tmp_row rfl _ _ (w.heap.size + 1) _ _ _ _ rfl hrow Try.underlying24 rfl (by kernel_rfl)) rfl ?_)
      exact ⟨rfl, (((((Is.refl w).alloc _).alloc _).step x1).setCell (by simp) _).setCell (by simp) _⟩
    · have c1 : ¬ f < 0 := by omega
      have c2 : ¬ x.End < f := by omega
      have c3 : ¬ tq < 0 := by omega
      have c4 : ¬ x.End < tq := by omega
      clear hin hwf
      go_enter Try.func24, Try.ntmps24
      go_wp2_with (go_at_call 17; refine (hck _ (((Is.refl w).alloc _).alloc _)).mono ?_; rintro e w1 ⟨rfl, ⟨x1, rfl⟩⟩; have hx0 : w.heap.size < x1.val.heap.size := x1.lt _ (by simp; omega); have hx1 : w.heap.size + 1 < x1.val.heap.size := x1.lt _ (by simp); have hr1 : x1.val.heap[w.heap.size + 1]? = some (.cells #[.int .i64 0, .slice none 0 0] 24 (0, 0)) := (x1.ok.block _ (by simp)).trans (heap_alloc2_new w _ _))
      have hrow := heap_setCell_same _ (w.heap.size + 1) 1 _ _ (.slice none 0 0) (heap_setCell_same x1.val (w.heap.size + 1) 0 _ _ (.int .i64 0) hr1)
      ((try simp only [Exit.inBlock, Exit.then]); refine bodyPost_ret (results_cell_tmp_row rfl _ _ (w.heap.size + 1) _ _ _ _ rfl hrow Try.underlying24 rfl (by kernel_rfl)) rfl ?_)
      exact ⟨rfl, (((((Is.refl w).alloc _).alloc _).step x1).setCell (by simp) _).setCell (by simp) _⟩
end Go.Proofs.Ytabhafllkhoefaa
