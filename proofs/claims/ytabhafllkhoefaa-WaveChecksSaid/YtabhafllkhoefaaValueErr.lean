/- The errors of Value, and Value at all inputs. -/
import Derived.Test.YtabhafllkhoefaaCalled
namespace Go.Proofs.Ytabhafllkhoefaa
open Go.RowKit
set_option maxRecDepth 100000

theorem setCell3_heap' (w : World) (b : Nat) {t : TypeId} (a0 a1 a2 u0 u1 u2 : Value) (h : w.heap[b]? = some (.cells #[a0, a1, a2] t (0, 0))) : (((w.setCell ⟨b, 0, none⟩ u0).setCell ⟨b, 1, none⟩ u1).setCell ⟨b, 2, none⟩ u2).heap[b]? = some (.cells #[u0, u1, u2] t (0, 0)) :=
  setCell3_heap w b a0 a1 a2 u0 u1 u2 h
set_option maxHeartbeats 2000000 in
theorem value_err (x : Wave) (s : ByteArray) (t : Int) (A : Option Addr) (c : Nat) (w : World) (F : Nat → Prop) (he : InK .i64 x.End) (h : Rep.Sl kLine w F A c x.Lines) (hfe : findErr x s ≠ 0) :
    Calls Try.prog 21 #[.agg #[.int .i64 x.End, .slice A x.Lines.length c], .string s, .int .i64 t] w fun e w' =>
      e = .returned (.tuple #[.agg #[.int .i64 0, .int .u64 0, .int .u64 0], .int .i64 (findErr x s)]) ∧ Is w w' := by
  have hu := Try.underlying50
  have hu2 := Try.underlying24
  have hu3 := Try.underlying41
  have hm := h.len
  have hb : (findErr x s != 0) = true := by simpa using hfe
  have hfh := Lib.hid hfe
  clear hfe
  go_enter Try.func21, Try.ntmps21
  go_wp2_with (go_at_call 57; refine (find_calls x s A c _ F he (h.is (((Is.refl w).alloc _).alloc _))).mono ?_; rintro e w1 ⟨hor, ⟨x1, rfl⟩⟩; obtain ⟨_, rfl⟩ := hor.resolve_right (fun h => hfh.out h.1); have hx0 : w.heap.size < x1.val.heap.size := x1.lt _ (by simp; omega); have hx1 : w.heap.size + 1 < x1.val.heap.size := x1.lt _ (by simp); have hr1 : x1.val.heap[w.heap.size + 1]? = some (.cells #[.int .i64 0, .int .u64 0, .int .u64 0] 41 (0, 0)) := (x1.ok.block _ (by simp)).trans (heap_alloc2_new w _ _))
  have hrow := (Below.heap_alloc (((x1.val.setCell ⟨w.heap.size + 1, 0, none⟩ (.int .i64 0)).setCell ⟨w.heap.size + 1, 1, none⟩ (.int .u64 0)).setCell ⟨w.heap.size + 1, 2, none⟩ (.int .u64 0)) (.cells #[.string ⟨#[]⟩, .int .i64 0, .slice none 0 0, .slice none 0 0] 50 (0, 0)) (w.heap.size + 1) (by simpa using hx1)).trans (setCell3_heap' x1.val (w.heap.size + 1) _ _ _ (.int .i64 0) (.int .u64 0) (.int .u64 0) hr1)
  ((try simp only [Exit.inBlock, Exit.then]); refine bodyPost_ret (results_cell_tmp_row rfl _ _ (w.heap.size + 1) _ _ _ _ rfl hrow Try.underlying41 rfl (by kernel_rfl)) rfl ?_)
  exact ⟨rfl, (((((((Is.refl w).alloc _).alloc _).step x1).setCell (by simp) _).setCell (by simp) _).setCell (by simp) _).alloc _⟩

set_option maxHeartbeats 2000000 in
theorem value_range (x : Wave) (s : ByteArray) (t : Int) (A : Option Addr) (c : Nat) (w : World) (F : Nat → Prop) (he : InK .i64 x.End) (h : Rep.Sl kLine w F A c x.Lines) (hfe : findErr x s = 0) (ht : t < 0 ∨ x.End < t) :
    Calls Try.prog 21 #[.agg #[.int .i64 x.End, .slice A x.Lines.length c], .string s, .int .i64 t] w fun e w' =>
      e = .returned (.tuple #[.agg #[.int .i64 0, .int .u64 0, .int .u64 0], .int .i64 2]) ∧ Is w w' := by
  have hu := Try.underlying50
  have hu2 := Try.underlying24
  have hu3 := Try.underlying41
  have hm := h.len
  have hfh := Lib.hid hfe
  clear hfe
  go_enter Try.func21, Try.ntmps21
  rcases ht with ht | ht
  · go_wp2_with (go_at_call 57; refine (find_calls x s A c _ F he (h.is (((Is.refl w).alloc _).alloc _))).mono ?_; rintro e w1 ⟨hor, ⟨x1, rfl⟩⟩; obtain ⟨_, _, l, A2, c2, A3, c3, _, _, _, _, rfl⟩ := hor.resolve_left (fun h => h.1 hfh.out); have hx0 : w.heap.size < x1.val.heap.size := x1.lt _ (by simp; omega); have hx1 : w.heap.size + 1 < x1.val.heap.size := x1.lt _ (by simp); have hr1 : x1.val.heap[w.heap.size + 1]? = some (.cells #[.int .i64 0, .int .u64 0, .int .u64 0] 41 (0, 0)) := (x1.ok.block _ (by simp)).trans (heap_alloc2_new w _ _))
    have hrow := (Below.heap_alloc (((x1.val.setCell ⟨w.heap.size + 1, 0, none⟩ (.int .i64 0)).setCell ⟨w.heap.size + 1, 1, none⟩ (.int .u64 0)).setCell ⟨w.heap.size + 1, 2, none⟩ (.int .u64 0)) (.cells #[.string l.Name, .int .i64 l.W, .slice A2 l.At.length c2, .slice A3 l.Val.length c3] 50 (0, 0)) (w.heap.size + 1) (by simpa using hx1)).trans (setCell3_heap' x1.val (w.heap.size + 1) _ _ _ (.int .i64 0) (.int .u64 0) (.int .u64 0) hr1)
    ((try simp only [Exit.inBlock, Exit.then]); refine bodyPost_ret (results_cell_tmp_row rfl _ _ (w.heap.size + 1) _ _ _ _ rfl hrow Try.underlying41 rfl (by kernel_rfl)) rfl ?_)
    exact ⟨rfl, (((((((Is.refl w).alloc _).alloc _).step x1).setCell (by simp) _).setCell (by simp) _).setCell (by simp) _).alloc _⟩
  · by_cases h0 : t < 0
    · go_wp2_with (go_at_call 57; refine (find_calls x s A c _ F he (h.is (((Is.refl w).alloc _).alloc _))).mono ?_; rintro e w1 ⟨hor, ⟨x1, rfl⟩⟩; obtain ⟨_, _, l, A2, c2, A3, c3, _, _, _, _, rfl⟩ := hor.resolve_left (fun h => h.1 hfh.out); have hx0 : w.heap.size < x1.val.heap.size := x1.lt _ (by simp; omega); have hx1 : w.heap.size + 1 < x1.val.heap.size := x1.lt _ (by simp); have hr1 : x1.val.heap[w.heap.size + 1]? = some (.cells #[.int .i64 0, .int .u64 0, .int .u64 0] 41 (0, 0)) := (x1.ok.block _ (by simp)).trans (heap_alloc2_new w _ _))
      have hrow := (Below.heap_alloc (((x1.val.setCell ⟨w.heap.size + 1, 0, none⟩ (.int .i64 0)).setCell ⟨w.heap.size + 1, 1, none⟩ (.int .u64 0)).setCell ⟨w.heap.size + 1, 2, none⟩ (.int .u64 0)) (.cells #[.string l.Name, .int .i64 l.W, .slice A2 l.At.length c2, .slice A3 l.Val.length c3] 50 (0, 0)) (w.heap.size + 1) (by simpa using hx1)).trans (setCell3_heap' x1.val (w.heap.size + 1) _ _ _ (.int .i64 0) (.int .u64 0) (.int .u64 0) hr1)
      ((try simp only [Exit.inBlock, Exit.then]); refine bodyPost_ret (results_cell_tmp_row rfl _ _ (w.heap.size + 1) _ _ _ _ rfl hrow Try.underlying41 rfl (by kernel_rfl)) rfl ?_)
      exact ⟨rfl, (((((((Is.refl w).alloc _).alloc _).step x1).setCell (by simp) _).setCell (by simp) _).setCell (by simp) _).alloc _⟩
    · go_wp2_with (go_at_call 57; refine (find_calls x s A c _ F he (h.is (((Is.refl w).alloc _).alloc _))).mono ?_; rintro e w1 ⟨hor, ⟨x1, rfl⟩⟩; obtain ⟨_, _, l, A2, c2, A3, c3, _, _, _, _, rfl⟩ := hor.resolve_left (fun h => h.1 hfh.out); have hx0 : w.heap.size < x1.val.heap.size := x1.lt _ (by simp; omega); have hx1 : w.heap.size + 1 < x1.val.heap.size := x1.lt _ (by simp); have hr1 : x1.val.heap[w.heap.size + 1]? = some (.cells #[.int .i64 0, .int .u64 0, .int .u64 0] 41 (0, 0)) := (x1.ok.block _ (by simp)).trans (heap_alloc2_new w _ _))
      have hrow := (Below.heap_alloc (((x1.val.setCell ⟨w.heap.size + 1, 0, none⟩ (.int .i64 0)).setCell ⟨w.heap.size + 1, 1, none⟩ (.int .u64 0)).setCell ⟨w.heap.size + 1, 2, none⟩ (.int .u64 0)) (.cells #[.string l.Name, .int .i64 l.W, .slice A2 l.At.length c2, .slice A3 l.Val.length c3] 50 (0, 0)) (w.heap.size + 1) (by simpa using hx1)).trans (setCell3_heap' x1.val (w.heap.size + 1) _ _ _ (.int .i64 0) (.int .u64 0) (.int .u64 0) hr1)
      ((try simp only [Exit.inBlock, Exit.then]); refine bodyPost_ret (results_cell_tmp_row rfl _ _ (w.heap.size + 1) _ _ _ _ rfl hrow Try.underlying41 rfl (by kernel_rfl)) rfl ?_)
      exact ⟨rfl, (((((((Is.refl w).alloc _).alloc _).step x1).setCell (by simp) _).setCell (by simp) _).setCell (by simp) _).alloc _⟩
end Go.Proofs.Ytabhafllkhoefaa
