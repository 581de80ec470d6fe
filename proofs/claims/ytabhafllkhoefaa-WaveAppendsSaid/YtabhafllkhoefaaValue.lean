/- The value of a line at a time, where there is one. -/
import Derived.Test.YtabhafllkhoefaaFind
import Derived.Test.YtabhafllkhoefaaSplitT
import Derived.Test.YtabhafllkhoefaaChg
namespace Go.Proofs.Ytabhafllkhoefaa
open Go.RowKit
set_option maxRecDepth 100000

set_option maxHeartbeats 1000000 in
theorem value_ok (x : Wave) (s : ByteArray) (t : Int) (A : Option Addr) (c : Nat) (w : World) (F : Nat → Prop) (he : InK .i64 x.End) (h : Rep.Sl kLine w F A c x.Lines) (hok : findErr x s = 0) (h0 : 0 ≤ t) (h1 : t ≤ x.End)
    (l : Line) (hl : x.Lines[(idxFrom s x.Lines 0).toNat]? = some l) (v : Bits) (hv : l.Val[(indexOf l.At t).toNat]? = some v) (hi : 0 ≤ indexOf l.At t) :
    Calls Try.prog 21 #[.agg #[.int .i64 x.End, .slice A x.Lines.length c], .string s, .int .i64 t] w fun e w' =>
      e = .returned (.tuple #[.agg #[.int .i64 v.W, .int .u64 v.V, .int .u64 v.X], .int .i64 0]) ∧ Is w w' := by
  have hu := Try.underlying50
  have hu2 := Try.underlying24
  have hu3 := Try.underlying41
  have hm := h.len
  have hl2 := Lib.hid hl
  have hv2 := Lib.hid hv
  have hok2 := Lib.hid hok
  clear hl hv hok
  go_enter Try.func21, Try.ntmps21
  go_wp2_with (go_at_call 57; refine (find_calls x s A c _ (fun k => k < w.heap.size) he (h.inb.is (((Is.refl w).alloc _).alloc _))).mono ?_; rintro e w1 ⟨hor, ⟨x1, rfl⟩⟩; obtain ⟨_, _, l', A2, c2, A3, c3, hl', hk, hs2, hs3, rfl⟩ := hor.resolve_left (fun h => h.1 hok2.out); obtain rfl : l = l' := Option.some.inj (hl2.out.symm.trans hl'); clear hl'; have hx0 : w.heap.size < x1.val.heap.size := x1.lt _ (by simp; omega); have hx1 : w.heap.size + 1 < x1.val.heap.size := x1.lt _ (by simp))
  obtain ⟨b', o', _, hA', hF', _⟩ := hs3.row _ _ hv2.out
  obtain ⟨b, o, rfl, hb, hc1, hc2, hc3, hkb⟩ := Rep.rowBits hs3.row hv2.out
  have hbw : b < w.heap.size := by
    simp only [Option.some.injEq, Addr.mk.injEq, and_true] at hA'
    rw [hA'.1]
    exact hF'
  clear hA' hF'
  have hlv : indexOf l.At t < (l.Val.length : Int) := by have := (List.getElem?_eq_some_iff.1 hv2.out).1; omega
  have hbx1 : b < x1.val.heap.size := x1.lt _ (by simp; omega)
  have hbl : b ≠ x1.val.heap.size := by omega
  have hbl' : b ≤ x1.val.heap.size := by omega
  have hb1 : b < w.heap.size + 1 + 1 := by omega
  have kW : ∀ (A B : Obj) (o' : Nat), ((w.alloc A).alloc B).cell? ⟨b, o', none⟩ = w.cell? ⟨b, o', none⟩ := fun A B o' => (((Is.refl w).alloc A).alloc B).below.cell (p := ⟨b, o', none⟩) hbw
  rw [kW] at hc1 hc2 hc3
  have hr0 : x1.val.heap[w.heap.size + 1]? = some (.cells #[.int .i64 0, .int .u64 0, .int .u64 0] 41 (0, 0)) := (x1.ok.block _ (by simp)).trans (heap_alloc2_new w _ _)
  have hr1 := (Below.heap_alloc x1.val (.cells #[.string l.Name, .int .i64 l.W, .slice A2 l.At.length c2, .slice (some ⟨b, o, none⟩) l.Val.length c3] 50) (w.heap.size + 1) hx1).trans hr0
  have hne : ¬ x1.val.heap.size = w.heap.size + 1 := by omega
  refine wp_region_splitT (fun w' => ∃ y : But (x1.val.alloc (.cells #[.string l.Name, .int .i64 l.W, .slice A2 l.At.length c2, .slice (some ⟨b, o, none⟩) l.Val.length c3] 50)) (fun k => k = w.heap.size + 1), w' = y.val) [true, true, true, true, false, false, false, false, false] (by kernel_rfl) (by kernel_rfl) (by decide) ⟨(But.refl _ _).drew, rfl⟩ (fun _ _ d _ _ h => by cases d <;> exact h) ?_
  simp only [pickB, dropB]
  repeat (go_big_quiet_step (fail))
  refine wpQuiet_nil ?_
  refine wpListT_step (fun Q' hQ' => ?_)
  have hwx := ((((Is.refl w).alloc (.cells #[.int .i64 x.End, .slice A x.Lines.length c] 24)).alloc (.cells #[.int .i64 0, .int .u64 0, .int .u64 0] 41)).step x1).alloc (.cells #[.string l.Name, .int .i64 l.W, .slice A2 l.At.length c2, .slice (some ⟨b, o, none⟩) l.Val.length c3] 50)
  have hr1h := Lib.hid hr1
  have hc1h := Lib.hid hc1
  have hc2h := Lib.hid hc2
  have hc3h := Lib.hid hc3
  have hwxh := Lib.hid hwx
  have hsI := hs2.is (((Is.val x1).alloc (.cells #[.string l.Name, .int .i64 l.W, .slice A2 l.At.length c2, .slice (some ⟨b, o, none⟩) l.Val.length c3] 50)).drew)
  clear kW hr0 hr1 hc1 hc2 hc3 hwx
  go_wp2_with (go_at_call 58; refine (index_calls l A2 (some ⟨b, o, none⟩) c2 c3 t _ _ hsI).mono ?_; rintro e w2 ⟨rfl, hx2⟩)
  have hr1 := hr1h.out
  have hc1 := hc1h.out
  have hc2 := hc2h.out
  have hc3 := hc3h.out
  have hwx := hwxh.out
  have hS : ∃ y : But (x1.val.alloc (.cells #[.string l.Name, .int .i64 l.W, .slice A2 l.At.length c2, .slice (some ⟨b, o, none⟩) l.Val.length c3] 50)) (fun k => k = w.heap.size + 1), w2 = y.val := by
    obtain ⟨x2, rfl⟩ := hx2
    exact ⟨(But.refl _ _).drew.under x2, rfl⟩
  have hww : Is w w2 := (hwx.drew).trans hx2
  have hbx2 : b < w2.heap.size := Nat.lt_of_lt_of_le hbw hww.below.size
  have hr2 : w2.heap[w.heap.size + 1]? = some (.cells #[.int .i64 0, .int .u64 0, .int .u64 0] 41 (0, 0)) := (hx2.below.block (w.heap.size + 1) (by show w.heap.size + 1 < (x1.val.alloc (.cells #[.string l.Name, .int .i64 l.W, .slice A2 l.At.length c2, .slice (some ⟨b, o, none⟩) l.Val.length c3] 50)).heap.size; simp; omega)).trans hr1
  have e1 := (hww.below.cell (p := ⟨b, o + (indexOf l.At t).toNat * 3, none⟩) hbw).trans hc1
  have e2 := (hww.below.cell (p := ⟨b, o + (indexOf l.At t).toNat * 3 + 1, none⟩) hbw).trans hc2
  have e3 := (hww.below.cell (p := ⟨b, o + (indexOf l.At t).toNat * 3 + 2, none⟩) hbw).trans hc3
  have f0 : w2.frozen? ⟨w.heap.size + 1, 0, none⟩ = false := frozen_of_row _ _ _ _ _ hr2
  have f1 : w2.frozen? ⟨w.heap.size + 1, 1, none⟩ = false := frozen_of_row _ _ _ _ _ hr2
  have f2 : w2.frozen? ⟨w.heap.size + 1, 2, none⟩ = false := frozen_of_row _ _ _ _ _ hr2
  have d0 := cell_of_row w2 (w.heap.size + 1) 0 _ _ _ hr2
  have d1 := cell_of_row w2 (w.heap.size + 1) 1 _ _ _ hr2
  have d2 := cell_of_row w2 (w.heap.size + 1) 2 _ _ _ hr2
  simp at d0 d1 d2
  have hr3 := Lib.hid hr2
  have hww2 := Lib.hid hww
  clear hc1 hc2 hc3 hr1 hwx hx2 hww hr2 hc1h hc2h hc3h hr1h hwxh
  refine ⟨hS, ?_⟩
  refine wpListT_step (fun Q' hQ' => ?_)
  go_wp2
  refine ⟨hS, ?_⟩
  refine wpListT_step (fun Q' hQ' => ?_)
  go_wp2
  refine ⟨hS, ?_⟩
  refine wpListT_step (fun Q' hQ' => ?_)
  go_wp2
  refine ⟨?_, ?_⟩
  · obtain ⟨y, hy⟩ := hS
    obtain ⟨y1, g1⟩ := y.setCell ⟨w.heap.size + 1, 0, none⟩ rfl (.int .i64 v.W)
    obtain ⟨y2, g2⟩ := y1.setCell ⟨w.heap.size + 1, 1, none⟩ rfl (.int .u64 v.V)
    obtain ⟨y3, g3⟩ := y2.setCell ⟨w.heap.size + 1, 2, none⟩ rfl (.int .u64 v.X)
    exact ⟨y3, by rw [hy, g1, g2, g3]⟩
  refine wpListT_last (fun Q' hQ' => ?_)
  go_wp2
  have hrow : (((w2.setCell ⟨w.heap.size + 1, 0, none⟩ (.int .i64 v.W)).setCell ⟨w.heap.size + 1, 1, none⟩ (.int .u64 v.V)).setCell ⟨w.heap.size + 1, 2, none⟩ (.int .u64 v.X)).heap[w.heap.size + 1]? = _ := setCell3_heap w2 (w.heap.size + 1) _ _ _ (.int .i64 v.W) (.int .u64 v.V) (.int .u64 v.X) hr3.out
  ((try simp only [Exit.inBlock, Exit.then]); refine bodyPost_ret (results_cell_tmp_row rfl _ _ (w.heap.size + 1) _ _ _ _ rfl hrow Try.underlying41 rfl (by kernel_rfl)) rfl ?_)
  exact ⟨rfl, ((hww2.out.setCell (by simp) _).setCell (by simp) _).setCell (by simp) _⟩
end Go.Proofs.Ytabhafllkhoefaa
