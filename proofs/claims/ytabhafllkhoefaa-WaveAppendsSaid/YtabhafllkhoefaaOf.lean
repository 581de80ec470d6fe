/- bits.Of. -/
import Derived.Test.YtabhafllkhoefaaValue
namespace Go.Proofs.Ytabhafllkhoefaa
open Go.RowKit
set_option maxRecDepth 100000

set_option maxHeartbeats 1000000 in
theorem of11_calls (w : World) : Calls Try.prog 47 #[.int .i64 1, .int .u64 1] w fun e w' => e = .returned (.agg #[.int .i64 1, .int .u64 1, .int .u64 0]) ∧ Is w w' := by
  have hu3 := Try.underlying41
  have hk : Go.bits .and .u64 1 1 = 1 := by decide
  go_enter Try.func47, Try.ntmps47
  go_wp2
  ((try simp only [Exit.inBlock, Exit.then]); refine bodyPost_ret (results_cell_row rfl _ _ w.heap.size _ _ _ _ rfl (heap_alloc_new w _) Try.underlying41 rfl (by kernel_rfl)) rfl ?_)
  exact ⟨rfl, (Is.refl w).alloc _⟩

/-- A row that is read off a block that is known whole. -/
theorem row_block {α : Type} {d : Rep α} {W : World} {F : Nat → Prop} {g : Nat} {C : Array Value} {t : TypeId} {fr : Nat × Nat} {xs : List α} (h : W.heap[g]? = some (.cells C t fr)) (hA : Rep.All d W F xs C.toList) : Rep.Row d W (fun k => F k ∨ k = g) (some ⟨g, 0, none⟩) xs := by
  intro i x hx
  have hr := hA.2 i x hx
  refine ⟨g, 0, _, rfl, .inr rfl, (Array.getElem?_eq_some_iff.1 h).1, d.step (w1 := W) (fun k hk _ => ⟨.inl hk, rfl⟩) hr, fun j u hu => ?_⟩
  rw [List.getElem?_take] at hu
  split at hu
  · rw [List.getElem?_drop, Array.getElem?_toList] at hu
    rw [cell_of_row W g _ C t fr h, ← hu]
    congr 1
    omega
  · cases hu

theorem alloc4_at (w : World) (o0 o1 o2 o3 : Obj) : ((((w.alloc o0).alloc o1).alloc o2).alloc o3).heap[w.heap.size]? = some o0 ∧ ((((w.alloc o0).alloc o1).alloc o2).alloc o3).heap[w.heap.size + 1]? = some o1 ∧
    ((((w.alloc o0).alloc o1).alloc o2).alloc o3).heap[w.heap.size + 1 + 1]? = some o2 ∧ ((((w.alloc o0).alloc o1).alloc o2).alloc o3).heap[w.heap.size + 1 + 1 + 1]? = some o3 := by
  refine ⟨?_, ?_, ?_, ?_⟩
  · exact (Below.heap_alloc _ o3 _ (by simp <;> omega)).trans ((Below.heap_alloc _ o2 _ (by simp <;> omega)).trans ((Below.heap_alloc _ o1 _ (by simp)).trans (heap_alloc_new w o0)))
  · exact (Below.heap_alloc _ o3 _ (by simp <;> omega)).trans ((Below.heap_alloc _ o2 _ (by simp)).trans (heap_alloc2_new w o0 o1))
  · exact (Below.heap_alloc _ o3 _ (by simp)).trans (heap_alloc3_new w o0 o1 o2)
  · have := heap_alloc_new (((w.alloc o0).alloc o1).alloc o2) o3
    simpa using this

/-- The wave that the example makes. -/
def exLine : Line := ⟨⟨#[97]⟩, 1, [0, 3], [⟨1, 0, 0⟩, ⟨1, 1, 0⟩]⟩
def exWave : Wave := ⟨5, [exLine]⟩
set_option maxHeartbeats 1000000 in
theorem example_calls (w : World) : Calls Try.prog 46 #[] w fun e w' => (∃ A c, e = .returned (.agg #[.int .i64 exWave.End, .slice A exWave.Lines.length c]) ∧ Rep.Sl kLine w' (fun k => w.heap.size ≤ k) A c exWave.Lines) ∧ Is w w' := by
  have hu := Try.underlying50
  have hu2 := Try.underlying24
  have hu3 := Try.underlying41
  go_enter Try.func46, Try.ntmps46
  go_wp2
  have h4 := alloc4_at w (.cells #[.int .i64 5, .slice (some ⟨w.heap.size + 1 + 1 + 1, 0, none⟩) 1 1] 24) (.cells #[.int .i64 0, .int .i64 3] 3) (.cells #[.int .i64 1, .int .u64 0, .int .u64 0, .int .i64 1, .int .u64 1, .int .u64 0] 41) (.cells #[.string ⟨#[97]⟩, .int .i64 1, .slice (some ⟨w.heap.size + 1, 0, none⟩) 2 2, .slice (some ⟨w.heap.size + 1 + 1, 0, none⟩) 2 2] 50)
  obtain ⟨p0, p1, p2, p3⟩ := h4
  ((try simp only [Exit.inBlock, Exit.then]); refine bodyPost_ret (results_cell_row rfl _ _ w.heap.size _ _ _ _ rfl p0 Try.underlying24 rfl (by kernel_rfl)) rfl ?_)
  refine ⟨⟨_, 1, rfl, ?_⟩, ((((Is.refl w).alloc _).alloc _).alloc _).alloc _⟩
  have hI : ∀ x ∈ ([0, 3] : List Int), InK .i64 x := by
    intro x hx
    simp only [List.mem_cons, List.not_mem_nil, or_false] at hx
    rcases hx with rfl | rfl <;> exact InK.mk64 (by decide)
  have r1 := row_block p1 (F := NoB) (d := Rep.int .i64) (xs := [0, 3]) (all_ints hI)
  have r2 := row_block p2 (F := NoB) (d := kBits) (xs := exLine.Val) ((Rep.All.one (kBits_iff.2 ⟨rfl, InK.mk64 (by decide), InK.mku64 (by decide), InK.mku64 (by decide)⟩)).append (Rep.All.one (kBits_iff.2 ⟨rfl, InK.mk64 (by decide), InK.mku64 (by decide), InK.mku64 (by decide)⟩)))
  have s1 : Rep.Sl (Rep.int .i64) _ _ (some ⟨w.heap.size + 1, 0, none⟩) 2 [0, 3] := ⟨by simp, by simp, fun e => (by cases e), r1⟩
  have s2 : Rep.Sl kBits _ _ (some ⟨w.heap.size + 1 + 1, 0, none⟩) 2 exLine.Val := ⟨by simp [exLine], by simp, fun e => (by cases e), r2⟩
  have s1' := s1.mono (G := fun k => w.heap.size ≤ k) (fun k hk _ => hk.elim (fun h => h.elim) (fun h => by omega))
  have s2' := s2.mono (G := fun k => w.heap.size ≤ k) (fun k hk _ => hk.elim (fun h => h.elim) (fun h => by omega))
  have r3 := row_block p3 (F := fun k => w.heap.size ≤ k) (d := kLine) (xs := [exLine]) (Rep.All.one (kLine_iff.2 ⟨_, _, _, _, rfl, ⟨by decide, InK.mk64 (by decide)⟩, s1', s2'⟩))
  have s3 : Rep.Sl kLine _ _ (some ⟨w.heap.size + 1 + 1 + 1, 0, none⟩) 1 [exLine] := ⟨by simp, by simp, fun e => (by cases e), r3⟩
  exact s3.mono (fun k hk _ => hk.elim id (fun h => by omega))
end Go.Proofs.Ytabhafllkhoefaa
