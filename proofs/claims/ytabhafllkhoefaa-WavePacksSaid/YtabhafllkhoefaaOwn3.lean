/- append onto a slice without room, of the elements of another slice; bytes of a constant. -/
import Derived.Test.YtabhafllkhoefaaPack3
import Derived.Lib.SmallJoins
namespace Go.Proofs.Ytabhafllkhoefaa
open Go.RowKit

section
variable {P : Program} {t e : TypeId} {z : Value} {bytes : Nat} {α : Type} {d : Rep α} {w : World} {F G : Nat → Prop} {xs ys : List α}
theorem run_append_slN (hd : Rep.Flat d) (T : SlT P t e z d.sz bytes) (ty : TypeId) {A B : Option Addr} {c : Nat} (h : Rep.Sl d w F A xs.length xs) (hy : Rep.Sl d w G B c ys) (hx0 : 0 < xs.length) (hpos : 0 < ys.length)
    (h63 : xs.length + ys.length ≤ maxLen) (hbytes : (xs.length + ys.length) * bytes ≤ 140737488355328) :
    ∃ v' w', (Builtin.append_ #[t, t] ty #[.slice A xs.length xs.length, .slice B ys.length c]).run P w = .ok v' w' ∧ Rep.Own d e w' w.heap.size NoB v' (xs ++ ys) ∧ Is w w' := by
  obtain ⟨b, o, rfl, _⟩ := h.row.head hx0
  obtain ⟨b2, o2, rfl, _⟩ := hy.row.head hpos
  obtain ⟨i, hi, hz, hs, hb⟩ := info_parts T.info
  obtain ⟨ns, k1, k2⟩ := Rep.Row.cells h.row
  obtain ⟨ms, m1, m2⟩ := Rep.Row.cells hy.row
  have hsrc := Src.ofSlice (P := P) w (size := i.size) T.ht ⟨b2, o2, none⟩ ys.length c ms (by rw [hs]; exact m1.1) (fun j u hu => by rw [Addr.add_lit]; exact m2 j u hu) m1.one1
  have hold := run_firstCells_some (P := P) w.drew i.size xs.length ⟨b, o, none⟩ xs.length xs.length ns (by rw [hs]; exact k1.1) (fun j u hu => by rw [Addr.add_lit]; exact k2 j u hu)
  have hr := run_append_grow_src (P := P) w t t ty e i z T.ht hi hz (some ⟨b, o, none⟩) xs.length xs.length ns hold (.slice (some ⟨b2, o2, none⟩) ys.length c) ys.length ms hsrc
    (by omega) (by simp only [maxLen] at h63; omega) (by rw [hb]; exact growslice_fits (by omega) hbytes)
  refine ⟨_, _, hr, ⟨ns ++ ms, ⟨by simp [m1.1, k1.1, Nat.add_mul], .inr ⟨_, grownCap w (xs.length + ys.length) xs.length e, _, by rw [List.length_append]; rfl, by simp, heap_alloc_new _ _, ?_, grownCap_le_maxLen _ _ _ _ h63, ?_, ?_⟩⟩, ⟨(k1.append ⟨m1.1, fun i x hx => hd (m1.2 i x hx)⟩).1, fun i x hx => hd ((Rep.All.append k1 ⟨m1.1, fun i x hx => hd (m1.2 i x hx)⟩).2 i x hx)⟩, fun _ _ h => h⟩, ?_⟩
  · rw [List.length_append]; exact grownCap_ge _ _ _ _
  · have hge := grownCap_ge w (xs.length + ys.length) xs.length e
    simp only [Array.size_append, List.size_toArray, List.length_append, size_zeroCells, T.zs, m1.1, k1.1, ← Nat.add_mul]
    congr 1
    omega
  · simp only [Array.toList_append]
    rw [List.length_append, Nat.add_mul, ← m1.1, ← k1.1, ← List.length_append]
    exact List.take_left
  · exact ((Is.refl w).drew).alloc _
theorem wpList_slN (hd : Rep.Flat d) {ops : Array Oper} {rest : List Oper} {o : Oper} {a : Act} {Q : Exit → Act → World → Prop} (hgd : o.guard = none) (s x : Operand)
    (ho : o.op = .call { callee := .builtin .append, args := #[s, x], argTypes := #[t, t] }) (T : SlT P t e z d.sz bytes) {A B : Option Addr} {c : Nat} (hs : a.eval s = .slice A xs.length xs.length) (hx : a.eval x = .slice B ys.length c)
    (h : Rep.Sl d w F A xs.length xs) (hy : Rep.Sl d w G B c ys) (hx0 : 0 < xs.length) (hpos : 0 < ys.length)
    (h63 : xs.length + ys.length ≤ maxLen) (hbytes : (xs.length + ys.length) * bytes ≤ 140737488355328)
    (k : ∀ v' w', Rep.Own d e w' w.heap.size NoB v' (xs ++ ys) → Is w w' → wpList P ops Q rest (a.put o.dst v') w') : wpList P ops Q (o :: rest) a w := by
  refine wpList_plain hgd fun K hK => ?_
  obtain ⟨v', w', hr, h2, h3⟩ := run_append_slN hd T o.type h hy hx0 hpos h63 hbytes
  unfold Oper.wp execOp
  simp only [ho, resolve, invoke, builtin, Sem.run_bind, Sem.run_pure, Result.andThen_ok, List.map_toArray, List.map_cons, List.map_nil, hs, hx, hr]
  exact hK _ _ (k v' w' h2 h3)
end
theorem seven_pos (n : Int) : 0 < (seven n).length := by
  unfold seven
  rw [sevenF]
  split <;> simp
/-- What []byte("..") of a constant makes of the row that was laid for it: whatever is read in it stays. -/
theorem run_const_bytes (w : World) (C : Array Value) (n c : Nat) (g : Nat) (hg : w.heap[g]? = some (.cells C 5 (0, 0))) :
    ∃ w', (convert 25 25 (.slice (some ⟨g, 0, none⟩) n c)).run Try.prog w = .ok (.slice (some ⟨g, 0, none⟩) n c) w' ∧ w'.heap[g]? = some (.cells C 5 (C.size, C.size + 1)) ∧ w'.os = w.os ∧ w'.tape = w.tape ∧ w'.output = w.output ∧ w'.heap.size = w.heap.size ∧ ∀ k, k ≠ g → w'.heap[k]? = w.heap[k]? := by
  have hsh : w.shape? g = some (5, C.size) := by
    unfold World.shape?
    rw [hg]
  have hl : g < w.heap.size := (Array.getElem?_eq_some_iff.1 hg).1
  refine ⟨w.freeze ⟨g, C.size, none⟩ 1, ?_, ?_, ?_, ?_, ?_, ?_, ?_⟩
  · simp [convert, run_underlying Try.underlying25, run_underlying Try.underlying5, markStringish, hsh]
  · unfold World.freeze
    rw [if_neg (by decide)]
    simp [Array.getElem?_modify, hg]
  · unfold World.freeze; rw [if_neg (by decide)]
  · unfold World.freeze; rw [if_neg (by decide)]
  · unfold World.freeze; rw [if_neg (by decide)]
  · unfold World.freeze; rw [if_neg (by decide)]; simp
  · intro k hk
    unfold World.freeze
    rw [if_neg (by decide)]
    simp [Array.getElem?_modify, Ne.symm hk]
theorem const_under {W0 : World} (z : Under W0) (C : Array Value) (n c : Nat) (g : Nat) (hg : z.val.heap[g]? = some (.cells C 5 (0, 0))) (hge : W0.heap.size ≤ g) :
    ∃ z' : Under W0, (convert 25 25 (.slice (some ⟨g, 0, none⟩) n c)).run Try.prog z.val = .ok (.slice (some ⟨g, 0, none⟩) n c) z'.val ∧ z'.val.heap[g]? = some (.cells C 5 (C.size, C.size + 1)) ∧ z'.val.heap.size = z.val.heap.size ∧ ∀ k, k ≠ g → z'.val.heap[k]? = z.val.heap[k]? := by
  obtain ⟨w', h1, h2, h3, h4, h5, h6, h7⟩ := run_const_bytes z.val C n c g hg
  exact ⟨⟨w', ⟨h3.trans z.ok.os, h4.trans z.ok.tape, h5.trans z.ok.output, by rw [h6]; exact z.ok.size, fun k hk => (h7 k (by omega)).trans (z.ok.block k hk)⟩⟩, h1, h2, h6, h7⟩
theorem hdr_sl {w : World} {g : Nat} {a b : Int} {t : TypeId} {fr : Nat × Nat} (ha : InK .u8 a) (hb : InK .u8 b) (h : w.heap[g]? = some (.cells #[.int .u8 a, .int .u8 b] t fr)) : Rep.Sl kByte w (fun _ => True) (some ⟨g, 0, none⟩) [a, b].length [a, b] := by
  have hl : g < w.heap.size := (Array.getElem?_eq_some_iff.1 h).1
  refine ⟨Nat.le_refl _, (by simp), fun e => (by cases e), fun i x hx => ?_⟩
  have hc := fun j => Go.Joins.cell_of_block h j
  match i, hx with
  | 0, hx =>
    simp at hx
    subst hx
    refine ⟨g, 0, [.int .u8 a], rfl, trivial, hl, ⟨rfl, ha⟩, fun j u hu => ?_⟩
    match j, hu with
    | 0, hu => simp at hu; subst hu; simpa using hc 0
  | 1, hx =>
    simp at hx
    subst hx
    refine ⟨g, 0, [.int .u8 b], rfl, trivial, hl, ⟨rfl, hb⟩, fun j u hu => ?_⟩
    match j, hu with
    | 0, hu => simp at hu; subst hu; simpa [kByte, Rep.int, Rep.cell] using hc 1
end Go.Proofs.Ytabhafllkhoefaa
