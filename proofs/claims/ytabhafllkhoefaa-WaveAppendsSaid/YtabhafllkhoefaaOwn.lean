/- Slices of the call's own: what append does to them. -/
import Derived.Test.YtabhafllkhoefaaUnder
import Derived.Maps.AppendAt
import Derived.Deep.AppendLies
import Derived.Lib.AppendStr
namespace Go.Proofs.Ytabhafllkhoefaa
open Go.RowKit

namespace Rep
variable {α : Type} {d : Rep α} {e : TypeId} {w w1 : World} {base : Nat} {F : Nat → Prop} {v : Value} {xs ys : List α}
theorem All.one {x : α} {c : List Value} (h : d.rel w F x c) : All d w F [x] c := by
  refine ⟨by simp [d.len h], fun i y hy => ?_⟩
  match i, hy with
  | 0, hy =>
    simp at hy
    subst hy
    rw [Nat.zero_mul, List.drop_zero, List.take_of_length_le (by rw [d.len h]; omega)]
    exact h
theorem All.append {cs ns : List Value} (h : All d w F xs cs) (k : All d w F ys ns) : All d w F (xs ++ ys) (cs ++ ns) := by
  refine ⟨by simp [h.1, k.1, Nat.add_mul], ?_⟩
  intro i y hy
  by_cases hl : i < xs.length
  · rw [List.getElem?_append_left hl] at hy
    have hle : i * d.sz + d.sz ≤ xs.length * d.sz := by rw [← Nat.succ_mul]; exact Nat.mul_le_mul_right _ hl
    rw [List.drop_append_of_le_length (by rw [h.1]; omega), List.take_append_of_le_length (by rw [List.length_drop, h.1]; omega)]
    exact h.2 i y hy
  · rw [List.getElem?_append_right (by omega)] at hy
    have := k.2 _ y hy
    rw [show i * d.sz = cs.length + (i - xs.length) * d.sz by rw [h.1, ← Nat.add_mul]; congr 1; omega, ← List.drop_drop, List.drop_left]
    exact this
theorem All.one1 {cs : List Value} (h : All d w F xs cs) : ∀ u ∈ cs, u.oneCell' = true := by
  intro u hu
  obtain ⟨j, hj, rfl⟩ := List.getElem_of_mem hu
  by_cases hz : d.sz = 0
  · rw [h.1, hz] at hj; omega
  have hd : j / d.sz < xs.length := by rw [Nat.div_lt_iff_lt_mul (by omega)]; rw [h.1] at hj; exact hj
  have hr := h.2 _ _ (List.getElem?_eq_getElem hd)
  refine d.one hr _ ?_
  have hm : j % d.sz < d.sz := Nat.mod_lt _ (by omega)
  have he : j / d.sz * d.sz + j % d.sz = j := by rw [Nat.mul_comm]; exact Nat.div_add_mod j d.sz
  have hh : ((cs.drop (j / d.sz * d.sz)).take d.sz)[j % d.sz]? = some cs[j] := by
    rw [List.getElem?_take, if_pos hm, List.getElem?_drop, he, List.getElem?_eq_getElem hj]
  exact List.mem_of_getElem? hh
/-- The cells of a row that is read. -/
theorem Row.cells {b : Nat} : ∀ {xs : List α} {o : Nat}, Row d w F (some ⟨b, o, none⟩) xs → ∃ ns, All d w F xs ns ∧ CellsAt w b o ns
  | [], _, _ => ⟨[], All.nil d w F, fun j u hu => by simp at hu⟩
  | x :: xs, o, h => by
    obtain ⟨b', o', c, hA, _, _, hr, hc⟩ := h 0 x rfl
    simp only [Option.some.injEq, Addr.mk.injEq, and_true] at hA
    obtain ⟨rfl, rfl⟩ := hA
    obtain ⟨ns, h1, h2⟩ := Row.cells (h.drop 1)
    refine ⟨c ++ ns, (All.one hr).append h1, ?_⟩
    intro j u hu
    by_cases hl : j < c.length
    · rw [List.getElem?_append_left hl] at hu
      have := hc j u hu
      simpa using this
    · rw [List.getElem?_append_right (by omega)] at hu
      have := h2 _ u hu
      rw [d.len hr] at this
      have hk := d.len hr
      rw [show o + 1 * d.sz + (j - d.sz) = o + j by omega] at this
      exact this

theorem Own.open (h : Own d e w base F v xs) : ∃ cs, w.ownsRow base e d.sz v xs.length cs ∧ All d w F xs cs ∧ ∀ k, v.ownBlock = some k → ¬ F k := h

/-- Behind the law of append. -/
theorem Own.appended {v1 : Value} {cs ns : List Value} (hA : All d w F xs cs) (hF : ∀ k, v.ownBlock = some k → ¬ F k) (hn : All d w F ys ns) (hF2 : ∀ k, F k → k < w.heap.size) (hg : w.grownBy w1 v.ownBlock)
    (ho : w1.ownsRow base e d.sz v1 (xs.length + ys.length) (cs ++ ns)) (hv : v1.ownBlock = v.ownBlock ∨ v1.ownBlock = some w.heap.size) : Own d e w1 base F v1 (xs ++ ys) := by
  have hm : ∀ k, F k → k < w.heap.size → F k ∧ w1.heap[k]? = w.heap[k]? := fun k hk hl => ⟨hk, hg.block k hl (fun e => hF k e.symm hk)⟩
  refine ⟨cs ++ ns, by simpa using ho, (hA.append hn).step hm, ?_⟩
  intro k hk hFk
  rcases hv with hv | hv
  · rw [hv] at hk; exact hF k hk hFk
  · rw [hv] at hk
    have := hF2 k hFk
    simp only [Option.some.injEq] at hk
    omega
theorem Own.nilv (h : Own d e w base F (.slice none 0 0) xs) : xs = [] := by
  obtain ⟨cs, ⟨h1, h2⟩, _⟩ := h
  rcases h2 with ⟨_, h0⟩ | ⟨g, cap, cur, hv, _⟩
  · exact List.eq_nil_of_length_eq_zero h0
  · cases hv
/-- Nothing in the elements leads anywhere: whatever F. -/
def Flat (d : Rep α) : Prop := ∀ {w w1 : World} {F G : Nat → Prop} {x : α} {cs : List Value}, d.rel w F x cs → d.rel w1 G x cs
theorem Flat.int (k : IntKind) : Flat (Rep.int k) := fun h => h
theorem Flat.str : Flat Rep.str := fun h => h
theorem Flat.bool : Flat Rep.bool := fun h => h
end Rep
theorem le_maxLen {n : Nat} (h : n ≤ 9223372036854775807) : n ≤ maxLen := h
/-- No block at all. -/
def NoB : Nat → Prop := fun _ => False
/-- Own slices of plain things: the row alone matters. -/
theorem Rep.Own.flat {α : Type} {d : Rep α} {e : TypeId} {w w1 : World} {base : Nat} {F : Nat → Prop} {v : Value} {xs : List α} (h : Rep.Own d e w base F v xs) (hd : Rep.Flat d)
    (hm : ∀ k, v.ownBlock = some k → w1.heap[k]? = w.heap[k]?) : Rep.Own d e w1 base NoB v xs := by
  obtain ⟨cs, h1, h2, h3⟩ := h
  exact ⟨cs, Rep.ownsRow_step h1 hm, ⟨h2.1, fun i x hx => hd (h2.2 i x hx)⟩, fun k hk => id⟩
/-- A function that was handed an own slice may have written its row, and made new blocks. -/
structure Grew (w w' : World) (v v' : Value) : Prop where
  by_ : w.grownBy w' v.ownBlock
  at_ : v'.ownBlock = v.ownBlock ∨ ∀ k, v'.ownBlock = some k → w.heap.size ≤ k
theorem Grew.refl (w : World) (v : Value) : Grew w w v v := ⟨World.grownBy.refl w _, .inl rfl⟩
theorem Grew.trans {w w1 w2 : World} {v v1 v2 : Value} (h : Grew w w1 v v1) (k : Grew w1 w2 v1 v2) : Grew w w2 v v2 := by
  refine ⟨⟨k.by_.os.trans h.by_.os, k.by_.tape.trans h.by_.tape, k.by_.output.trans h.by_.output, Nat.le_trans h.by_.size k.by_.size, fun b hb hne => ?_⟩, ?_⟩
  · refine (k.by_.block b (Nat.lt_of_lt_of_le hb h.by_.size) ?_).trans (h.by_.block b hb hne)
    rcases h.at_ with h1 | h1
    · rw [h1]; exact hne
    · intro e; have := h1 b e.symm; omega
  · rcases k.at_ with k1 | k1
    · rcases h.at_ with h1 | h1
      · exact .inl (k1.trans h1)
      · exact .inr fun b hb => h1 b (k1 ▸ hb)
    · exact .inr fun b hb => Nat.le_trans h.by_.size (k1 b hb)
theorem Grew.alloc {w w1 : World} {v v1 : Value} (h : Grew w w1 v v1) (o : Obj) : Grew w (w1.alloc o) v v1 :=
  h.trans ⟨World.grownBy_alloc w1 o _, .inl rfl⟩
theorem Grew.under {w w1 : World} {v v1 : Value} (h : Grew w w1 v v1) (y : Under w1) : Grew w y.val v v1 :=
  h.trans ⟨⟨y.ok.os, y.ok.tape, y.ok.output, y.ok.size, fun k hk _ => y.ok.block k hk⟩, .inl rfl⟩
theorem Grew.mk' {w w' : World} {v v' : Value} (hg : w.grownBy w' v.ownBlock) (hv : v'.ownBlock = v.ownBlock ∨ v'.ownBlock = some w.heap.size) : Grew w w' v v' :=
  ⟨hg, hv.imp id fun h k hk => by rw [h] at hk; simp only [Option.some.injEq] at hk; omega⟩
/-- From a slice that was nil or new since w0: all of w0 is as it was. -/
theorem Is.grew {w0 w w' : World} {v v' : Value} (h : Is w0 w) (hg : Grew w w' v v') (hv : ∀ k, v.ownBlock = some k → w0.heap.size ≤ k) : Is w0 w' := h.grown hg.by_ hv

/-- The row of the table of types for slices of one type. -/
structure SlT (P : Program) (t e : TypeId) (z : Value) (size bytes : Nat) : Prop where
  ht : P.underlying t = some (.slice e)
  info : (P.info? e).map (fun i => (i.zero, i.size, i.bytes)) = some (some z, size, bytes)
  zs : z.cells.size = size
  pos : 0 < size

section
variable {P : Program} {t e : TypeId} {z : Value} {bytes : Nat} {α : Type} {d : Rep α} {w : World} {base : Nat} {F : Nat → Prop} {v : Value} {xs ys : List α}
theorem run_append_nilsrc {size : Nat} (T : SlT P t e z size bytes) (ty : TypeId) {n : Nat} {cs : List Value} (h : w.ownsRow base e size v n cs) (c : Nat) (hn : n ≤ maxLen) : (Builtin.append_ #[t, t] ty #[v, .slice none 0 c]).run P w = .ok v w := by
  obtain ⟨i, hi, _⟩ := info_parts T.info
  rcases h.2 with ⟨rfl, rfl⟩ | ⟨g, cap, cur, rfl, hbg, hg, hnc, hcm, hcs, htake⟩
  · simp [Builtin.append_, run_underlying T.ht, sizeOf, typeInfo, hi, Builtin.lenOf, Builtin.firstCells]
  · simp [Builtin.append_, run_underlying T.ht, sizeOf, typeInfo, hi, Builtin.lenOf, Builtin.firstCells, loadCells, hnc, storeCells, Addr.add_lit]
/-- append of the elements of a slice. -/
theorem run_append_sl (T : SlT P t e z d.sz bytes) (ty : TypeId) (h : Rep.Own d e w base F v xs) {A : Option Addr} {c : Nat} (hy : Rep.Sl d w F A c ys) (hF : ∀ k, F k → k < w.heap.size)
    (h63 : xs.length + ys.length ≤ maxLen) (hbytes : (xs.length + ys.length) * bytes ≤ 140737488355328) (hbase : base ≤ w.heap.size) :
    ∃ v' w', (Builtin.append_ #[t, t] ty #[v, .slice A ys.length c]).run P w = .ok v' w' ∧ Rep.Own d e w' base F v' (xs ++ ys) ∧ Grew w w' v v' := by
  obtain ⟨i, hi, hz, hs, hb⟩ := info_parts T.info
  obtain ⟨cs, h1, h2, h3⟩ := h
  cases A with
  | none =>
    have hc0 := hy.nil rfl
    have hy0 : ys = [] := List.eq_nil_of_length_eq_zero (by have := hy.le; omega)
    subst hy0
    exact ⟨v, w, run_append_nilsrc T ty h1 c (by omega), by rw [List.append_nil]; exact ⟨cs, h1, h2, h3⟩, Grew.refl w v⟩
  | some ad =>
    have key : ∃ ns, Rep.All d w F ys ns ∧ ∀ j u, ns[j]? = some u → w.cell? (ad.add j) = some u := by
      by_cases hy0 : ys = []
      · subst hy0
        exact ⟨[], Rep.All.nil d w F, fun j u hu => by simp at hu⟩
      · obtain ⟨b, o, hA, _⟩ := hy.row.head (List.length_pos_iff.2 hy0)
        simp only [Option.some.injEq] at hA
        subst hA
        obtain ⟨ns, k1, k2⟩ := Rep.Row.cells hy.row
        exact ⟨ns, k1, fun j u hu => by rw [Addr.add_lit]; exact k2 j u hu⟩
    obtain ⟨ns, k1, k2⟩ := key
    obtain ⟨v', w', hr, ho, hg, _, hat⟩ := run_append_own_at (P := P) w base t ty e i z d.sz bytes T.ht hi hz hs hb T.zs T.pos v xs.length cs h1 ad ys.length c ns k1.1 k2 k1.one1 h63 hbytes hbase
    exact ⟨v', w', hr, Rep.Own.appended h2 h3 k1 hF hg ho hat, Grew.mk' hg hat⟩
/-- append of one element, laid in a block of its own. -/
theorem run_append_one (T : SlT P t e z d.sz bytes) (ty : TypeId) {w0 : World} (h : Rep.Own d e w0 base F v xs) {y : α} {c : List Value} {te : TypeId} (hy : d.rel w0 F y c) (hF : ∀ k, F k → k < w0.heap.size)
    (h63 : xs.length + 1 ≤ maxLen) (hbytes : (xs.length + 1) * bytes ≤ 140737488355328) (hbase : base ≤ w0.heap.size) :
    ∃ v' w', (Builtin.append_ #[t, t] ty #[v, .slice (some ⟨w0.heap.size, 0, none⟩) 1 1]).run P (w0.alloc (.cells c.toArray te)) = .ok v' w' ∧ Rep.Own d e w' base F v' (xs ++ [y]) ∧ Grew w0 w' v v' := by
  obtain ⟨i, hi, hz, hs, hb⟩ := info_parts T.info
  have hst : ∀ k, k < w0.heap.size → (w0.alloc (.cells c.toArray te)).heap[k]? = w0.heap[k]? := fun k hk => Below.heap_alloc w0 _ k hk
  obtain ⟨cs, h1, h2, h3⟩ := h.step (w1 := w0.alloc (.cells c.toArray te)) (fun k _ hl => hst k hl)
  have hy' := d.step (w1 := w0.alloc (.cells c.toArray te)) (G := F) (fun k hk hl => ⟨hk, hst k hl⟩) hy
  have hsz : w0.heap.size ≤ (w0.alloc (.cells c.toArray te)).heap.size := by simp
  obtain ⟨v', w', hr, ho, hg, _, hat⟩ := run_append_own_at (P := P) (w0.alloc (.cells c.toArray te)) base t ty e i z d.sz bytes T.ht hi hz hs hb T.zs T.pos v xs.length cs h1 ⟨w0.heap.size, 0, none⟩ 1 1 c
    (by rw [d.len hy, Nat.one_mul]) (fun j u hu => by rw [Addr.add_lit, Nat.zero_add, cell_of_row _ w0.heap.size j c.toArray te (0, 0) (heap_alloc_new w0 _)]; simpa using hu) (d.one hy) h63 hbytes (Nat.le_trans hbase hsz)
  refine ⟨v', w', hr, Rep.Own.appended (ys := [y]) h2 h3 (Rep.All.one hy') (fun k hk => Nat.lt_of_lt_of_le (hF k hk) hsz) hg ho hat, ?_⟩
  exact ((Grew.refl w0 v).alloc (.cells c.toArray te)).trans (Grew.mk' hg hat)
/-- The same at the operation, for the walk. -/
theorem wpList_one {ops : Array Oper} {rest : List Oper} {o : Oper} {a : Act} {Q : Exit → Act → World → Prop} (hgd : o.guard = none) (s x : Operand)
    (ho : o.op = .call { callee := .builtin .append, args := #[s, x], argTypes := #[t, t] }) (T : SlT P t e z d.sz bytes) {w0 : World} (hs : a.eval s = v) {c : List Value} {te : TypeId} (hx : a.eval x = .slice (some ⟨w0.heap.size, 0, none⟩) 1 1)
    (h : Rep.Own d e w0 base F v xs) {y : α} (hy : d.rel w0 F y c) (hF : ∀ k, F k → k < w0.heap.size)
    (h63 : xs.length + 1 ≤ maxLen) (hbytes : (xs.length + 1) * bytes ≤ 140737488355328) (hbase : base ≤ w0.heap.size)
    (k : ∀ v' w', Rep.Own d e w' base F v' (xs ++ [y]) → Grew w0 w' v v' → wpList P ops Q rest (a.put o.dst v') w') : wpList P ops Q (o :: rest) a (w0.alloc (.cells c.toArray te)) := by
  refine wpList_plain hgd fun K hK => ?_
  obtain ⟨v', w', hr, h2, h3⟩ := run_append_one T o.type h hy hF h63 hbytes hbase (te := te)
  unfold Oper.wp execOp
  simp only [ho, resolve, invoke, builtin, Sem.run_bind, Sem.run_pure, Result.andThen_ok, List.map_toArray, List.map_cons, List.map_nil, hs, hx, hr]
  exact hK _ _ (k v' w' h2 h3)
theorem wpList_sl {ops : Array Oper} {rest : List Oper} {o : Oper} {a : Act} {Q : Exit → Act → World → Prop} (hgd : o.guard = none) (s x : Operand)
    (ho : o.op = .call { callee := .builtin .append, args := #[s, x], argTypes := #[t, t] }) (T : SlT P t e z d.sz bytes) (hs : a.eval s = v) {A : Option Addr} {c : Nat} (hx : a.eval x = .slice A ys.length c)
    (h : Rep.Own d e w base F v xs) (hy : Rep.Sl d w F A c ys) (hF : ∀ k, F k → k < w.heap.size)
    (h63 : xs.length + ys.length ≤ maxLen) (hbytes : (xs.length + ys.length) * bytes ≤ 140737488355328) (hbase : base ≤ w.heap.size)
    (k : ∀ v' w', Rep.Own d e w' base F v' (xs ++ ys) → Grew w w' v v' → wpList P ops Q rest (a.put o.dst v') w') : wpList P ops Q (o :: rest) a w := by
  refine wpList_plain hgd fun K hK => ?_
  obtain ⟨v', w', hr, h2, h3⟩ := run_append_sl T o.type h hy hF h63 hbytes hbase
  unfold Oper.wp execOp
  simp only [ho, resolve, invoke, builtin, Sem.run_bind, Sem.run_pure, Result.andThen_ok, List.map_toArray, List.map_cons, List.map_nil, hs, hx, hr]
  exact hK _ _ (k v' w' h2 h3)
end
end Go.Proofs.Ytabhafllkhoefaa
