/- More of append: several elements; onto a slice without room; the bytes of a string. -/
import Derived.Test.YtabhafllkhoefaaOwn
import Derived.Deep.AppendSrc
namespace Go.Proofs.Ytabhafllkhoefaa
open Go.RowKit

/-- Whatever a slice leads into lies in the heap. -/
theorem Rep.Sl.inb {α : Type} {d : Rep α} {w : World} {F : Nat → Prop} {A : Option Addr} {cap : Nat} {xs : List α} (h : Rep.Sl d w F A cap xs) : Rep.Sl d w (fun k => k < w.heap.size) A cap xs := h.mono fun _ _ hl => hl
theorem Rep.Sl.clip {α : Type} {d : Rep α} {w : World} {F : Nat → Prop} {A : Option Addr} {cap : Nat} {xs : List α} (h : Rep.Sl d w F A cap xs) : Rep.Sl d w F A xs.length xs :=
  ⟨Nat.le_refl _, by have := h.le; have := h.cap_le; omega, fun e => by have := h.nil e; have := h.le; omega, h.row⟩
theorem Rep.Own.lower {α : Type} {d : Rep α} {e : TypeId} {w : World} {base base' : Nat} {F : Nat → Prop} {v : Value} {xs : List α} (h : Rep.Own d e w base F v xs) (hb : base' ≤ base) : Rep.Own d e w base' F v xs := by
  obtain ⟨cs, ⟨h1, h2⟩, h3, h4⟩ := h
  refine ⟨cs, ⟨h1, ?_⟩, h3, h4⟩
  rcases h2 with h2 | ⟨g, cap, cur, hv, hg, r⟩
  · exact .inl h2
  · exact .inr ⟨g, cap, cur, hv, Nat.le_trans hb hg, r⟩

section
variable {P : Program} {t e : TypeId} {z : Value} {bytes : Nat} {α : Type} {d : Rep α} {w : World} {base : Nat} {F : Nat → Prop} {v : Value} {xs ys : List α} {xs' : List Int}
/-- append of elements that lie in a block of their own. -/
theorem run_append_new (T : SlT P t e z d.sz bytes) (ty : TypeId) {w0 : World} (h : Rep.Own d e w0 base F v xs) {c : List Value} {te : TypeId} (hy : Rep.All d w0 F ys c) (hF : ∀ k, F k → k < w0.heap.size)
    (h63 : xs.length + ys.length ≤ maxLen) (hbytes : (xs.length + ys.length) * bytes ≤ 140737488355328) (hbase : base ≤ w0.heap.size) :
    ∃ v' w', (Builtin.append_ #[t, t] ty #[v, .slice (some ⟨w0.heap.size, 0, none⟩) ys.length ys.length]).run P (w0.alloc (.cells c.toArray te)) = .ok v' w' ∧ Rep.Own d e w' base F v' (xs ++ ys) ∧ Grew w0 w' v v' := by
  obtain ⟨i, hi, hz, hs, hb⟩ := info_parts T.info
  have hst : ∀ k, k < w0.heap.size → (w0.alloc (.cells c.toArray te)).heap[k]? = w0.heap[k]? := fun k hk => Below.heap_alloc w0 _ k hk
  obtain ⟨cs, h1, h2, h3⟩ := h.step (w1 := w0.alloc (.cells c.toArray te)) (fun k _ hl => hst k hl)
  have hy' := hy.step (w1 := w0.alloc (.cells c.toArray te)) (G := F) (fun k hk hl => ⟨hk, hst k hl⟩)
  have hsz : w0.heap.size ≤ (w0.alloc (.cells c.toArray te)).heap.size := by simp
  obtain ⟨v', w', hr, ho, hg, _, hat⟩ := run_append_own_at (P := P) (w0.alloc (.cells c.toArray te)) base t ty e i z d.sz bytes T.ht hi hz hs hb T.zs T.pos v xs.length cs h1 ⟨w0.heap.size, 0, none⟩ ys.length ys.length c
    hy.1 (fun j u hu => by rw [Addr.add_lit, Nat.zero_add, cell_of_row _ w0.heap.size j c.toArray te (0, 0) (heap_alloc_new w0 _)]; simpa using hu) hy.one1 h63 hbytes (Nat.le_trans hbase hsz)
  refine ⟨v', w', hr, Rep.Own.appended h2 h3 hy' (fun k hk => Nat.lt_of_lt_of_le (hF k hk) hsz) hg ho hat, ?_⟩
  exact ((Grew.refl w0 v).alloc (.cells c.toArray te)).trans (Grew.mk' hg hat)
theorem wpList_new {ops : Array Oper} {rest : List Oper} {o : Oper} {a : Act} {Q : Exit → Act → World → Prop} (hgd : o.guard = none) (s x : Operand)
    (ho : o.op = .call { callee := .builtin .append, args := #[s, x], argTypes := #[t, t] }) (T : SlT P t e z d.sz bytes) {w0 : World} (hs : a.eval s = v) {c : List Value} {te : TypeId} (hx : a.eval x = .slice (some ⟨w0.heap.size, 0, none⟩) ys.length ys.length)
    (h : Rep.Own d e w0 base F v xs) (hy : Rep.All d w0 F ys c) (hF : ∀ k, F k → k < w0.heap.size)
    (h63 : xs.length + ys.length ≤ maxLen) (hbytes : (xs.length + ys.length) * bytes ≤ 140737488355328) (hbase : base ≤ w0.heap.size)
    (k : ∀ v' w', Rep.Own d e w' base F v' (xs ++ ys) → Grew w0 w' v v' → wpList P ops Q rest (a.put o.dst v') w') : wpList P ops Q (o :: rest) a (w0.alloc (.cells c.toArray te)) := by
  refine wpList_plain hgd fun K hK => ?_
  obtain ⟨v', w', hr, h2, h3⟩ := run_append_new T o.type h hy hF h63 hbytes hbase (te := te)
  unfold Oper.wp execOp
  simp only [ho, resolve, invoke, builtin, Sem.run_bind, Sem.run_pure, Result.andThen_ok, List.map_toArray, List.map_cons, List.map_nil, hs, hx, hr]
  exact hK _ _ (k v' w' h2 h3)

/-- append onto a slice without room, of elements that lie in a block of their own: a new row. -/
theorem run_append_full (T : SlT P t e z d.sz bytes) (ty : TypeId) {w0 : World} {A : Option Addr} (h : Rep.Sl d w0 F A xs.length xs) {c : List Value} {te : TypeId} (hy : Rep.All d w0 F ys c) (hF : ∀ k, F k → k < w0.heap.size) (hpos : 0 < ys.length)
    (h63 : xs.length + ys.length ≤ maxLen) (hbytes : (xs.length + ys.length) * bytes ≤ 140737488355328) :
    ∃ v' w', (Builtin.append_ #[t, t] ty #[.slice A xs.length xs.length, .slice (some ⟨w0.heap.size, 0, none⟩) ys.length ys.length]).run P (w0.alloc (.cells c.toArray te)) = .ok v' w' ∧ Rep.Own d e w' w0.heap.size F v' (xs ++ ys) ∧ Is w0 w' := by
  by_cases hx0 : xs = []
  · subst hx0
    cases A with
    | none =>
      obtain ⟨v', w', hr, ho, hg⟩ := run_append_new (P := P) T ty (w0 := w0) (base := w0.heap.size) (Rep.Own.nil d e w0 w0.heap.size F) hy hF h63 hbytes (Nat.le_refl _) (te := te)
      exact ⟨v', w', hr, ho, (Is.refl w0).grew hg (fun k hk => by simp [Value.ownBlock] at hk)⟩
    | some ad =>
      obtain ⟨i, hi, hz, hs, hb⟩ := info_parts T.info
      have hst : ∀ k, k < w0.heap.size → (w0.alloc (.cells c.toArray te)).heap[k]? = w0.heap[k]? := fun k hk => Below.heap_alloc w0 _ k hk
      have hy' := hy.step (w1 := w0.alloc (.cells c.toArray te)) (G := F) (fun k hk hl => ⟨hk, hst k hl⟩)
      have hnews : ∀ j u, c[j]? = some u → (w0.alloc (.cells c.toArray te)).cell? ((⟨w0.heap.size, 0, none⟩ : Addr).add j) = some u := fun j u hu => by rw [Addr.add_lit, Nat.zero_add, cell_of_row _ w0.heap.size j c.toArray te (0, 0) (heap_alloc_new w0 _)]; simpa using hu
      have hsrc := Src.ofSlice (P := P) (w0.alloc (.cells c.toArray te)) (size := i.size) T.ht ⟨w0.heap.size, 0, none⟩ ys.length ys.length c (by rw [hs]; exact hy.1) hnews hy.one1
      have hr := run_append_grow_src (P := P) (w0.alloc (.cells c.toArray te)) t t ty e i z T.ht hi hz (some ad) 0 0 [] (by simp [Builtin.firstCells, loadCells, loadCellsFrom]) (.slice (some ⟨w0.heap.size, 0, none⟩) ys.length ys.length) ys.length c hsrc
        (by omega) (by simp only [maxLen] at h63; simp at h63 ⊢; omega) (by rw [hb]; exact growslice_fits (by omega) (by simpa using hbytes))
      refine ⟨_, _, hr, ⟨c, ⟨by simpa using hy.1, .inr ⟨_, grownCap (w0.alloc (.cells c.toArray te)) (0 + ys.length) 0 e, _, by simp only [List.nil_append, Nat.zero_add]; rfl, by simp, heap_alloc_new _ _, by have := grownCap_ge (w0.alloc (.cells c.toArray te)) (0 + ys.length) 0 e; simpa using this, grownCap_le_maxLen _ _ _ _ (by simpa using h63), ?_, ?_⟩⟩, ?_, ?_⟩, ?_⟩
      · have hge := grownCap_ge (w0.alloc (.cells c.toArray te)) (0 + ys.length) 0 e
        simp only [List.nil_append, Array.size_append, List.size_toArray, size_zeroCells, T.zs, hy.1, ← Nat.add_mul]
        congr 1
        omega
      · simp only [List.nil_append, Array.toList_append, Nat.zero_add]
        rw [← hy.1]
        simp
      · exact Rep.All.step (w := w0.alloc (.cells c.toArray te)) (fun k hk hl => ⟨hk, Below.heap_alloc (w0.alloc (.cells c.toArray te)).drew _ k hl⟩) hy'
      · intro k hk hFk
        have := hF k hFk
        simp [Value.ownBlock] at hk
        omega
      · exact (((Is.refl w0).alloc _).drew).alloc _
  · obtain ⟨b, o, rfl, _⟩ := h.row.head (List.length_pos_iff.2 hx0)
    obtain ⟨i, hi, hz, hs, hb⟩ := info_parts T.info
    have hst : ∀ k, k < w0.heap.size → (w0.alloc (.cells c.toArray te)).heap[k]? = w0.heap[k]? := fun k hk => Below.heap_alloc w0 _ k hk
    have hy' := hy.step (w1 := w0.alloc (.cells c.toArray te)) (G := F) (fun k hk hl => ⟨hk, hst k hl⟩)
    have h' := h.step (w1 := w0.alloc (.cells c.toArray te)) (G := F) (fun k hk hl => ⟨hk, hst k hl⟩)
    obtain ⟨ns, k1, k2⟩ := Rep.Row.cells h'.row
    have hnews : ∀ j u, c[j]? = some u → (w0.alloc (.cells c.toArray te)).cell? ((⟨w0.heap.size, 0, none⟩ : Addr).add j) = some u := fun j u hu => by rw [Addr.add_lit, Nat.zero_add, cell_of_row _ w0.heap.size j c.toArray te (0, 0) (heap_alloc_new w0 _)]; simpa using hu
    have hsrc := Src.ofSlice (P := P) (w0.alloc (.cells c.toArray te)) (size := i.size) T.ht ⟨w0.heap.size, 0, none⟩ ys.length ys.length c (by rw [hs]; exact hy.1) hnews hy.one1
    have hold := run_firstCells_some (P := P) (w0.alloc (.cells c.toArray te)).drew i.size xs.length ⟨b, o, none⟩ xs.length xs.length ns (by rw [hs]; exact k1.1) (fun j u hu => by rw [Addr.add_lit]; exact k2 j u hu)
    have hr := run_append_grow_src (P := P) (w0.alloc (.cells c.toArray te)) t t ty e i z T.ht hi hz (some ⟨b, o, none⟩) xs.length xs.length ns hold (.slice (some ⟨w0.heap.size, 0, none⟩) ys.length ys.length) ys.length c hsrc
      (by omega) (by simp only [maxLen] at h63; omega) (by rw [hb]; exact growslice_fits (by omega) hbytes)
    refine ⟨_, _, hr, ⟨ns ++ c, ⟨by simp [hy.1, k1.1, Nat.add_mul], .inr ⟨_, grownCap (w0.alloc (.cells c.toArray te)) (xs.length + ys.length) xs.length e, _, by rw [List.length_append]; rfl, by simp, heap_alloc_new _ _, ?_, grownCap_le_maxLen _ _ _ _ h63, ?_, ?_⟩⟩, ?_, ?_⟩, ?_⟩
    · rw [List.length_append]; exact grownCap_ge _ _ _ _
    · have hge := grownCap_ge (w0.alloc (.cells c.toArray te)) (xs.length + ys.length) xs.length e
      simp only [Array.size_append, List.size_toArray, List.length_append, size_zeroCells, T.zs, hy.1, k1.1, ← Nat.add_mul]
      congr 1
      omega
    · simp only [Array.toList_append]
      rw [List.length_append, Nat.add_mul, ← hy.1, ← k1.1, ← List.length_append]
      exact List.take_left
    · exact Rep.All.step (w := w0.alloc (.cells c.toArray te)) (fun k hk hl => ⟨hk, Below.heap_alloc (w0.alloc (.cells c.toArray te)).drew _ k hl⟩) (k1.append hy')
    · intro k hk hFk
      have := hF k hFk
      simp [Value.ownBlock] at hk
      omega
    · exact (((Is.refl w0).alloc _).drew).alloc _
theorem wpList_full {ops : Array Oper} {rest : List Oper} {o : Oper} {a : Act} {Q : Exit → Act → World → Prop} (hgd : o.guard = none) (s x : Operand)
    (ho : o.op = .call { callee := .builtin .append, args := #[s, x], argTypes := #[t, t] }) (T : SlT P t e z d.sz bytes) {w0 : World} {A : Option Addr} (hs : a.eval s = .slice A xs.length xs.length) {c : List Value} {te : TypeId} (hx : a.eval x = .slice (some ⟨w0.heap.size, 0, none⟩) ys.length ys.length)
    (h : Rep.Sl d w0 F A xs.length xs) (hy : Rep.All d w0 F ys c) (hF : ∀ k, F k → k < w0.heap.size) (hpos : 0 < ys.length)
    (h63 : xs.length + ys.length ≤ maxLen) (hbytes : (xs.length + ys.length) * bytes ≤ 140737488355328)
    (k : ∀ v' w', Rep.Own d e w' w0.heap.size F v' (xs ++ ys) → Is w0 w' → wpList P ops Q rest (a.put o.dst v') w') : wpList P ops Q (o :: rest) a (w0.alloc (.cells c.toArray te)) := by
  refine wpList_plain hgd fun K hK => ?_
  obtain ⟨v', w', hr, h2, h3⟩ := run_append_full T o.type h hy hF hpos h63 hbytes (te := te)
  unfold Oper.wp execOp
  simp only [ho, resolve, invoke, builtin, Sem.run_bind, Sem.run_pure, Result.andThen_ok, List.map_toArray, List.map_cons, List.map_nil, hs, hx, hr]
  exact hK _ _ (k v' w' h2 h3)

/-- The bytes of a string. -/
def bytesOf (s : ByteArray) : List Int := s.data.toList.map fun b => (b.toNat : Int)
theorem bytesOf_len (s : ByteArray) : (bytesOf s).length = s.size := by simp [bytesOf]
theorem bytesOf_ok (s : ByteArray) : ∀ x ∈ bytesOf s, InK .u8 x := by
  intro x hx
  obtain ⟨b, _, rfl⟩ := List.mem_map.1 hx
  have := b.toNat_lt
  exact InK.mku8 (by omega)
theorem strCells_eq (s : ByteArray) : Lib.strCells s = (bytesOf s).map (Value.int .u8) := by simp [Lib.strCells, bytesOf]
theorem all_ints {k : IntKind} {w : World} {F : Nat → Prop} {xs : List Int} (h : ∀ x ∈ xs, InK k x) : Rep.All (Rep.int k) w F xs (xs.map (Value.int k)) := by
  refine ⟨by simp [Rep.int, Rep.cell], fun i x hx => ?_⟩
  have hl := (List.getElem?_eq_some_iff.1 hx).1
  refine ⟨?_, h x (List.mem_of_getElem? hx)⟩
  simp only [Rep.int, Rep.cell, Nat.mul_one]
  rw [List.drop_eq_getElem_cons (by simpa using hl), List.take_succ_cons, List.take_zero]
  simp only [List.getElem_map, List.cons.injEq, and_true]
  rw [(List.getElem?_eq_some_iff.1 hx).2]
theorem run_append_str (T : SlT P t e (.int .u8 0) 1 1) {tu : TypeId} (hu : P.underlying tu = some .string) (ty : TypeId) (h : Rep.Own (Rep.int .u8) e w base NoB v xs') (s : ByteArray)
    (h63 : xs'.length + s.size ≤ 140737488355328) (hbase : base ≤ w.heap.size) :
    ∃ v' w', (Builtin.append_ #[t, tu] ty #[v, .string s]).run P w = .ok v' w' ∧ Rep.Own (Rep.int .u8) e w' base NoB v' (xs' ++ bytesOf s) ∧ Grew w w' v v' := by
  obtain ⟨i, hi, hz, hs, hb⟩ := info_parts T.info
  obtain ⟨cs, h1, h2, h3⟩ := h
  have hml : xs'.length + s.size ≤ maxLen := le_maxLen (by omega)
  have hat : ∀ v' w', (Builtin.append_ #[t, tu] ty #[v, .string s]).run P w = .ok v' w' → v'.ownBlock = v.ownBlock ∨ ∀ k, v'.ownBlock = some k → w.heap.size ≤ k := by
    intro v' w' hr
    rcases h1.2 with ⟨rfl, hn0⟩ | ⟨g, cap, cur, rfl, hbg, hg, hnc, hcm, hcs, htake⟩
    · right
      have hcs0 : cs = [] := List.eq_nil_of_length_eq_zero (by rw [h1.1, hn0, Nat.zero_mul])
      subst hcs0
      have h10 : w.ownsRow w.heap.size e 1 (.slice none 0 0) xs'.length [] := by rw [hn0]; exact World.ownsRow_nil w _ e 1
      obtain ⟨v2, w2, hr2, ho2, _⟩ := Lib.run_append_own_string (P := P) w w.heap.size t tu ty e i T.ht hu hi hz hs hb _ _ _ h10 s hml h63 (Nat.le_refl _)
      rw [hr2] at hr
      cases hr
      exact fun k hk => (ho2.lt k hk).1
    · by_cases hroom : xs'.length + s.size ≤ cap
      · left
        have hr2 := Lib.run_append_room_string (P := P) w t tu ty e i T.ht hu hi hs g xs'.length cap cur hg s hroom (by rw [hcs]; show _ ≤ cap * 1; omega)
        rw [hr2] at hr
        cases hr
        rfl
      · right
        have holds : ∀ j u, cs[j]? = some u → w.cell? ((⟨g, 0, none⟩ : Addr).add j) = some u := World.ownsRow.cells h1 (g := g) rfl
        have hr2 := Lib.run_append_grow_string (P := P) w t tu ty e i (.int .u8 0) T.ht hu hi hz ⟨g, 0, none⟩ xs'.length cap cs (by rw [hs]; exact h1.1) holds s (by omega) (by omega) (by rw [hb]; exact growslice_fits (by omega) (by omega))
        rw [hr2] at hr
        cases hr
        intro k hk
        simp [Value.ownBlock] at hk
        omega
  obtain ⟨v', w', hr, ho, hg, _⟩ := Lib.run_append_own_string (P := P) w base t tu ty e i T.ht hu hi hz hs hb v xs'.length cs h1 s hml h63 hbase
  rw [strCells_eq] at ho
  refine ⟨v', w', hr, ⟨_, by rw [List.length_append, bytesOf_len]; exact ho, ?_, fun k _ => id⟩, ⟨hg, hat v' w' hr⟩⟩
  exact (h2.step (w1 := w') (G := NoB) (fun k hk _ => hk.elim)).append (all_ints (bytesOf_ok s))
theorem wpList_str {ops : Array Oper} {rest : List Oper} {o : Oper} {a : Act} {Q : Exit → Act → World → Prop} {tu : TypeId} (hgd : o.guard = none) (s x : Operand)
    (ho : o.op = .call { callee := .builtin .append, args := #[s, x], argTypes := #[t, tu] }) (T : SlT P t e (.int .u8 0) 1 1) (hu : P.underlying tu = some .string) (hs : a.eval s = v) {y : ByteArray} (hx : a.eval x = .string y)
    (h : Rep.Own (Rep.int .u8) e w base NoB v xs') (h63 : xs'.length + y.size ≤ 140737488355328) (hbase : base ≤ w.heap.size)
    (k : ∀ v' w', Rep.Own (Rep.int .u8) e w' base NoB v' (xs' ++ bytesOf y) → Grew w w' v v' → wpList P ops Q rest (a.put o.dst v') w') : wpList P ops Q (o :: rest) a w := by
  refine wpList_plain hgd fun K hK => ?_
  obtain ⟨v', w', hr, h2, h3⟩ := run_append_str T hu o.type h y h63 hbase
  unfold Oper.wp execOp
  simp only [ho, resolve, invoke, builtin, Sem.run_bind, Sem.run_pure, Result.andThen_ok, List.map_toArray, List.map_cons, List.map_nil, hs, hx, hr]
  exact hK _ _ (k v' w' h2 h3)
/-- append of the elements of a slice of plain things. -/
theorem run_append_slF (hd : Rep.Flat d) (T : SlT P t e z d.sz bytes) (ty : TypeId) (h : Rep.Own d e w base NoB v xs) {A : Option Addr} {c : Nat} {G : Nat → Prop} (hy : Rep.Sl d w G A c ys)
    (h63 : xs.length + ys.length ≤ maxLen) (hbytes : (xs.length + ys.length) * bytes ≤ 140737488355328) (hbase : base ≤ w.heap.size) :
    ∃ v' w', (Builtin.append_ #[t, t] ty #[v, .slice A ys.length c]).run P w = .ok v' w' ∧ Rep.Own d e w' base NoB v' (xs ++ ys) ∧ Grew w w' v v' := by
  obtain ⟨i, hi, hz, hs, hb⟩ := info_parts T.info
  obtain ⟨cs, h1, h2, h3⟩ := h
  cases A with
  | none =>
    have hc0 := hy.nil rfl
    have hy0 : ys = [] := List.eq_nil_of_length_eq_zero (by have := hy.le; omega)
    subst hy0
    exact ⟨v, w, run_append_nilsrc T ty h1 c (by omega), by rw [List.append_nil]; exact ⟨cs, h1, h2, h3⟩, Grew.refl w v⟩
  | some ad =>
    have key : ∃ ns, Rep.All d w NoB ys ns ∧ ∀ j u, ns[j]? = some u → w.cell? (ad.add j) = some u := by
      by_cases hy0 : ys = []
      · subst hy0
        exact ⟨[], Rep.All.nil d w NoB, fun j u hu => by simp at hu⟩
      · obtain ⟨b, o, hA, _⟩ := hy.row.head (List.length_pos_iff.2 hy0)
        simp only [Option.some.injEq] at hA
        subst hA
        obtain ⟨ns, k1, k2⟩ := Rep.Row.cells hy.row
        exact ⟨ns, ⟨k1.1, fun i x hx => hd (k1.2 i x hx)⟩, fun j u hu => by rw [Addr.add_lit]; exact k2 j u hu⟩
    obtain ⟨ns, k1, k2⟩ := key
    obtain ⟨v', w', hr, ho, hg, _, hat⟩ := run_append_own_at (P := P) w base t ty e i z d.sz bytes T.ht hi hz hs hb T.zs T.pos v xs.length cs h1 ad ys.length c ns k1.1 k2 k1.one1 h63 hbytes hbase
    exact ⟨v', w', hr, Rep.Own.appended h2 h3 k1 (fun k hk => hk.elim) hg ho hat, Grew.mk' hg hat⟩
theorem wpList_slF (hd : Rep.Flat d) {ops : Array Oper} {rest : List Oper} {o : Oper} {a : Act} {Q : Exit → Act → World → Prop} (hgd : o.guard = none) (s x : Operand)
    (ho : o.op = .call { callee := .builtin .append, args := #[s, x], argTypes := #[t, t] }) (T : SlT P t e z d.sz bytes) (hs : a.eval s = v) {A : Option Addr} {c : Nat} (hx : a.eval x = .slice A ys.length c)
    (h : Rep.Own d e w base NoB v xs) {G : Nat → Prop} (hy : Rep.Sl d w G A c ys)
    (h63 : xs.length + ys.length ≤ maxLen) (hbytes : (xs.length + ys.length) * bytes ≤ 140737488355328) (hbase : base ≤ w.heap.size)
    (k : ∀ v' w', Rep.Own d e w' base NoB v' (xs ++ ys) → Grew w w' v v' → wpList P ops Q rest (a.put o.dst v') w') : wpList P ops Q (o :: rest) a w := by
  refine wpList_plain hgd fun K hK => ?_
  obtain ⟨v', w', hr, h2, h3⟩ := run_append_slF hd T o.type h hy h63 hbytes hbase
  unfold Oper.wp execOp
  simp only [ho, resolve, invoke, builtin, Sem.run_bind, Sem.run_pure, Result.andThen_ok, List.map_toArray, List.map_cons, List.map_nil, hs, hx, hr]
  exact hK _ _ (k v' w' h2 h3)
/-- An own slice, opened. -/
theorem Rep.Own.sl (h : Rep.Own d e w base F v xs) : ∃ A cap, v = .slice A xs.length cap ∧ Rep.Sl d w (fun k => F k ∨ v.ownBlock = some k) A cap xs := by
  obtain ⟨A, cap, he, hs⟩ := Rep.Own.rel h (G := fun k => F k ∨ v.ownBlock = some k) (fun _ hk => hk)
  exact ⟨A, cap, by simpa using he, hs⟩
end
end Go.Proofs.Ytabhafllkhoefaa
