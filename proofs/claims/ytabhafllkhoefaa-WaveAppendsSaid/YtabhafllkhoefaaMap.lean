/- Maps that a call makes, as association lists; worlds of which all but some blocks is as it was. -/
import Derived.Test.YtabhafllkhoefaaUnder
import Derived.Maps.Keyed
import Derived.Laws.IdiomMaps
import Derived.ChangeMaps4
namespace Go.Proofs.Ytabhafllkhoefaa
open Go.RowKit
open Go.ChangeMaps (setBlock)

/-- How keys of a Lean type lie in cells. -/
structure KeyEnc (P : Program) (kt : TypeId) (κ : Type) where
  enc : κ → Value
  ok : κ → Prop
  law : Maps.Keyed P kt
  key : ∀ k, ok k → ∃ l, keyOf P kt (enc k) = some l
  inj : ∀ a b, enc a = enc b → a = b

section
variable {κ ν : Type} [DecidableEq κ]
def mget : List (κ × ν) → κ → Option ν
  | [], _ => none
  | p :: m, k => if p.1 = k then some p.2 else mget m k
def mput : List (κ × ν) → κ → ν → List (κ × ν)
  | [], k, v => [(k, v)]
  | p :: m, k, v => if p.1 = k then (k, v) :: m else p :: mput m k v
theorem mget_mput (m : List (κ × ν)) (k k' : κ) (v : ν) : mget (mput m k v) k' = if k = k' then some v else mget m k' := by
  induction m with
  | nil => simp [mget, mput]
  | cons p m ih =>
    simp only [mput]
    split
    · rename_i h
      simp only [mget, h]
      split <;> simp_all
    · rename_i h
      simp only [mget, ih]
      split
      · rename_i h2
        rw [if_neg (by rintro rfl; exact h h2)]
      · rfl
theorem mem_mput {m : List (κ × ν)} {k : κ} {v : ν} {p : κ × ν} (h : p ∈ mput m k v) : p = (k, v) ∨ p ∈ m := by
  induction m with
  | nil => simpa [mput] using h
  | cons q m ih =>
    simp only [mput] at h
    split at h
    · rcases List.mem_cons.1 h with h | h
      · exact .inl h
      · exact .inr (List.mem_cons_of_mem _ h)
    · rcases List.mem_cons.1 h with h | h
      · exact .inr (h ▸ List.mem_cons_self)
      · rcases ih h with h | h
        · exact .inl h
        · exact .inr (List.mem_cons_of_mem _ h)
theorem mput_new {m : List (κ × ν)} {k : κ} {v : ν} (h : ∀ p ∈ m, p.1 ≠ k) : mput m k v = m ++ [(k, v)] := by
  induction m with
  | nil => rfl
  | cons p m ih => rw [mput, if_neg (h p List.mem_cons_self), ih (fun q hq => h q (List.mem_cons_of_mem _ hq))]; rfl
theorem mget_new {m : List (κ × ν)} {k : κ} (h : ∀ p ∈ m, p.1 ≠ k) : mget m k = none := by
  induction m with
  | nil => rfl
  | cons p m ih => rw [mget, if_neg (h p List.mem_cons_self), ih (fun q hq => h q (List.mem_cons_of_mem _ hq))]
theorem mput_at {m : List (κ × ν)} (hn : (m.map (·.1)).Nodup) {j : Nat} {k : κ} {v0 v : ν} (h : m[j]? = some (k, v0)) : mput m k v = m.set j (k, v) := by
  induction m generalizing j with
  | nil => simp at h
  | cons p m ih =>
    rw [List.map_cons, List.nodup_cons] at hn
    cases j with
    | zero =>
      simp only [List.getElem?_cons_zero, Option.some.injEq] at h
      subst h
      simp [mput]
    | succ j =>
      simp only [List.getElem?_cons_succ] at h
      have hm : (k, v0) ∈ m := List.mem_of_getElem? h
      rw [mput, if_neg (fun h0 : p.1 = k => hn.1 (by rw [h0]; exact List.mem_map_of_mem (f := Prod.fst) hm)), ih hn.2 h]
      rfl
theorem mget_at {m : List (κ × ν)} (hn : (m.map (·.1)).Nodup) {j : Nat} {k : κ} {v0 : ν} (h : m[j]? = some (k, v0)) : mget m k = some v0 := by
  induction m generalizing j with
  | nil => simp at h
  | cons p m ih =>
    rw [List.map_cons, List.nodup_cons] at hn
    cases j with
    | zero =>
      simp only [List.getElem?_cons_zero, Option.some.injEq] at h
      subst h
      simp [mget]
    | succ j =>
      simp only [List.getElem?_cons_succ] at h
      have hm : (k, v0) ∈ m := List.mem_of_getElem? h
      rw [mget, if_neg (fun h0 : p.1 = k => hn.1 (by rw [h0]; exact List.mem_map_of_mem (f := Prod.fst) hm)), ih hn.2 h]
theorem nodup_mput {m : List (κ × ν)} (hn : (m.map (·.1)).Nodup) (k : κ) (v : ν) : ((mput m k v).map (·.1)).Nodup := by
  induction m with
  | nil => simp [mput]
  | cons p m ih =>
    rw [List.map_cons, List.nodup_cons] at hn
    rw [mput]
    split
    · rename_i h
      rw [List.map_cons, List.nodup_cons]
      exact ⟨h ▸ hn.1, hn.2⟩
    · rename_i h
      rw [List.map_cons, List.nodup_cons]
      refine ⟨fun hm => ?_, ih hn.2⟩
      obtain ⟨q, hq, he⟩ := List.mem_map.1 hm
      rcases mem_mput hq with rfl | hq
      · exact h he.symm
      · exact hn.1 (he ▸ List.mem_map_of_mem (f := (·.1)) hq)

/-- Block b of w is a map that holds this association list. -/
def MapAt {P : Program} {kt : TypeId} (E : KeyEnc P kt κ) (ev : ν → Value) (w : World) (b : Nat) (m : List (κ × ν)) : Prop :=
  ∃ es clock, w.heap[b]? = some (.map es clock) ∧ es.toList.map (fun e => (e.key, e.val)) = m.map (fun p => (E.enc p.1, ev p.2)) ∧ (∀ p ∈ m, E.ok p.1) ∧ (m.map (·.1)).Nodup

variable {P : Program} {kt : TypeId} {E : KeyEnc P kt κ} {ev : ν → Value} {w : World} {b : Nat} {m : List (κ × ν)}
omit [DecidableEq κ] in
theorem MapAt.step {w1 : World} (h : MapAt E ev w b m) (hb : w1.heap[b]? = w.heap[b]?) : MapAt E ev w1 b m := by
  obtain ⟨es, clock, h1, h2⟩ := h
  exact ⟨es, clock, hb.trans h1, h2⟩
omit [DecidableEq κ] in
theorem MapAt.lt (h : MapAt E ev w b m) : b < w.heap.size := by
  obtain ⟨es, clock, h1, _⟩ := h
  exact (Array.getElem?_eq_some_iff.1 h1).1
omit [DecidableEq κ] in
theorem MapAt.is {w1 : World} (h : MapAt E ev w b m) (hw : Is w w1) : MapAt E ev w1 b m := h.step (hw.below.block b h.lt)
omit [DecidableEq κ] in
theorem MapAt.made (w : World) : MapAt E ev (w.alloc (.map #[] 0)) w.heap.size ([] : List (κ × ν)) := ⟨#[], 0, heap_alloc_new w _, rfl, by simp, by simp⟩

theorem map_find (h : MapAt E ev w b m) {k : κ} (hk : E.ok k) : ∃ es clock, w.heap[b]? = some (.map es clock) ∧
    (((Instr.findKey kt (E.enc k) es.toList).run P w = .ok none w ∧ mget m k = none ∧ mput (κ := κ) (ν := ν) m k = fun v => m ++ [(k, v)]) ∨
     ∃ j v0 e0, (Instr.findKey kt (E.enc k) es.toList).run P w = .ok (some (j, ev v0)) w ∧ es[j]? = some e0 ∧ e0.key = E.enc k ∧ m[j]? = some (k, v0) ∧ mget m k = some v0) := by
  obtain ⟨es, clock, h1, h2, h3, h4⟩ := h
  refine ⟨es, clock, h1, ?_⟩
  obtain ⟨l, hl⟩ := E.key k hk
  have hks : ∀ e ∈ es.toList, ∃ l, keyOf P kt e.key = some l := by
    intro e he
    have : (e.key, e.val) ∈ m.map (fun p => (E.enc p.1, ev p.2)) := h2 ▸ List.mem_map_of_mem (f := fun e : MapEntry => (e.key, e.val)) he
    obtain ⟨p, hp, hpe⟩ := List.mem_map.1 this
    have : e.key = E.enc p.1 := (congrArg Prod.fst hpe).symm
    rw [this]
    exact E.key p.1 (h3 p hp)
  rcases E.law.find w hl es.toList hks with ⟨hf, hne⟩ | ⟨j, e0, hf, hj, hke⟩
  · left
    have hne2 : ∀ p ∈ m, p.1 ≠ k := by
      rintro p hp rfl
      have : (E.enc p.1, ev p.2) ∈ es.toList.map (fun e => (e.key, e.val)) := h2 ▸ List.mem_map_of_mem (f := fun p : κ × ν => (E.enc p.1, ev p.2)) hp
      obtain ⟨e, he, hee⟩ := List.mem_map.1 this
      exact hne e he (congrArg Prod.fst hee)
    exact ⟨hf, mget_new hne2, funext fun v => mput_new hne2⟩
  · right
    have hx : (m.map (fun p => (E.enc p.1, ev p.2)))[j]? = some (e0.key, e0.val) := by rw [← h2, List.getElem?_map, hj]; rfl
    rw [List.getElem?_map] at hx
    cases hm : m[j]? with
    | none => rw [hm] at hx; simp at hx
    | some p =>
      rw [hm] at hx
      simp only [Option.map_some, Option.some.injEq, Prod.mk.injEq] at hx
      have hpk : p.1 = k := E.inj _ _ (hx.1.trans hke)
      obtain ⟨p1, p2⟩ := p
      subst hpk
      exact ⟨j, p2, e0, by rw [hf, hx.2], by simpa using hj, hke, hm, mget_at h4 hm⟩

theorem run_mapLookup (h : MapAt E ev w b m) {t e : TypeId} (ht : P.underlying t = some (.map kt e)) {z : Value} (hz : (zeroValue e).run P w = .ok z w) {k : κ} (hk : E.ok k) :
    (Instr.lookup t (.map (some b)) (E.enc k) false).run P w = .ok (((mget m k).map ev).getD z) w := by
  obtain ⟨l, hl⟩ := E.key k hk
  obtain ⟨es, clock, h1, hf | ⟨j, v0, e0, hf, _, _, _, hg⟩⟩ := map_find h hk
  · simp [Instr.lookup, run_underlying ht, MapKept.run_getObj_map h1, E.law.check w _ hl, hf.1, hf.2.1, hz, Result.andThen]
  · simp [Instr.lookup, run_underlying ht, MapKept.run_getObj_map h1, E.law.check w _ hl, hf, hg, Result.andThen]
theorem run_mapLookupOk (h : MapAt E ev w b m) {t e : TypeId} (ht : P.underlying t = some (.map kt e)) {z : Value} (hz : (zeroValue e).run P w = .ok z w) {k : κ} (hk : E.ok k) :
    (Instr.lookup t (.map (some b)) (E.enc k) true).run P w = .ok (.tuple #[((mget m k).map ev).getD z, .bool (mget m k).isSome]) w := by
  obtain ⟨l, hl⟩ := E.key k hk
  obtain ⟨es, clock, h1, hf | ⟨j, v0, e0, hf, _, _, _, hg⟩⟩ := map_find h hk
  · simp [Instr.lookup, run_underlying ht, MapKept.run_getObj_map h1, E.law.check w _ hl, hf.1, hf.2.1, hz, Result.andThen]
  · simp [Instr.lookup, run_underlying ht, MapKept.run_getObj_map h1, E.law.check w _ hl, hf, hg, Result.andThen]
theorem run_mapStore (h : MapAt E ev w b m) {t e : TypeId} (ht : P.underlying t = some (.map kt e)) {k : κ} (hk : E.ok k) (v : ν) :
    ∃ o, (Instr.mapUpdate t (.map (some b)) (E.enc k) (ev v)).run P w = .ok () (setBlock w b o) ∧ MapAt E ev (setBlock w b o) b (mput m k v) := by
  obtain ⟨l, hl⟩ := E.key k hk
  have hb := h.lt
  have hset : ∀ o, (setBlock w b o).heap[b]? = some o := fun o => by simp [setBlock, hb]
  have hfull := h
  obtain ⟨es', clock', h1', h2, h3, h4⟩ := h
  have hok : ∀ p ∈ mput m k v, E.ok p.1 := fun p hp => by
    rcases mem_mput hp with rfl | hp
    · exact hk
    · exact h3 p hp
  obtain ⟨es, clock, h1, hf | ⟨j, v0, e0, hf, he0, hke, hm, hg⟩⟩ := map_find hfull hk
  · rw [h1] at h1'
    cases h1'
    refine ⟨.map (es'.push { key := E.enc k, val := ev v, born := clock' }) (clock' + 1), ?_, _, _, hset _, ?_, hok, nodup_mput h4 k v⟩
    · simp [Instr.mapUpdate, run_underlying ht, MapKept.run_getObj_map h1, E.law.check w _ hl, hf.1, MapKept.run_setObj_map _ h1, Result.andThen, setBlock]
    · rw [hf.2.2]
      simp [h2]
  · rw [h1] at h1'
    cases h1'
    refine ⟨.map (es'.modify j fun e => { e with key := E.enc k, val := ev v }) clock', ?_, _, _, hset _, ?_, hok, nodup_mput h4 k v⟩
    · simp [Instr.mapUpdate, run_underlying ht, MapKept.run_getObj_map h1, E.law.check w _ hl, hf, he0, hke, E.law.stays w hl, MapKept.run_setObj_map _ h1, Result.andThen, setBlock]
    · rw [mput_at h4 hm]
      apply List.ext_getElem?
      intro i
      have hi := congrArg (fun l => l[i]?) h2
      simp only [List.getElem?_map] at hi ⊢
      rw [Array.getElem?_toList, Array.getElem?_modify, List.getElem?_set]
      have hjl : j < m.length := (List.getElem?_eq_some_iff.1 hm).1
      rw [Array.getElem?_toList] at hi
      by_cases hij : j = i
      · subst hij
        rw [if_pos rfl, if_pos rfl, if_pos hjl, he0]
        rfl
      · rw [if_neg hij, if_neg hij]
        exact hi
end

/-- A world behind w in which all blocks of w outside G are as they were. -/
structure But (w : World) (G : Nat → Prop) where
  val : World
  os : val.os = w.os
  tape : val.tape = w.tape
  output : val.output = w.output
  size : w.heap.size ≤ val.heap.size
  block : ∀ k, k < w.heap.size → ¬ G k → val.heap[k]? = w.heap[k]?
namespace But
variable {w : World} {G : Nat → Prop}
@[go_sem] theorem cell (x : But w G) (b o : Nat) (h : b < w.heap.size) (hG : ¬ G b) : x.val.cell? ⟨b, o, none⟩ = w.cell? ⟨b, o, none⟩ := World.cell?_of_block (a := ⟨b, o, none⟩) (x.block b h hG)
@[go_sem] theorem frozen (x : But w G) (b o : Nat) (h : b < w.heap.size) (hG : ¬ G b) : x.val.frozen? ⟨b, o, none⟩ = w.frozen? ⟨b, o, none⟩ := World.frozen?_of_block (a := ⟨b, o, none⟩) (x.block b h hG)
@[go_sem] theorem lt (x : But w G) (b : Nat) (h : b < w.heap.size) : b < x.val.heap.size := Nat.lt_of_lt_of_le h x.size
def refl (w : World) (G : Nat → Prop) : But w G := ⟨w, rfl, rfl, rfl, Nat.le_refl _, fun _ _ _ => rfl⟩
def under (x : But w G) (y : Under x.val) : But w G := ⟨y.val, y.ok.os.trans x.os, y.ok.tape.trans x.tape, y.ok.output.trans x.output, Nat.le_trans x.size y.ok.size, fun k hk hG => (y.ok.block k (Nat.lt_of_lt_of_le hk x.size)).trans (x.block k hk hG)⟩
def alloc (x : But w G) (o : Obj) : But w G := x.under ((Under.refl x.val).alloc o)
def drew (x : But w G) : But w G := x.under (Under.refl x.val).drew
def set (x : But w G) (b : Nat) (hb : G b) (o : Obj) : But w G := ⟨setBlock x.val b o, x.os, x.tape, x.output, by simpa [setBlock] using x.size, fun k hk hG => by
  have : b ≠ k := fun e => hG (e ▸ hb)
  simp only [setBlock]
  rw [Array.getElem?_setIfInBounds, if_neg this]
  exact x.block k hk hG⟩
theorem is {w0 : World} (x : But w G) (h : Is w0 w) (hG : ∀ k, G k → w0.heap.size ≤ k) : Is w0 x.val := by
  have hb := h.below
  refine Is.of ⟨x.os.trans hb.os, x.tape.trans hb.tape, x.output.trans hb.output, Nat.le_trans hb.size x.size, fun k hk => ?_⟩
  exact (x.block k (Nat.lt_of_lt_of_le hk hb.size) (fun hg => by have := hG k hg; omega)).trans (hb.block k hk)
end But
@[go_sem] theorem setBlock_cell (w : World) (b b' o' : Nat) (o : Obj) (h : b' ≠ b) : (setBlock w b o).cell? ⟨b', o', none⟩ = w.cell? ⟨b', o', none⟩ := by
  refine World.cell?_of_block (a := ⟨b', o', none⟩) ?_
  simp only [setBlock]
  rw [Array.getElem?_setIfInBounds, if_neg (Ne.symm h)]
@[go_sem] theorem setBlock_size (w : World) (b : Nat) (o : Obj) : (setBlock w b o).heap.size = w.heap.size := by simp [setBlock]

/-- Keys that are strings. -/
def strKey (P : Program) (kt : TypeId) (h : P.underlying kt = some .string) : KeyEnc P kt ByteArray where
  enc := Value.string
  ok := fun s => s.size ≤ maxLen
  law := Maps.string_keyed h
  key := fun s hs => ⟨_, WideMaps.keyOf_string_mk h hs⟩
  inj := fun a b h => by injection h
/-- Keys that are whole numbers. -/
def intKey (P : Program) (kt : TypeId) (q : IntKind) (h : P.underlying kt = some (.int q)) : KeyEnc P kt Int where
  enc := Value.int q
  ok := fun x => InK q x
  law := Maps.int_keyed h
  key := fun x hx => ⟨_, Maps.keyOf_int_mk h (by simp only [Lit.wf, Bool.and_eq_true, decide_eq_true_eq]; exact hx)⟩
  inj := fun a b h => by injection h
end Go.Proofs.Ytabhafllkhoefaa
