/- Joined by this session's own program out of its texts: Rep Under Map Kd Names PFx0 Clones Split SplitT Loads SplitA Copy. -/
import Derived.WalkKit
import Derived.WalkSpells
import Derived.WalkLawsBesides
import Derived.Deep.LoopGhost
import Derived.Deep.Draws
import Derived.Lib.Hide
import Derived.Deep.QuietTactic
import Derived.BigQuiet
import Derived.KernelRfl
import Derived.Laws.StructEq
import Derived.Maps.Keyed
import Derived.Laws.IdiomMaps
import Derived.ChangeMaps4
import Derived.Test.YtimjccfpobhpeaaE0
import Derived.Test.YtimjccfpobhpeaaProg
import Derived.Lib.ConvBytes
import Derived.Below
import Derived.Deep.AppendLies
import Derived.Maps.AppendAt
import Derived.OwnWalk
import Derived.Laws.BytesArg
import Derived.Laws.MakeOwn
import Derived.Laws.OwnMore
import Derived.Deep.OwnRows
import Derived.Tactics
import Derived.Laws.Slices
import Derived.RowKit3
import Derived.WideLaws
import Derived.Deep.DeepCutAuto
import Derived.Deep.CutBlock
import Derived.Deep.RegionHeld3
import Derived.Laws.Rows
import Derived.Lib.AppendStr
import Derived.ArgAppend
import Derived.Laws.IdiomCopy
import Derived.OrdersHeld
import Derived.Laws.BitsLemmas
import Derived.RowKit
import Derived.Lib.SmallJoins
import Derived.Lib.BufferMore
namespace Go.Proofs.Ytimjccfpobhpeaa
open Go.RowKit
def InK (k : IntKind) (x : Int) : Prop := k.min ≤ x ∧ x ≤ k.max
structure Rep (α : Type) where
  sz : Nat
  rel : World → (Nat → Prop) → α → List Value → Prop
  len : ∀ {w F x cs}, rel w F x cs → cs.length = sz
  one : ∀ {w F x cs}, rel w F x cs → ∀ u ∈ cs, u.oneCell' = true
  step : ∀ {w w1 : World} {F G : Nat → Prop} {x cs}, (∀ k, F k → k < w.heap.size → G k ∧ w1.heap[k]? = w.heap[k]?) → rel w F x cs → rel w1 G x cs
def CellsAt (w : World) (b o : Nat) (cs : List Value) : Prop := ∀ j u, cs[j]? = some u → w.cell? ⟨b, o + j, none⟩ = some u
theorem CellsAt.step {w w1 : World} {b o : Nat} {cs : List Value} (h : CellsAt w b o cs) (hb : w1.heap[b]? = w.heap[b]?) : CellsAt w1 b o cs := fun j u hu =>
  (World.cell?_of_block (a := ⟨b, o + j, none⟩) hb).trans (h j u hu)
namespace Rep
section
variable {α β : Type}
def cell (enc : α → Value) (ok : α → Prop) (h1 : ∀ x, (enc x).oneCell' = true) : Rep α where
  sz := 1
  rel := fun _ _ x cs => cs = [enc x] ∧ ok x
  len := fun h => by rw [h.1]; rfl
  one := fun h u hu => by rw [h.1] at hu; rw [List.mem_singleton.1 hu]; exact h1 _
  step := fun _ h => h
def int (k : IntKind) : Rep Int := cell (Value.int k) (InK k) (fun _ => rfl)
def bool : Rep Bool := cell Value.bool (fun _ => True) (fun _ => rfl)
def str : Rep ByteArray := cell Value.string (fun s => s.size ≤ 9223372036854775807) (fun _ => rfl)
def Row (d : Rep α) (w : World) (F : Nat → Prop) (A : Option Addr) (xs : List α) : Prop :=
  ∀ i x, xs[i]? = some x → ∃ b o cs, A = some ⟨b, o, none⟩ ∧ F b ∧ b < w.heap.size ∧ d.rel w F x cs ∧ CellsAt w b (o + i * d.sz) cs
theorem Row.step {d : Rep α} {w w1 : World} {F G : Nat → Prop} {A : Option Addr} {xs : List α} (hm : ∀ k, F k → k < w.heap.size → G k ∧ w1.heap[k]? = w.heap[k]?) (h : Row d w F A xs) : Row d w1 G A xs := by
  intro i x hx
  obtain ⟨b, o, cs, hA, hF, hl, hr, hc⟩ := h i x hx
  have hb := hm b hF hl
  refine ⟨b, o, cs, hA, hb.1, ?_, d.step hm hr, hc.step hb.2⟩
  have := hb.2
  rw [Array.getElem?_eq_getElem hl] at this
  exact (Array.getElem?_eq_some_iff.1 this).1
theorem Row.nil (d : Rep α) (w : World) (F : Nat → Prop) (A : Option Addr) : Row d w F A [] := fun i x h => by simp at h
theorem Row.head {d : Rep α} {w : World} {F : Nat → Prop} {A : Option Addr} {xs : List α} (h : Row d w F A xs) (hx : 0 < xs.length) : ∃ b o, A = some ⟨b, o, none⟩ ∧ F b ∧ b < w.heap.size := by
  obtain ⟨b, o, _, hA, hF, hl, _⟩ := h 0 xs[0] (List.getElem?_eq_getElem hx)
  exact ⟨b, o, hA, hF, hl⟩
structure Sl (d : Rep α) (w : World) (F : Nat → Prop) (A : Option Addr) (cap : Nat) (xs : List α) : Prop where
  le : xs.length ≤ cap
  cap_le : cap ≤ 9223372036854775807
  nil : A = none → cap = 0
  row : Row d w F A xs
theorem Sl.step {d : Rep α} {w w1 : World} {F G : Nat → Prop} {A : Option Addr} {cap : Nat} {xs : List α} (hm : ∀ k, F k → k < w.heap.size → G k ∧ w1.heap[k]? = w.heap[k]?) (h : Sl d w F A cap xs) : Sl d w1 G A cap xs :=
  ⟨h.le, h.cap_le, h.nil, Row.step hm h.row⟩
theorem Sl.len {d : Rep α} {w : World} {F : Nat → Prop} {A : Option Addr} {cap : Nat} {xs : List α} (h : Sl d w F A cap xs) : (xs.length : Int) ≤ 9223372036854775807 := by
  have := h.le; have := h.cap_le; omega
theorem Sl.empty (d : Rep α) (w : World) (F : Nat → Prop) : Sl d w F none 0 [] := ⟨Nat.le_refl _, by omega, fun _ => rfl, Row.nil d w F none⟩
def slice (d : Rep α) : Rep (List α) where
  sz := 1
  rel := fun w F xs cs => ∃ A cap, cs = [.slice A xs.length cap] ∧ Sl d w F A cap xs
  len := by rintro w F x cs ⟨A, cap, rfl, _⟩; rfl
  one := by rintro w F x cs ⟨A, cap, rfl, _⟩ u hu; rw [List.mem_singleton.1 hu]; rfl
  step := by
    rintro w w1 F G x cs hm ⟨A, cap, rfl, h⟩
    exact ⟨A, cap, rfl, h.step hm⟩
def pair (a : Rep α) (b : Rep β) : Rep (α × β) where
  sz := a.sz + b.sz
  rel := fun w F x cs => ∃ c0 c1, cs = c0 ++ c1 ∧ a.rel w F x.1 c0 ∧ b.rel w F x.2 c1
  len := by rintro w F x cs ⟨c0, c1, rfl, h0, h1⟩; rw [List.length_append, a.len h0, b.len h1]
  one := by
    rintro w F x cs ⟨c0, c1, rfl, h0, h1⟩ u hu
    rcases List.mem_append.1 hu with hu | hu
    · exact a.one h0 u hu
    · exact b.one h1 u hu
  step := by
    rintro w w1 F G x cs hm ⟨c0, c1, rfl, h0, h1⟩
    exact ⟨c0, c1, rfl, a.step hm h0, b.step hm h1⟩
def iso (d : Rep α) (f : β → α) : Rep β where
  sz := d.sz
  rel := fun w F x cs => d.rel w F (f x) cs
  len := d.len
  one := d.one
  step := d.step
def All (d : Rep α) (w : World) (F : Nat → Prop) (xs : List α) (cs : List Value) : Prop :=
  cs.length = xs.length * d.sz ∧ ∀ i x, xs[i]? = some x → d.rel w F x ((cs.drop (i * d.sz)).take d.sz)
theorem All.step {d : Rep α} {w w1 : World} {F G : Nat → Prop} {xs : List α} {cs : List Value} (hm : ∀ k, F k → k < w.heap.size → G k ∧ w1.heap[k]? = w.heap[k]?) (h : All d w F xs cs) : All d w1 G xs cs :=
  ⟨h.1, fun i x hx => d.step hm (h.2 i x hx)⟩
theorem All.nil (d : Rep α) (w : World) (F : Nat → Prop) : All d w F [] [] := ⟨by simp, fun i x h => by simp at h⟩
def Own (d : Rep α) (e : TypeId) (w : World) (base : Nat) (F : Nat → Prop) (v : Value) (xs : List α) : Prop :=
  ∃ cs, w.ownsRow base e d.sz v xs.length cs ∧ All d w F xs cs ∧ ∀ k, v.ownBlock = some k → ¬ F k
theorem ownsRow_step {w w1 : World} {base : Nat} {e : TypeId} {size n : Nat} {v : Value} {xs : List Value} (h : w.ownsRow base e size v n xs) (hm : ∀ k, v.ownBlock = some k → w1.heap[k]? = w.heap[k]?) : w1.ownsRow base e size v n xs := by
  obtain ⟨h1, h2⟩ := h
  refine ⟨h1, ?_⟩
  rcases h2 with h2 | ⟨g, cap, cur, rfl, hg, hh, r⟩
  · exact .inl h2
  · exact .inr ⟨g, cap, cur, rfl, hg, (hm g (by simp [Value.ownBlock])).trans hh, r⟩
theorem Own.step {d : Rep α} {e : TypeId} {w w1 : World} {base : Nat} {F : Nat → Prop} {v : Value} {xs : List α} (h : Own d e w base F v xs)
    (hm : ∀ k, F k ∨ v.ownBlock = some k → k < w.heap.size → w1.heap[k]? = w.heap[k]?) : Own d e w1 base F v xs := by
  obtain ⟨cs, h1, h2, h3⟩ := h
  refine ⟨cs, ownsRow_step h1 (fun k hk => hm k (.inr hk) (h1.lt k hk).2), h2.step (fun k hk hl => ⟨hk, hm k (.inl hk) hl⟩), h3⟩
theorem Own.below {d : Rep α} {e : TypeId} {w w1 : World} {base : Nat} {F : Nat → Prop} {v : Value} {xs : List α} (h : Own d e w base F v xs) (hb : Below w.heap.size w w1) : Own d e w1 base F v xs :=
  h.step fun k _ hl => hb.block k hl
theorem Own.lt {d : Rep α} {e : TypeId} {w : World} {base : Nat} {F : Nat → Prop} {v : Value} {xs : List α} (h : Own d e w base F v xs) : ∀ k, v.ownBlock = some k → base ≤ k ∧ k < w.heap.size :=
  fun k hk => by obtain ⟨cs, h1, _⟩ := h; exact h1.lt k hk
theorem Own.val {d : Rep α} {e : TypeId} {w : World} {base : Nat} {F : Nat → Prop} {v : Value} {xs : List α} (h : Own d e w base F v xs) : ∃ A cap, v = .slice A xs.length cap := by
  obtain ⟨cs, ⟨h1, h2⟩, _⟩ := h
  rcases h2 with ⟨rfl, h0⟩ | ⟨g, cap, cur, rfl, _⟩
  · exact ⟨none, 0, by rw [h0]⟩
  · exact ⟨_, cap, rfl⟩
end
end Rep
end Go.Proofs.Ytimjccfpobhpeaa
namespace Go.Proofs.Ytimjccfpobhpeaa
open Go.RowKit
structure Under (w : World) where
  val : World
  ok : Below w.heap.size w val
namespace Under
variable {w : World}
@[go_sem] theorem cell (x : Under w) (b o : Nat) (h : b < w.heap.size) : x.val.cell? ⟨b, o, none⟩ = w.cell? ⟨b, o, none⟩ := x.ok.cell (p := ⟨b, o, none⟩) h
@[go_sem] theorem frozen (x : Under w) (b o : Nat) (h : b < w.heap.size) : x.val.frozen? ⟨b, o, none⟩ = w.frozen? ⟨b, o, none⟩ := x.ok.frozen (p := ⟨b, o, none⟩) h
@[go_sem] theorem lt (x : Under w) (b : Nat) (h : b < w.heap.size) : b < x.val.heap.size := Nat.lt_of_lt_of_le h x.ok.size
theorem size (x : Under w) : w.heap.size ≤ x.val.heap.size := x.ok.size
def refl (w : World) : Under w := ⟨w, Below.refl _ _⟩
def alloc (x : Under w) (o : Obj) : Under w := ⟨x.val.alloc o, x.ok.alloc x.ok.size o⟩
def drew (x : Under w) : Under w := ⟨x.val.drew, x.ok.drew⟩
def trans (x : Under w) (y : Under x.val) : Under w := ⟨y.val, x.ok.trans (y.ok.mono x.ok.size)⟩
instance (w : World) : Nonempty (Under w) := ⟨Under.refl w⟩
end Under
@[go_sem] theorem le_heap_of {w : World} {b : Nat} (h : b < w.heap.size) : b ≤ w.heap.size := Nat.le_of_lt h
@[go_sem] theorem lt_heap_succ {w : World} {b : Nat} (h : b < w.heap.size) : b < w.heap.size + 1 := Nat.lt_succ_of_lt h
@[go_sem] theorem lt_heap_succ2 {w : World} {b : Nat} (h : b < w.heap.size) : b < w.heap.size + 1 + 1 := by omega
def Is (w w1 : World) : Prop := ∃ x : Under w, w1 = x.val
theorem Is.of {w w1 : World} (h : Below w.heap.size w w1) : Is w w1 := ⟨⟨w1, h⟩, rfl⟩
theorem Is.below {w w1 : World} (h : Is w w1) : Below w.heap.size w w1 := by obtain ⟨x, rfl⟩ := h; exact x.ok
theorem Is.refl (w : World) : Is w w := ⟨Under.refl w, rfl⟩
theorem Is.val {w : World} (x : Under w) : Is w x.val := ⟨x, rfl⟩
theorem Is.alloc {w w1 : World} (h : Is w w1) (o : Obj) : Is w (w1.alloc o) := by obtain ⟨x, rfl⟩ := h; exact ⟨x.alloc o, rfl⟩
theorem Is.drew {w w1 : World} (h : Is w w1) : Is w w1.drew := by obtain ⟨x, rfl⟩ := h; exact ⟨x.drew, rfl⟩
theorem Is.trans {w w1 w2 : World} (h : Is w w1) (k : Is w1 w2) : Is w w2 := by obtain ⟨x, rfl⟩ := h; obtain ⟨y, rfl⟩ := k; exact ⟨x.trans y, rfl⟩
theorem Is.step {w w1 : World} (h : Is w w1) (y : Under w1) : Is w y.val := h.trans (Is.val y)
theorem ret_int {k : IntKind} {a b : Int} (h : a = b) : Ending.returned (.int k a) = .returned (.int k b) := by rw [h]
theorem ret_bool {a b : Bool} (h : a = b) : Ending.returned (.bool a) = .returned (.bool b) := by rw [h]
end Go.Proofs.Ytimjccfpobhpeaa
namespace Go.Proofs.Ytimjccfpobhpeaa
open Go.RowKit
open Go.ChangeMaps (setBlock)
structure KeyEnc (P : Program) (kt : TypeId) (κ : Type) where
  enc : κ → Value
  ok : κ → Prop
  law : Maps.Keyed P kt
  key : ∀ k, ok k → ∃ l, keyOf P kt (enc k) = some l
  inj : ∀ a b, enc a = enc b → a = b
section
variable {κ ν : Type} [DecidableEq κ]
def mget : List (κ × ν) → κ → Option ν
  | [], _ => none
  | p :: m, k => if p.1 = k then some p.2 else mget m k
def mput : List (κ × ν) → κ → ν → List (κ × ν)
  | [], k, v => [(k, v)]
  | p :: m, k, v => if p.1 = k then (k, v) :: m else p :: mput m k v
theorem mget_mput (m : List (κ × ν)) (k k' : κ) (v : ν) : mget (mput m k v) k' = if k = k' then some v else mget m k' := by
  induction m with
  | nil => simp [mget, mput]
  | cons p m ih =>
    simp only [mput]
    split
    · rename_i h
      simp only [mget, h]
      split <;> simp_all
    · rename_i h
      simp only [mget, ih]
      split
      · rename_i h2
        rw [if_neg (by rintro rfl; exact h h2)]
      · rfl
theorem mem_mput {m : List (κ × ν)} {k : κ} {v : ν} {p : κ × ν} (h : p ∈ mput m k v) : p = (k, v) ∨ p ∈ m := by
  induction m with
  | nil => simpa [mput] using h
  | cons q m ih =>
    simp only [mput] at h
    split at h
    · rcases List.mem_cons.1 h with h | h
      · exact .inl h
      · exact .inr (List.mem_cons_of_mem _ h)
    · rcases List.mem_cons.1 h with h | h
      · exact .inr (h ▸ List.mem_cons_self)
      · rcases ih h with h | h
        · exact .inl h
        · exact .inr (List.mem_cons_of_mem _ h)
theorem mput_new {m : List (κ × ν)} {k : κ} {v : ν} (h : ∀ p ∈ m, p.1 ≠ k) : mput m k v = m ++ [(k, v)] := by
  induction m with
  | nil => rfl
  | cons p m ih => rw [mput, if_neg (h p List.mem_cons_self), ih (fun q hq => h q (List.mem_cons_of_mem _ hq))]; rfl
theorem mget_new {m : List (κ × ν)} {k : κ} (h : ∀ p ∈ m, p.1 ≠ k) : mget m k = none := by
  induction m with
  | nil => rfl
  | cons p m ih => rw [mget, if_neg (h p List.mem_cons_self), ih (fun q hq => h q (List.mem_cons_of_mem _ hq))]
theorem mput_at {m : List (κ × ν)} (hn : (m.map (·.1)).Nodup) {j : Nat} {k : κ} {v0 v : ν} (h : m[j]? = some (k, v0)) : mput m k v = m.set j (k, v) := by
  induction m generalizing j with
  | nil => simp at h
  | cons p m ih =>
    rw [List.map_cons, List.nodup_cons] at hn
    cases j with
    | zero =>
      simp only [List.getElem?_cons_zero, Option.some.injEq] at h
      subst h
      simp [mput]
    | succ j =>
      simp only [List.getElem?_cons_succ] at h
      have hm : (k, v0) ∈ m := List.mem_of_getElem? h
      rw [mput, if_neg (fun h0 : p.1 = k => hn.1 (by rw [h0]; exact List.mem_map_of_mem (f := Prod.fst) hm)), ih hn.2 h]
      rfl
theorem mget_at {m : List (κ × ν)} (hn : (m.map (·.1)).Nodup) {j : Nat} {k : κ} {v0 : ν} (h : m[j]? = some (k, v0)) : mget m k = some v0 := by
  induction m generalizing j with
  | nil => simp at h
  | cons p m ih =>
    rw [List.map_cons, List.nodup_cons] at hn
    cases j with
    | zero =>
      simp only [List.getElem?_cons_zero, Option.some.injEq] at h
      subst h
      simp [mget]
    | succ j =>
      simp only [List.getElem?_cons_succ] at h
      have hm : (k, v0) ∈ m := List.mem_of_getElem? h
      rw [mget, if_neg (fun h0 : p.1 = k => hn.1 (by rw [h0]; exact List.mem_map_of_mem (f := Prod.fst) hm)), ih hn.2 h]
theorem nodup_mput {m : List (κ × ν)} (hn : (m.map (·.1)).Nodup) (k : κ) (v : ν) : ((mput m k v).map (·.1)).Nodup := by
  induction m with
  | nil => simp [mput]
  | cons p m ih =>
    rw [List.map_cons, List.nodup_cons] at hn
    rw [mput]
    split
    · rename_i h
      rw [List.map_cons, List.nodup_cons]
      exact ⟨h ▸ hn.1, hn.2⟩
    · rename_i h
      rw [List.map_cons, List.nodup_cons]
      refine ⟨fun hm => ?_, ih hn.2⟩
      obtain ⟨q, hq, he⟩ := List.mem_map.1 hm
      rcases mem_mput hq with rfl | hq
      · exact h he.symm
      · exact hn.1 (he ▸ List.mem_map_of_mem (f := (·.1)) hq)
def MapAt {P : Program} {kt : TypeId} (E : KeyEnc P kt κ) (ev : ν → Value) (w : World) (b : Nat) (m : List (κ × ν)) : Prop :=
  ∃ es clock, w.heap[b]? = some (.map es clock) ∧ es.toList.map (fun e => (e.key, e.val)) = m.map (fun p => (E.enc p.1, ev p.2)) ∧ (∀ p ∈ m, E.ok p.1) ∧ (m.map (·.1)).Nodup
variable {P : Program} {kt : TypeId} {E : KeyEnc P kt κ} {ev : ν → Value} {w : World} {b : Nat} {m : List (κ × ν)}
omit [DecidableEq κ] in
theorem MapAt.step {w1 : World} (h : MapAt E ev w b m) (hb : w1.heap[b]? = w.heap[b]?) : MapAt E ev w1 b m := by
  obtain ⟨es, clock, h1, h2⟩ := h
  exact ⟨es, clock, hb.trans h1, h2⟩
omit [DecidableEq κ] in
theorem MapAt.lt (h : MapAt E ev w b m) : b < w.heap.size := by
  obtain ⟨es, clock, h1, _⟩ := h
  exact (Array.getElem?_eq_some_iff.1 h1).1
omit [DecidableEq κ] in
theorem MapAt.is {w1 : World} (h : MapAt E ev w b m) (hw : Is w w1) : MapAt E ev w1 b m := h.step (hw.below.block b h.lt)
omit [DecidableEq κ] in
theorem MapAt.made (w : World) : MapAt E ev (w.alloc (.map #[] 0)) w.heap.size ([] : List (κ × ν)) := ⟨#[], 0, heap_alloc_new w _, rfl, by simp, by simp⟩
theorem map_find (h : MapAt E ev w b m) {k : κ} (hk : E.ok k) : ∃ es clock, w.heap[b]? = some (.map es clock) ∧
    (((Instr.findKey kt (E.enc k) es.toList).run P w = .ok none w ∧ mget m k = none ∧ mput (κ := κ) (ν := ν) m k = fun v => m ++ [(k, v)]) ∨
     ∃ j v0 e0, (Instr.findKey kt (E.enc k) es.toList).run P w = .ok (some (j, ev v0)) w ∧ es[j]? = some e0 ∧ e0.key = E.enc k ∧ m[j]? = some (k, v0) ∧ mget m k = some v0) := by
  obtain ⟨es, clock, h1, h2, h3, h4⟩ := h
  refine ⟨es, clock, h1, ?_⟩
  obtain ⟨l, hl⟩ := E.key k hk
  have hks : ∀ e ∈ es.toList, ∃ l, keyOf P kt e.key = some l := by
    intro e he
    have : (e.key, e.val) ∈ m.map (fun p => (E.enc p.1, ev p.2)) := h2 ▸ List.mem_map_of_mem (f := fun e : MapEntry => (e.key, e.val)) he
    obtain ⟨p, hp, hpe⟩ := List.mem_map.1 this
    have : e.key = E.enc p.1 := (congrArg Prod.fst hpe).symm
    rw [this]
    exact E.key p.1 (h3 p hp)
  rcases E.law.find w hl es.toList hks with ⟨hf, hne⟩ | ⟨j, e0, hf, hj, hke⟩
  · left
    have hne2 : ∀ p ∈ m, p.1 ≠ k := by
      rintro p hp rfl
      have : (E.enc p.1, ev p.2) ∈ es.toList.map (fun e => (e.key, e.val)) := h2 ▸ List.mem_map_of_mem (f := fun p : κ × ν => (E.enc p.1, ev p.2)) hp
      obtain ⟨e, he, hee⟩ := List.mem_map.1 this
      exact hne e he (congrArg Prod.fst hee)
    exact ⟨hf, mget_new hne2, funext fun v => mput_new hne2⟩
  · right
    have hx : (m.map (fun p => (E.enc p.1, ev p.2)))[j]? = some (e0.key, e0.val) := by rw [← h2, List.getElem?_map, hj]; rfl
    rw [List.getElem?_map] at hx
    cases hm : m[j]? with
    | none => rw [hm] at hx; simp at hx
    | some p =>
      rw [hm] at hx
      simp only [Option.map_some, Option.some.injEq, Prod.mk.injEq] at hx
      have hpk : p.1 = k := E.inj _ _ (hx.1.trans hke)
      obtain ⟨p1, p2⟩ := p
      subst hpk
      exact ⟨j, p2, e0, by rw [hf, hx.2], by simpa using hj, hke, hm, mget_at h4 hm⟩
theorem run_mapLookup (h : MapAt E ev w b m) {t e : TypeId} (ht : P.underlying t = some (.map kt e)) {z : Value} (hz : (zeroValue e).run P w = .ok z w) {k : κ} (hk : E.ok k) :
    (Instr.lookup t (.map (some b)) (E.enc k) false).run P w = .ok (((mget m k).map ev).getD z) w := by
  obtain ⟨l, hl⟩ := E.key k hk
  obtain ⟨es, clock, h1, hf | ⟨j, v0, e0, hf, _, _, _, hg⟩⟩ := map_find h hk
  · simp [Instr.lookup, run_underlying ht, MapKept.run_getObj_map h1, E.law.check w _ hl, hf.1, hf.2.1, hz, Result.andThen]
  · simp [Instr.lookup, run_underlying ht, MapKept.run_getObj_map h1, E.law.check w _ hl, hf, hg, Result.andThen]
theorem run_mapStore (h : MapAt E ev w b m) {t e : TypeId} (ht : P.underlying t = some (.map kt e)) {k : κ} (hk : E.ok k) (v : ν) :
    ∃ o, (Instr.mapUpdate t (.map (some b)) (E.enc k) (ev v)).run P w = .ok () (setBlock w b o) ∧ MapAt E ev (setBlock w b o) b (mput m k v) := by
  obtain ⟨l, hl⟩ := E.key k hk
  have hb := h.lt
  have hset : ∀ o, (setBlock w b o).heap[b]? = some o := fun o => by simp [setBlock, hb]
  have hfull := h
  obtain ⟨es', clock', h1', h2, h3, h4⟩ := h
  have hok : ∀ p ∈ mput m k v, E.ok p.1 := fun p hp => by
    rcases mem_mput hp with rfl | hp
    · exact hk
    · exact h3 p hp
  obtain ⟨es, clock, h1, hf | ⟨j, v0, e0, hf, he0, hke, hm, hg⟩⟩ := map_find hfull hk
  · rw [h1] at h1'
    cases h1'
    refine ⟨.map (es'.push { key := E.enc k, val := ev v, born := clock' }) (clock' + 1), ?_, _, _, hset _, ?_, hok, nodup_mput h4 k v⟩
    · simp [Instr.mapUpdate, run_underlying ht, MapKept.run_getObj_map h1, E.law.check w _ hl, hf.1, MapKept.run_setObj_map _ h1, Result.andThen, setBlock]
    · rw [hf.2.2]
      simp [h2]
  · rw [h1] at h1'
    cases h1'
    refine ⟨.map (es'.modify j fun e => { e with key := E.enc k, val := ev v }) clock', ?_, _, _, hset _, ?_, hok, nodup_mput h4 k v⟩
    · simp [Instr.mapUpdate, run_underlying ht, MapKept.run_getObj_map h1, E.law.check w _ hl, hf, he0, hke, E.law.stays w hl, MapKept.run_setObj_map _ h1, Result.andThen, setBlock]
    · rw [mput_at h4 hm]
      apply List.ext_getElem?
      intro i
      have hi := congrArg (fun l => l[i]?) h2
      simp only [List.getElem?_map] at hi ⊢
      rw [Array.getElem?_toList, Array.getElem?_modify, List.getElem?_set]
      have hjl : j < m.length := (List.getElem?_eq_some_iff.1 hm).1
      rw [Array.getElem?_toList] at hi
      by_cases hij : j = i
      · subst hij
        rw [if_pos rfl, if_pos rfl, if_pos hjl, he0]
        rfl
      · rw [if_neg hij, if_neg hij]
        exact hi
end
structure But (w : World) (G : Nat → Prop) where
  val : World
  os : val.os = w.os
  tape : val.tape = w.tape
  output : val.output = w.output
  size : w.heap.size ≤ val.heap.size
  block : ∀ k, k < w.heap.size → ¬ G k → val.heap[k]? = w.heap[k]?
namespace But
variable {w : World} {G : Nat → Prop}
@[go_sem] theorem cell (x : But w G) (b o : Nat) (h : b < w.heap.size) (hG : ¬ G b) : x.val.cell? ⟨b, o, none⟩ = w.cell? ⟨b, o, none⟩ := World.cell?_of_block (a := ⟨b, o, none⟩) (x.block b h hG)
@[go_sem] theorem frozen (x : But w G) (b o : Nat) (h : b < w.heap.size) (hG : ¬ G b) : x.val.frozen? ⟨b, o, none⟩ = w.frozen? ⟨b, o, none⟩ := World.frozen?_of_block (a := ⟨b, o, none⟩) (x.block b h hG)
@[go_sem] theorem lt (x : But w G) (b : Nat) (h : b < w.heap.size) : b < x.val.heap.size := Nat.lt_of_lt_of_le h x.size
def refl (w : World) (G : Nat → Prop) : But w G := ⟨w, rfl, rfl, rfl, Nat.le_refl _, fun _ _ _ => rfl⟩
def under (x : But w G) (y : Under x.val) : But w G := ⟨y.val, y.ok.os.trans x.os, y.ok.tape.trans x.tape, y.ok.output.trans x.output, Nat.le_trans x.size y.ok.size, fun k hk hG => (y.ok.block k (Nat.lt_of_lt_of_le hk x.size)).trans (x.block k hk hG)⟩
def alloc (x : But w G) (o : Obj) : But w G := x.under ((Under.refl x.val).alloc o)
def drew (x : But w G) : But w G := x.under (Under.refl x.val).drew
def set (x : But w G) (b : Nat) (hb : G b) (o : Obj) : But w G := ⟨setBlock x.val b o, x.os, x.tape, x.output, by simpa [setBlock] using x.size, fun k hk hG => by
  have : b ≠ k := fun e => hG (e ▸ hb)
  simp only [setBlock]
  rw [Array.getElem?_setIfInBounds, if_neg this]
  exact x.block k hk hG⟩
theorem is {w0 : World} (x : But w G) (h : Is w0 w) (hG : ∀ k, G k → w0.heap.size ≤ k) : Is w0 x.val := by
  have hb := h.below
  refine Is.of ⟨x.os.trans hb.os, x.tape.trans hb.tape, x.output.trans hb.output, Nat.le_trans hb.size x.size, fun k hk => ?_⟩
  exact (x.block k (Nat.lt_of_lt_of_le hk hb.size) (fun hg => by have := hG k hg; omega)).trans (hb.block k hk)
end But
@[go_sem] theorem setBlock_cell (w : World) (b b' o' : Nat) (o : Obj) (h : b' ≠ b) : (setBlock w b o).cell? ⟨b', o', none⟩ = w.cell? ⟨b', o', none⟩ := by
  refine World.cell?_of_block (a := ⟨b', o', none⟩) ?_
  simp only [setBlock]
  rw [Array.getElem?_setIfInBounds, if_neg (Ne.symm h)]
@[go_sem] theorem setBlock_size (w : World) (b : Nat) (o : Obj) : (setBlock w b o).heap.size = w.heap.size := by simp [setBlock]
def strKey (P : Program) (kt : TypeId) (h : P.underlying kt = some .string) : KeyEnc P kt ByteArray where
  enc := Value.string
  ok := fun s => s.size ≤ maxLen
  law := Maps.string_keyed h
  key := fun s hs => ⟨_, WideMaps.keyOf_string_mk h hs⟩
  inj := fun a b h => by injection h
end Go.Proofs.Ytimjccfpobhpeaa
namespace Go.Proofs.Ytimjccfpobhpeaa
open Go.RowKit Go.Proofs.YtimjccfpobhpeaaW.PrintWords
theorem kd_plain {α : Type} {d : Kd α} {w : World} {A : Option Addr} {n : Nat} {xs : List α} (h : Kd.C d w A n xs) (hz : 0 < d.sz) (hn : 0 < n) : ∃ b o, A = some ⟨b, o, none⟩ ∧ b < w.heap.size := by
  obtain ⟨hl, _, hc⟩ := h
  obtain ⟨ad, rfl, hc2⟩ := hc hn
  obtain ⟨c, hcl, _, hcell⟩ := hc2 0 xs[0] (List.getElem?_eq_getElem (by omega))
  have h0 := hcell 0 c[0] (List.getElem?_eq_getElem (by omega))
  obtain ⟨b, o, spot⟩ := ad
  have h9 := World.cell?_spot h0
  have hspot : spot = none := by simpa [Addr.add] using h9
  subst hspot
  exact ⟨b, o, rfl, by have := block_lt_of_cell h0; rwa [Addr.add_lit] at this⟩
theorem kd_at {α : Type} {d : Kd α} {w : World} {A : Option Addr} {n : Nat} {xs : List α} (h : Kd.C d w A n xs) (hz : 0 < d.sz) {i : Nat} {x : α} (hx : xs[i]? = some x) :
    ∃ b o cs, A = some ⟨b, o, none⟩ ∧ b < w.heap.size ∧ cs.length = d.sz ∧ d.K w x cs ∧ ∀ j u, cs[j]? = some u → w.cell? ⟨b, o + (i * d.sz + j), none⟩ = some u := by
  have hi : i < xs.length := (List.getElem?_eq_some_iff.1 hx).1
  obtain ⟨b, o, rfl, hb⟩ := kd_plain h hz (by have := h.1; omega)
  obtain ⟨hl, _, hc⟩ := h
  obtain ⟨ad, had, hc⟩ := hc (by omega)
  injection had with had
  subst had
  obtain ⟨c, hcl, hK, hcell⟩ := hc i x hx
  exact ⟨b, o, c, rfl, hb, hcl, hK, fun j u hu => by have := hcell j u hu; rwa [Addr.add_lit] at this⟩
theorem kd_len {α : Type} {d : Kd α} {w : World} {A : Option Addr} {n : Nat} {xs : List α} (h : Kd.C d w A n xs) : xs.length = n ∧ (xs.length : Int) ≤ 9223372036854775807 := by
  obtain ⟨hl, hm, _⟩ := h
  exact ⟨hl, by omega⟩
theorem kd_str {w : World} {A : Option Addr} {n : Nat} {xs : List ByteArray} (h : Kd.C Kd.string w A n xs) {i : Nat} {x : ByteArray} (hx : xs[i]? = some x) :
    ∃ b o, A = some ⟨b, o, none⟩ ∧ b < w.heap.size ∧ w.cell? ⟨b, o + i, none⟩ = some (.string x) := by
  obtain ⟨b, o, cs, rfl, hb, _, hK, hc⟩ := kd_at h (by exact Nat.one_pos) hx
  have hK : cs = [.string x] := hK
  subst hK
  refine ⟨b, o, rfl, hb, ?_⟩
  have := hc 0 _ rfl
  simpa [Kd.string, Kd.scalar] using this
theorem kd_int {k : IntKind} {w : World} {A : Option Addr} {n : Nat} {xs : List Int} (h : Kd.C (Kd.int k) w A n xs) {i : Nat} {x : Int} (hx : xs[i]? = some x) :
    ∃ b o, A = some ⟨b, o, none⟩ ∧ b < w.heap.size ∧ w.cell? ⟨b, o + i, none⟩ = some (.int k x) := by
  obtain ⟨b, o, cs, rfl, hb, _, hK, hc⟩ := kd_at h (by exact Nat.one_pos) hx
  have hK : cs = [.int k x] := hK
  subst hK
  refine ⟨b, o, rfl, hb, ?_⟩
  have := hc 0 _ rfl
  simpa [Kd.int, Kd.scalar] using this
end Go.Proofs.Ytimjccfpobhpeaa
namespace Go.Proofs.Ytimjccfpobhpeaa
open Go.RowKit Go.Proofs.YtimjccfpobhpeaaW.PrintWords
open Go.ChangeMaps (setBlock)
set_option maxRecDepth 100000
theorem get_ex {α : Type} {xs : List α} {i : Nat} (h : i < xs.length) : ∃ x, xs[i]? = some x := ⟨xs[i], List.getElem?_eq_getElem h⟩
theorem drop_cons {α : Type} {xs : List α} {i : Nat} {x : α} (h : xs[i]? = some x) : xs.drop i = x :: xs.drop (i + 1) := by
  obtain ⟨hi, rfl⟩ := List.getElem?_eq_some_iff.1 h
  exact List.drop_eq_getElem_cons hi
theorem drop_end {α : Type} (xs : List α) : xs.drop xs.length = [] := List.drop_length
def Aside (p : Prop) : Prop := p
theorem Aside.out {p : Prop} (h : Aside p) : p := h
def charsOk (l : List UInt8) : Bool := l.all fun c => decide (33 ≤ c.toNat) && decide (c.toNat ≤ 126)
def nameOk (s : ByteArray) : Bool := decide (1 ≤ s.size) && decide (s.size ≤ 128) && charsOk s.data.toList
set_option maxHeartbeats 2000000 in
theorem name_calls (s : ByteArray) (w : World) :
    Calls Try.prog 57 #[.string s] w fun e w' => e = .returned (.bool (nameOk s)) ∧ Is w w' := by
  by_cases h1 : 1 ≤ s.size ∧ s.size ≤ 128
  case neg =>
    have hno : nameOk s = false := by
      unfold nameOk
      by_cases h : 1 ≤ s.size
      · have : ¬ s.size ≤ 128 := fun e => h1 ⟨h, e⟩
        simp [this]
      · simp [h]
    rw [hno]
    go_enter Try.func57, Try.ntmps57
    by_cases h : 1 ≤ s.size
    · have h2 : ¬ s.size ≤ 128 := fun e => h1 ⟨h, e⟩
      clear h1 hno
      have q1 : decide ((s.size : Int) < 1) = false := by grind
      have q2 : decide (128 < (s.size : Int)) = true := by grind
      go_wp2
      go_ret
      exact ⟨rfl, Is.refl w⟩
    · clear h1 hno
      have q1 : decide ((s.size : Int) < 1) = true := by grind
      go_wp2
      go_ret
      exact ⟨rfl, Is.refl w⟩
  case pos =>
    obtain ⟨ha, hb⟩ := h1
    have hno : nameOk s = charsOk s.data.toList := by
      unfold nameOk
      simp [ha, hb]
    rw [hno]
    have hconv : ∀ W : World, (convert 9 129 (.string s)).run Try.prog W = .ok (.slice (some ⟨W.heap.size, 0, none⟩) s.size (grownCap W s.size 0 5)) (Lib.bytesWorld W 5 s) := fun W =>
      Lib.run_convert_string_bytes W _ _ _ s Try.underlying9 Try.underlying129 Try.underlying5
    have hW : Is w (Lib.bytesWorld w 5 s) := Is.of ⟨by simp [Lib.bytesWorld, World.freeze, World.alloc, World.drew, -World.alloc_eq, -World.drew_eq], by simp [Lib.bytesWorld, World.freeze, World.alloc, World.drew, -World.alloc_eq, -World.drew_eq], by simp [Lib.bytesWorld, World.freeze, World.alloc, World.drew, -World.alloc_eq, -World.drew_eq], by rw [Lib.bytesWorld_size]; omega, fun k hk => Lib.bytesWorld_at_old w _ s k hk⟩
    go_enter Try.func57, Try.ntmps57
    have q1 : decide ((s.size : Int) < 1) = false := by grind
    have q2 : decide (128 < (s.size : Int)) = false := by grind
    have hcell : ∀ i c, s.data.toList[i]? = some c → (Lib.bytesWorld w 5 s).cell? ⟨w.heap.size, i, none⟩ = some (.int .u8 (c.toNat : Int)) := by
      intro i c hc
      have hi : i < s.size := (List.getElem?_eq_some_iff.1 hc).1
      rw [Lib.bytesWorld_cell w _ s i hi, List.getD, hc]
      rfl
    have hlen : s.data.toList.length = s.size := rfl
    generalize hL : s.data.toList = L at *
    generalize hbw : Lib.bytesWorld w 5 s = bw at *
    have hcell2 := Lib.hid hcell
    have hlen2 := Lib.hid hlen
    have hL2 := Lib.hid hL
    clear hcell hlen hL
    go_wp2
    clear hbw hconv
    go_loopg [4, 16] s.size (fun d _ t wr => ∃ (i : Nat), i + d = s.size ∧ t = .int .i64 i ∧ wr = bw ∧ Aside (charsOk (L.drop i) = charsOk L))
    case atStart => exact ⟨0, by omega, rfl, rfl, rfl⟩
    case round =>
      obtain ⟨i, hi, rfl, rfl, hI⟩ := hrel
      have hi2 := Lib.hid hi
      by_cases hlt : i < s.size
      · obtain ⟨c, hc⟩ := get_ex (xs := L) (i := i) (by rw [hlen2.out]; exact hlt)
        have hcl := hcell2.out i c hc
        obtain ⟨gk, rfl⟩ : ∃ m, gk = m + 1 := ⟨gk - 1, by omega⟩
        rw [drop_cons hc] at hI
        have hI2 := Lib.hid hI.out
        clear hI hc hi
        go_wp2
        all_goals first
          | (go_roundg gk
             case measure => omega
             case rel =>
               refine ⟨i + 1, by have := hi2.out; omega, by go_num, rfl, ?_⟩
               unfold Aside
               rw [← hI2.out]
               unfold charsOk
               rw [List.all_cons]
               have h1 : 33 ≤ c.toNat := by omega
               have h2 : c.toNat ≤ 126 := by omega
               simp [h1, h2])
          | (go_ret
             refine ⟨ret_bool ?_, hW⟩
             rw [← hI2.out]
             unfold charsOk
             rw [List.all_cons]
             have : ¬ (33 ≤ c.toNat ∧ c.toNat ≤ 126) := by omega
             by_cases h1 : 33 ≤ c.toNat
             · have h2 : ¬ c.toNat ≤ 126 := by omega
               simp [h2]
             · simp [h1])
      · obtain rfl : i = s.size := by omega
        go_wp2
        go_ret
        refine ⟨ret_bool ?_, hW⟩
        have := hI.out
        rw [← hlen2.out, drop_end] at this
        rw [← this]; rfl
def nameKey : KeyEnc Try.prog 9 ByteArray := strKey Try.prog 9 Try.underlying9
def inB (s : ByteArray) (l : List ByteArray) : Bool := l.any fun x => decide (x = s)
theorem inB_iff {s : ByteArray} {l : List ByteArray} : inB s l = true ↔ s ∈ l := by
  unfold inB
  rw [List.any_eq_true]
  constructor
  · rintro ⟨x, hx, he⟩
    rw [← of_decide_eq_true he]
    exact hx
  · exact fun h => ⟨s, h, decide_eq_true rfl⟩
def namesF : List ByteArray → List ByteArray → Int
  | _, [] => 0
  | seen, s :: r => if nameOk s then (if inB s seen then 6 else namesF (seen ++ [s]) r) else 9
def seenOf (xs : List ByteArray) : List (ByteArray × Int) := xs.map fun s => (s, 1)
theorem mget_seen (xs : List ByteArray) (s : ByteArray) : mget (seenOf xs) s = if inB s xs then some 1 else none := by
  induction xs with
  | nil => rfl
  | cons x xs ih =>
    unfold seenOf at ih ⊢
    rw [List.map_cons, mget]
    by_cases h : x = s
    · simp [h, inB]
    · rw [if_neg h, ih]
      unfold inB
      rw [List.any_cons, decide_eq_false h, Bool.false_or]
theorem mput_seen (xs : List ByteArray) (s : ByteArray) (h : ¬ inB s xs = true) : mput (seenOf xs) s 1 = seenOf (xs ++ [s]) := by
  rw [mput_new (by
    intro p hp
    obtain ⟨x, hx, rfl⟩ := List.mem_map.1 hp
    rintro rfl
    exact h (inB_iff.2 hx))]
  simp [seenOf]
theorem nameOk_size {s : ByteArray} (h : nameOk s = true) : s.size ≤ maxLen := by
  unfold nameOk at h
  simp only [Bool.and_eq_true, decide_eq_true_eq] at h
  unfold maxLen
  omega
set_option maxHeartbeats 4000000 in
theorem names_calls (A : Option Addr) (c : Nat) (xs : List ByteArray) (w : World) (h : Kd.C Kd.string w A xs.length xs) :
    Calls Try.prog 31 #[.slice A xs.length c] w fun e w' => e = .returned (.int .i64 (namesF [] xs)) ∧ Is w w' := by
  have hm := (kd_len h).2
  have hmm := @run_makeMap Try.prog
  have hz : ∀ W, (zeroValue 3).run Try.prog W = .ok (.int .i64 0) W := fun W => by kernel_rfl
  have hM0 : MapAt nameKey (Value.int .i64) (w.alloc (.map #[] 0)) w.heap.size (seenOf (xs.take 0)) := MapAt.made w
  go_enter Try.func31, Try.ntmps31
  go_wp2
  go_loopg [5, 9] xs.length (fun d _ t wr => ∃ (i : Nat) (z : But (w.alloc (.map #[] 0)) (fun k => k = w.heap.size)), i + d = xs.length ∧ t = .int .i64 i ∧ wr = z.val ∧ MapAt nameKey (Value.int .i64) z.val w.heap.size (seenOf (xs.take i)) ∧ Aside (namesF (xs.take i) (xs.drop i) = namesF [] xs))
  case atStart => exact ⟨0, But.refl _ _, by omega, rfl, rfl, hM0, rfl⟩
  case round =>
    clear hM0
    obtain ⟨i, z, hi, rfl, rfl, hM, hI⟩ := hrel
    have hi2 := Lib.hid hi
    have hwz : Is w z.val := z.is ((Is.refl w).alloc _) (by rintro k rfl; exact Nat.le_refl _)
    by_cases hlt : i < xs.length
    · obtain ⟨s, hs⟩ := get_ex hlt
      obtain ⟨b, o, rfl, hb, hc⟩ := kd_str h hs
      obtain ⟨gk, rfl⟩ : ∃ m, gk = m + 1 := ⟨gk - 1, by omega⟩
      have hbn : b ≠ w.heap.size := by omega
      have hbl : b ≤ w.heap.size := by omega
      rw [drop_cons hs, namesF] at hI
      have hI2 := Lib.hid hI.out
      have hs2 := Lib.hid hs
      clear hI hs hi
      cases hk : nameOk s with
      | false =>
        have hk2 := Lib.hid hk
        clear hk
        go_wp2_with (go_at_call 57; refine (name_calls s _).mono ?_; rw [hk2.out]; rintro e w' ⟨rfl, ⟨v, rfl⟩⟩)
        go_ret
        exact ⟨ret_int (by rw [← hI2.out, hk2.out]; rfl), hwz.step v⟩
      | true =>
        have hk2 := Lib.hid hk
        have hok : nameKey.ok s := nameOk_size hk
        clear hk
        by_cases hd : inB s (xs.take i) = true
        · have hg1 : mget (seenOf (xs.take i)) s = some 1 := by rw [mget_seen, if_pos hd]
          have hlk : ∀ v : Under z.val, (Instr.lookup 120 (.map (some w.heap.size)) (.string s) false).run Try.prog v.val = .ok (.int .i64 1) v.val := fun v =>
            (run_mapLookup (hM.is ⟨v, rfl⟩) Try.underlying120 (hz _) hok).trans (by rw [hg1]; rfl)
          have hup0 : ∀ v : Under z.val, ∃ o, (Instr.mapUpdate 120 (.map (some w.heap.size)) (.string s) (.int .i64 2)).run Try.prog v.val = .ok () (setBlock v.val w.heap.size o) ∧ MapAt nameKey (Value.int .i64) (setBlock v.val w.heap.size o) w.heap.size (mput (seenOf (xs.take i)) s 2) := fun v =>
            run_mapStore (hM.is ⟨v, rfl⟩) Try.underlying120 hok 2
          obtain ⟨ob, hob⟩ := Classical.skolem.1 hup0
          have hup := fun v => (hob v).1
          have hlk2 : ∀ v : Under z.val, (Instr.lookup 120 (.map (some w.heap.size)) (.string s) false).run Try.prog (setBlock v.val w.heap.size (ob v)) = .ok (.int .i64 2) (setBlock v.val w.heap.size (ob v)) := fun v =>
            (run_mapLookup (hob v).2 Try.underlying120 (hz _) hok).trans (by rw [mget_mput, if_pos rfl]; rfl)
          clear hup0 hob hg1
          have hd2 := Lib.hid hd
          clear hd
          have hwz2 : ∀ v : Under z.val, Is w (setBlock v.val w.heap.size (ob v)) := fun v => ((z.under v).set _ rfl (ob v)).is ((Is.refl w).alloc _) (by rintro k rfl; exact Nat.le_refl _)
          go_wp2_with (go_at_call 57; refine (name_calls s _).mono ?_; rw [hk2.out]; rintro e w' ⟨rfl, ⟨v, rfl⟩⟩)
          go_ret
          exact ⟨ret_int (by rw [← hI2.out, hk2.out, if_pos rfl, if_pos hd2.out]), hwz2 _⟩
        · have hg1 : mget (seenOf (xs.take i)) s = none := by rw [mget_seen, if_neg hd]
          have hlk : ∀ v : Under z.val, (Instr.lookup 120 (.map (some w.heap.size)) (.string s) false).run Try.prog v.val = .ok (.int .i64 0) v.val := fun v =>
            (run_mapLookup (hM.is ⟨v, rfl⟩) Try.underlying120 (hz _) hok).trans (by rw [hg1]; rfl)
          have hup0 : ∀ v : Under z.val, ∃ o, (Instr.mapUpdate 120 (.map (some w.heap.size)) (.string s) (.int .i64 1)).run Try.prog v.val = .ok () (setBlock v.val w.heap.size o) ∧ MapAt nameKey (Value.int .i64) (setBlock v.val w.heap.size o) w.heap.size (mput (seenOf (xs.take i)) s 1) := fun v =>
            run_mapStore (hM.is ⟨v, rfl⟩) Try.underlying120 hok 1
          obtain ⟨ob, hob⟩ := Classical.skolem.1 hup0
          have hup := fun v => (hob v).1
          have hob2 := Lib.hid (fun v => (hob v).2)
          have hlk2 : ∀ v : Under z.val, (Instr.lookup 120 (.map (some w.heap.size)) (.string s) false).run Try.prog (setBlock v.val w.heap.size (ob v)) = .ok (.int .i64 1) (setBlock v.val w.heap.size (ob v)) := fun v =>
            (run_mapLookup (hob v).2 Try.underlying120 (hz _) hok).trans (by rw [mget_mput, if_pos rfl]; rfl)
          clear hup0 hob hg1
          have hd2 := Lib.hid hd
          clear hd
          go_wp2_with (go_at_call 57; refine (name_calls s _).mono ?_; rw [hk2.out]; rintro e w' ⟨rfl, ⟨v, rfl⟩⟩)
          go_roundg gk
          case measure => omega
          case rel =>
            refine ⟨i + 1, (z.under v).set _ rfl (ob v), by have := hi2.out; omega, by go_num, rfl, ?_, ?_⟩
            · rw [List.take_add_one, hs2.out, Option.toList_some, ← mput_seen _ _ hd2.out]
              exact hob2.out v
            · unfold Aside
              rw [← hI2.out, hk2.out, if_pos rfl, if_neg hd2.out, List.take_add_one, hs2.out, Option.toList_some]
    · obtain rfl : i = xs.length := by omega
      obtain rfl : gk = 0 := by omega
      rw [drop_end, namesF] at hI
      have hI2 := Lib.hid hI.out
      clear hI hi
      go_wp2
      go_ret
      exact ⟨ret_int (by rw [← hI2.out]), hwz⟩
end Go.Proofs.Ytimjccfpobhpeaa
namespace Go.Proofs.Ytimjccfpobhpeaa.PF
open Go.RowKit Go.Proofs.YtimjccfpobhpeaaW.PrintWords Go.Proofs.YtimjccfpobhpeaaW.PrintLast Go.Proofs.YtimjccfpobhpeaaW.PrintMore
set_option linter.unusedVariables false
set_option linter.unusedSimpArgs false
theorem info9 : (Try.prog.info? 9).map (fun i => (i.zero, i.size, i.bytes)) = some (some (.string ⟨#[]⟩), 1, 16) := by kernel_rfl
theorem info29 : (Try.prog.info? 29).map (fun i => (i.zero, i.size, i.bytes)) = some (some (.agg #[(.int .i64 0), (.int .i64 0), (.bool false)]), 3, 24) := by kernel_rfl
theorem info78 : (Try.prog.info? 78).map (fun i => (i.zero, i.size, i.bytes)) = some (some (.int .u64 0), 1, 8) := by kernel_rfl
structure S82 where
  f0 : ByteArray
  f1 : Int
  f2 : Int
  f3 : Int
  f4 : Bool
def z82 : S82 := ⟨(⟨#[]⟩ : ByteArray), (0 : Int), (0 : Int), (0 : Int), false⟩
def k82 : Kd S82 := Kd.iso (Kd.pair Kd.string (Kd.pair (Kd.int .i64) (Kd.pair (Kd.int .i64) (Kd.pair (Kd.int .i64) Kd.bool)))) (fun x : S82 => (x.f0, x.f1, x.f2, x.f3, x.f4))
theorem k82_open {w : World} {x : S82} {cs : List Value} (h : k82.K w x cs) : cs = [.string x.f0, .int .i64 x.f1, .int .i64 x.f2, .int .i64 x.f3, .bool x.f4] := by
  obtain ⟨_, _, rfl, rfl, ⟨_, _, rfl, rfl, ⟨_, _, rfl, rfl, ⟨_, _, rfl, rfl, rfl⟩⟩⟩⟩ := h
  exact rfl
theorem k82_openM {w : World} {base : Nat} {ok : Nat → Prop} {x : S82} {cs : List Value} (h : k82.M w base ok x cs) : cs = [.string x.f0, .int .i64 x.f1, .int .i64 x.f2, .int .i64 x.f3, .bool x.f4] := by
  obtain ⟨_, _, rfl, rfl, ⟨_, _, rfl, rfl, ⟨_, _, rfl, rfl, ⟨_, _, rfl, rfl, rfl⟩⟩⟩⟩ := h
  exact rfl
theorem k82_mkM (w : World) (base : Nat) (ok : Nat → Prop) (x : S82)  : k82.M w base ok x [.string x.f0, .int .i64 x.f1, .int .i64 x.f2, .int .i64 x.f3, .bool x.f4] := ⟨[.string x.f0], [.int .i64 x.f1, .int .i64 x.f2, .int .i64 x.f3, .bool x.f4], rfl, rfl, ⟨[.int .i64 x.f1], [.int .i64 x.f2, .int .i64 x.f3, .bool x.f4], rfl, rfl, ⟨[.int .i64 x.f2], [.int .i64 x.f3, .bool x.f4], rfl, rfl, ⟨[.int .i64 x.f3], [.bool x.f4], rfl, rfl, rfl⟩⟩⟩⟩
def rd_T82 (xs : List S82) (i : Int) : S82 := xs.getD i.toNat z82
theorem at_T82 {w : World} {A : Option Addr} {n : Nat} {xs : List S82} (h : Kd.C k82 w A n xs) (i : Int) (h0 : 0 ≤ i) (h1 : i < n) : ∃ ad , A = some ad ∧ w.cell? (ad.add (i.toNat * 5)) = some (.string (rd_T82 xs i).f0) ∧ w.cell? ⟨(ad.add (i.toNat * 5)).block, (ad.add (i.toNat * 5)).off + 1, none⟩ = some (.int .i64 (rd_T82 xs i).f1) ∧ w.cell? ⟨(ad.add (i.toNat * 5)).block, (ad.add (i.toNat * 5)).off + 2, none⟩ = some (.int .i64 (rd_T82 xs i).f2) ∧ w.cell? ⟨(ad.add (i.toNat * 5)).block, (ad.add (i.toNat * 5)).off + 3, none⟩ = some (.int .i64 (rd_T82 xs i).f3) ∧ w.cell? ⟨(ad.add (i.toNat * 5)).block, (ad.add (i.toNat * 5)).off + 4, none⟩ = some (.bool (rd_T82 xs i).f4) := by
  obtain ⟨ad, c, e, _, hK, hc0⟩ := Kd.C_get h z82 i h0 h1
  have hc : ∀ j u, c[j]? = some u → w.cell? (ad.add (i.toNat * 5 + j)) = some u := hc0
  obtain rfl := k82_open hK
  exact ⟨ad, e, hc 0 _ rfl, by rw [← add_field _ _ 1 (by omega)]; exact hc 1 _ rfl, by rw [← add_field _ _ 2 (by omega)]; exact hc 2 _ rfl, by rw [← add_field _ _ 3 (by omega)]; exact hc 3 _ rfl, by rw [← add_field _ _ 4 (by omega)]; exact hc 4 _ rfl⟩
structure S80 where
  f0 : Int
  f1 : Int
  f2 : (List Int)
def z80 : S80 := ⟨(0 : Int), (0 : Int), ([] : List Int)⟩
def k80 : Kd S80 := Kd.iso (Kd.pair (Kd.int .i64) (Kd.pair (Kd.int .u64) (Kd.slice 3 (Kd.int .i64)))) (fun x : S80 => (x.f0, x.f1, x.f2))
theorem k80_open {w : World} {x : S80} {cs : List Value} (h : k80.K w x cs) : ∃ A2 c2, cs = [.int .i64 x.f0, .int .u64 x.f1, .slice A2 x.f2.length c2] ∧ x.f2.length ≤ c2 ∧ (Kd.int .i64).C w A2 x.f2.length x.f2 := by
  obtain ⟨_, _, rfl, rfl, ⟨_, _, rfl, rfl, ⟨A2, c2, rfl, l2, g2⟩⟩⟩ := h
  exact ⟨A2, c2, rfl, l2, g2⟩
theorem k80_openM {w : World} {base : Nat} {ok : Nat → Prop} {x : S80} {cs : List Value} (h : k80.M w base ok x cs) : ∃ v2, cs = [.int .i64 x.f0, .int .u64 x.f1, v2] ∧ (Kd.int .i64).R 3 w base ok v2 x.f2 := by
  obtain ⟨_, _, rfl, rfl, ⟨_, _, rfl, rfl, ⟨v2, rfl, g2⟩⟩⟩ := h
  exact ⟨v2, rfl, g2⟩
theorem k80_mk (w : World) (x : S80) {A2 : Option Addr} {c2 : Nat} (l2 : x.f2.length ≤ c2) (g2 : (Kd.int .i64).C w A2 x.f2.length x.f2) : k80.K w x [.int .i64 x.f0, .int .u64 x.f1, .slice A2 x.f2.length c2] := ⟨[.int .i64 x.f0], [.int .u64 x.f1, .slice A2 x.f2.length c2], rfl, rfl, ⟨[.int .u64 x.f1], [.slice A2 x.f2.length c2], rfl, rfl, ⟨A2, c2, rfl, l2, g2⟩⟩⟩
theorem k80_mkM (w : World) (base : Nat) (ok : Nat → Prop) (x : S80) {v2 : Value} (g2 : (Kd.int .i64).R 3 w base ok v2 x.f2) : k80.M w base ok x [.int .i64 x.f0, .int .u64 x.f1, v2] := ⟨[.int .i64 x.f0], [.int .u64 x.f1, v2], rfl, rfl, ⟨[.int .u64 x.f1], [v2], rfl, rfl, ⟨v2, rfl, g2⟩⟩⟩
theorem k80_openF {W : World} {ok : Nat → Prop} {x : S80} {cs : List Value} (h : Kd.FK k80 W ok x cs) : ∃ A2 c2, cs = [.int .i64 x.f0, .int .u64 x.f1, .slice A2 x.f2.length c2] ∧ x.f2.length ≤ c2 ∧ Kd.F (Kd.int .i64) W ok A2 x.f2.length x.f2 := by
  obtain ⟨A2, c2, rfl, l2, _⟩ := k80_open (Kd.FK_now h)
  exact ⟨A2, c2, rfl, l2, (fun W' hW => by obtain ⟨A2_, c2_, he, l2_, g2_⟩ := k80_open (h W' hW); injection (Option.some.inj (show some (Value.slice A2 x.f2.length c2) = some (Value.slice A2_ x.f2.length c2_) from congrArg (fun l => l[2]?) he)) with ha_ _ _; rw [ha_]; exact g2_)⟩
theorem k80_mkF (W : World) (ok : Nat → Prop) (x : S80) {A2 : Option Addr} {c2 : Nat} (l2 : x.f2.length ≤ c2) (g2 : Kd.F (Kd.int .i64) W ok A2 x.f2.length x.f2) : Kd.FK k80 W ok x [.int .i64 x.f0, .int .u64 x.f1, .slice A2 x.f2.length c2] := fun W2 hW => k80_mk W2 x l2 (g2 W2 hW)
def rd_T80 (xs : List S80) (i : Int) : S80 := xs.getD i.toNat z80
theorem at_T80 {w : World} {A : Option Addr} {n : Nat} {xs : List S80} (h : Kd.C k80 w A n xs) (i : Int) (h0 : 0 ≤ i) (h1 : i < n) : ∃ ad A2 c2, A = some ad ∧ w.cell? (ad.add (i.toNat * 3)) = some (.int .i64 (rd_T80 xs i).f0) ∧ w.cell? ⟨(ad.add (i.toNat * 3)).block, (ad.add (i.toNat * 3)).off + 1, none⟩ = some (.int .u64 (rd_T80 xs i).f1) ∧ w.cell? ⟨(ad.add (i.toNat * 3)).block, (ad.add (i.toNat * 3)).off + 2, none⟩ = some (.slice A2 (rd_T80 xs i).f2.length c2) ∧ (rd_T80 xs i).f2.length ≤ c2 ∧ (Kd.int .i64).C w A2 (rd_T80 xs i).f2.length (rd_T80 xs i).f2 := by
  obtain ⟨ad, c, e, _, hK, hc0⟩ := Kd.C_get h z80 i h0 h1
  have hc : ∀ j u, c[j]? = some u → w.cell? (ad.add (i.toNat * 3 + j)) = some u := hc0
  obtain ⟨A2, c2, rfl, l2, g2⟩ := k80_open hK
  exact ⟨ad, A2, c2, e, hc 0 _ rfl, by rw [← add_field _ _ 1 (by omega)]; exact hc 1 _ rfl, by rw [← add_field _ _ 2 (by omega)]; exact hc 2 _ rfl, l2, g2⟩
structure S77 where
  f0 : Int
  f1 : Int
  f2 : Int
def k77 : Kd S77 := Kd.iso (Kd.pair (Kd.int .i64) (Kd.pair (Kd.int .i64) (Kd.int .i64))) (fun x : S77 => (x.f0, x.f1, x.f2))
theorem k77_open {w : World} {x : S77} {cs : List Value} (h : k77.K w x cs) : cs = [.int .i64 x.f0, .int .i64 x.f1, .int .i64 x.f2] := by
  obtain ⟨_, _, rfl, rfl, ⟨_, _, rfl, rfl, rfl⟩⟩ := h
  exact rfl
theorem k77_mkM (w : World) (base : Nat) (ok : Nat → Prop) (x : S77)  : k77.M w base ok x [.int .i64 x.f0, .int .i64 x.f1, .int .i64 x.f2] := ⟨[.int .i64 x.f0], [.int .i64 x.f1, .int .i64 x.f2], rfl, rfl, ⟨[.int .i64 x.f1], [.int .i64 x.f2], rfl, rfl, rfl⟩⟩
def rd_L12 (xs : List (List S77)) (i : Int) : (List S77) := xs.getD i.toNat ([] : List S77)
theorem at_L12 {w : World} {A : Option Addr} {n : Nat} {xs : List (List S77)} (h : Kd.C (Kd.slice 77 k77) w A n xs) (i : Int) (h0 : 0 ≤ i) (h1 : i < n) : ∃ ad A0 c0, A = some ad ∧ w.cell? (ad.add i.toNat) = some (.slice A0 (rd_L12 xs i).length c0) ∧ (rd_L12 xs i).length ≤ c0 ∧ k77.C w A0 (rd_L12 xs i).length (rd_L12 xs i) := by
  obtain ⟨ad, c, e, _, hK, hc0⟩ := Kd.C_get h ([] : List S77) i h0 h1
  have hc : ∀ j u, c[j]? = some u → w.cell? (ad.add (i.toNat * 1 + j)) = some u := hc0
  obtain ⟨A0, c0, rfl, l0, g0⟩ := hK
  exact ⟨ad, A0, c0, e, by have hq := hc 0 _ rfl; rwa [Nat.mul_one, Nat.add_zero] at hq, l0, g0⟩
structure S29 where
  f0 : Int
  f1 : Int
  f2 : Bool
def k29 : Kd S29 := Kd.iso (Kd.pair (Kd.int .i64) (Kd.pair (Kd.int .i64) Kd.bool)) (fun x : S29 => (x.f0, x.f1, x.f2))
theorem k29_mkM (w : World) (base : Nat) (ok : Nat → Prop) (x : S29)  : k29.M w base ok x [.int .i64 x.f0, .int .i64 x.f1, .bool x.f2] := ⟨[.int .i64 x.f0], [.int .i64 x.f1, .bool x.f2], rfl, rfl, ⟨[.int .i64 x.f1], [.bool x.f2], rfl, rfl, rfl⟩⟩
structure S55 where
  f0 : (List Bool)
  f1 : (List Bool)
def z55 : S55 := ⟨([] : List Bool), ([] : List Bool)⟩
def k55 : Kd S55 := Kd.iso (Kd.pair (Kd.slice 4 Kd.bool) (Kd.slice 4 Kd.bool)) (fun x : S55 => (x.f0, x.f1))
theorem k55_open {w : World} {x : S55} {cs : List Value} (h : k55.K w x cs) : ∃ A0 c0 A1 c1, cs = [.slice A0 x.f0.length c0, .slice A1 x.f1.length c1] ∧ x.f0.length ≤ c0 ∧ Kd.bool.C w A0 x.f0.length x.f0 ∧ x.f1.length ≤ c1 ∧ Kd.bool.C w A1 x.f1.length x.f1 := by
  obtain ⟨_, _, rfl, ⟨A0, c0, rfl, l0, g0⟩, ⟨A1, c1, rfl, l1, g1⟩⟩ := h
  exact ⟨A0, c0, A1, c1, rfl, l0, g0, l1, g1⟩
def rd_T55 (xs : List S55) (i : Int) : S55 := xs.getD i.toNat z55
theorem at_T55 {w : World} {A : Option Addr} {n : Nat} {xs : List S55} (h : Kd.C k55 w A n xs) (i : Int) (h0 : 0 ≤ i) (h1 : i < n) : ∃ ad A0 c0 A1 c1, A = some ad ∧ w.cell? (ad.add (i.toNat * 2)) = some (.slice A0 (rd_T55 xs i).f0.length c0) ∧ w.cell? ⟨(ad.add (i.toNat * 2)).block, (ad.add (i.toNat * 2)).off + 1, none⟩ = some (.slice A1 (rd_T55 xs i).f1.length c1) ∧ (rd_T55 xs i).f0.length ≤ c0 ∧ Kd.bool.C w A0 (rd_T55 xs i).f0.length (rd_T55 xs i).f0 ∧ (rd_T55 xs i).f1.length ≤ c1 ∧ Kd.bool.C w A1 (rd_T55 xs i).f1.length (rd_T55 xs i).f1 := by
  obtain ⟨ad, c, e, _, hK, hc0⟩ := Kd.C_get h z55 i h0 h1
  have hc : ∀ j u, c[j]? = some u → w.cell? (ad.add (i.toNat * 2 + j)) = some u := hc0
  obtain ⟨A0, c0, A1, c1, rfl, l0, g0, l1, g1⟩ := k55_open hK
  exact ⟨ad, A0, c0, A1, c1, e, hc 0 _ rfl, by rw [← add_field _ _ 1 (by omega)]; exact hc 1 _ rfl, l0, g0, l1, g1⟩
end Go.Proofs.Ytimjccfpobhpeaa.PF
namespace Go.Proofs.Ytimjccfpobhpeaa
open Go.RowKit Go.Proofs.YtimjccfpobhpeaaW.PrintWords Go.Proofs.Ytimjccfpobhpeaa.PF
set_option maxRecDepth 100000
theorem kd_fresh {α : Type} (d : Kd α) (e : Nat) (w : World) (base : Nat) (hb : base ≤ w.heap.size) : Kd.R d e (w.alloc (.cells #[] e)) base (fun _ => True) (.slice (some ⟨w.heap.size, 0, none⟩) 0 0) [] := by
  refine ⟨fun _ _ => trivial, [], ?_, Reps.none _ _⟩
  have h2 := World.ownsRow_lit (base := base) (e := e) (size := d.sz) w #[] 0 hb (by simp [maxLen]) (by simp)
  simpa using h2
theorem kd_nil {α : Type} {d : Kd α} {w : World} {n : Nat} {xs : List α} (h : Kd.C d w none n xs) : xs = [] := by
  obtain ⟨hl, _, hc⟩ := h
  rcases Nat.eq_zero_or_pos n with h0 | h0
  · exact List.eq_nil_of_length_eq_zero (by omega)
  · obtain ⟨ad, h, _⟩ := hc h0
    cases h
def kGateF (w0 : World) : Kd S80 := Kd.iso (Kd.pair (Kd.int .i64) (Kd.pair (Kd.int .u64) (Kd.fixed (Kd.slice 3 (Kd.int .i64)) w0))) (fun x : S80 => (x.f0, x.f1, x.f2))
theorem kGateF_mk {w0 w : World} {base : Nat} {x : S80} {cs : List Value} (h : k80.K w0 x cs) : (kGateF w0).M w base (fun _ => False) x cs := by
  obtain ⟨A2, c2, rfl, l2, g2⟩ := k80_open h
  exact ⟨[_], [_, _], rfl, rfl, [_], [_], rfl, rfl, A2, c2, rfl, l2, g2⟩
theorem info_strs : (Try.prog.info? 9).map (fun i => (i.zero, i.size, i.bytes)) = some (some (.string ⟨#[]⟩), Kd.string.sz, 16) := by kernel_rfl
set_option maxHeartbeats 2000000 in
theorem clone_strs (A : Option Addr) (c : Nat) (ys : List ByteArray) (w : World) (h : Kd.C Kd.string w A ys.length ys) (hmax : ys.length * 16 ≤ 140737488355328) :
    Calls Try.prog 30 #[.slice A ys.length c] w fun e w' => ∃ v, e = .returned v ∧ Kd.R Kd.string 9 w' w.heap.size (fun _ => True) v ys ∧ Below w.heap.size w w' := by
  have hu := Try.underlying22
  rcases A with _ | ad
  · obtain rfl := kd_nil h
    go_enter Try.func30, Try.ntmps30
    have heq : ∀ W : World, (binOp .eql 22 (.slice none 0 c) (.slice none 0 0)).run Try.prog W = .ok (.bool true) W := fun W => Lib.run_eql_slice_nil_nil W 0 c hu
    go_wp2
    go_ret
    exact ⟨_, rfl, Kd.R_nil _ _ _ _ _, Below.refl _ _⟩
  · have heq : ∀ W : World, (binOp .eql 22 (.slice (some ad) ys.length c) (.slice none 0 0)).run Try.prog W = .ok (.bool false) W := fun W => Lib.run_eql_slice_nil W _ _ _ _ _ _ _ hu
    have hf := kd_fresh Kd.string 9 w w.heap.size (Nat.le_refl _)
    have hW : Below w.heap.size w (w.alloc (.cells #[] 9)) := (Below.refl _ _).alloc (Nat.le_refl _) _
    go_enter Try.func30, Try.ntmps30
    go_wp2_with (at_builtin; refine Kd.R_append_rows Kd.string (Rr := Kd.string.K w) (w0 := w) w.heap.size rfl (.tmp 5) (.tmp 6) 22 9 _ 16 rfl Try.underlying22 info_strs rfl (Nat.succ_pos _) (by decide) _ [] ys (some ad) ys.length c (fun _ => True) (fun _ => False) rfl rfl hf ?hR (fun _ _ hK => hK) (fun _ hk => hk.elim) (fun _ _ => trivial) hW (by simp) (by simpa using hmax) ?_; (case hR => exact { h.imp_ hW (fun _ _ hK => hK) with }); intro v1 w1 hR1 hB1 hg1 hat1)
    go_ret
    exact ⟨_, rfl, hR1, hB1⟩
theorem info_ints : (Try.prog.info? 3).map (fun i => (i.zero, i.size, i.bytes)) = some (some (.int .i64 0), (Kd.int .i64).sz, 8) := by kernel_rfl
set_option maxHeartbeats 2000000 in
theorem clone_ints (A : Option Addr) (c : Nat) (ys : List Int) (w : World) (h : Kd.C (Kd.int .i64) w A ys.length ys) (hmax : ys.length * 8 ≤ 140737488355328) :
    Calls Try.prog 56 #[.slice A ys.length c] w fun e w' => ∃ v, e = .returned v ∧ Kd.R (Kd.int .i64) 3 w' w.heap.size (fun _ => True) v ys ∧ Below w.heap.size w w' := by
  have hu := Try.underlying25
  rcases A with _ | ad
  · obtain rfl := kd_nil h
    go_enter Try.func56, Try.ntmps56
    have heq : ∀ W : World, (binOp .eql 25 (.slice none 0 c) (.slice none 0 0)).run Try.prog W = .ok (.bool true) W := fun W => Lib.run_eql_slice_nil_nil W 0 c hu
    go_wp2
    go_ret
    exact ⟨_, rfl, Kd.R_nil _ _ _ _ _, Below.refl _ _⟩
  · have heq : ∀ W : World, (binOp .eql 25 (.slice (some ad) ys.length c) (.slice none 0 0)).run Try.prog W = .ok (.bool false) W := fun W => Lib.run_eql_slice_nil W _ _ _ _ _ _ _ hu
    have hf := kd_fresh (Kd.int .i64) 3 w w.heap.size (Nat.le_refl _)
    have hW : Below w.heap.size w (w.alloc (.cells #[] 3)) := (Below.refl _ _).alloc (Nat.le_refl _) _
    go_enter Try.func56, Try.ntmps56
    go_wp2_with (at_builtin; refine Kd.R_append_rows (Kd.int .i64) (Rr := (Kd.int .i64).K w) (w0 := w) w.heap.size rfl (.tmp 5) (.tmp 6) 25 3 _ 8 rfl Try.underlying25 info_ints rfl (Nat.succ_pos _) (by decide) _ [] ys (some ad) ys.length c (fun _ => True) (fun _ => False) rfl rfl hf ?hR (fun _ _ hK => hK) (fun _ hk => hk.elim) (fun _ _ => trivial) hW (by simp) (by simpa using hmax) ?_; (case hR => exact { h.imp_ hW (fun _ _ hK => hK) with }); intro v1 w1 hR1 hB1 hg1 hat1)
    go_ret
    exact ⟨_, rfl, hR1, hB1⟩
theorem info_flops : (Try.prog.info? 82).map (fun i => (i.zero, i.size, i.bytes)) = some (some (.agg #[.string ⟨#[]⟩, .int .i64 0, .int .i64 0, .int .i64 0, .bool false]), k82.sz, 48) := by kernel_rfl
set_option maxHeartbeats 2000000 in
theorem clone_flops (A : Option Addr) (c : Nat) (ys : List S82) (w : World) (h : Kd.C k82 w A ys.length ys) (hmax : ys.length * 48 ≤ 140737488355328) :
    Calls Try.prog 54 #[.slice A ys.length c] w fun e w' => ∃ v, e = .returned v ∧ Kd.R k82 82 w' w.heap.size (fun _ => True) v ys ∧ Below w.heap.size w w' := by
  have hu := Try.underlying23
  rcases A with _ | ad
  · obtain rfl := kd_nil h
    go_enter Try.func54, Try.ntmps54
    have heq : ∀ W : World, (binOp .eql 23 (.slice none 0 c) (.slice none 0 0)).run Try.prog W = .ok (.bool true) W := fun W => Lib.run_eql_slice_nil_nil W 0 c hu
    go_wp2
    go_ret
    exact ⟨_, rfl, Kd.R_nil _ _ _ _ _, Below.refl _ _⟩
  · have heq : ∀ W : World, (binOp .eql 23 (.slice (some ad) ys.length c) (.slice none 0 0)).run Try.prog W = .ok (.bool false) W := fun W => Lib.run_eql_slice_nil W _ _ _ _ _ _ _ hu
    have hf := kd_fresh k82 82 w w.heap.size (Nat.le_refl _)
    have hW : Below w.heap.size w (w.alloc (.cells #[] 82)) := (Below.refl _ _).alloc (Nat.le_refl _) _
    go_enter Try.func54, Try.ntmps54
    go_wp2_with (at_builtin; refine Kd.R_append_rows k82 (Rr := k82.K w) (w0 := w) w.heap.size rfl (.tmp 5) (.tmp 6) 23 82 _ 48 rfl Try.underlying23 info_flops rfl (Nat.succ_pos _) (by decide) _ [] ys (some ad) ys.length c (fun _ => True) (fun _ => False) rfl rfl hf ?hR (fun _ _ hK => (by obtain rfl := k82_open hK; exact k82_mkM _ _ _ _)) (fun _ hk => hk.elim) (fun _ _ => trivial) hW (by simp) (by simpa using hmax) ?_; (case hR => exact { h.imp_ hW (fun _ _ hK => hK) with }); intro v1 w1 hR1 hB1 hg1 hat1)
    go_ret
    exact ⟨_, rfl, hR1, hB1⟩
theorem info_gates : (Try.prog.info? 80).map (fun i => (i.zero, i.size, i.bytes)) = some (some (.agg #[.int .i64 0, .int .u64 0, .slice none 0 0]), 3, 40) := by kernel_rfl
set_option maxHeartbeats 2000000 in
theorem clone_gates (A : Option Addr) (c : Nat) (ys : List S80) (w0 w : World) (hb0 : Below w0.heap.size w0 w) (h : Kd.C k80 w0 A ys.length ys) (hmax : ys.length * 40 ≤ 140737488355328) :
    Calls Try.prog 55 #[.slice A ys.length c] w fun e w' => ∃ v, e = .returned v ∧ Kd.R (kGateF w0) 80 w' w.heap.size (fun _ => True) v ys ∧ Below w.heap.size w w' := by
  have hu := Try.underlying24
  rcases A with _ | ad
  · obtain rfl := kd_nil h
    go_enter Try.func55, Try.ntmps55
    have heq : ∀ W : World, (binOp .eql 24 (.slice none 0 c) (.slice none 0 0)).run Try.prog W = .ok (.bool true) W := fun W => Lib.run_eql_slice_nil_nil W 0 c hu
    go_wp2
    go_ret
    exact ⟨_, rfl, Kd.R_nil _ _ _ _ _, Below.refl _ _⟩
  · have heq : ∀ W : World, (binOp .eql 24 (.slice (some ad) ys.length c) (.slice none 0 0)).run Try.prog W = .ok (.bool false) W := fun W => Lib.run_eql_slice_nil W _ _ _ _ _ _ _ hu
    have hf := kd_fresh (kGateF w0) 80 w w.heap.size (Nat.le_refl _)
    have hW : Below w.heap.size w (w.alloc (.cells #[] 80)) := (Below.refl _ _).alloc (Nat.le_refl _) _
    go_enter Try.func55, Try.ntmps55
    go_wp2_with (at_builtin; refine Kd.R_append_rows (kGateF w0) (Rr := k80.K w0) (w0 := w) w.heap.size rfl (.tmp 5) (.tmp 6) 24 80 _ 40 rfl Try.underlying24 info_gates rfl (Nat.succ_pos _) (by decide) _ [] ys (some ad) ys.length c (fun _ => True) (fun _ => False) rfl rfl hf ?hR (fun _ _ hK => kGateF_mk hK) (fun _ hk => hk.elim) (fun _ _ => trivial) hW (by simp) (by simpa using hmax) ?_; (case hR => exact { h.imp_ (hb0.trans (hW.mono hb0.size)) (fun _ _ hK => hK) with }); intro v1 w1 hR1 hB1 hg1 hat1)
    go_ret
    exact ⟨_, rfl, hR1, hB1⟩
end Go.Proofs.Ytimjccfpobhpeaa
namespace Go.Proofs.Ytimjccfpobhpeaa
open Go.RowKit
def rdr (o : Oper) : Bool :=
  match o.op with
  | .move _ | .assign _ | .pick _ _ _ | .load _ _ | .binOp _ _ _ _ _ | .unOp _ _ _ | .convert _ _ _ | .slice _ _ _ _ _ | .fieldAddr _ _ _ | .field _ _ _ | .indexAddr _ _ _ | .index _ _ _
  | .lookup _ _ _ _ | .extract _ _ | .build _ _ | .makeFunc _ _ _ | .makeInterface _ _ => true
  | .call c => (match c.callee with | .builtin .len => true | _ => false)
  | _ => false
def pickB : List Bool → List Oper → List Oper
  | true :: m, o :: l => o :: pickB m l
  | false :: m, _ :: l => pickB m l
  | _, _ => []
def dropB : List Bool → List Oper → List Oper
  | true :: m, _ :: l => dropB m l
  | false :: m, o :: l => o :: dropB m l
  | _, _ => []
def readersB (md : Region.Mode) (ops : Array Oper) : List Bool → Nat → Array Bool → Bool
  | [], _, _ => true
  | true :: m, k, listed => (Region.ready md ops listed).contains k && Region.free md ops listed k && ((ops[k]?).map rdr).getD false && readersB md ops m (k + 1) (listed.setIfInBounds k true)
  | false :: m, k, listed => readersB md ops m (k + 1) listed
def listedB : List Bool → Nat → Array Bool → Array Bool
  | [], _, listed => listed
  | true :: m, k, listed => listedB m (k + 1) (listed.setIfInBounds k true)
  | false :: m, k, listed => listedB m (k + 1) listed
def effectsB (md : Region.Mode) (ops : Array Oper) : List Bool → Nat → Array Bool → Bool
  | [], _, listed => (Region.ready md ops listed).isEmpty
  | false :: m, k, listed => (Region.ready md ops listed == [k]) && effectsB md ops m (k + 1) (listed.setIfInBounds k true)
  | true :: m, k, listed => effectsB md ops m (k + 1) listed
def splitB (md : Region.Mode) (ops : Array Oper) (m : List Bool) : Bool :=
  Region.noSelect ops && (m.length == ops.size) && readersB md ops m 0 (Array.replicate ops.size false) && effectsB md ops m 0 (listedB m 0 (Array.replicate ops.size false))
section
variable {P : Program} {ops : Array Oper} {S : World → Prop} {Q : Exit → Act → World → Prop} {md : Region.Mode}
def wpListS (P : Program) (ops : Array Oper) (S : World → Prop) (Q : Exit → Act → World → Prop) : List Oper → Act → World → Prop
  | [], a, w => Q .normal a w
  | o :: rest, a, w => if Region.wanted o (yielded ops a.tmps) then o.wp P a w (fun a' w' => S w' ∧ wpListS P ops S Q rest a' w') Q ∨ (o.asks P a w ∧ LetsOut Q) else wpListS P ops S Q rest (a.put o.dst undef) w
theorem quiet_reads {o : Oper} {a : Act} {w : World} {v : Value} (hr : rdr o = true) (h : o.quietAt P a S w v) : (execOp a.eval o).run P w = .ok (.value v) w := by
  have vform : ∀ (s : Sem Value), Oper.quietUpon P S w v ((do pure (Next.value (← s))).run P w) → ((do pure (Next.value (← s))).run P w) = .ok (.value v) w := by
    intro s hs
    simp only [Sem.run_bind, Sem.run_pure] at hs ⊢
    cases hsr : s.run P w with
    | ok u w' =>
      rw [hsr] at hs
      simp only [Result.andThen_ok, Oper.quietUpon] at hs ⊢
      rw [hs.1, hs.2]
    | halt x w' =>
      rw [hsr] at hs
      simp [Result.andThen, Oper.quietUpon] at hs
  unfold Oper.quietAt at h
  unfold rdr at hr
  unfold execOp at h ⊢
  cases hop : o.op
  all_goals rw [hop] at hr
  all_goals simp only [hop] at h ⊢
  all_goals first | (simp at hr; done) | exact vform _ h | skip
  case move x => simpa [Oper.quietUpon, eq_comm] using h
  case assign x => simpa [Oper.quietUpon, eq_comm] using h
  case pick c x y =>
    simp only [Sem.run_bind, Sem.run_pure] at h ⊢
    cases hsr : (asBool (a.eval c)).run P w with
    | ok u w' =>
      rw [hsr] at h
      simp only [Result.andThen_ok, Oper.quietUpon] at h ⊢
      rw [h.1, h.2]
    | halt x w' =>
      rw [hsr] at h
      simp [Result.andThen, Oper.quietUpon] at h
  case call c =>
    obtain ⟨callee, args, tys⟩ := c
    cases callee with
    | value f => simp at hr
    | invoke r m => simp at hr
    | builtin b =>
      cases b
      all_goals first | (simp at hr; done) | skip
      simp only [resolve, Sem.run_bind, Sem.run_pure, Result.andThen_ok, invoke, builtin] at h ⊢
      have hv := vform (Builtin.len_ tys o.type (args.map a.eval)) (by simp only [Sem.run_bind, Sem.run_pure]; exact h)
      simpa only [Sem.run_bind, Sem.run_pure] using hv
theorem mix_readers {w : World} (hs : Region.noSelect ops = true) (hS : S w) (hQ : ∀ c a d v w, Q (.panic c) (Act.put a d v) w → Q (.panic c) a w) {G : Act → Prop} {n : Nat} :
    ∀ (m : List Bool) (l : List Oper) (k : Nat) (listed : Array Bool) (a : Act), (∀ j, l[j]? = ops[k + j]?) → readersB md ops m k listed = true →
      (∀ a', G a' → wpAnyH P md ops Q S n (listedB m k listed) a' w) → wpQuiet P ops S G (pickB m l) a → wpAnyH P md ops Q S ((m.filter id).length + n) listed a w
  | [], l, k, listed, a, _, _, hG, h => by
    simp only [pickB] at h
    simpa [listedB] using hG a h
  | true :: m, [], k, listed, a, hl, hB, _, _ => by
    simp only [readersB, Bool.and_eq_true] at hB
    have := hl 0
    simp only [List.getElem?_nil, Nat.add_zero] at this
    rw [← this] at hB
    simp at hB
  | true :: m, o :: l, k, listed, a, hl, hB, hG, h => by
    have h0 : ops[k]? = some o := by simpa using (hl 0).symm
    simp only [readersB, Bool.and_eq_true, h0, Option.map_some, Option.getD_some] at hB
    obtain ⟨⟨⟨hr, hf⟩, hrd⟩, hB'⟩ := hB
    have hl' : ∀ j, l[j]? = ops[k + 1 + j]? := fun j => by have := hl (j + 1); simpa [Nat.add_assoc, Nat.add_comm 1 j] using this
    simp only [pickB, wpQuiet] at h
    rw [show ((true :: m).filter id).length + n = ((m.filter id).length + n) + 1 by simp; omega]
    by_cases hw : Region.wanted o (yielded ops a.tmps) = true
    · rw [if_pos hw] at h
      obtain ⟨v, hv, hn⟩ := h
      refine wpAnyH_take (v := v) h0 hs hf (by simpa using hr) (fun c a w => hQ c a _ _ w) (.inl ⟨hw, fun w' hw' => quiet_reads hrd (hv w' hw')⟩) hS ?_
      exact mix_readers hs hS hQ m l (k + 1) _ _ hl' hB' hG hn
    · rw [if_neg hw] at h
      refine wpAnyH_take (v := undef) h0 hs hf (by simpa using hr) (fun c a w => hQ c a _ _ w) (.inr ⟨by simpa using hw, rfl⟩) hS ?_
      exact mix_readers hs hS hQ m l (k + 1) _ _ hl' hB' hG h
  | false :: m, [], k, listed, a, hl, hB, hG, h => by
    have hp : pickB (false :: m) [] = pickB m [] := by cases m with | nil => rfl | cons b m => cases b <;> rfl
    rw [hp] at h
    have := mix_readers (w := w) hs hS hQ m [] (k + 1) listed a (fun j => by
      have hsz := hl 0
      simp only [List.getElem?_nil, Nat.add_zero] at hsz
      have : ops.size ≤ k := by rcases Nat.lt_or_ge k ops.size with hlt | hge
                                · rw [Array.getElem?_eq_getElem hlt] at hsz; cases hsz
                                · exact hge
      rw [Array.getElem?_eq_none (by omega)]; rfl) hB hG h
    simpa using this
  | false :: m, o :: l, k, listed, a, hl, hB, hG, h => by
    have := mix_readers hs hS hQ m l (k + 1) listed a (fun j => by have := hl (j + 1); simpa [Nat.add_assoc, Nat.add_comm 1 j] using this) hB hG h
    simpa using this
theorem mix_effects : ∀ (m : List Bool) (l : List Oper) (k : Nat) (listed : Array Bool) (a : Act) (w : World), m.length = l.length → (∀ j, l[j]? = ops[k + j]?) → S w → effectsB md ops m k listed = true →
      wpListS P ops S Q (dropB m l) a w → wpAnyH P md ops Q S ((m.filter (!·)).length) listed a w
  | [], [], k, listed, a, w, _, _, _, hB, h => by
    simp only [effectsB, List.isEmpty_iff] at hB
    exact wpAnyH_done hB h _
  | [], _ :: _, _, _, _, _, hm, _, _, _, _ => by simp at hm
  | _ :: _, [], _, _, _, _, hm, _, _, _, _ => by simp at hm
  | true :: m, o :: l, k, listed, a, w, hm, hl, hS, hB, h => by
    have := mix_effects m l (k + 1) listed a w (by simpa using hm) (fun j => by have := hl (j + 1); simpa [Nat.add_assoc, Nat.add_comm 1 j] using this) hS hB h
    simpa using this
  | false :: m, o :: l, k, listed, a, w, hm, hl, hS, hB, h => by
    have h0 : ops[k]? = some o := by simpa using (hl 0).symm
    simp only [effectsB, Bool.and_eq_true, beq_iff_eq] at hB
    have hl' : ∀ j, l[j]? = ops[k + 1 + j]? := fun j => by have := hl (j + 1); simpa [Nat.add_assoc, Nat.add_comm 1 j] using this
    simp only [dropB, wpListS] at h
    rw [show ((false :: m).filter (!·)).length = (m.filter (!·)).length + 1 by simp]
    refine wpAnyH_all hB.1 (by simp) fun i hi => ?_
    simp only [List.mem_singleton] at hi
    subst hi
    unfold wpOp
    simp only [h0]
    by_cases hw : Region.wanted o (yielded ops a.tmps) = true
    · rw [if_pos hw] at h
      rw [if_pos hw]
      rcases h with h | h
      case inr => exact .inr h
      refine .inl (Oper.wp_mono (fun a' w' h' => ⟨h'.1, ?_⟩) h)
      exact mix_effects m l _ _ a' w' (by simpa using hm) hl' h'.1 hB.2 h'.2
    · rw [if_neg hw] at h
      rw [if_neg hw]
      exact ⟨hS, mix_effects m l _ _ _ w (by simpa using hm) hl' hS hB.2 h⟩
theorem filter_both (m : List Bool) : (m.filter id).length + (m.filter (!·)).length = m.length := by
  induction m with
  | nil => rfl
  | cons b m ih => cases b <;> simp only [List.filter_cons, id, Bool.not_true, Bool.not_false, if_true, Bool.false_eq_true, if_false, List.length_cons] <;> omega
end
end Go.Proofs.Ytimjccfpobhpeaa
namespace Go.Proofs.Ytimjccfpobhpeaa
open Go.RowKit
section
variable {P : Program} {ops : Array Oper} {S : World → Prop} {Q : Exit → Act → World → Prop} {md : Region.Mode} {last : Nat}
def wpAnyT (P : Program) (md : Region.Mode) (ops : Array Oper) (Q : Exit → Act → World → Prop) (S : World → Prop) (last : Nat) : Nat → Array Bool → Act → World → Prop
  | 0, listed, a, w => Region.ready md ops listed = [] ∧ Q .normal a w
  | fuel + 1, listed, a, w =>
    (Region.ready md ops listed = [] → Q .normal a w) ∧
    ∀ i ∈ Region.ready md ops listed, wpOp P ops Q i (fun a' w' => (i = last ∨ S w') ∧ wpAnyT P md ops Q S last fuel (listed.setIfInBounds i true) a' w') a w
theorem anyT : ∀ (fuel : Nat) (listed : Array Bool) (a : Act) (w : World), wpAnyT P md ops Q S last fuel listed a w → wpAny P md ops Q fuel listed a w
  | 0, _, _, _, h => h
  | fuel + 1, _, _, _, h => ⟨h.1, fun i hi => wpOp_mono (fun a' w' h' => anyT fuel _ a' w' h'.2) (h.2 i hi)⟩
def waitsFor (md : Region.Mode) (ops : Array Oper) (last i : Nat) : Bool := match ops[last]? with
  | none => false
  | some o => o.after.any fun e => Region.binds md e && e.on == i
theorem anyT_first {i : Nat} {oi : Oper} {v : Value} (hi : ops[i]? = some oi) (hs : Region.noSelect ops = true) (hw : waitsFor md ops last i = true) (hQ : ∀ c a w, Q (.panic c) (a.put oi.dst v) w → Q (.panic c) a w) :
    ∀ (fuel : Nat) (listed : Array Bool) (a : Act) (w : World),
      (∀ j oj, ops[j]? = some oj → j ≠ i → listed.getD j true = false → (∀ e ∈ oj.after, Region.binds md e = true → e.on ≠ i) → oi.apart ops oj = true) →
      i ∈ Region.ready md ops listed → YieldsIf P ops S oi v a → S w → wpAnyT P md ops Q S last fuel (listed.setIfInBounds i true) (a.put oi.dst v) w → wpAnyT P md ops Q S last (fuel + 1) listed a w := by
  have hsel := Region.noSelect_spec hs
  have hnl : ∀ listed : Array Bool, i ∈ Region.ready md ops listed → last ∈ Region.ready md ops listed → False := by
    intro listed hir hlr
    obtain ⟨hun, _⟩ := mem_ready.1 hir
    obtain ⟨_, ol, hol, hall⟩ := mem_ready.1 hlr
    simp only [waitsFor, hol, Array.any_eq_true] at hw
    obtain ⟨k, hk, hbk⟩ := hw
    simp only [Bool.and_eq_true, beq_iff_eq] at hbk
    have h1 := hall _ (Array.getElem_mem hk) hbk.1
    rw [hbk.2] at h1
    rcases Nat.lt_or_ge i listed.size with hlt | hge
    · simp only [Array.getD_eq_getD_getElem?, Array.getElem?_eq_getElem hlt, Option.getD_some] at h1 hun
      rw [hun] at h1; cases h1
    · simp [Array.getElem?_eq_none hge] at h1
  intro fuel
  induction fuel with
  | zero =>
    intro listed a w _ hr hy hS H
    refine ⟨fun h0 => (by rw [h0] at hr; cases hr), fun j hj => ?_⟩
    by_cases hji : j = i
    · subst hji
      exact hy.wpOp hi hS ⟨.inr hS, H⟩
    · have h0 := ready_mono hj hji
      rw [H.1] at h0
      cases h0
  | succ fuel ih =>
    intro listed a w hfree hr hy hS H
    refine ⟨fun h0 => (by rw [h0] at hr; cases hr), fun j hj => ?_⟩
    by_cases hji : j = i
    · subst hji
      exact hy.wpOp hi hS ⟨.inr hS, H⟩
    · have hjl : j ≠ last := fun e => hnl listed hr (e ▸ hj)
      obtain ⟨hjun, oj, hoj, hall⟩ := mem_ready.1 hj
      have hnot : ∀ e ∈ oj.after, Region.binds md e = true → e.on ≠ i := fun e he hb heq => by
        have h1 := hall e he hb
        have h0 := (mem_ready.1 hr).1
        rw [heq] at h1
        rcases Nat.lt_or_ge i listed.size with hlt | hge
        · simp only [Array.getD_eq_getD_getElem?, Array.getElem?_eq_getElem hlt, Option.getD_some] at h1 h0
          rw [h0] at h1; cases h1
        · simp [Array.getElem?_eq_none hge] at h1
      have h2 := wpOp_putIf hoj (hfree j oj hoj hji hjun hnot) (fun cs b => hsel i oi cs b hi) (fun cs b => hsel j oj cs b hoj) hQ hy (H.2 j (ready_mono hj hji))
      refine wpOp_mono (fun a' w' h3 => ?_) h2
      have hSw : S w' := h3.2.1.resolve_left hjl
      refine ⟨.inr hSw, ih (listed.setIfInBounds j true) a' w' ?_ (ready_mono hr (Ne.symm hji)) h3.1 hSw ?_⟩
      · intro k ok hk hki hun hno
        refine hfree k ok hk hki ?_ hno
        by_cases hjk : j = k
        · exact hjk ▸ hjun
        · rwa [getD_set_ne true hjk] at hun
      · rw [Array.setIfInBounds_comm _ _ hji]
        exact h3.2.2
def readersT (md : Region.Mode) (ops : Array Oper) (last : Nat) : List Bool → Nat → Array Bool → Bool
  | [], _, _ => true
  | true :: m, k, listed => (Region.ready md ops listed).contains k && Region.free md ops listed k && ((ops[k]?).map rdr).getD false && waitsFor md ops last k && readersT md ops last m (k + 1) (listed.setIfInBounds k true)
  | false :: m, k, listed => readersT md ops last m (k + 1) listed
def splitT (md : Region.Mode) (ops : Array Oper) (m : List Bool) : Bool :=
  Region.noSelect ops && (m.length == ops.size) && readersT md ops (ops.size - 1) m 0 (Array.replicate ops.size false) && effectsB md ops m 0 (listedB m 0 (Array.replicate ops.size false))
def wpListT (P : Program) (ops : Array Oper) (S : World → Prop) (Q : Exit → Act → World → Prop) : List Oper → Act → World → Prop
  | [], a, w => Q .normal a w
  | o :: rest, a, w => if Region.wanted o (yielded ops a.tmps) then o.wp P a w (fun a' w' => (rest = [] ∨ S w') ∧ wpListT P ops S Q rest a' w') Q ∨ (o.asks P a w ∧ LetsOut Q) else (rest = [] ∨ S w) ∧ wpListT P ops S Q rest (a.put o.dst undef) w
theorem mixT_readers {w : World} (hs : Region.noSelect ops = true) (hS : S w) (hQ : ∀ c a d v w, Q (.panic c) (Act.put a d v) w → Q (.panic c) a w) {G : Act → Prop} {n : Nat} :
    ∀ (m : List Bool) (l : List Oper) (k : Nat) (listed : Array Bool) (a : Act), (∀ j, l[j]? = ops[k + j]?) → m.length = l.length → readersT md ops last m k listed = true →
      (∀ a', G a' → wpAnyT P md ops Q S last n (listedB m k listed) a' w) → wpQuiet P ops S G (pickB m l) a → wpAnyT P md ops Q S last ((m.filter id).length + n) listed a w
  | [], l, k, listed, a, _, _, _, hG, h => by
    simp only [pickB] at h
    simpa [listedB] using hG a h
  | _ :: _, [], _, _, _, _, hm, _, _, _ => by simp at hm
  | true :: m, o :: l, k, listed, a, hl, hm, hB, hG, h => by
    have h0 : ops[k]? = some o := by simpa using (hl 0).symm
    simp only [readersT, Bool.and_eq_true, h0, Option.map_some, Option.getD_some] at hB
    obtain ⟨⟨⟨⟨hr, hf⟩, hrd⟩, hwt⟩, hB'⟩ := hB
    have hl' : ∀ j, l[j]? = ops[k + 1 + j]? := fun j => by have := hl (j + 1); simpa [Nat.add_assoc, Nat.add_comm 1 j] using this
    simp only [pickB, wpQuiet] at h
    rw [show ((true :: m).filter id).length + n = ((m.filter id).length + n) + 1 by simp; omega]
    by_cases hw : Region.wanted o (yielded ops a.tmps) = true
    · rw [if_pos hw] at h
      obtain ⟨v, hv, hn⟩ := h
      refine anyT_first (v := v) h0 hs hwt (fun c a w => hQ c a _ _ w) _ _ _ _ (Region.free_spec h0 hf) (by simpa using hr) (.inl ⟨hw, fun w' hw' => quiet_reads hrd (hv w' hw')⟩) hS ?_
      exact mixT_readers hs hS hQ m l (k + 1) _ _ hl' (by simpa using hm) hB' hG hn
    · rw [if_neg hw] at h
      refine anyT_first (v := undef) h0 hs hwt (fun c a w => hQ c a _ _ w) _ _ _ _ (Region.free_spec h0 hf) (by simpa using hr) (.inr ⟨by simpa using hw, rfl⟩) hS ?_
      exact mixT_readers hs hS hQ m l (k + 1) _ _ hl' (by simpa using hm) hB' hG h
  | false :: m, o :: l, k, listed, a, hl, hm, hB, hG, h => by
    have := mixT_readers hs hS hQ m l (k + 1) listed a (fun j => by have := hl (j + 1); simpa [Nat.add_assoc, Nat.add_comm 1 j] using this) (by simpa using hm) hB hG h
    simpa using this
theorem dropB_nil : ∀ (m : List Bool) (l : List Oper) (_k : Nat), m.length = l.length → dropB m l = [] → (m.filter (!·)) = []
  | [], _, _, _, _ => rfl
  | _ :: _, [], _, hm, _ => by simp at hm
  | true :: m, o :: l, k, hm, h => by simpa using dropB_nil m l k (by simpa using hm) h
  | false :: m, o :: l, k, hm, h => by simp [dropB] at h
theorem mixT_effects : ∀ (m : List Bool) (l : List Oper) (k : Nat) (listed : Array Bool) (a : Act) (w : World), m.length = l.length → (∀ j, l[j]? = ops[k + j]?) → k + l.length = ops.size → effectsB md ops m k listed = true →
      m.getLast? ≠ some true → (dropB m l = [] ∨ S w) → wpListT P ops S Q (dropB m l) a w → wpAnyT P md ops Q S (ops.size - 1) ((m.filter (!·)).length) listed a w
  | [], [], k, listed, a, w, _, _, _, hB, _, _, h => by
    simp only [effectsB, List.isEmpty_iff] at hB
    exact ⟨hB, h⟩
  | [], _ :: _, _, _, _, _, hm, _, _, _, _, _, _ => by simp at hm
  | _ :: _, [], _, _, _, _, hm, _, _, _, _, _, _ => by simp at hm
  | true :: m, o :: l, k, listed, a, w, hm, hl, hk, hB, hla, hS, h => by
    have := mixT_effects m l (k + 1) listed a w (by simpa using hm) (fun j => by have := hl (j + 1); simpa [Nat.add_assoc, Nat.add_comm 1 j] using this) (by simp at hk; omega) hB (by
      cases m with
      | nil => simp
      | cons b m => simpa using hla) hS h
    simpa using this
  | false :: m, o :: l, k, listed, a, w, hm, hl, hk, hB, hla, _, h => by
    have h0 : ops[k]? = some o := by simpa using (hl 0).symm
    simp only [effectsB, Bool.and_eq_true, beq_iff_eq] at hB
    have hl' : ∀ j, l[j]? = ops[k + 1 + j]? := fun j => by have := hl (j + 1); simpa [Nat.add_assoc, Nat.add_comm 1 j] using this
    have hm' : m.length = l.length := by simpa using hm
    have hk' : k + 1 + l.length = ops.size := by simp at hk; omega
    have hla' : m.getLast? ≠ some true := by
      cases m with
      | nil => simp
      | cons b m => simpa using hla
    have hend : dropB m l = [] → k = ops.size - 1 := by
      intro hd
      have hf := dropB_nil m l k hm' hd
      cases m with
      | nil => simp only [List.length_nil] at hm'; omega
      | cons b m =>
        exfalso
        obtain ⟨x, hx⟩ : ∃ x, (b :: m).getLast? = some x := ⟨_, List.getLast?_eq_some_getLast (List.cons_ne_nil b m)⟩
        have hxm : x ∈ b :: m := List.mem_of_getLast? hx
        have hxt : x = true := by
          cases x with
          | true => rfl
          | false => exact absurd (List.mem_filter.2 ⟨hxm, rfl⟩) (by rw [hf]; simp)
        exact hla' (hxt ▸ hx)
    simp only [dropB, wpListT] at h
    rw [show ((false :: m).filter (!·)).length = (m.filter (!·)).length + 1 by simp]
    refine ⟨fun h' => absurd (hB.1 ▸ h') (by simp), fun i hi => ?_⟩
    rw [hB.1, List.mem_singleton] at hi
    subst hi
    unfold wpOp
    simp only [h0]
    by_cases hw : Region.wanted o (yielded ops a.tmps) = true
    · rw [if_pos hw] at h
      rw [if_pos hw]
      rcases h with h | h
      case inr => exact .inr h
      refine .inl (Oper.wp_mono (fun a' w' h' => ⟨h'.1.imp hend id, ?_⟩) h)
      exact mixT_effects m l _ _ a' w' hm' hl' hk' hB.2 hla' h'.1 h'.2
    · rw [if_neg hw] at h
      rw [if_neg hw]
      exact ⟨h.1.imp hend id, mixT_effects m l _ _ _ w hm' hl' hk' hB.2 hla' h.1 h.2⟩
theorem wp_region_splitT {id : Nat} {a : Act} {w : World} {l : List Oper} (S : World → Prop) (m : List Bool) (hm : P.follows .mixedOrders = true) (hB : splitT .any l.toArray m = true) (hla : m.getLast? ≠ some true) (hS : S w.drew)
    (hQ : ∀ c a d v w, Q (.panic c) (Act.put a d v) w → Q (.panic c) a w)
    (h : wpQuiet P l.toArray S (fun a' => wpListT P l.toArray S Q (dropB m l) a' w.drew) (pickB m l) a) : (Code.region id l.toArray true).wp P Q a w := by
  simp only [splitT, Bool.and_eq_true, beq_iff_eq] at hB
  obtain ⟨⟨⟨hs, hlen⟩, hR⟩, hE⟩ := hB
  have hlen' : m.length = l.length := by simpa using hlen
  refine wp_region_any hm (anyT (S := S) (last := l.toArray.size - 1) _ _ _ _ ?_)
  have key := mixT_readers (P := P) (Q := Q) (md := .any) (last := l.toArray.size - 1) (w := w.drew) (n := (m.filter (!·)).length) hs hS hQ m l 0 (Array.replicate l.toArray.size false) a (fun j => by simp) hlen' hR
    (fun a' ha' => mixT_effects m l 0 _ a' w.drew hlen' (fun j => by simp) (by simp) hE hla (.inr hS) ha') h
  rw [filter_both, hlen] at key
  exact key
def oneByT (S : Prop → World → Prop) (N : Act → World → Prop) (Q : Exit → Act → World → Prop) (E : Prop) : Exit → Act → World → Prop
  | .normal, a, w => S E w ∧ N a w
  | .exit i, a, w => Q (.exit i) a w
  | .goto l, a, w => Q (.goto l) a w
  | .ret, a, w => Q .ret a w
  | .panic c, a, w => Q (.panic c) a w
  | .outgrown, a, w => Q .outgrown a w
theorem upon_oneByT {S' : Prop → World → Prop} {E : Prop} {N : Act → World → Prop} {o : Oper} {a : Act} {K : Act → World → Prop} {r : Result Next} : o.upon P a K (oneByT S' N Q E) r = o.upon P a K Q r := by
  cases r with
  | ok n w' => cases n <;> rfl
  | halt x w' => cases x <;> rfl
theorem wpListT_step {o o2 : Oper} {rest : List Oper} {a : Act} {w : World} (h : ∀ Q', (∀ a' w', S w' ∧ wpListT P ops S Q (o2 :: rest) a' w' → Q' .normal a' w') → wpList P ops Q' [o] a w) : wpListT P ops S Q (o :: o2 :: rest) a w := by
  have h1 := h (oneByT (fun _ w => S w) (wpListT P ops S Q (o2 :: rest)) Q True) (fun _ _ h => h)
  rw [wpListT]
  rw [wpList] at h1
  split
  · rename_i hw
    rw [if_pos hw] at h1
    rcases h1 with h1 | h1
    · refine .inl ?_
      unfold Oper.wp at h1 ⊢
      rw [upon_oneByT] at h1
      have : (wpList P ops (oneByT (fun _ w => S w) (wpListT P ops S Q (o2 :: rest)) Q True) []) = fun a' w' => S w' ∧ wpListT P ops S Q (o2 :: rest) a' w' := rfl
      rw [this] at h1
      exact Oper.wp_mono (fun a' w' h' => ⟨.inr h'.1, h'.2⟩) h1
    · exact .inr h1
  · rename_i hw
    rw [if_neg hw] at h1
    exact ⟨.inr h1.1, h1.2⟩
theorem wpListT_last {o : Oper} {a : Act} {w : World} (h : ∀ Q', (∀ a' w', Q .normal a' w' → Q' .normal a' w') → wpList P ops Q' [o] a w) : wpListT P ops S Q [o] a w := by
  have h1 := h (oneByT (fun _ _ => True) (Q .normal) Q True) (fun _ _ h => ⟨trivial, h⟩)
  rw [wpListT]
  rw [wpList] at h1
  split
  · rename_i hw
    rw [if_pos hw] at h1
    rcases h1 with h1 | h1
    · refine .inl ?_
      unfold Oper.wp at h1 ⊢
      rw [upon_oneByT] at h1
      have : (wpList P ops (oneByT (fun _ _ => True) (Q .normal) Q True) []) = fun a' w' => True ∧ Q .normal a' w' := rfl
      rw [this] at h1
      exact Oper.wp_mono (fun a' w' h' => ⟨.inl rfl, h'.2⟩) h1
    · exact .inr h1
  · rename_i hw
    rw [if_neg hw] at h1
    exact ⟨.inl rfl, h1.2⟩
end
end Go.Proofs.Ytimjccfpobhpeaa
namespace Go.Proofs.Ytimjccfpobhpeaa
open Go.RowKit Go.Proofs.YtimjccfpobhpeaaW.PrintWords Go.Proofs.Ytimjccfpobhpeaa.PF
set_option maxRecDepth 100000
abbrev kLoad := k77
abbrev Load := S77
theorem info_load : (Try.prog.info? 77).map (fun i => (i.zero, i.size, i.bytes)) = some (some (.agg #[.int .i64 0, .int .i64 0, .int .i64 0]), 3, 24) := by kernel_rfl
instance (w : World) (G : Nat → Prop) : Nonempty (But w G) := ⟨But.refl w G⟩
def useF (rows : List (List Load)) (net : Int) (l : Load) : List (List Load) := rows.set net.toNat (rows.getD net.toNat [] ++ [l])
set_option maxHeartbeats 4000000 in
theorem use_calls (g base : Nat) (w0 w : World) (v : Value) (rows : List (List Load)) (net : Int) (l : Load) (hb : w.heap[g]? = some (.cells #[v] 70 (0, 0)))
    (hS : Kd.S (Kd.slice 77 kLoad) 75 w base (fun _ => True) v rows) (h0 : 0 ≤ net) (h1 : net < rows.length) (hl : ((rows.getD net.toNat []).length + 1) * 24 ≤ 140737488355328) (hbase : base ≤ w.heap.size) (hB : Below base w0 w) :
    Calls Try.prog 53 #[.int .i64 net, .agg #[.int .i64 l.f0, .int .i64 l.f1, .int .i64 l.f2], .pointer (some ⟨g, 0, none⟩)] w fun e w' => e = .returned (.tuple #[]) ∧
      w'.heap[g]? = some (.cells #[v] 70 (0, 0)) ∧ Kd.S (Kd.slice 77 kLoad) 75 w' base (fun _ => True) v (useF rows net l) ∧ Below base w0 w' ∧ w.heap.size ≤ w'.heap.size ∧
      ∀ (k : Nat) (t : TypeId) (cs : Array Value), w.heap[k]? = some (.cells cs t (0, 0)) → t ≠ 75 → t ≠ 77 → w'.heap[k]? = w.heap[k]? := by
  have hu := Try.underlying77
  have hg : g < w.heap.size := (Array.getElem?_eq_some_iff.1 hb).1
  have hc0 := cell_of_row w g 0 _ _ _ hb
  simp at hc0
  have hpos : 0 < rows.length := by omega
  obtain ⟨gv, cap, rfl, hgv, hgvl, cells, hgvb⟩ := Kd.S_form hS hpos
  have hne : g ≠ gv := by
    rintro rfl
    rw [hb] at hgvb
    injection hgvb with hgvb
    injection hgvb with _ hgvb
    exact absurd hgvb (by decide)
  have hS1 := Kd.S_drew (Kd.S_alloc hS (.cells #[.int .i64 l.f0, .int .i64 l.f1, .int .i64 l.f2] 77))
  have hgvl2 : gv ≤ w.heap.size := by omega
  have hgvn : gv ≠ w.heap.size := by omega
  have hgn : g ≠ w.heap.size := by omega
  unfold useF
  obtain ⟨ri, hri⟩ : ∃ ri, rows.getD net.toNat [] = ri := ⟨_, rfl⟩
  rw [hri] at hl ⊢
  have hrih := Lib.hid hri
  obtain ⟨oki, c, hcl, hM, hcc, hfr, hoki, hH⟩ := Kd.S_elem hS [] net h0 h1
  rw [hri] at hM
  clear hri
  obtain ⟨vi, rfl, hR⟩ := hM
  have hci := hcc 0 vi rfl
  simp only [Kd.slice, Nat.mul_one, Nat.add_zero] at hci
  obtain ⟨oi, hoi⟩ : ∃ oi, vi.ownBlock = oi := ⟨_, rfl⟩
  have hoil : ∀ k, oi = some k → k < w.heap.size ∧ k ≠ gv ∧ k ≠ g := by
    intro k hk
    have h1 := hoki k (hR.1 k (hoi.trans hk))
    obtain ⟨cells, ht⟩ := Kd.R_typed hR k (hoi.trans hk)
    have hk0 := Kd.R_lt hR k (hoi.trans hk)
    refine ⟨hk0, h1.2, ?_⟩
    rintro rfl
    rw [hb] at ht
    injection ht with ht
    injection ht with _ ht
    exact absurd ht (by decide)
  have n1 : ¬ oi = some gv := fun e => (hoil _ e).2.1 rfl
  have n2 : ¬ oi = some g := fun e => (hoil _ e).2.2 rfl
  have n3 : ¬ oi = some w.heap.size := fun e => by have := (hoil _ e).1; omega
  obtain ⟨Ai, ci, rfl⟩ := Kd.R_slice hR
  have hRh := Lib.hid hR
  have hoih := Lib.hid hoi
  clear hR hoi
  go_enter Try.func53, Try.ntmps53
  go_wp2
  refine wp_region_splitT (fun w' => ∃ x : But (w.alloc (.cells #[.int .i64 l.f0, .int .i64 l.f1, .int .i64 l.f2] 77)) (fun k => oi = some k), w' = x.val) [true, true, true, true, true, true, true, false, false, false, false] (by kernel_rfl) (by kernel_rfl) (by decide) ⟨(But.refl _ _).drew, rfl⟩ (fun _ _ d _ _ h => by cases d <;> exact h) ?_
  simp only [pickB, dropB]
  repeat (go_big_quiet_step (fail))
  refine wpQuiet_nil ?_
  refine wpListT_step (fun Q' hQ' => ?_)
  go_wp2_with fail
  refine ⟨⟨((But.refl _ _).drew).alloc _, rfl⟩, ?_⟩
  refine wpListT_step (fun Q' hQ' => ?_)
  have hW : Is w (w.alloc (.cells #[.int .i64 l.f0, .int .i64 l.f1, .int .i64 l.f2] 77)).drew := ((Is.refl w).alloc _).drew
  have hR2 := Kd.R_below hRh.out hW.below
  have hp : kLoad.M (w.alloc (.cells #[.int .i64 l.f0, .int .i64 l.f1, .int .i64 l.f2] 77)).drew base (fun _ => False) l [.int .i64 l.f0, .int .i64 l.f1, .int .i64 l.f2] := k77_mkM _ _ _ l
  rw [show ((w.alloc (.cells #[.int .i64 l.f0, .int .i64 l.f1, .int .i64 l.f2] 77)).alloc (.cells #[.int .i64 l.f0, .int .i64 l.f1, .int .i64 l.f2] 77)).drew = ((w.alloc (.cells #[.int .i64 l.f0, .int .i64 l.f1, .int .i64 l.f2] 77)).drew).alloc (.cells #[.int .i64 l.f0, .int .i64 l.f1, .int .i64 l.f2] 77) from rfl]
  have hwid := Kd.H_widen hH
  have hsz : (w.alloc (.cells #[.int .i64 l.f0, .int .i64 l.f1, .int .i64 l.f2] 77)).drew.heap.size = w.heap.size + 1 := by simp
  have hR2' := Kd.R_mono (ok' := fun k => oki k ∨ True ∧ w.heap.size ≤ k) hR2 (fun k hk => .inl hk)
  refine Kd.R_append kLoad (w0 := w0) base rfl (.tmp 10) (.tmp 12) 75 77 _ 24 rfl Try.underlying75 info_load rfl (by decide) (by decide) _ _ l _ (fun k => oki k ∨ True ∧ w.heap.size ≤ k) (fun _ => False) rfl (by rw [hsz]; rfl) hp (fun k h => h.elim) (fun k hk => .inr ⟨trivial, by omega⟩) hR2' ((hB.alloc hbase _).drew) (by omega) hl ?_
  intro v1 w1 hR3 hB3 hg3 hat3
  refine wpList_nil ?_
  refine hQ' _ _ ⟨?_, ?_⟩
  · refine ⟨⟨w1, hg3.os.trans rfl, hg3.tape.trans rfl, hg3.output.trans rfl, Nat.le_trans (by simp) hg3.size, fun k hk hG => (hg3.block k hk (fun e => hG (hoih.out ▸ e.symm))).trans rfl⟩, rfl⟩
  have hH3 := Kd.H_grown (Kd.H_below hwid hW.below) hg3 (fun k hk => .inl ((hRh.out.1 k hk)))
  obtain ⟨A3, c3, rfl⟩ := Kd.R_slice hR3
  rw [show (ri ++ [l]).length = ri.length + 1 by simp] at hR3
  have hgv3 : gv < w1.heap.size := Nat.lt_of_lt_of_le hgvl (Nat.le_trans (by simp) hg3.size)
  refine wpListT_step (fun Q' hQ' => ?_)
  go_wp2_with fail
  refine ⟨⟨⟨w1, hg3.os.trans rfl, hg3.tape.trans rfl, hg3.output.trans rfl, Nat.le_trans (by simp) hg3.size, fun k hk hG => (hg3.block k hk (fun e => hG (hoih.out ▸ e.symm))).trans rfl⟩, rfl⟩, ?_⟩
  refine wpListT_last (fun Q' hQ' => ?_)
  refine Kd.H_store (Kd.slice 77 kLoad) (w0 := w0) base rfl rfl 75 (.tmp 14) (.tmp 13) rfl 75 net 0 rows (ri ++ [l]) (.slice A3 (ri.length + 1) c3) [.slice A3 (ri.length + 1) c3] _ (fun _ => True) _ _ rfl (by simp [Kd.slice]) rfl rfl (by kernel_rfl) (by simp [Value.oneCell']) hH3 h0 h1 (by simp [Kd.slice]) ⟨_, rfl, hR3⟩ (fun k hk => hk) hB3 ?_
  intro w2 hS2 hB2 hg2
  refine wpList_nil ?_
  refine hQ' _ _ ?_
  go_end0
  refine ⟨rfl, ?_, hS2, hB2, Nat.le_trans (Nat.le_trans (by simp) hg3.size) hg2.size, fun k t cs hk ht1 ht2 => ?_⟩
  rotate_left
  · have hkl := (Array.getElem?_eq_some_iff.1 hk).1
    have e1 := hg2.block k (Nat.lt_of_lt_of_le hkl (Nat.le_trans (by simp) hg3.size)) (fun e => by
      injection e with e
      subst e
      rw [hgvb] at hk
      injection hk with hk
      injection hk with _ hk
      exact ht1 hk.symm)
    have e2 := hg3.block k (by rw [hsz]; omega) (fun e => by
      obtain ⟨_, ht⟩ := Kd.R_typed hRh.out k e.symm
      rw [hk] at ht
      injection ht with ht
      injection ht with _ ht
      exact ht2 ht)
    exact e1.trans (e2.trans (Below.heap_alloc w _ k hkl))
  have e1 := hg2.block g (Nat.lt_of_lt_of_le hg (Nat.le_trans (by simp) hg3.size)) (fun e => hne (by injection e))
  have e2 := hg3.block g (by rw [hsz]; omega) (fun e => n2 (hoih.out ▸ e.symm))
  exact e1.trans (e2.trans ((Below.heap_alloc w _ g hg).trans hb))
end Go.Proofs.Ytimjccfpobhpeaa
namespace Go.Proofs.Ytimjccfpobhpeaa
open Go.RowKit
section
variable {P : Program} {ops : Array Oper} {S : World → Prop} {Q : Exit → Act → World → Prop} {md : Region.Mode} {last : Nat}
theorem wpOp_of_list {o : Oper} {i : Nat} {a : Act} {w : World} {N : Act → World → Prop} (hi : ops[i]? = some o) (h : ∀ Q', (∀ a' w', N a' w' → Q' .normal a' w') → wpList P ops Q' [o] a w) : wpOp P ops Q i N a w := by
  have h1 := h (oneByT (fun _ _ => True) N Q True) (fun _ _ h => ⟨trivial, h⟩)
  unfold wpOp
  simp only [hi]
  rw [wpList] at h1
  split
  · rename_i hw
    rw [if_pos hw] at h1
    rcases h1 with h1 | h1
    · refine .inl ?_
      unfold Oper.wp at h1 ⊢
      rw [upon_oneByT] at h1
      have : (wpList P ops (oneByT (fun _ _ => True) N Q True) []) = fun a' w' => True ∧ N a' w' := rfl
      rw [this] at h1
      exact Oper.wp_mono (fun a' w' h' => h'.2) h1
    · exact .inr h1
  · rename_i hw
    rw [if_neg hw] at h1
    exact h1.2
theorem anyT_end {a : Act} {w : World} {L : Array Bool} (hr : Region.ready md ops L = []) (h : Q .normal a w) : wpAnyT P md ops Q S last 0 L a w := ⟨hr, h⟩
theorem anyT_one {i : Nat} {o : Oper} {fuel : Nat} {a : Act} {w : World} {L : Array Bool} (L' : Array Bool) (hr : Region.ready md ops L = [i]) (hi : ops.toList[i]? = some o) (hL : L.setIfInBounds i true = L')
    (h : ∀ Q', (∀ a' w', (i = last ∨ S w') ∧ wpAnyT P md ops Q S last fuel L' a' w' → Q' .normal a' w') → wpList P ops Q' [o] a w) : wpAnyT P md ops Q S last (fuel + 1) L a w := by
  refine ⟨fun h0 => absurd (hr ▸ h0) (by simp), fun k hk => ?_⟩
  rw [hr, List.mem_singleton] at hk
  subst hk
  rw [hL]
  exact wpOp_of_list (by simpa using hi) h
theorem anyT_two {i j : Nat} {o1 o2 : Oper} {fuel : Nat} {a : Act} {w : World} {L : Array Bool} (L1 L2 : Array Bool) (hr : Region.ready md ops L = [i, j]) (hi : ops.toList[i]? = some o1) (hj : ops.toList[j]? = some o2) (hL1 : L.setIfInBounds i true = L1) (hL2 : L.setIfInBounds j true = L2)
    (h1 : ∀ Q', (∀ a' w', (i = last ∨ S w') ∧ wpAnyT P md ops Q S last fuel L1 a' w' → Q' .normal a' w') → wpList P ops Q' [o1] a w)
    (h2 : ∀ Q', (∀ a' w', (j = last ∨ S w') ∧ wpAnyT P md ops Q S last fuel L2 a' w' → Q' .normal a' w') → wpList P ops Q' [o2] a w) : wpAnyT P md ops Q S last (fuel + 1) L a w := by
  refine ⟨fun h0 => absurd (hr ▸ h0) (by simp), fun k hk => ?_⟩
  rw [hr] at hk
  rcases List.mem_cons.1 hk with rfl | hk
  · rw [hL1]
    exact wpOp_of_list (by simpa using hi) h1
  · rw [List.mem_singleton] at hk
    subst hk
    rw [hL2]
    exact wpOp_of_list (by simpa using hj) h2
def splitA (md : Region.Mode) (ops : Array Oper) (m : List Bool) : Bool :=
  Region.noSelect ops && (m.length == ops.size) && readersT md ops (ops.size - 1) m 0 (Array.replicate ops.size false)
theorem wp_region_splitA {id : Nat} {a : Act} {w : World} {l : List Oper} (S : World → Prop) (m : List Bool) (n : Nat) (L : Array Bool) (hm : P.follows .mixedOrders = true) (hB : splitA .any l.toArray m = true)
    (hn : (m.filter (!·)).length = n) (hL : listedB m 0 (Array.replicate l.toArray.size false) = L) (hS : S w.drew)
    (hQ : ∀ c a d v w, Q (.panic c) (Act.put a d v) w → Q (.panic c) a w)
    (h : wpQuiet P l.toArray S (fun a' => wpAnyT P .any l.toArray Q S (l.length - 1) n L a' w.drew) (pickB m l) a) : (Code.region id l.toArray true).wp P Q a w := by
  simp only [splitA, Bool.and_eq_true, beq_iff_eq] at hB
  obtain ⟨⟨hs, hlen⟩, hR⟩ := hB
  have hlen' : m.length = l.length := by simpa using hlen
  refine wp_region_any hm (anyT (S := S) (last := l.toArray.size - 1) _ _ _ _ ?_)
  have key := mixT_readers (P := P) (Q := Q) (md := .any) (last := l.toArray.size - 1) (w := w.drew) (n := (m.filter (!·)).length) hs hS hQ m l 0 (Array.replicate l.toArray.size false) a (fun j => by simp) hlen' hR
    (G := fun a' => wpAnyT P .any l.toArray Q S (l.length - 1) n L a' w.drew) (fun a' ha' => by rw [hn, hL]; simpa using ha') h
  rw [filter_both, hlen] at key
  exact key
end
end Go.Proofs.Ytimjccfpobhpeaa
namespace Go.Proofs.Ytimjccfpobhpeaa
open Go.RowKit Go.Proofs.YtimjccfpobhpeaaW.PrintWords Go.Proofs.Ytimjccfpobhpeaa.PF
set_option maxRecDepth 100000
theorem heap_alloc2_new (w : World) (A B : Obj) : ((w.alloc A).alloc B).heap[w.heap.size + 1]? = some B := by
  have := heap_alloc_new (w.alloc A) B
  simpa using this
abbrev Gate := S80
abbrev Flop := S82
abbrev kGate := k80
abbrev kFlop := k82
def Under.setCell {w : World} (x : Under w) (p : Addr) (hp : w.heap.size ≤ p.block) (u : Value) : Under w := ⟨x.val.setCell p u, x.ok.setCell hp u⟩
theorem set5 {w : World} {g : Nat} {t : TypeId} {a0 a1 a2 a3 a4 : Value} (u0 u1 u2 u3 u4 : Value) (hb : w.heap[g]? = some (.cells #[a0, a1, a2, a3, a4] t (0, 0))) :
    (((((w.setCell ⟨g, 0, none⟩ u0).setCell ⟨g, 1, none⟩ u1).setCell ⟨g, 2, none⟩ u2).setCell ⟨g, 3, none⟩ u3).setCell ⟨g, 4, none⟩ u4).heap[g]? = some (.cells #[u0, u1, u2, u3, u4] t (0, 0)) ∧
    ∀ k, k ≠ g → (((((w.setCell ⟨g, 0, none⟩ u0).setCell ⟨g, 1, none⟩ u1).setCell ⟨g, 2, none⟩ u2).setCell ⟨g, 3, none⟩ u3).setCell ⟨g, 4, none⟩ u4).heap[k]? = w.heap[k]? := by
  constructor
  · have h0 := heap_setCell_same w g 0 _ _ u0 hb
    have h1 := heap_setCell_same _ g 1 _ _ u1 h0
    have h2 := heap_setCell_same _ g 2 _ _ u2 h1
    have h3 := heap_setCell_same _ g 3 _ _ u3 h2
    have h4 := heap_setCell_same _ g 4 _ _ u4 h3
    simpa using h4
  · intro k hk
    exact ((((Below.heap_setCell _ ⟨g, 4, none⟩ u4 k hk).trans (Below.heap_setCell _ ⟨g, 3, none⟩ u3 k hk)).trans (Below.heap_setCell _ ⟨g, 2, none⟩ u2 k hk)).trans (Below.heap_setCell _ ⟨g, 1, none⟩ u1 k hk)).trans (Below.heap_setCell w ⟨g, 0, none⟩ u0 k hk)
def flagK (w0 : World) : Kd (List Int × Bool) where
  sz := 1
  E := [3]
  K := fun w x cs => (x.2 = true → (Kd.slice 3 (Kd.int .i64)).K w x.1 cs) ∧ (x.2 = false → (Kd.slice 3 (Kd.int .i64)).K w0 x.1 cs)
  M := fun w base ok x cs => (x.2 = true → (Kd.slice 3 (Kd.int .i64)).M w base ok x.1 cs) ∧ (x.2 = false → (Kd.slice 3 (Kd.int .i64)).K w0 x.1 cs)
  K_len := fun {w x cs} h => by
    cases hx : x.2 with
    | true => exact (Kd.slice 3 (Kd.int .i64)).K_len (h.1 hx)
    | false => exact (Kd.slice 3 (Kd.int .i64)).K_len (h.2 hx)
  K_one := fun {w x cs} h => by
    cases hx : x.2 with
    | true => exact (Kd.slice 3 (Kd.int .i64)).K_one (h.1 hx)
    | false => exact (Kd.slice 3 (Kd.int .i64)).K_one (h.2 hx)
  K_below := fun hb h => ⟨fun hx => (Kd.slice 3 (Kd.int .i64)).K_below hb (h.1 hx), h.2⟩
  K_of_M := fun h => ⟨fun hx => (Kd.slice 3 (Kd.int .i64)).K_of_M (h.1 hx), h.2⟩
  M_mono := fun hok h => ⟨fun hx => (Kd.slice 3 (Kd.int .i64)).M_mono hok (h.1 hx), h.2⟩
  M_bound := fun h => ⟨fun hx => (Kd.slice 3 (Kd.int .i64)).M_bound (h.1 hx), h.2⟩
  M_move := fun hm h => ⟨fun hx => (Kd.slice 3 (Kd.int .i64)).M_move hm (h.1 hx), h.2⟩
  M_lower := fun hb h => ⟨fun hx => (Kd.slice 3 (Kd.int .i64)).M_lower hb (h.1 hx), h.2⟩
def kGateM (w0 : World) : Kd (Gate × Bool) := Kd.iso (Kd.pair (Kd.int .i64) (Kd.pair (Kd.int .u64) (flagK w0))) (fun x : Gate × Bool => (x.1.f0, x.1.f1, (x.1.f2, x.2)))
theorem kGateM_old {w0 w : World} {base : Nat} {ok : Nat → Prop} {x : Gate} {cs : List Value} (h : (kGateM w0).M w base ok (x, false) cs) : ∃ A2 c2, cs = [.int .i64 x.f0, .int .u64 x.f1, .slice A2 x.f2.length c2] ∧ (Kd.int .i64).C w0 A2 x.f2.length x.f2 := by
  obtain ⟨_, _, rfl, rfl, ⟨_, _, rfl, rfl, h2⟩⟩ := h
  obtain ⟨A2, c2, rfl, _, hc⟩ := h2.2 rfl
  exact ⟨A2, c2, rfl, hc⟩
theorem kGateM_new {w0 w : World} {base : Nat} {ok : Nat → Prop} {x : Gate} {v : Value} (h : (Kd.int .i64).R 3 w base ok v x.f2) : (kGateM w0).M w base ok (x, true) [.int .i64 x.f0, .int .u64 x.f1, v] :=
  ⟨[_], [_, _], rfl, rfl, [_], [_], rfl, rfl, fun _ => ⟨v, rfl, h⟩, fun h => absurd h (by simp)⟩
theorem kGateM_done {w0 w : World} {base : Nat} {ok : Nat → Prop} {x : Gate} {cs : List Value} (h : (kGateM w0).M w base ok (x, true) cs) : kGate.M w base ok x cs := by
  obtain ⟨_, _, rfl, rfl, ⟨_, _, rfl, rfl, h2⟩⟩ := h
  exact ⟨[_], _, rfl, rfl, [_], _, rfl, rfl, h2.1 rfl⟩
theorem zip_map {α β : Type} (g : α → β) (xs : List α) (j : Nat) {p : β × Nat} (h : (xs.map g).zipIdx[j]? = some p) : ∃ x, xs[j]? = some x ∧ p = (g x, j) := by
  rw [List.getElem?_zipIdx, Nat.zero_add, List.getElem?_map] at h
  cases hx : xs[j]? with
  | none => rw [hx] at h; simp at h
  | some x => rw [hx] at h; simp at h; exact ⟨x, rfl, h.symm⟩
theorem gates_start {w0 w : World} {B : Nat} {ok : Nat → Prop} {v : Value} {xs : List Gate} (h : Kd.R (kGateF w0) 80 w B (fun _ => True) v xs) (hv : ∀ k, v.ownBlock = some k → ok k) :
    Kd.S (kGateM w0) 80 w B ok v (xs.map fun x => (x, false)) := by
  obtain ⟨_, inner, ho, hr⟩ := h
  refine ⟨fun _ => 0, hv, inner, by rw [List.length_zipIdx, List.length_map]; exact ho, ⟨by rw [List.length_zipIdx, List.length_map]; exact hr.1, fun j p hp => ?_⟩⟩
  obtain ⟨x, hx, rfl⟩ := zip_map _ _ _ hp
  obtain ⟨_, _, e1, h1, ⟨_, _, e2, h2, h3⟩⟩ := hr.2 j x hx
  exact ⟨_, _, e1, h1, _, _, e2, h2, fun h => absurd h (by simp), fun _ => h3⟩
theorem gates_end {w0 w : World} {B : Nat} {ok : Nat → Prop} {v : Value} {xs : List Gate} (h : Kd.S (kGateM w0) 80 w B ok v (xs.map fun x => (x, true))) : Kd.S kGate 80 w B ok v xs := by
  obtain ⟨f, hv, inner, ho, hr⟩ := h
  have hl : (List.map (fun x => (x, true)) xs).zipIdx.length = xs.zipIdx.length := by simp
  refine ⟨f, hv, inner, by rw [← hl]; exact ho, ⟨by rw [← hl]; exact hr.1, fun j p hp => ?_⟩⟩
  have hp' : (xs.map id).zipIdx[j]? = some p := by rw [List.map_id]; exact hp
  obtain ⟨x, hx, rfl⟩ := zip_map id xs j hp'
  have := hr.2 j ((x, true), j) (by rw [List.getElem?_zipIdx, List.getElem?_map, hx]; simp)
  exact kGateM_done this
theorem flags_set {l : List Gate} {i : Nat} {x : Gate} (h : l[i]? = some x) : ((l.take i).map (fun x => (x, true)) ++ (l.drop i).map (fun x => (x, false))).set i (x, true) = (l.take (i + 1)).map (fun x => (x, true)) ++ (l.drop (i + 1)).map (fun x => (x, false)) := by
  have hi : i < l.length := (List.getElem?_eq_some_iff.1 h).1
  have hl : ((l.take i).map (fun x => (x, true))).length = i := by rw [List.length_map, List.length_take]; omega
  rw [drop_cons h, List.take_add_one, h, Option.toList_some, List.map_append, List.map_cons]
  generalize hA : (l.take i).map (fun x => (x, true)) = A at *
  subst hl
  rw [List.set_append_right A.length (x, true) (Nat.le_refl _), Nat.sub_self, List.set_cons_zero]
  simp
structure NetV (B : Nat) (w : World) (g : Nat) (v0 v1 v2 v3 v4 : Value) (l0 l1 : List ByteArray) (l2 : List Flop) (l4 : List Int) : Prop where
  blk : w.heap[g]? = some (.cells #[v0, v1, v2, v3, v4] 27 (0, 0))
  gB : B ≤ g
  r0 : Kd.R Kd.string 9 w B (fun _ => True) v0 l0
  r1 : Kd.R Kd.string 9 w B (fun _ => True) v1 l1
  r2 : Kd.R kFlop 82 w B (fun _ => True) v2 l2
  r4 : Kd.R (Kd.int .i64) 3 w B (fun _ => True) v4 l4
  n01 : ∀ k, v0.ownBlock = some k → v1.ownBlock ≠ some k
theorem NetV.below {B : Nat} {w w1 : World} {g : Nat} {v0 v1 v2 v3 v4 : Value} {l0 l1 : List ByteArray} {l2 : List Flop} {l4 : List Int} (h : NetV B w g v0 v1 v2 v3 v4 l0 l1 l2 l4) (hb : Below w.heap.size w w1) : NetV B w1 g v0 v1 v2 v3 v4 l0 l1 l2 l4 :=
  ⟨(hb.block g (Array.getElem?_eq_some_iff.1 h.blk).1).trans h.blk, h.gB, Kd.R_below h.r0 hb, Kd.R_below h.r1 hb, Kd.R_below h.r2 hb, Kd.R_below h.r4 hb, h.n01⟩
theorem NetV.gates {B : Nat} {w w1 : World} {g gg : Nat} {v0 v1 v2 v3 v4 : Value} {l0 l1 : List ByteArray} {l2 : List Flop} {l4 : List Int} (h : NetV B w g v0 v1 v2 v3 v4 l0 l1 l2 l4) {cells : Array Value} (hc : w.heap[gg]? = some (.cells cells 80 (0, 0))) (hg : w.grownBy w1 (some gg)) : NetV B w1 g v0 v1 v2 v3 v4 l0 l1 l2 l4 := by
  have mv : ∀ {α : Type} {d : Kd α} {e : Nat} {v : Value} {xs : List α}, Kd.R d e w B (fun _ => True) v xs → (∀ q, q ∈ e :: d.E → q ≠ 80) → Kd.R d e w1 B (fun _ => True) v xs := fun h ht =>
    Kd.R_mono (Kd.R_step (Kd.R_types h hc ht) (fun k hk hl => hg.block k hl (fun e => hk.2 (by injection e)))) (fun _ _ => trivial)
  have hne : g ≠ gg := by
    rintro rfl
    have := h.blk
    rw [hc] at this
    injection this with this
    injection this with _ this
    exact absurd this (by decide)
  exact ⟨(hg.block g (Array.getElem?_eq_some_iff.1 h.blk).1 (fun e => hne (by injection e))).trans h.blk, h.gB, mv h.r0 (by decide), mv h.r1 (by decide), mv h.r2 (by decide), mv h.r4 (by decide), h.n01⟩
structure CopyV (w0 : World) (B : Nat) (w : World) (g : Nat) (v0 v1 v2 v3 v4 : Value) (l0 l1 : List ByteArray) (l2 : List Flop) (l3 : List Gate) (l4 : List Int) : Prop where
  blk : w.heap[g]? = some (.cells #[v0, v1, v2, v3, v4] 27 (0, 0))
  gB : B ≤ g
  r0 : Kd.R Kd.string 9 w B (fun _ => True) v0 l0
  r1 : Kd.R Kd.string 9 w B (fun _ => True) v1 l1
  r2 : Kd.R kFlop 82 w B (fun _ => True) v2 l2
  r3 : Kd.R (kGateF w0) 80 w B (fun _ => True) v3 l3
  r4 : Kd.R (Kd.int .i64) 3 w B (fun _ => True) v4 l4
  n01 : ∀ k, v0.ownBlock = some k → v1.ownBlock ≠ some k
theorem CopyV.set {w0 : World} {B : Nat} {w : World} {g : Nat} {v0 v1 v2 v3 v4 a0 a1 a2 a3 a4 : Value} {l0 l1 : List ByteArray} {l2 : List Flop} {l3 : List Gate} {l4 : List Int}
    (hb : w.heap[g]? = some (.cells #[a0, a1, a2, a3, a4] 27 (0, 0))) (gB : B ≤ g) (r0 : Kd.R Kd.string 9 w B (fun _ => True) v0 l0) (r1 : Kd.R Kd.string 9 w B (fun _ => True) v1 l1)
    (r2 : Kd.R kFlop 82 w B (fun _ => True) v2 l2) (r3 : Kd.R (kGateF w0) 80 w B (fun _ => True) v3 l3) (r4 : Kd.R (Kd.int .i64) 3 w B (fun _ => True) v4 l4)
    (n01 : ∀ k, v0.ownBlock = some k → v1.ownBlock ≠ some k) :
    CopyV w0 B (((((w.setCell ⟨g, 0, none⟩ v0).setCell ⟨g, 1, none⟩ v1).setCell ⟨g, 2, none⟩ v2).setCell ⟨g, 3, none⟩ v3).setCell ⟨g, 4, none⟩ v4) g v0 v1 v2 v3 v4 l0 l1 l2 l3 l4 := by
  obtain ⟨hs, ho⟩ := set5 v0 v1 v2 v3 v4 hb
  have mv : ∀ {α : Type} {d : Kd α} {e : Nat} {v : Value} {xs : List α}, Kd.R d e w B (fun _ => True) v xs → (∀ q, q ∈ e :: d.E → q ≠ 27) → Kd.R d e _ B (fun _ => True) v xs := fun h ht =>
    Kd.R_mono (Kd.R_step (Kd.R_types h hb ht) (fun k hk _ => ho k hk.2)) (fun _ _ => trivial)
  exact ⟨hs, gB, mv r0 (by decide), mv r1 (by decide), mv r2 (by decide), mv r3 (fun q hq => by have h1 : q ∈ ([80] : List Nat) := hq; clear hq; revert q; decide), mv r4 (by decide), n01⟩
set_option maxHeartbeats 16000000 in
theorem copy_calls (A0 A1 A2 A3 A4 : Option Addr) (c0 c1 c2 c3 c4 : Nat) (l0 l1 : List ByteArray) (l2 : List Flop) (l3 : List Gate) (l4 : List Int) (w : World)
    (h0 : Kd.C Kd.string w A0 l0.length l0) (h1 : Kd.C Kd.string w A1 l1.length l1) (h2 : Kd.C kFlop w A2 l2.length l2) (h3 : Kd.C kGate w A3 l3.length l3) (h4 : Kd.C (Kd.int .i64) w A4 l4.length l4)
    (m0 : l0.length * 16 ≤ 140737488355328) (m1 : l1.length * 16 ≤ 140737488355328) (m2 : l2.length * 48 ≤ 140737488355328) (m3 : l3.length * 40 ≤ 140737488355328) (m4 : l4.length * 8 ≤ 140737488355328) (m5 : ∀ x ∈ l3, x.f2.length * 8 ≤ 140737488355328) :
    Calls Try.prog 29 #[.agg #[.slice A0 l0.length c0, .slice A1 l1.length c1, .slice A2 l2.length c2, .slice A3 l3.length c3, .slice A4 l4.length c4]] w fun e w' => ∃ v0 v1 v2 v3 v4 : Value, e = .returned (.agg #[v0, v1, v2, v3, v4]) ∧
      Kd.R Kd.string 9 w' w.heap.size (fun k => some k ≠ v1.ownBlock) v0 l0 ∧ Kd.R Kd.string 9 w' w.heap.size (fun k => some k ≠ v0.ownBlock) v1 l1 ∧ Kd.R kFlop 82 w' w.heap.size (fun _ => True) v2 l2 ∧
      Kd.S kGate 80 w' w.heap.size (fun k => some k ≠ v4.ownBlock) v3 l3 ∧ Kd.R (Kd.int .i64) 3 w' w.heap.size (fun _ => True) v4 l4 ∧ Below w.heap.size w w' := by
  have hu := Try.underlying27
  have hu0 := Try.underlying22
  have hu2 := Try.underlying23
  have hu3 := Try.underlying24
  have hu4 := Try.underlying25
  have bel : ∀ x : Under ((w.alloc (.cells #[.slice A0 l0.length c0, .slice A1 l1.length c1, .slice A2 l2.length c2, .slice A3 l3.length c3, .slice A4 l4.length c4] 27)).alloc (.cells #[.slice none 0 0, .slice none 0 0, .slice none 0 0, .slice none 0 0, .slice none 0 0] 27)), Below w.heap.size w x.val := fun x => (((Below.refl _ _).alloc (Nat.le_refl _) _).alloc (by simp) _).trans (x.ok.mono (by simp; omega))
  have hsz : ∀ x : Under ((w.alloc (.cells #[.slice A0 l0.length c0, .slice A1 l1.length c1, .slice A2 l2.length c2, .slice A3 l3.length c3, .slice A4 l4.length c4] 27)).alloc (.cells #[.slice none 0 0, .slice none 0 0, .slice none 0 0, .slice none 0 0, .slice none 0 0] 27)), w.heap.size + 2 ≤ x.val.heap.size := fun x => Nat.le_trans (by simp) x.size
  go_enter Try.func29, Try.ntmps29
  go_upto_region 1 with (fail)
  go_cut [3] (fun s wc => ∃ (g : Nat) (v0 v1 v2 v3 v4 : Value) (x : Under ((w.alloc (.cells #[.slice A0 l0.length c0, .slice A1 l1.length c1, .slice A2 l2.length c2, .slice A3 l3.length c3, .slice A4 l4.length c4] 27)).alloc (.cells #[.slice none 0 0, .slice none 0 0, .slice none 0 0, .slice none 0 0, .slice none 0 0] 27))), s = .pointer (some ⟨g, 0, none⟩) ∧ wc = x.val ∧ CopyV w (w.heap.size + 2) x.val g v0 v1 v2 v3 v4 l0 l1 l2 l3 l4)
  case first =>
    refine wp_region_splitA (fun w' => ∃ y : Under ((w.alloc (.cells #[.slice A0 l0.length c0, .slice A1 l1.length c1, .slice A2 l2.length c2, .slice A3 l3.length c3, .slice A4 l4.length c4] 27)).alloc (.cells #[.slice none 0 0, .slice none 0 0, .slice none 0 0, .slice none 0 0, .slice none 0 0] 27)), w' = y.val) [true, true, false, true, true, false, true, true, false, true, true, false, true, true, false, false, false, false] 8 #[true, true, false, true, true, false, true, true, false, true, true, false, true, true, false, false, false, false] (by kernel_rfl) (by kernel_rfl) (by decide) (by decide) ⟨(Under.refl _).drew, rfl⟩ (fun _ _ d _ _ h => by cases d <;> exact h) ?_
    simp only [pickB]
    repeat (go_big_quiet_step (fail))
    refine wpQuiet_nil ?_
    obtain ⟨x0, hx0⟩ : ∃ x : Under ((w.alloc (.cells #[.slice A0 l0.length c0, .slice A1 l1.length c1, .slice A2 l2.length c2, .slice A3 l3.length c3, .slice A4 l4.length c4] 27)).alloc (.cells #[.slice none 0 0, .slice none 0 0, .slice none 0 0, .slice none 0 0, .slice none 0 0] 27)), ((w.alloc (.cells #[.slice A0 l0.length c0, .slice A1 l1.length c1, .slice A2 l2.length c2, .slice A3 l3.length c3, .slice A4 l4.length c4] 27)).alloc (.cells #[.slice none 0 0, .slice none 0 0, .slice none 0 0, .slice none 0 0, .slice none 0 0] 27)).drew = x.val := ⟨(Under.refl _).drew, rfl⟩
    rw [hx0]
    clear hx0
    refine anyT_two (i := 2) (j := 16) #[true, true, true, true, true, false, true, true, false, true, true, false, true, true, false, false, false, false] #[true, true, false, true, true, false, true, true, false, true, true, false, true, true, false, false, true, false] (by kernel_rfl) rfl rfl (by decide) (by decide) (fun Q' hQ' => ?_) (fun Q' hQ' => ?_)
    · skip
      go_wp2_with (go_at_call 30; refine (clone_strs A0 c0 l0 _ (Kd.C_below h0 (bel x0)) m0).mono ?_; rintro e w' ⟨v0, rfl, hv0, hB0⟩; obtain ⟨x1, rfl⟩ : ∃ x : Under ((w.alloc (.cells #[.slice A0 l0.length c0, .slice A1 l1.length c1, .slice A2 l2.length c2, .slice A3 l3.length c3, .slice A4 l4.length c4] 27)).alloc (.cells #[.slice none 0 0, .slice none 0 0, .slice none 0 0, .slice none 0 0, .slice none 0 0] 27)), w' = x.val := ⟨⟨_, x0.ok.trans (hB0.mono x0.size)⟩, rfl⟩; have hlo0 := Kd.R_base hv0; replace hv0 := Kd.R_lower hv0 (hsz x0); clear hB0 hlo0)
      refine ⟨(by first | exact .inr ⟨x1, rfl⟩ | exact ⟨x1, rfl⟩), ?_⟩
      refine anyT_two (i := 5) (j := 16) #[true, true, true, true, true, true, true, true, false, true, true, false, true, true, false, false, false, false] #[true, true, true, true, true, false, true, true, false, true, true, false, true, true, false, false, true, false] (by kernel_rfl) rfl rfl (by decide) (by decide) (fun Q' hQ' => ?_) (fun Q' hQ' => ?_)
      · skip
        have hlt0 := Kd.R_lt hv0
        go_wp2_with (go_at_call 30; refine (clone_strs A1 c1 l1 _ (Kd.C_below h1 (bel x1)) m1).mono ?_; rintro e w' ⟨v1, rfl, hv1, hB1⟩; obtain ⟨x2, rfl⟩ : ∃ x : Under ((w.alloc (.cells #[.slice A0 l0.length c0, .slice A1 l1.length c1, .slice A2 l2.length c2, .slice A3 l3.length c3, .slice A4 l4.length c4] 27)).alloc (.cells #[.slice none 0 0, .slice none 0 0, .slice none 0 0, .slice none 0 0, .slice none 0 0] 27)), w' = x.val := ⟨⟨_, x1.ok.trans (hB1.mono x1.size)⟩, rfl⟩; replace hv0 := Kd.R_below hv0 hB1; have hlo1 := Kd.R_base hv1; replace hv1 := Kd.R_lower hv1 (hsz x1); have n01 : ∀ k, v0.ownBlock = some k → v1.ownBlock ≠ some k := fun k hk e => (by have h5 := hlt0 k hk; have h6 := hlo1 k e; omega); clear hB1 hlo1)
        clear hlt0
        refine ⟨(by first | exact .inr ⟨x2, rfl⟩ | exact ⟨x2, rfl⟩), ?_⟩
        refine anyT_two (i := 8) (j := 16) #[true, true, true, true, true, true, true, true, true, true, true, false, true, true, false, false, false, false] #[true, true, true, true, true, true, true, true, false, true, true, false, true, true, false, false, true, false] (by kernel_rfl) rfl rfl (by decide) (by decide) (fun Q' hQ' => ?_) (fun Q' hQ' => ?_)
        · skip
          go_wp2_with (go_at_call 54; refine (clone_flops A2 c2 l2 _ (Kd.C_below h2 (bel x2)) m2).mono ?_; rintro e w' ⟨v2, rfl, hv2, hB2⟩; obtain ⟨x3, rfl⟩ : ∃ x : Under ((w.alloc (.cells #[.slice A0 l0.length c0, .slice A1 l1.length c1, .slice A2 l2.length c2, .slice A3 l3.length c3, .slice A4 l4.length c4] 27)).alloc (.cells #[.slice none 0 0, .slice none 0 0, .slice none 0 0, .slice none 0 0, .slice none 0 0] 27)), w' = x.val := ⟨⟨_, x2.ok.trans (hB2.mono x2.size)⟩, rfl⟩; replace hv0 := Kd.R_below hv0 hB2; replace hv1 := Kd.R_below hv1 hB2; have hlo2 := Kd.R_base hv2; replace hv2 := Kd.R_lower hv2 (hsz x2); clear hB2 hlo2)
          refine ⟨(by first | exact .inr ⟨x3, rfl⟩ | exact ⟨x3, rfl⟩), ?_⟩
          refine anyT_two (i := 11) (j := 16) #[true, true, true, true, true, true, true, true, true, true, true, true, true, true, false, false, false, false] #[true, true, true, true, true, true, true, true, true, true, true, false, true, true, false, false, true, false] (by kernel_rfl) rfl rfl (by decide) (by decide) (fun Q' hQ' => ?_) (fun Q' hQ' => ?_)
          · skip
            go_wp2_with (go_at_call 55; refine (clone_gates A3 c3 l3 w _ (bel x3) h3 m3).mono ?_; rintro e w' ⟨v3, rfl, hv3, hB3⟩; obtain ⟨x4, rfl⟩ : ∃ x : Under ((w.alloc (.cells #[.slice A0 l0.length c0, .slice A1 l1.length c1, .slice A2 l2.length c2, .slice A3 l3.length c3, .slice A4 l4.length c4] 27)).alloc (.cells #[.slice none 0 0, .slice none 0 0, .slice none 0 0, .slice none 0 0, .slice none 0 0] 27)), w' = x.val := ⟨⟨_, x3.ok.trans (hB3.mono x3.size)⟩, rfl⟩; replace hv0 := Kd.R_below hv0 hB3; replace hv1 := Kd.R_below hv1 hB3; replace hv2 := Kd.R_below hv2 hB3; have hlo3 := Kd.R_base hv3; replace hv3 := Kd.R_lower hv3 (hsz x3); clear hB3 hlo3)
            refine ⟨(by first | exact .inr ⟨x4, rfl⟩ | exact ⟨x4, rfl⟩), ?_⟩
            refine anyT_two (i := 14) (j := 16) #[true, true, true, true, true, true, true, true, true, true, true, true, true, true, true, false, false, false] #[true, true, true, true, true, true, true, true, true, true, true, true, true, true, false, false, true, false] (by kernel_rfl) rfl rfl (by decide) (by decide) (fun Q' hQ' => ?_) (fun Q' hQ' => ?_)
            · skip
              go_wp2_with (go_at_call 56; refine (clone_ints A4 c4 l4 _ (Kd.C_below h4 (bel x4)) m4).mono ?_; rintro e w' ⟨v4, rfl, hv4, hB4⟩; obtain ⟨x5, rfl⟩ : ∃ x : Under ((w.alloc (.cells #[.slice A0 l0.length c0, .slice A1 l1.length c1, .slice A2 l2.length c2, .slice A3 l3.length c3, .slice A4 l4.length c4] 27)).alloc (.cells #[.slice none 0 0, .slice none 0 0, .slice none 0 0, .slice none 0 0, .slice none 0 0] 27)), w' = x.val := ⟨⟨_, x4.ok.trans (hB4.mono x4.size)⟩, rfl⟩; replace hv0 := Kd.R_below hv0 hB4; replace hv1 := Kd.R_below hv1 hB4; replace hv2 := Kd.R_below hv2 hB4; replace hv3 := Kd.R_below hv3 hB4; have hlo4 := Kd.R_base hv4; replace hv4 := Kd.R_lower hv4 (hsz x4); clear hB4 hlo4)
              refine ⟨(by first | exact .inr ⟨x5, rfl⟩ | exact ⟨x5, rfl⟩), ?_⟩
              refine anyT_two (i := 15) (j := 16) #[true, true, true, true, true, true, true, true, true, true, true, true, true, true, true, true, false, false] #[true, true, true, true, true, true, true, true, true, true, true, true, true, true, true, false, true, false] (by kernel_rfl) rfl rfl (by decide) (by decide) (fun Q' hQ' => ?_) (fun Q' hQ' => ?_)
              · skip
                obtain ⟨B0, d0, rfl⟩ := Kd.R_slice hv0
                obtain ⟨B1, d1, rfl⟩ := Kd.R_slice hv1
                obtain ⟨B2, d2, rfl⟩ := Kd.R_slice hv2
                obtain ⟨B3, d3, rfl⟩ := Kd.R_slice hv3
                obtain ⟨B4, d4, rfl⟩ := Kd.R_slice hv4
                go_wp2_with fail
                refine ⟨(by first | exact .inr ⟨x5, rfl⟩ | exact ⟨x5, rfl⟩), ?_⟩
                refine anyT_one (i := 16) #[true, true, true, true, true, true, true, true, true, true, true, true, true, true, true, true, true, false] (by kernel_rfl) rfl (by decide) (fun Q' hQ' => ?_)
                go_wp2_with fail
                have hg := heap_alloc_new x5.val (.cells #[.slice none 0 0, .slice none 0 0, .slice none 0 0, .slice none 0 0, .slice none 0 0] 27)
                have hBa := below_alloc (Below.refl x5.val.heap.size x5.val) (.cells #[.slice none 0 0, .slice none 0 0, .slice none 0 0, .slice none 0 0, .slice none 0 0] 27)
                have hgB := hsz x5
                have hgl : x5.val.heap.size < (x5.val.alloc (.cells #[.slice none 0 0, .slice none 0 0, .slice none 0 0, .slice none 0 0, .slice none 0 0] 27)).heap.size := by simp
                replace hv0 := Kd.R_below hv0 hBa
                replace hv1 := Kd.R_below hv1 hBa
                replace hv2 := Kd.R_below hv2 hBa
                replace hv3 := Kd.R_below hv3 hBa
                replace hv4 := Kd.R_below hv4 hBa
                obtain ⟨x5a, hx5a⟩ : ∃ x : Under ((w.alloc (.cells #[.slice A0 l0.length c0, .slice A1 l1.length c1, .slice A2 l2.length c2, .slice A3 l3.length c3, .slice A4 l4.length c4] 27)).alloc (.cells #[.slice none 0 0, .slice none 0 0, .slice none 0 0, .slice none 0 0, .slice none 0 0] 27)), x5.val.alloc (.cells #[.slice none 0 0, .slice none 0 0, .slice none 0 0, .slice none 0 0, .slice none 0 0] 27) = x.val := ⟨x5.alloc _, rfl⟩
                rw [hx5a] at hg hgl hv0 hv1 hv2 hv3 hv4 ⊢
                clear hx5a hBa
                generalize x5.val.heap.size = g at *
                refine ⟨(by first | exact .inr ⟨x5a, rfl⟩ | exact ⟨x5a, rfl⟩), ?_⟩
                refine anyT_one (i := 17) #[true, true, true, true, true, true, true, true, true, true, true, true, true, true, true, true, true, true] (by kernel_rfl) rfl (by decide) (fun Q' hQ' => ?_)
                have hgW : (((w.alloc (.cells #[.slice A0 l0.length c0, .slice A1 l1.length c1, .slice A2 l2.length c2, .slice A3 l3.length c3, .slice A4 l4.length c4] 27)).alloc (.cells #[.slice none 0 0, .slice none 0 0, .slice none 0 0, .slice none 0 0, .slice none 0 0] 27)).heap.size) ≤ g := by simp; omega
                have hgc0 : x5a.val.cell? ⟨g, 0, none⟩ = some (.slice none 0 0) := (cell_of_row x5a.val g 0 _ _ _ hg).trans rfl
                have hgc1 : x5a.val.cell? ⟨g, 1, none⟩ = some (.slice none 0 0) := (cell_of_row x5a.val g 1 _ _ _ hg).trans rfl
                have hgc2 : x5a.val.cell? ⟨g, 2, none⟩ = some (.slice none 0 0) := (cell_of_row x5a.val g 2 _ _ _ hg).trans rfl
                have hgc3 : x5a.val.cell? ⟨g, 3, none⟩ = some (.slice none 0 0) := (cell_of_row x5a.val g 3 _ _ _ hg).trans rfl
                have hgc4 : x5a.val.cell? ⟨g, 4, none⟩ = some (.slice none 0 0) := (cell_of_row x5a.val g 4 _ _ _ hg).trans rfl
                have hfz : ∀ j, x5a.val.frozen? ⟨g, j, none⟩ = false := fun j => frozen_of_row _ _ _ _ _ hg
                go_wp2_with fail
                refine ⟨(by first | exact .inl rfl | exact by kernel_rfl), ?_⟩
                refine anyT_end (by kernel_rfl) ?_
                go_wp2
                have hcv := CopyV.set hg hgB hv0 hv1 hv2 hv3 hv4 n01
                go_meet
                case rel => exact ⟨g, _, _, _, _, _, ((((x5a.setCell ⟨g, 0, none⟩ hgW _).setCell ⟨g, 1, none⟩ hgW _).setCell ⟨g, 2, none⟩ hgW _).setCell ⟨g, 3, none⟩ hgW _).setCell ⟨g, 4, none⟩ hgW _, rfl, rfl, hcv⟩
              · skip
                go_wp2_with fail
                have hg := heap_alloc_new x5.val (.cells #[.slice none 0 0, .slice none 0 0, .slice none 0 0, .slice none 0 0, .slice none 0 0] 27)
                have hBa := below_alloc (Below.refl x5.val.heap.size x5.val) (.cells #[.slice none 0 0, .slice none 0 0, .slice none 0 0, .slice none 0 0, .slice none 0 0] 27)
                have hgB := hsz x5
                have hgl : x5.val.heap.size < (x5.val.alloc (.cells #[.slice none 0 0, .slice none 0 0, .slice none 0 0, .slice none 0 0, .slice none 0 0] 27)).heap.size := by simp
                replace hv0 := Kd.R_below hv0 hBa
                replace hv1 := Kd.R_below hv1 hBa
                replace hv2 := Kd.R_below hv2 hBa
                replace hv3 := Kd.R_below hv3 hBa
                replace hv4 := Kd.R_below hv4 hBa
                obtain ⟨x5a, hx5a⟩ : ∃ x : Under ((w.alloc (.cells #[.slice A0 l0.length c0, .slice A1 l1.length c1, .slice A2 l2.length c2, .slice A3 l3.length c3, .slice A4 l4.length c4] 27)).alloc (.cells #[.slice none 0 0, .slice none 0 0, .slice none 0 0, .slice none 0 0, .slice none 0 0] 27)), x5.val.alloc (.cells #[.slice none 0 0, .slice none 0 0, .slice none 0 0, .slice none 0 0, .slice none 0 0] 27) = x.val := ⟨x5.alloc _, rfl⟩
                rw [hx5a] at hg hgl hv0 hv1 hv2 hv3 hv4 ⊢
                clear hx5a hBa
                generalize x5.val.heap.size = g at *
                refine ⟨(by first | exact .inr ⟨x5a, rfl⟩ | exact ⟨x5a, rfl⟩), ?_⟩
                refine anyT_one (i := 15) #[true, true, true, true, true, true, true, true, true, true, true, true, true, true, true, true, true, false] (by kernel_rfl) rfl (by decide) (fun Q' hQ' => ?_)
                obtain ⟨B0, d0, rfl⟩ := Kd.R_slice hv0
                obtain ⟨B1, d1, rfl⟩ := Kd.R_slice hv1
                obtain ⟨B2, d2, rfl⟩ := Kd.R_slice hv2
                obtain ⟨B3, d3, rfl⟩ := Kd.R_slice hv3
                obtain ⟨B4, d4, rfl⟩ := Kd.R_slice hv4
                go_wp2_with fail
                refine ⟨(by first | exact .inr ⟨x5a, rfl⟩ | exact ⟨x5a, rfl⟩), ?_⟩
                refine anyT_one (i := 17) #[true, true, true, true, true, true, true, true, true, true, true, true, true, true, true, true, true, true] (by kernel_rfl) rfl (by decide) (fun Q' hQ' => ?_)
                have hgW : (((w.alloc (.cells #[.slice A0 l0.length c0, .slice A1 l1.length c1, .slice A2 l2.length c2, .slice A3 l3.length c3, .slice A4 l4.length c4] 27)).alloc (.cells #[.slice none 0 0, .slice none 0 0, .slice none 0 0, .slice none 0 0, .slice none 0 0] 27)).heap.size) ≤ g := by simp; omega
                have hgc0 : x5a.val.cell? ⟨g, 0, none⟩ = some (.slice none 0 0) := (cell_of_row x5a.val g 0 _ _ _ hg).trans rfl
                have hgc1 : x5a.val.cell? ⟨g, 1, none⟩ = some (.slice none 0 0) := (cell_of_row x5a.val g 1 _ _ _ hg).trans rfl
                have hgc2 : x5a.val.cell? ⟨g, 2, none⟩ = some (.slice none 0 0) := (cell_of_row x5a.val g 2 _ _ _ hg).trans rfl
                have hgc3 : x5a.val.cell? ⟨g, 3, none⟩ = some (.slice none 0 0) := (cell_of_row x5a.val g 3 _ _ _ hg).trans rfl
                have hgc4 : x5a.val.cell? ⟨g, 4, none⟩ = some (.slice none 0 0) := (cell_of_row x5a.val g 4 _ _ _ hg).trans rfl
                have hfz : ∀ j, x5a.val.frozen? ⟨g, j, none⟩ = false := fun j => frozen_of_row _ _ _ _ _ hg
                go_wp2_with fail
                refine ⟨(by first | exact .inl rfl | exact by kernel_rfl), ?_⟩
                refine anyT_end (by kernel_rfl) ?_
                go_wp2
                have hcv := CopyV.set hg hgB hv0 hv1 hv2 hv3 hv4 n01
                go_meet
                case rel => exact ⟨g, _, _, _, _, _, ((((x5a.setCell ⟨g, 0, none⟩ hgW _).setCell ⟨g, 1, none⟩ hgW _).setCell ⟨g, 2, none⟩ hgW _).setCell ⟨g, 3, none⟩ hgW _).setCell ⟨g, 4, none⟩ hgW _, rfl, rfl, hcv⟩
            · skip
              go_wp2_with fail
              have hg := heap_alloc_new x4.val (.cells #[.slice none 0 0, .slice none 0 0, .slice none 0 0, .slice none 0 0, .slice none 0 0] 27)
              have hBa := below_alloc (Below.refl x4.val.heap.size x4.val) (.cells #[.slice none 0 0, .slice none 0 0, .slice none 0 0, .slice none 0 0, .slice none 0 0] 27)
              have hgB := hsz x4
              have hgl : x4.val.heap.size < (x4.val.alloc (.cells #[.slice none 0 0, .slice none 0 0, .slice none 0 0, .slice none 0 0, .slice none 0 0] 27)).heap.size := by simp
              replace hv0 := Kd.R_below hv0 hBa
              replace hv1 := Kd.R_below hv1 hBa
              replace hv2 := Kd.R_below hv2 hBa
              replace hv3 := Kd.R_below hv3 hBa
              obtain ⟨x4a, hx4a⟩ : ∃ x : Under ((w.alloc (.cells #[.slice A0 l0.length c0, .slice A1 l1.length c1, .slice A2 l2.length c2, .slice A3 l3.length c3, .slice A4 l4.length c4] 27)).alloc (.cells #[.slice none 0 0, .slice none 0 0, .slice none 0 0, .slice none 0 0, .slice none 0 0] 27)), x4.val.alloc (.cells #[.slice none 0 0, .slice none 0 0, .slice none 0 0, .slice none 0 0, .slice none 0 0] 27) = x.val := ⟨x4.alloc _, rfl⟩
              rw [hx4a] at hg hgl hv0 hv1 hv2 hv3 ⊢
              clear hx4a hBa
              generalize x4.val.heap.size = g at *
              refine ⟨(by first | exact .inr ⟨x4a, rfl⟩ | exact ⟨x4a, rfl⟩), ?_⟩
              refine anyT_one (i := 14) #[true, true, true, true, true, true, true, true, true, true, true, true, true, true, true, false, true, false] (by kernel_rfl) rfl (by decide) (fun Q' hQ' => ?_)
              go_wp2_with (go_at_call 56; refine (clone_ints A4 c4 l4 _ (Kd.C_below h4 (bel x4a)) m4).mono ?_; rintro e w' ⟨v4, rfl, hv4, hB4⟩; obtain ⟨x5a, rfl⟩ : ∃ x : Under ((w.alloc (.cells #[.slice A0 l0.length c0, .slice A1 l1.length c1, .slice A2 l2.length c2, .slice A3 l3.length c3, .slice A4 l4.length c4] 27)).alloc (.cells #[.slice none 0 0, .slice none 0 0, .slice none 0 0, .slice none 0 0, .slice none 0 0] 27)), w' = x.val := ⟨⟨_, x4a.ok.trans (hB4.mono x4a.size)⟩, rfl⟩; replace hv0 := Kd.R_below hv0 hB4; replace hv1 := Kd.R_below hv1 hB4; replace hv2 := Kd.R_below hv2 hB4; replace hv3 := Kd.R_below hv3 hB4; replace hg := (hB4.block g hgl).trans hg; replace hgl := Nat.lt_of_lt_of_le hgl hB4.size; have hlo4 := Kd.R_base hv4; replace hv4 := Kd.R_lower hv4 (hsz x4a); clear hB4 hlo4)
              refine ⟨(by first | exact .inr ⟨x5a, rfl⟩ | exact ⟨x5a, rfl⟩), ?_⟩
              refine anyT_one (i := 15) #[true, true, true, true, true, true, true, true, true, true, true, true, true, true, true, true, true, false] (by kernel_rfl) rfl (by decide) (fun Q' hQ' => ?_)
              obtain ⟨B0, d0, rfl⟩ := Kd.R_slice hv0
              obtain ⟨B1, d1, rfl⟩ := Kd.R_slice hv1
              obtain ⟨B2, d2, rfl⟩ := Kd.R_slice hv2
              obtain ⟨B3, d3, rfl⟩ := Kd.R_slice hv3
              obtain ⟨B4, d4, rfl⟩ := Kd.R_slice hv4
              go_wp2_with fail
              refine ⟨(by first | exact .inr ⟨x5a, rfl⟩ | exact ⟨x5a, rfl⟩), ?_⟩
              refine anyT_one (i := 17) #[true, true, true, true, true, true, true, true, true, true, true, true, true, true, true, true, true, true] (by kernel_rfl) rfl (by decide) (fun Q' hQ' => ?_)
              have hgW : (((w.alloc (.cells #[.slice A0 l0.length c0, .slice A1 l1.length c1, .slice A2 l2.length c2, .slice A3 l3.length c3, .slice A4 l4.length c4] 27)).alloc (.cells #[.slice none 0 0, .slice none 0 0, .slice none 0 0, .slice none 0 0, .slice none 0 0] 27)).heap.size) ≤ g := by simp; omega
              have hgc0 : x5a.val.cell? ⟨g, 0, none⟩ = some (.slice none 0 0) := (cell_of_row x5a.val g 0 _ _ _ hg).trans rfl
              have hgc1 : x5a.val.cell? ⟨g, 1, none⟩ = some (.slice none 0 0) := (cell_of_row x5a.val g 1 _ _ _ hg).trans rfl
              have hgc2 : x5a.val.cell? ⟨g, 2, none⟩ = some (.slice none 0 0) := (cell_of_row x5a.val g 2 _ _ _ hg).trans rfl
              have hgc3 : x5a.val.cell? ⟨g, 3, none⟩ = some (.slice none 0 0) := (cell_of_row x5a.val g 3 _ _ _ hg).trans rfl
              have hgc4 : x5a.val.cell? ⟨g, 4, none⟩ = some (.slice none 0 0) := (cell_of_row x5a.val g 4 _ _ _ hg).trans rfl
              have hfz : ∀ j, x5a.val.frozen? ⟨g, j, none⟩ = false := fun j => frozen_of_row _ _ _ _ _ hg
              go_wp2_with fail
              refine ⟨(by first | exact .inl rfl | exact by kernel_rfl), ?_⟩
              refine anyT_end (by kernel_rfl) ?_
              go_wp2
              have hcv := CopyV.set hg hgB hv0 hv1 hv2 hv3 hv4 n01
              go_meet
              case rel => exact ⟨g, _, _, _, _, _, ((((x5a.setCell ⟨g, 0, none⟩ hgW _).setCell ⟨g, 1, none⟩ hgW _).setCell ⟨g, 2, none⟩ hgW _).setCell ⟨g, 3, none⟩ hgW _).setCell ⟨g, 4, none⟩ hgW _, rfl, rfl, hcv⟩
          · skip
            go_wp2_with fail
            have hg := heap_alloc_new x3.val (.cells #[.slice none 0 0, .slice none 0 0, .slice none 0 0, .slice none 0 0, .slice none 0 0] 27)
            have hBa := below_alloc (Below.refl x3.val.heap.size x3.val) (.cells #[.slice none 0 0, .slice none 0 0, .slice none 0 0, .slice none 0 0, .slice none 0 0] 27)
            have hgB := hsz x3
            have hgl : x3.val.heap.size < (x3.val.alloc (.cells #[.slice none 0 0, .slice none 0 0, .slice none 0 0, .slice none 0 0, .slice none 0 0] 27)).heap.size := by simp
            replace hv0 := Kd.R_below hv0 hBa
            replace hv1 := Kd.R_below hv1 hBa
            replace hv2 := Kd.R_below hv2 hBa
            obtain ⟨x3a, hx3a⟩ : ∃ x : Under ((w.alloc (.cells #[.slice A0 l0.length c0, .slice A1 l1.length c1, .slice A2 l2.length c2, .slice A3 l3.length c3, .slice A4 l4.length c4] 27)).alloc (.cells #[.slice none 0 0, .slice none 0 0, .slice none 0 0, .slice none 0 0, .slice none 0 0] 27)), x3.val.alloc (.cells #[.slice none 0 0, .slice none 0 0, .slice none 0 0, .slice none 0 0, .slice none 0 0] 27) = x.val := ⟨x3.alloc _, rfl⟩
            rw [hx3a] at hg hgl hv0 hv1 hv2 ⊢
            clear hx3a hBa
            generalize x3.val.heap.size = g at *
            refine ⟨(by first | exact .inr ⟨x3a, rfl⟩ | exact ⟨x3a, rfl⟩), ?_⟩
            refine anyT_one (i := 11) #[true, true, true, true, true, true, true, true, true, true, true, true, true, true, false, false, true, false] (by kernel_rfl) rfl (by decide) (fun Q' hQ' => ?_)
            go_wp2_with (go_at_call 55; refine (clone_gates A3 c3 l3 w _ (bel x3a) h3 m3).mono ?_; rintro e w' ⟨v3, rfl, hv3, hB3⟩; obtain ⟨x4a, rfl⟩ : ∃ x : Under ((w.alloc (.cells #[.slice A0 l0.length c0, .slice A1 l1.length c1, .slice A2 l2.length c2, .slice A3 l3.length c3, .slice A4 l4.length c4] 27)).alloc (.cells #[.slice none 0 0, .slice none 0 0, .slice none 0 0, .slice none 0 0, .slice none 0 0] 27)), w' = x.val := ⟨⟨_, x3a.ok.trans (hB3.mono x3a.size)⟩, rfl⟩; replace hv0 := Kd.R_below hv0 hB3; replace hv1 := Kd.R_below hv1 hB3; replace hv2 := Kd.R_below hv2 hB3; replace hg := (hB3.block g hgl).trans hg; replace hgl := Nat.lt_of_lt_of_le hgl hB3.size; have hlo3 := Kd.R_base hv3; replace hv3 := Kd.R_lower hv3 (hsz x3a); clear hB3 hlo3)
            refine ⟨(by first | exact .inr ⟨x4a, rfl⟩ | exact ⟨x4a, rfl⟩), ?_⟩
            refine anyT_one (i := 14) #[true, true, true, true, true, true, true, true, true, true, true, true, true, true, true, false, true, false] (by kernel_rfl) rfl (by decide) (fun Q' hQ' => ?_)
            go_wp2_with (go_at_call 56; refine (clone_ints A4 c4 l4 _ (Kd.C_below h4 (bel x4a)) m4).mono ?_; rintro e w' ⟨v4, rfl, hv4, hB4⟩; obtain ⟨x5a, rfl⟩ : ∃ x : Under ((w.alloc (.cells #[.slice A0 l0.length c0, .slice A1 l1.length c1, .slice A2 l2.length c2, .slice A3 l3.length c3, .slice A4 l4.length c4] 27)).alloc (.cells #[.slice none 0 0, .slice none 0 0, .slice none 0 0, .slice none 0 0, .slice none 0 0] 27)), w' = x.val := ⟨⟨_, x4a.ok.trans (hB4.mono x4a.size)⟩, rfl⟩; replace hv0 := Kd.R_below hv0 hB4; replace hv1 := Kd.R_below hv1 hB4; replace hv2 := Kd.R_below hv2 hB4; replace hv3 := Kd.R_below hv3 hB4; replace hg := (hB4.block g hgl).trans hg; replace hgl := Nat.lt_of_lt_of_le hgl hB4.size; have hlo4 := Kd.R_base hv4; replace hv4 := Kd.R_lower hv4 (hsz x4a); clear hB4 hlo4)
            refine ⟨(by first | exact .inr ⟨x5a, rfl⟩ | exact ⟨x5a, rfl⟩), ?_⟩
            refine anyT_one (i := 15) #[true, true, true, true, true, true, true, true, true, true, true, true, true, true, true, true, true, false] (by kernel_rfl) rfl (by decide) (fun Q' hQ' => ?_)
            obtain ⟨B0, d0, rfl⟩ := Kd.R_slice hv0
            obtain ⟨B1, d1, rfl⟩ := Kd.R_slice hv1
            obtain ⟨B2, d2, rfl⟩ := Kd.R_slice hv2
            obtain ⟨B3, d3, rfl⟩ := Kd.R_slice hv3
            obtain ⟨B4, d4, rfl⟩ := Kd.R_slice hv4
            go_wp2_with fail
            refine ⟨(by first | exact .inr ⟨x5a, rfl⟩ | exact ⟨x5a, rfl⟩), ?_⟩
            refine anyT_one (i := 17) #[true, true, true, true, true, true, true, true, true, true, true, true, true, true, true, true, true, true] (by kernel_rfl) rfl (by decide) (fun Q' hQ' => ?_)
            have hgW : (((w.alloc (.cells #[.slice A0 l0.length c0, .slice A1 l1.length c1, .slice A2 l2.length c2, .slice A3 l3.length c3, .slice A4 l4.length c4] 27)).alloc (.cells #[.slice none 0 0, .slice none 0 0, .slice none 0 0, .slice none 0 0, .slice none 0 0] 27)).heap.size) ≤ g := by simp; omega
            have hgc0 : x5a.val.cell? ⟨g, 0, none⟩ = some (.slice none 0 0) := (cell_of_row x5a.val g 0 _ _ _ hg).trans rfl
            have hgc1 : x5a.val.cell? ⟨g, 1, none⟩ = some (.slice none 0 0) := (cell_of_row x5a.val g 1 _ _ _ hg).trans rfl
            have hgc2 : x5a.val.cell? ⟨g, 2, none⟩ = some (.slice none 0 0) := (cell_of_row x5a.val g 2 _ _ _ hg).trans rfl
            have hgc3 : x5a.val.cell? ⟨g, 3, none⟩ = some (.slice none 0 0) := (cell_of_row x5a.val g 3 _ _ _ hg).trans rfl
            have hgc4 : x5a.val.cell? ⟨g, 4, none⟩ = some (.slice none 0 0) := (cell_of_row x5a.val g 4 _ _ _ hg).trans rfl
            have hfz : ∀ j, x5a.val.frozen? ⟨g, j, none⟩ = false := fun j => frozen_of_row _ _ _ _ _ hg
            go_wp2_with fail
            refine ⟨(by first | exact .inl rfl | exact by kernel_rfl), ?_⟩
            refine anyT_end (by kernel_rfl) ?_
            go_wp2
            have hcv := CopyV.set hg hgB hv0 hv1 hv2 hv3 hv4 n01
            go_meet
            case rel => exact ⟨g, _, _, _, _, _, ((((x5a.setCell ⟨g, 0, none⟩ hgW _).setCell ⟨g, 1, none⟩ hgW _).setCell ⟨g, 2, none⟩ hgW _).setCell ⟨g, 3, none⟩ hgW _).setCell ⟨g, 4, none⟩ hgW _, rfl, rfl, hcv⟩
        · skip
          go_wp2_with fail
          have hg := heap_alloc_new x2.val (.cells #[.slice none 0 0, .slice none 0 0, .slice none 0 0, .slice none 0 0, .slice none 0 0] 27)
          have hBa := below_alloc (Below.refl x2.val.heap.size x2.val) (.cells #[.slice none 0 0, .slice none 0 0, .slice none 0 0, .slice none 0 0, .slice none 0 0] 27)
          have hgB := hsz x2
          have hgl : x2.val.heap.size < (x2.val.alloc (.cells #[.slice none 0 0, .slice none 0 0, .slice none 0 0, .slice none 0 0, .slice none 0 0] 27)).heap.size := by simp
          replace hv0 := Kd.R_below hv0 hBa
          replace hv1 := Kd.R_below hv1 hBa
          obtain ⟨x2a, hx2a⟩ : ∃ x : Under ((w.alloc (.cells #[.slice A0 l0.length c0, .slice A1 l1.length c1, .slice A2 l2.length c2, .slice A3 l3.length c3, .slice A4 l4.length c4] 27)).alloc (.cells #[.slice none 0 0, .slice none 0 0, .slice none 0 0, .slice none 0 0, .slice none 0 0] 27)), x2.val.alloc (.cells #[.slice none 0 0, .slice none 0 0, .slice none 0 0, .slice none 0 0, .slice none 0 0] 27) = x.val := ⟨x2.alloc _, rfl⟩
          rw [hx2a] at hg hgl hv0 hv1 ⊢
          clear hx2a hBa
          generalize x2.val.heap.size = g at *
          refine ⟨(by first | exact .inr ⟨x2a, rfl⟩ | exact ⟨x2a, rfl⟩), ?_⟩
          refine anyT_one (i := 8) #[true, true, true, true, true, true, true, true, true, true, true, false, true, true, false, false, true, false] (by kernel_rfl) rfl (by decide) (fun Q' hQ' => ?_)
          go_wp2_with (go_at_call 54; refine (clone_flops A2 c2 l2 _ (Kd.C_below h2 (bel x2a)) m2).mono ?_; rintro e w' ⟨v2, rfl, hv2, hB2⟩; obtain ⟨x3a, rfl⟩ : ∃ x : Under ((w.alloc (.cells #[.slice A0 l0.length c0, .slice A1 l1.length c1, .slice A2 l2.length c2, .slice A3 l3.length c3, .slice A4 l4.length c4] 27)).alloc (.cells #[.slice none 0 0, .slice none 0 0, .slice none 0 0, .slice none 0 0, .slice none 0 0] 27)), w' = x.val := ⟨⟨_, x2a.ok.trans (hB2.mono x2a.size)⟩, rfl⟩; replace hv0 := Kd.R_below hv0 hB2; replace hv1 := Kd.R_below hv1 hB2; replace hg := (hB2.block g hgl).trans hg; replace hgl := Nat.lt_of_lt_of_le hgl hB2.size; have hlo2 := Kd.R_base hv2; replace hv2 := Kd.R_lower hv2 (hsz x2a); clear hB2 hlo2)
          refine ⟨(by first | exact .inr ⟨x3a, rfl⟩ | exact ⟨x3a, rfl⟩), ?_⟩
          refine anyT_one (i := 11) #[true, true, true, true, true, true, true, true, true, true, true, true, true, true, false, false, true, false] (by kernel_rfl) rfl (by decide) (fun Q' hQ' => ?_)
          go_wp2_with (go_at_call 55; refine (clone_gates A3 c3 l3 w _ (bel x3a) h3 m3).mono ?_; rintro e w' ⟨v3, rfl, hv3, hB3⟩; obtain ⟨x4a, rfl⟩ : ∃ x : Under ((w.alloc (.cells #[.slice A0 l0.length c0, .slice A1 l1.length c1, .slice A2 l2.length c2, .slice A3 l3.length c3, .slice A4 l4.length c4] 27)).alloc (.cells #[.slice none 0 0, .slice none 0 0, .slice none 0 0, .slice none 0 0, .slice none 0 0] 27)), w' = x.val := ⟨⟨_, x3a.ok.trans (hB3.mono x3a.size)⟩, rfl⟩; replace hv0 := Kd.R_below hv0 hB3; replace hv1 := Kd.R_below hv1 hB3; replace hv2 := Kd.R_below hv2 hB3; replace hg := (hB3.block g hgl).trans hg; replace hgl := Nat.lt_of_lt_of_le hgl hB3.size; have hlo3 := Kd.R_base hv3; replace hv3 := Kd.R_lower hv3 (hsz x3a); clear hB3 hlo3)
          refine ⟨(by first | exact .inr ⟨x4a, rfl⟩ | exact ⟨x4a, rfl⟩), ?_⟩
          refine anyT_one (i := 14) #[true, true, true, true, true, true, true, true, true, true, true, true, true, true, true, false, true, false] (by kernel_rfl) rfl (by decide) (fun Q' hQ' => ?_)
          go_wp2_with (go_at_call 56; refine (clone_ints A4 c4 l4 _ (Kd.C_below h4 (bel x4a)) m4).mono ?_; rintro e w' ⟨v4, rfl, hv4, hB4⟩; obtain ⟨x5a, rfl⟩ : ∃ x : Under ((w.alloc (.cells #[.slice A0 l0.length c0, .slice A1 l1.length c1, .slice A2 l2.length c2, .slice A3 l3.length c3, .slice A4 l4.length c4] 27)).alloc (.cells #[.slice none 0 0, .slice none 0 0, .slice none 0 0, .slice none 0 0, .slice none 0 0] 27)), w' = x.val := ⟨⟨_, x4a.ok.trans (hB4.mono x4a.size)⟩, rfl⟩; replace hv0 := Kd.R_below hv0 hB4; replace hv1 := Kd.R_below hv1 hB4; replace hv2 := Kd.R_below hv2 hB4; replace hv3 := Kd.R_below hv3 hB4; replace hg := (hB4.block g hgl).trans hg; replace hgl := Nat.lt_of_lt_of_le hgl hB4.size; have hlo4 := Kd.R_base hv4; replace hv4 := Kd.R_lower hv4 (hsz x4a); clear hB4 hlo4)
          refine ⟨(by first | exact .inr ⟨x5a, rfl⟩ | exact ⟨x5a, rfl⟩), ?_⟩
          refine anyT_one (i := 15) #[true, true, true, true, true, true, true, true, true, true, true, true, true, true, true, true, true, false] (by kernel_rfl) rfl (by decide) (fun Q' hQ' => ?_)
          obtain ⟨B0, d0, rfl⟩ := Kd.R_slice hv0
          obtain ⟨B1, d1, rfl⟩ := Kd.R_slice hv1
          obtain ⟨B2, d2, rfl⟩ := Kd.R_slice hv2
          obtain ⟨B3, d3, rfl⟩ := Kd.R_slice hv3
          obtain ⟨B4, d4, rfl⟩ := Kd.R_slice hv4
          go_wp2_with fail
          refine ⟨(by first | exact .inr ⟨x5a, rfl⟩ | exact ⟨x5a, rfl⟩), ?_⟩
          refine anyT_one (i := 17) #[true, true, true, true, true, true, true, true, true, true, true, true, true, true, true, true, true, true] (by kernel_rfl) rfl (by decide) (fun Q' hQ' => ?_)
          have hgW : (((w.alloc (.cells #[.slice A0 l0.length c0, .slice A1 l1.length c1, .slice A2 l2.length c2, .slice A3 l3.length c3, .slice A4 l4.length c4] 27)).alloc (.cells #[.slice none 0 0, .slice none 0 0, .slice none 0 0, .slice none 0 0, .slice none 0 0] 27)).heap.size) ≤ g := by simp; omega
          have hgc0 : x5a.val.cell? ⟨g, 0, none⟩ = some (.slice none 0 0) := (cell_of_row x5a.val g 0 _ _ _ hg).trans rfl
          have hgc1 : x5a.val.cell? ⟨g, 1, none⟩ = some (.slice none 0 0) := (cell_of_row x5a.val g 1 _ _ _ hg).trans rfl
          have hgc2 : x5a.val.cell? ⟨g, 2, none⟩ = some (.slice none 0 0) := (cell_of_row x5a.val g 2 _ _ _ hg).trans rfl
          have hgc3 : x5a.val.cell? ⟨g, 3, none⟩ = some (.slice none 0 0) := (cell_of_row x5a.val g 3 _ _ _ hg).trans rfl
          have hgc4 : x5a.val.cell? ⟨g, 4, none⟩ = some (.slice none 0 0) := (cell_of_row x5a.val g 4 _ _ _ hg).trans rfl
          have hfz : ∀ j, x5a.val.frozen? ⟨g, j, none⟩ = false := fun j => frozen_of_row _ _ _ _ _ hg
          go_wp2_with fail
          refine ⟨(by first | exact .inl rfl | exact by kernel_rfl), ?_⟩
          refine anyT_end (by kernel_rfl) ?_
          go_wp2
          have hcv := CopyV.set hg hgB hv0 hv1 hv2 hv3 hv4 n01
          go_meet
          case rel => exact ⟨g, _, _, _, _, _, ((((x5a.setCell ⟨g, 0, none⟩ hgW _).setCell ⟨g, 1, none⟩ hgW _).setCell ⟨g, 2, none⟩ hgW _).setCell ⟨g, 3, none⟩ hgW _).setCell ⟨g, 4, none⟩ hgW _, rfl, rfl, hcv⟩
      · skip
        go_wp2_with fail
        have hg := heap_alloc_new x1.val (.cells #[.slice none 0 0, .slice none 0 0, .slice none 0 0, .slice none 0 0, .slice none 0 0] 27)
        have hBa := below_alloc (Below.refl x1.val.heap.size x1.val) (.cells #[.slice none 0 0, .slice none 0 0, .slice none 0 0, .slice none 0 0, .slice none 0 0] 27)
        have hgB := hsz x1
        have hgl : x1.val.heap.size < (x1.val.alloc (.cells #[.slice none 0 0, .slice none 0 0, .slice none 0 0, .slice none 0 0, .slice none 0 0] 27)).heap.size := by simp
        replace hv0 := Kd.R_below hv0 hBa
        obtain ⟨x1a, hx1a⟩ : ∃ x : Under ((w.alloc (.cells #[.slice A0 l0.length c0, .slice A1 l1.length c1, .slice A2 l2.length c2, .slice A3 l3.length c3, .slice A4 l4.length c4] 27)).alloc (.cells #[.slice none 0 0, .slice none 0 0, .slice none 0 0, .slice none 0 0, .slice none 0 0] 27)), x1.val.alloc (.cells #[.slice none 0 0, .slice none 0 0, .slice none 0 0, .slice none 0 0, .slice none 0 0] 27) = x.val := ⟨x1.alloc _, rfl⟩
        rw [hx1a] at hg hgl hv0 ⊢
        clear hx1a hBa
        generalize x1.val.heap.size = g at *
        refine ⟨(by first | exact .inr ⟨x1a, rfl⟩ | exact ⟨x1a, rfl⟩), ?_⟩
        refine anyT_one (i := 5) #[true, true, true, true, true, true, true, true, false, true, true, false, true, true, false, false, true, false] (by kernel_rfl) rfl (by decide) (fun Q' hQ' => ?_)
        have hlt0 := Kd.R_lt hv0
        go_wp2_with (go_at_call 30; refine (clone_strs A1 c1 l1 _ (Kd.C_below h1 (bel x1a)) m1).mono ?_; rintro e w' ⟨v1, rfl, hv1, hB1⟩; obtain ⟨x2a, rfl⟩ : ∃ x : Under ((w.alloc (.cells #[.slice A0 l0.length c0, .slice A1 l1.length c1, .slice A2 l2.length c2, .slice A3 l3.length c3, .slice A4 l4.length c4] 27)).alloc (.cells #[.slice none 0 0, .slice none 0 0, .slice none 0 0, .slice none 0 0, .slice none 0 0] 27)), w' = x.val := ⟨⟨_, x1a.ok.trans (hB1.mono x1a.size)⟩, rfl⟩; replace hv0 := Kd.R_below hv0 hB1; replace hg := (hB1.block g hgl).trans hg; replace hgl := Nat.lt_of_lt_of_le hgl hB1.size; have hlo1 := Kd.R_base hv1; replace hv1 := Kd.R_lower hv1 (hsz x1a); have n01 : ∀ k, v0.ownBlock = some k → v1.ownBlock ≠ some k := fun k hk e => (by have h5 := hlt0 k hk; have h6 := hlo1 k e; omega); clear hB1 hlo1)
        clear hlt0
        refine ⟨(by first | exact .inr ⟨x2a, rfl⟩ | exact ⟨x2a, rfl⟩), ?_⟩
        refine anyT_one (i := 8) #[true, true, true, true, true, true, true, true, true, true, true, false, true, true, false, false, true, false] (by kernel_rfl) rfl (by decide) (fun Q' hQ' => ?_)
        go_wp2_with (go_at_call 54; refine (clone_flops A2 c2 l2 _ (Kd.C_below h2 (bel x2a)) m2).mono ?_; rintro e w' ⟨v2, rfl, hv2, hB2⟩; obtain ⟨x3a, rfl⟩ : ∃ x : Under ((w.alloc (.cells #[.slice A0 l0.length c0, .slice A1 l1.length c1, .slice A2 l2.length c2, .slice A3 l3.length c3, .slice A4 l4.length c4] 27)).alloc (.cells #[.slice none 0 0, .slice none 0 0, .slice none 0 0, .slice none 0 0, .slice none 0 0] 27)), w' = x.val := ⟨⟨_, x2a.ok.trans (hB2.mono x2a.size)⟩, rfl⟩; replace hv0 := Kd.R_below hv0 hB2; replace hv1 := Kd.R_below hv1 hB2; replace hg := (hB2.block g hgl).trans hg; replace hgl := Nat.lt_of_lt_of_le hgl hB2.size; have hlo2 := Kd.R_base hv2; replace hv2 := Kd.R_lower hv2 (hsz x2a); clear hB2 hlo2)
        refine ⟨(by first | exact .inr ⟨x3a, rfl⟩ | exact ⟨x3a, rfl⟩), ?_⟩
        refine anyT_one (i := 11) #[true, true, true, true, true, true, true, true, true, true, true, true, true, true, false, false, true, false] (by kernel_rfl) rfl (by decide) (fun Q' hQ' => ?_)
        go_wp2_with (go_at_call 55; refine (clone_gates A3 c3 l3 w _ (bel x3a) h3 m3).mono ?_; rintro e w' ⟨v3, rfl, hv3, hB3⟩; obtain ⟨x4a, rfl⟩ : ∃ x : Under ((w.alloc (.cells #[.slice A0 l0.length c0, .slice A1 l1.length c1, .slice A2 l2.length c2, .slice A3 l3.length c3, .slice A4 l4.length c4] 27)).alloc (.cells #[.slice none 0 0, .slice none 0 0, .slice none 0 0, .slice none 0 0, .slice none 0 0] 27)), w' = x.val := ⟨⟨_, x3a.ok.trans (hB3.mono x3a.size)⟩, rfl⟩; replace hv0 := Kd.R_below hv0 hB3; replace hv1 := Kd.R_below hv1 hB3; replace hv2 := Kd.R_below hv2 hB3; replace hg := (hB3.block g hgl).trans hg; replace hgl := Nat.lt_of_lt_of_le hgl hB3.size; have hlo3 := Kd.R_base hv3; replace hv3 := Kd.R_lower hv3 (hsz x3a); clear hB3 hlo3)
        refine ⟨(by first | exact .inr ⟨x4a, rfl⟩ | exact ⟨x4a, rfl⟩), ?_⟩
        refine anyT_one (i := 14) #[true, true, true, true, true, true, true, true, true, true, true, true, true, true, true, false, true, false] (by kernel_rfl) rfl (by decide) (fun Q' hQ' => ?_)
        go_wp2_with (go_at_call 56; refine (clone_ints A4 c4 l4 _ (Kd.C_below h4 (bel x4a)) m4).mono ?_; rintro e w' ⟨v4, rfl, hv4, hB4⟩; obtain ⟨x5a, rfl⟩ : ∃ x : Under ((w.alloc (.cells #[.slice A0 l0.length c0, .slice A1 l1.length c1, .slice A2 l2.length c2, .slice A3 l3.length c3, .slice A4 l4.length c4] 27)).alloc (.cells #[.slice none 0 0, .slice none 0 0, .slice none 0 0, .slice none 0 0, .slice none 0 0] 27)), w' = x.val := ⟨⟨_, x4a.ok.trans (hB4.mono x4a.size)⟩, rfl⟩; replace hv0 := Kd.R_below hv0 hB4; replace hv1 := Kd.R_below hv1 hB4; replace hv2 := Kd.R_below hv2 hB4; replace hv3 := Kd.R_below hv3 hB4; replace hg := (hB4.block g hgl).trans hg; replace hgl := Nat.lt_of_lt_of_le hgl hB4.size; have hlo4 := Kd.R_base hv4; replace hv4 := Kd.R_lower hv4 (hsz x4a); clear hB4 hlo4)
        refine ⟨(by first | exact .inr ⟨x5a, rfl⟩ | exact ⟨x5a, rfl⟩), ?_⟩
        refine anyT_one (i := 15) #[true, true, true, true, true, true, true, true, true, true, true, true, true, true, true, true, true, false] (by kernel_rfl) rfl (by decide) (fun Q' hQ' => ?_)
        obtain ⟨B0, d0, rfl⟩ := Kd.R_slice hv0
        obtain ⟨B1, d1, rfl⟩ := Kd.R_slice hv1
        obtain ⟨B2, d2, rfl⟩ := Kd.R_slice hv2
        obtain ⟨B3, d3, rfl⟩ := Kd.R_slice hv3
        obtain ⟨B4, d4, rfl⟩ := Kd.R_slice hv4
        go_wp2_with fail
        refine ⟨(by first | exact .inr ⟨x5a, rfl⟩ | exact ⟨x5a, rfl⟩), ?_⟩
        refine anyT_one (i := 17) #[true, true, true, true, true, true, true, true, true, true, true, true, true, true, true, true, true, true] (by kernel_rfl) rfl (by decide) (fun Q' hQ' => ?_)
        have hgW : (((w.alloc (.cells #[.slice A0 l0.length c0, .slice A1 l1.length c1, .slice A2 l2.length c2, .slice A3 l3.length c3, .slice A4 l4.length c4] 27)).alloc (.cells #[.slice none 0 0, .slice none 0 0, .slice none 0 0, .slice none 0 0, .slice none 0 0] 27)).heap.size) ≤ g := by simp; omega
        have hgc0 : x5a.val.cell? ⟨g, 0, none⟩ = some (.slice none 0 0) := (cell_of_row x5a.val g 0 _ _ _ hg).trans rfl
        have hgc1 : x5a.val.cell? ⟨g, 1, none⟩ = some (.slice none 0 0) := (cell_of_row x5a.val g 1 _ _ _ hg).trans rfl
        have hgc2 : x5a.val.cell? ⟨g, 2, none⟩ = some (.slice none 0 0) := (cell_of_row x5a.val g 2 _ _ _ hg).trans rfl
        have hgc3 : x5a.val.cell? ⟨g, 3, none⟩ = some (.slice none 0 0) := (cell_of_row x5a.val g 3 _ _ _ hg).trans rfl
        have hgc4 : x5a.val.cell? ⟨g, 4, none⟩ = some (.slice none 0 0) := (cell_of_row x5a.val g 4 _ _ _ hg).trans rfl
        have hfz : ∀ j, x5a.val.frozen? ⟨g, j, none⟩ = false := fun j => frozen_of_row _ _ _ _ _ hg
        go_wp2_with fail
        refine ⟨(by first | exact .inl rfl | exact by kernel_rfl), ?_⟩
        refine anyT_end (by kernel_rfl) ?_
        go_wp2
        have hcv := CopyV.set hg hgB hv0 hv1 hv2 hv3 hv4 n01
        go_meet
        case rel => exact ⟨g, _, _, _, _, _, ((((x5a.setCell ⟨g, 0, none⟩ hgW _).setCell ⟨g, 1, none⟩ hgW _).setCell ⟨g, 2, none⟩ hgW _).setCell ⟨g, 3, none⟩ hgW _).setCell ⟨g, 4, none⟩ hgW _, rfl, rfl, hcv⟩
    · skip
      go_wp2_with fail
      have hg := heap_alloc_new x0.val (.cells #[.slice none 0 0, .slice none 0 0, .slice none 0 0, .slice none 0 0, .slice none 0 0] 27)
      have hBa := below_alloc (Below.refl x0.val.heap.size x0.val) (.cells #[.slice none 0 0, .slice none 0 0, .slice none 0 0, .slice none 0 0, .slice none 0 0] 27)
      have hgB := hsz x0
      have hgl : x0.val.heap.size < (x0.val.alloc (.cells #[.slice none 0 0, .slice none 0 0, .slice none 0 0, .slice none 0 0, .slice none 0 0] 27)).heap.size := by simp
      obtain ⟨x0a, hx0a⟩ : ∃ x : Under ((w.alloc (.cells #[.slice A0 l0.length c0, .slice A1 l1.length c1, .slice A2 l2.length c2, .slice A3 l3.length c3, .slice A4 l4.length c4] 27)).alloc (.cells #[.slice none 0 0, .slice none 0 0, .slice none 0 0, .slice none 0 0, .slice none 0 0] 27)), x0.val.alloc (.cells #[.slice none 0 0, .slice none 0 0, .slice none 0 0, .slice none 0 0, .slice none 0 0] 27) = x.val := ⟨x0.alloc _, rfl⟩
      rw [hx0a] at hg hgl ⊢
      clear hx0a hBa
      generalize x0.val.heap.size = g at *
      refine ⟨(by first | exact .inr ⟨x0a, rfl⟩ | exact ⟨x0a, rfl⟩), ?_⟩
      refine anyT_one (i := 2) #[true, true, true, true, true, false, true, true, false, true, true, false, true, true, false, false, true, false] (by kernel_rfl) rfl (by decide) (fun Q' hQ' => ?_)
      go_wp2_with (go_at_call 30; refine (clone_strs A0 c0 l0 _ (Kd.C_below h0 (bel x0a)) m0).mono ?_; rintro e w' ⟨v0, rfl, hv0, hB0⟩; obtain ⟨x1a, rfl⟩ : ∃ x : Under ((w.alloc (.cells #[.slice A0 l0.length c0, .slice A1 l1.length c1, .slice A2 l2.length c2, .slice A3 l3.length c3, .slice A4 l4.length c4] 27)).alloc (.cells #[.slice none 0 0, .slice none 0 0, .slice none 0 0, .slice none 0 0, .slice none 0 0] 27)), w' = x.val := ⟨⟨_, x0a.ok.trans (hB0.mono x0a.size)⟩, rfl⟩; replace hg := (hB0.block g hgl).trans hg; replace hgl := Nat.lt_of_lt_of_le hgl hB0.size; have hlo0 := Kd.R_base hv0; replace hv0 := Kd.R_lower hv0 (hsz x0a); clear hB0 hlo0)
      refine ⟨(by first | exact .inr ⟨x1a, rfl⟩ | exact ⟨x1a, rfl⟩), ?_⟩
      refine anyT_one (i := 5) #[true, true, true, true, true, true, true, true, false, true, true, false, true, true, false, false, true, false] (by kernel_rfl) rfl (by decide) (fun Q' hQ' => ?_)
      have hlt0 := Kd.R_lt hv0
      go_wp2_with (go_at_call 30; refine (clone_strs A1 c1 l1 _ (Kd.C_below h1 (bel x1a)) m1).mono ?_; rintro e w' ⟨v1, rfl, hv1, hB1⟩; obtain ⟨x2a, rfl⟩ : ∃ x : Under ((w.alloc (.cells #[.slice A0 l0.length c0, .slice A1 l1.length c1, .slice A2 l2.length c2, .slice A3 l3.length c3, .slice A4 l4.length c4] 27)).alloc (.cells #[.slice none 0 0, .slice none 0 0, .slice none 0 0, .slice none 0 0, .slice none 0 0] 27)), w' = x.val := ⟨⟨_, x1a.ok.trans (hB1.mono x1a.size)⟩, rfl⟩; replace hv0 := Kd.R_below hv0 hB1; replace hg := (hB1.block g hgl).trans hg; replace hgl := Nat.lt_of_lt_of_le hgl hB1.size; have hlo1 := Kd.R_base hv1; replace hv1 := Kd.R_lower hv1 (hsz x1a); have n01 : ∀ k, v0.ownBlock = some k → v1.ownBlock ≠ some k := fun k hk e => (by have h5 := hlt0 k hk; have h6 := hlo1 k e; omega); clear hB1 hlo1)
      clear hlt0
      refine ⟨(by first | exact .inr ⟨x2a, rfl⟩ | exact ⟨x2a, rfl⟩), ?_⟩
      refine anyT_one (i := 8) #[true, true, true, true, true, true, true, true, true, true, true, false, true, true, false, false, true, false] (by kernel_rfl) rfl (by decide) (fun Q' hQ' => ?_)
      go_wp2_with (go_at_call 54; refine (clone_flops A2 c2 l2 _ (Kd.C_below h2 (bel x2a)) m2).mono ?_; rintro e w' ⟨v2, rfl, hv2, hB2⟩; obtain ⟨x3a, rfl⟩ : ∃ x : Under ((w.alloc (.cells #[.slice A0 l0.length c0, .slice A1 l1.length c1, .slice A2 l2.length c2, .slice A3 l3.length c3, .slice A4 l4.length c4] 27)).alloc (.cells #[.slice none 0 0, .slice none 0 0, .slice none 0 0, .slice none 0 0, .slice none 0 0] 27)), w' = x.val := ⟨⟨_, x2a.ok.trans (hB2.mono x2a.size)⟩, rfl⟩; replace hv0 := Kd.R_below hv0 hB2; replace hv1 := Kd.R_below hv1 hB2; replace hg := (hB2.block g hgl).trans hg; replace hgl := Nat.lt_of_lt_of_le hgl hB2.size; have hlo2 := Kd.R_base hv2; replace hv2 := Kd.R_lower hv2 (hsz x2a); clear hB2 hlo2)
      refine ⟨(by first | exact .inr ⟨x3a, rfl⟩ | exact ⟨x3a, rfl⟩), ?_⟩
      refine anyT_one (i := 11) #[true, true, true, true, true, true, true, true, true, true, true, true, true, true, false, false, true, false] (by kernel_rfl) rfl (by decide) (fun Q' hQ' => ?_)
      go_wp2_with (go_at_call 55; refine (clone_gates A3 c3 l3 w _ (bel x3a) h3 m3).mono ?_; rintro e w' ⟨v3, rfl, hv3, hB3⟩; obtain ⟨x4a, rfl⟩ : ∃ x : Under ((w.alloc (.cells #[.slice A0 l0.length c0, .slice A1 l1.length c1, .slice A2 l2.length c2, .slice A3 l3.length c3, .slice A4 l4.length c4] 27)).alloc (.cells #[.slice none 0 0, .slice none 0 0, .slice none 0 0, .slice none 0 0, .slice none 0 0] 27)), w' = x.val := ⟨⟨_, x3a.ok.trans (hB3.mono x3a.size)⟩, rfl⟩; replace hv0 := Kd.R_below hv0 hB3; replace hv1 := Kd.R_below hv1 hB3; replace hv2 := Kd.R_below hv2 hB3; replace hg := (hB3.block g hgl).trans hg; replace hgl := Nat.lt_of_lt_of_le hgl hB3.size; have hlo3 := Kd.R_base hv3; replace hv3 := Kd.R_lower hv3 (hsz x3a); clear hB3 hlo3)
      refine ⟨(by first | exact .inr ⟨x4a, rfl⟩ | exact ⟨x4a, rfl⟩), ?_⟩
      refine anyT_one (i := 14) #[true, true, true, true, true, true, true, true, true, true, true, true, true, true, true, false, true, false] (by kernel_rfl) rfl (by decide) (fun Q' hQ' => ?_)
      go_wp2_with (go_at_call 56; refine (clone_ints A4 c4 l4 _ (Kd.C_below h4 (bel x4a)) m4).mono ?_; rintro e w' ⟨v4, rfl, hv4, hB4⟩; obtain ⟨x5a, rfl⟩ : ∃ x : Under ((w.alloc (.cells #[.slice A0 l0.length c0, .slice A1 l1.length c1, .slice A2 l2.length c2, .slice A3 l3.length c3, .slice A4 l4.length c4] 27)).alloc (.cells #[.slice none 0 0, .slice none 0 0, .slice none 0 0, .slice none 0 0, .slice none 0 0] 27)), w' = x.val := ⟨⟨_, x4a.ok.trans (hB4.mono x4a.size)⟩, rfl⟩; replace hv0 := Kd.R_below hv0 hB4; replace hv1 := Kd.R_below hv1 hB4; replace hv2 := Kd.R_below hv2 hB4; replace hv3 := Kd.R_below hv3 hB4; replace hg := (hB4.block g hgl).trans hg; replace hgl := Nat.lt_of_lt_of_le hgl hB4.size; have hlo4 := Kd.R_base hv4; replace hv4 := Kd.R_lower hv4 (hsz x4a); clear hB4 hlo4)
      refine ⟨(by first | exact .inr ⟨x5a, rfl⟩ | exact ⟨x5a, rfl⟩), ?_⟩
      refine anyT_one (i := 15) #[true, true, true, true, true, true, true, true, true, true, true, true, true, true, true, true, true, false] (by kernel_rfl) rfl (by decide) (fun Q' hQ' => ?_)
      obtain ⟨B0, d0, rfl⟩ := Kd.R_slice hv0
      obtain ⟨B1, d1, rfl⟩ := Kd.R_slice hv1
      obtain ⟨B2, d2, rfl⟩ := Kd.R_slice hv2
      obtain ⟨B3, d3, rfl⟩ := Kd.R_slice hv3
      obtain ⟨B4, d4, rfl⟩ := Kd.R_slice hv4
      go_wp2_with fail
      refine ⟨(by first | exact .inr ⟨x5a, rfl⟩ | exact ⟨x5a, rfl⟩), ?_⟩
      refine anyT_one (i := 17) #[true, true, true, true, true, true, true, true, true, true, true, true, true, true, true, true, true, true] (by kernel_rfl) rfl (by decide) (fun Q' hQ' => ?_)
      have hgW : (((w.alloc (.cells #[.slice A0 l0.length c0, .slice A1 l1.length c1, .slice A2 l2.length c2, .slice A3 l3.length c3, .slice A4 l4.length c4] 27)).alloc (.cells #[.slice none 0 0, .slice none 0 0, .slice none 0 0, .slice none 0 0, .slice none 0 0] 27)).heap.size) ≤ g := by simp; omega
      have hgc0 : x5a.val.cell? ⟨g, 0, none⟩ = some (.slice none 0 0) := (cell_of_row x5a.val g 0 _ _ _ hg).trans rfl
      have hgc1 : x5a.val.cell? ⟨g, 1, none⟩ = some (.slice none 0 0) := (cell_of_row x5a.val g 1 _ _ _ hg).trans rfl
      have hgc2 : x5a.val.cell? ⟨g, 2, none⟩ = some (.slice none 0 0) := (cell_of_row x5a.val g 2 _ _ _ hg).trans rfl
      have hgc3 : x5a.val.cell? ⟨g, 3, none⟩ = some (.slice none 0 0) := (cell_of_row x5a.val g 3 _ _ _ hg).trans rfl
      have hgc4 : x5a.val.cell? ⟨g, 4, none⟩ = some (.slice none 0 0) := (cell_of_row x5a.val g 4 _ _ _ hg).trans rfl
      have hfz : ∀ j, x5a.val.frozen? ⟨g, j, none⟩ = false := fun j => frozen_of_row _ _ _ _ _ hg
      go_wp2_with fail
      refine ⟨(by first | exact .inl rfl | exact by kernel_rfl), ?_⟩
      refine anyT_end (by kernel_rfl) ?_
      go_wp2
      have hcv := CopyV.set hg hgB hv0 hv1 hv2 hv3 hv4 n01
      go_meet
      case rel => exact ⟨g, _, _, _, _, _, ((((x5a.setCell ⟨g, 0, none⟩ hgW _).setCell ⟨g, 1, none⟩ hgW _).setCell ⟨g, 2, none⟩ hgW _).setCell ⟨g, 3, none⟩ hgW _).setCell ⟨g, 4, none⟩ hgW _, rfl, rfl, hcv⟩
  case rest =>
    obtain ⟨g, v0, v1, v2, v3, v4, x, rfl, rfl, hV⟩ := hcut
    obtain ⟨B0, d0, rfl⟩ := Kd.R_slice hV.r0
    obtain ⟨B1, d1, rfl⟩ := Kd.R_slice hV.r1
    obtain ⟨B2, d2, rfl⟩ := Kd.R_slice hV.r2
    obtain ⟨B3, d3, rfl⟩ := Kd.R_slice hV.r3
    obtain ⟨B4, d4, rfl⟩ := Kd.R_slice hV.r4
    have n34 : ∀ k, (Value.slice B3 l3.length d3).ownBlock = some k → some k ≠ (Value.slice B4 l4.length d4).ownBlock := by
      intro k hk e
      obtain ⟨_, t3⟩ := Kd.R_typed hV.r3 k hk
      obtain ⟨_, t4⟩ := Kd.R_typed hV.r4 k e.symm
      rw [t3] at t4
      injection t4 with t4
      injection t4 with _ t4
      exact absurd t4 (by decide)
    have hN : NetV (w.heap.size + 2) x.val g (.slice B0 l0.length d0) (.slice B1 l1.length d1) (.slice B2 l2.length d2) (.slice B3 l3.length d3) (.slice B4 l4.length d4) l0 l1 l2 l4 := ⟨hV.blk, hV.gB, hV.r0, hV.r1, hV.r2, hV.r4, hV.n01⟩
    have hG := gates_start (ok := fun k => some k ≠ (Value.slice B4 l4.length d4).ownBlock) hV.r3 n34
    have hm3 : (l3.length : Int) ≤ 9223372036854775807 := by omega
    have hgl := (Array.getElem?_eq_some_iff.1 hV.blk).1
    have hgc3 : x.val.cell? ⟨g, 3, none⟩ = some (.slice B3 l3.length d3) := (cell_of_row x.val g 3 _ _ _ hV.blk).trans rfl
    have hlt4 := Kd.R_lt hV.r4
    have hgB := hV.gB
    clear hV
    go_wp2
    have hgc3h := Lib.hid hgc3
    clear hgc3 hgl
    go_loopg [4, 24] l3.length (fun d _ t wr => ∃ (i : Nat) (y : Under ((w.alloc (.cells #[.slice A0 l0.length c0, .slice A1 l1.length c1, .slice A2 l2.length c2, .slice A3 l3.length c3, .slice A4 l4.length c4] 27)).alloc (.cells #[.slice none 0 0, .slice none 0 0, .slice none 0 0, .slice none 0 0, .slice none 0 0] 27))), t = .int .i64 i ∧ wr = y.val ∧ Aside (i + d = l3.length) ∧
      NetV (w.heap.size + 2) y.val g (.slice B0 l0.length d0) (.slice B1 l1.length d1) (.slice B2 l2.length d2) (.slice B3 l3.length d3) (.slice B4 l4.length d4) l0 l1 l2 l4 ∧
      Kd.S (kGateM w) 80 y.val (w.heap.size + 2) (fun k => some k ≠ (Value.slice B4 l4.length d4).ownBlock) (.slice B3 l3.length d3) ((l3.take i).map (fun x => (x, true)) ++ (l3.drop i).map (fun x => (x, false))) ∧ x.val.heap.size ≤ y.val.heap.size)
    case atStart => exact ⟨0, x, rfl, rfl, by show 0 + l3.length = l3.length; omega, hN, by simpa using hG, Nat.le_refl _⟩
    case round =>
      clear hN hG
      obtain ⟨i, y, rfl, rfl, hi, hN, hG, hxy⟩ := hrel
      have hgl := (Array.getElem?_eq_some_iff.1 hN.blk).1
      have hgc3 : y.val.cell? ⟨g, 3, none⟩ = some (.slice B3 l3.length d3) := (cell_of_row y.val g 3 _ _ _ hN.blk).trans rfl
      by_cases hlt : i < l3.length
      · obtain ⟨gi, hgi⟩ := get_ex hlt
        obtain ⟨gk, rfl⟩ : ∃ m, gk = m + 1 := ⟨gk - 1, by have := hi.out; omega⟩
        have hm5 := m5 gi (List.mem_of_getElem? hgi)
        have hxs : ((l3.take i).map (fun x => (x, true)) ++ (l3.drop i).map (fun x => (x, false)))[i]? = some (gi, false) := by
          rw [List.getElem?_append_right (by simp; omega)]
          simp [hgi, Nat.min_eq_left (Nat.le_of_lt hlt)]
        have hxl : ((l3.take i).map (fun x => (x, true)) ++ (l3.drop i).map (fun x => (x, false))).length = l3.length := by simp; omega
        have hxset := flags_set hgi
        generalize hX : ((l3.take i).map (fun x => (x, true)) ++ (l3.drop i).map (fun x => (x, false))) = X at *
        obtain ⟨g3, cap3, he3, hg3, hg3l, cells3, hg3b⟩ := Kd.S_form hG (by omega)
        simp only [Value.slice.injEq] at he3
        obtain ⟨rfl, -, rfl⟩ := he3
        obtain ⟨oki, c, hcl, hM, hcc, hfr, hoki, hH⟩ := Kd.S_elem hG (gi, false) (i : Int) (by omega) (by omega)
        rw [show X.getD (i : Int).toNat (gi, false) = (gi, false) by simp [List.getD, hxs]] at hM
        obtain ⟨A5, c5, rfl, hC⟩ := kGateM_old hM
        have hci : y.val.cell? ⟨g3, i * 3 + 2, none⟩ = some (.slice A5 gi.f2.length c5) := by
          have := hcc 2 _ rfl
          simpa [kGateM, Kd.iso, Kd.pair, flagK, Kd.int, Kd.scalar] using this
        have hn3 : g ≠ g3 := by
          rintro rfl
          have h5 := hN.blk
          rw [hg3b] at h5
          injection h5 with h5
          injection h5 with _ h5
          exact absurd h5 (by decide)
        have hwid := Kd.H_widen hH
        have hgih := Lib.hid hgi
        have hih := Lib.hid hi.out
        have hxlh := Lib.hid hxl
        have hxseth := Lib.hid hxset
        have hXh := Lib.hid hX
        have hxsh := Lib.hid hxs
        clear hgi hi hxl hxset hX hM hH hcc hxs
        go_wp2
        refine wp_region_splitT (fun w' => ∃ z : Under y.val, w' = z.val) [true, true, true, true, true, true, true, true, true, false, false, false, false] (by kernel_rfl) (by kernel_rfl) (by decide) ⟨(Under.refl _).drew, rfl⟩ (fun _ _ d _ _ h => by cases d <;> exact h) ?_
        simp only [pickB, dropB]
        repeat (go_big_quiet_step (fail))
        refine wpQuiet_nil ?_
        refine wpListT_step (fun Q' hQ' => ?_)
        have hyd : Below y.val.heap.size y.val y.val.drew := below_drew (Below.refl _ _)
        go_wp2_with (go_at_call 56; refine (clone_ints A5 c5 gi.f2 _ (Kd.C_below hC ((bel y).trans (hyd.mono (by have := hsz y; omega)))) hm5).mono ?_; rintro e w' ⟨v5, rfl, hv5, hB5⟩; obtain ⟨z, rfl⟩ : ∃ z : Under y.val, w' = z.val := ⟨⟨_, hyd.trans hB5⟩, rfl⟩)
        refine ⟨⟨z, rfl⟩, ?_⟩
        refine wpListT_step (fun Q' hQ' => ?_)
        go_wp2_with fail
        refine ⟨⟨z, rfl⟩, ?_⟩
        refine wpListT_step (fun Q' hQ' => ?_)
        go_wp2_with fail
        refine ⟨⟨z, rfl⟩, ?_⟩
        refine wpListT_last (fun Q' hQ' => ?_)
        obtain ⟨A6, c6, rfl⟩ := Kd.R_slice hv5
        have hv6 := Kd.R_tight rfl (Kd.R_lower hv5 (show w.heap.size + 2 ≤ y.val.drew.heap.size from hsz y))
        have hB0 : Below (w.heap.size + 2) ((w.alloc (.cells #[.slice A0 l0.length c0, .slice A1 l1.length c1, .slice A2 l2.length c2, .slice A3 l3.length c3, .slice A4 l4.length c4] 27)).alloc (.cells #[.slice none 0 0, .slice none 0 0, .slice none 0 0, .slice none 0 0, .slice none 0 0] 27)) z.val := by
          have h7 : ((w.alloc (.cells #[.slice A0 l0.length c0, .slice A1 l1.length c1, .slice A2 l2.length c2, .slice A3 l3.length c3, .slice A4 l4.length c4] 27)).alloc (.cells #[.slice none 0 0, .slice none 0 0, .slice none 0 0, .slice none 0 0, .slice none 0 0] 27)).heap.size = w.heap.size + 2 := by simp
          have h8 : Below ((w.alloc (.cells #[.slice A0 l0.length c0, .slice A1 l1.length c1, .slice A2 l2.length c2, .slice A3 l3.length c3, .slice A4 l4.length c4] 27)).alloc (.cells #[.slice none 0 0, .slice none 0 0, .slice none 0 0, .slice none 0 0, .slice none 0 0] 27)).heap.size ((w.alloc (.cells #[.slice A0 l0.length c0, .slice A1 l1.length c1, .slice A2 l2.length c2, .slice A3 l3.length c3, .slice A4 l4.length c4] 27)).alloc (.cells #[.slice none 0 0, .slice none 0 0, .slice none 0 0, .slice none 0 0, .slice none 0 0] 27)) z.val := (y.trans z).ok
          rw [h7] at h8
          exact h8
        refine Kd.H_store (kGateM w) (w0 := (w.alloc (.cells #[.slice A0 l0.length c0, .slice A1 l1.length c1, .slice A2 l2.length c2, .slice A3 l3.length c3, .slice A4 l4.length c4] 27)).alloc (.cells #[.slice none 0 0, .slice none 0 0, .slice none 0 0, .slice none 0 0, .slice none 0 0] 27)) (w.heap.size + 2) rfl rfl 25 (.tmp 38) (.tmp 36) rfl 80 (i : Int) 2 X (gi, true) (.slice A6 gi.f2.length c6) [.slice A6 gi.f2.length c6] _ (fun k => some k ≠ (Value.slice B4 l4.length d4).ownBlock) _ _ rfl (by simp [kGateM, Kd.iso, Kd.pair, flagK, Kd.int, Kd.scalar]) rfl rfl (by kernel_rfl) (by simp [Value.oneCell']) (Kd.H_below hwid z.ok) (by omega) (by omega) (by simp [kGateM, Kd.iso, Kd.pair, flagK, Kd.int, Kd.scalar]) (kGateM_new hv6) ?hokp hB0 ?_
        case hokp =>
          intro k hk
          have h7 := Kd.R_base hv5 k hk.symm
          refine .inr ⟨fun e => ?_, h7⟩
          have h8 := hlt4 k e.symm
          have h9 : y.val.drew.heap.size = y.val.heap.size := rfl
          omega
        intro w2 hS2 hB2 hg2
        refine wpList_nil ?_
        refine hQ' _ _ ?_
        go_wp2
        obtain ⟨y2, rfl⟩ : ∃ y2 : Under ((w.alloc (.cells #[.slice A0 l0.length c0, .slice A1 l1.length c1, .slice A2 l2.length c2, .slice A3 l3.length c3, .slice A4 l4.length c4] 27)).alloc (.cells #[.slice none 0 0, .slice none 0 0, .slice none 0 0, .slice none 0 0, .slice none 0 0] 27)), w2 = y2.val := ⟨⟨w2, by rw [show ((w.alloc (.cells #[.slice A0 l0.length c0, .slice A1 l1.length c1, .slice A2 l2.length c2, .slice A3 l3.length c3, .slice A4 l4.length c4] 27)).alloc (.cells #[.slice none 0 0, .slice none 0 0, .slice none 0 0, .slice none 0 0, .slice none 0 0] 27)).heap.size = w.heap.size + 2 by simp]; exact hB2⟩, rfl⟩
        go_roundg gk
        case measure => have := hih.out; omega
        case rel =>
          refine ⟨i + 1, y2, by go_num, rfl, by show i + 1 + gk = l3.length; have := hih.out; omega, NetV.gates (hN.below z.ok) ((z.ok.block g3 hg3l).trans hg3b) hg2, ?_, Nat.le_trans hxy (Nat.le_trans z.size hg2.size)⟩
          rw [← hxseth.out]
          exact hS2
      · obtain rfl : i = l3.length := by have := hi.out; omega
        rw [List.take_length, List.drop_length, List.map_nil, List.append_nil] at hG
        have hGe := gates_end hG
        have hgc0 : y.val.cell? ⟨g, 0, none⟩ = some (.slice B0 l0.length d0) := (cell_of_row y.val g 0 _ _ _ hN.blk).trans rfl
        have hgc1 : y.val.cell? ⟨g, 1, none⟩ = some (.slice B1 l1.length d1) := (cell_of_row y.val g 1 _ _ _ hN.blk).trans rfl
        have hgc2 : y.val.cell? ⟨g, 2, none⟩ = some (.slice B2 l2.length d2) := (cell_of_row y.val g 2 _ _ _ hN.blk).trans rfl
        have hgc4 : y.val.cell? ⟨g, 4, none⟩ = some (.slice B4 l4.length d4) := (cell_of_row y.val g 4 _ _ _ hN.blk).trans rfl
        have hyB : w.heap.size + 1 < y.val.heap.size := by have := hsz y; omega
        have hrb : y.val.heap[w.heap.size + 1]? = some (.cells #[.slice none 0 0, .slice none 0 0, .slice none 0 0, .slice none 0 0, .slice none 0 0] 27 (0, 0)) := (y.ok.block (w.heap.size + 1) (by simp)).trans (heap_alloc2_new w _ _)
        obtain ⟨hrow, hother⟩ := set5 (.slice B0 l0.length d0) (.slice B1 l1.length d1) (.slice B2 l2.length d2) (.slice B3 l3.length d3) (.slice B4 l4.length d4) hrb
        go_wp2
        ((try simp only [Exit.inBlock, Exit.then]); refine bodyPost_ret (results_cell_row rfl _ _ (w.heap.size + 1) _ _ _ _ rfl hrow Try.underlying27 rfl (by kernel_rfl)) rfl ?_)
        have mv : ∀ {α : Type} {d : Kd α} {e : Nat} {v : Value} {xs : List α} {ok : Nat → Prop}, Kd.R d e y.val (w.heap.size + 2) ok v xs → Kd.R d e _ w.heap.size ok v xs := fun h =>
          Kd.R_lower (Kd.R_mono (Kd.R_step (Kd.R_bound h) (fun k hk _ => hother k (by have := hk.2.1; omega))) (fun _ hk => hk.1)) (by omega)
        refine ⟨_, _, _, _, _, rfl, mv (Kd.R_mono (Kd.R_tight rfl hN.r0) (fun k hk e => hN.n01 k hk.symm e.symm)), mv (Kd.R_mono (Kd.R_tight rfl hN.r1) (fun k hk e => hN.n01 k e.symm hk.symm)), mv hN.r2, ?_, mv hN.r4, ?_⟩
        · exact Kd.S_lower (Kd.S_mono (Kd.S_step (Kd.S_bound hGe) (fun k hk _ => hother k (by have := hk.2.1; omega))) (fun _ hk => hk.1)) (by omega)
        · exact (((((bel y).setCell (p := ⟨w.heap.size + 1, 0, none⟩) (by simp) _).setCell (p := ⟨w.heap.size + 1, 1, none⟩) (by simp) _).setCell (p := ⟨w.heap.size + 1, 2, none⟩) (by simp) _).setCell (p := ⟨w.heap.size + 1, 3, none⟩) (by simp) _).setCell (p := ⟨w.heap.size + 1, 4, none⟩) (by simp) _
end Go.Proofs.Ytimjccfpobhpeaa
