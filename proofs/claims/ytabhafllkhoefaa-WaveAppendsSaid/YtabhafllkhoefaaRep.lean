/- How data of plain Lean types lie in the cells of the model's memory: a small library of this session's own. -/
import Derived.WalkKit
import Derived.WalkSpells
import Derived.WalkLawsBesides
import Derived.Deep.LoopGhost
import Derived.Deep.Draws
import Derived.Lib.Hide
namespace Go.Proofs.Ytabhafllkhoefaa
open Go.RowKit

/-- x is of the integer kind k. -/
def InK (k : IntKind) (x : Int) : Prop := k.min ≤ x ∧ x ≤ k.max
theorem InK.i64 {x : Int} (h : InK .i64 x) : -9223372036854775808 ≤ x ∧ x ≤ 9223372036854775807 := h
theorem InK.u64 {x : Int} (h : InK .u64 x) : 0 ≤ x ∧ x ≤ 18446744073709551615 := h
theorem InK.u8 {x : Int} (h : InK .u8 x) : 0 ≤ x ∧ x ≤ 255 := h
theorem InK.mk64 {x : Int} (h : -9223372036854775808 ≤ x ∧ x ≤ 9223372036854775807) : InK .i64 x := h
theorem InK.mku64 {x : Int} (h : 0 ≤ x ∧ x ≤ 18446744073709551615) : InK .u64 x := h
theorem InK.mku8 {x : Int} (h : 0 ≤ x ∧ x ≤ 255) : InK .u8 x := h

/-- How a value of the Lean type α lies in sz cells; F: the blocks that it leads into. -/
structure Rep (α : Type) where
  sz : Nat
  rel : World → (Nat → Prop) → α → List Value → Prop
  len : ∀ {w F x cs}, rel w F x cs → cs.length = sz
  one : ∀ {w F x cs}, rel w F x cs → ∀ u ∈ cs, u.oneCell' = true
  step : ∀ {w w1 : World} {F G : Nat → Prop} {x cs}, (∀ k, F k → k < w.heap.size → G k ∧ w1.heap[k]? = w.heap[k]?) → rel w F x cs → rel w1 G x cs

/-- The cells from block b, place o on, are these. -/
def CellsAt (w : World) (b o : Nat) (cs : List Value) : Prop := ∀ j u, cs[j]? = some u → w.cell? ⟨b, o + j, none⟩ = some u

theorem CellsAt.step {w w1 : World} {b o : Nat} {cs : List Value} (h : CellsAt w b o cs) (hb : w1.heap[b]? = w.heap[b]?) : CellsAt w1 b o cs := fun j u hu =>
  (World.cell?_of_block (a := ⟨b, o + j, none⟩) hb).trans (h j u hu)

theorem cell_lt {w : World} {a : Addr} {v : Value} (h : w.cell? a = some v) : a.block < w.heap.size := block_lt_of_cell h

namespace Rep
section
variable {α β : Type}
def inBlocks (n : Nat) : Nat → Prop := fun k => k < n

theorem mono (d : Rep α) {w : World} {F G : Nat → Prop} {x cs} (hFG : ∀ k, F k → k < w.heap.size → G k) (h : d.rel w F x cs) : d.rel w G x cs :=
  d.step (fun k hk hl => ⟨hFG k hk hl, rfl⟩) h
theorem bound (d : Rep α) {w : World} {F : Nat → Prop} {x cs} (h : d.rel w F x cs) : d.rel w (fun k => F k ∧ k < w.heap.size) x cs :=
  d.step (fun _ hk hl => ⟨⟨hk, hl⟩, rfl⟩) h
theorem below (d : Rep α) {w w1 : World} {F : Nat → Prop} {x cs} {B : Nat} (hb : Below B w w1) (hF : ∀ k, F k → k < w.heap.size → k < B) (h : d.rel w F x cs) : d.rel w1 F x cs :=
  d.step (fun k hk hl => ⟨hk, hb.block k (hF k hk hl)⟩) h
theorem later (d : Rep α) {w w1 : World} {F : Nat → Prop} {x cs} (hb : Below w.heap.size w w1) (h : d.rel w F x cs) : d.rel w1 F x cs :=
  d.below hb (fun _ _ hl => hl) h

/-- One cell, the same in every world. -/
def cell (enc : α → Value) (ok : α → Prop) (h1 : ∀ x, (enc x).oneCell' = true) : Rep α where
  sz := 1
  rel := fun _ _ x cs => cs = [enc x] ∧ ok x
  len := fun h => by rw [h.1]; rfl
  one := fun h u hu => by rw [h.1] at hu; rw [List.mem_singleton.1 hu]; exact h1 _
  step := fun _ h => h

def int (k : IntKind) : Rep Int := cell (Value.int k) (InK k) (fun _ => rfl)
def bool : Rep Bool := cell Value.bool (fun _ => True) (fun _ => rfl)
def str : Rep ByteArray := cell Value.string (fun s => s.size ≤ 9223372036854775807) (fun _ => rfl)

/-- The elements of a row: the i-th lies at place o + i * size of block b. -/
def Row (d : Rep α) (w : World) (F : Nat → Prop) (A : Option Addr) (xs : List α) : Prop :=
  ∀ i x, xs[i]? = some x → ∃ b o cs, A = some ⟨b, o, none⟩ ∧ F b ∧ b < w.heap.size ∧ d.rel w F x cs ∧ CellsAt w b (o + i * d.sz) cs

theorem Row.step {d : Rep α} {w w1 : World} {F G : Nat → Prop} {A : Option Addr} {xs : List α} (hm : ∀ k, F k → k < w.heap.size → G k ∧ w1.heap[k]? = w.heap[k]?) (h : Row d w F A xs) : Row d w1 G A xs := by
  intro i x hx
  obtain ⟨b, o, cs, hA, hF, hl, hr, hc⟩ := h i x hx
  have hb := hm b hF hl
  refine ⟨b, o, cs, hA, hb.1, ?_, d.step hm hr, hc.step hb.2⟩
  have := hb.2
  rw [Array.getElem?_eq_getElem hl] at this
  exact (Array.getElem?_eq_some_iff.1 this).1

theorem Row.below {d : Rep α} {w w1 : World} {F : Nat → Prop} {A : Option Addr} {xs : List α} {B : Nat} (hb : Below B w w1) (hF : ∀ k, F k → k < w.heap.size → k < B) (h : Row d w F A xs) : Row d w1 F A xs :=
  Row.step (fun k hk hl => ⟨hk, hb.block k (hF k hk hl)⟩) h
theorem Row.later {d : Rep α} {w w1 : World} {F : Nat → Prop} {A : Option Addr} {xs : List α} (hb : Below w.heap.size w w1) (h : Row d w F A xs) : Row d w1 F A xs :=
  Row.below hb (fun _ _ hl => hl) h
theorem Row.mono {d : Rep α} {w : World} {F G : Nat → Prop} {A : Option Addr} {xs : List α} (hFG : ∀ k, F k → k < w.heap.size → G k) (h : Row d w F A xs) : Row d w G A xs :=
  Row.step (fun k hk hl => ⟨hFG k hk hl, rfl⟩) h
theorem Row.nil (d : Rep α) (w : World) (F : Nat → Prop) (A : Option Addr) : Row d w F A [] := fun i x h => by simp at h
theorem Row.take {d : Rep α} {w : World} {F : Nat → Prop} {A : Option Addr} {xs : List α} (h : Row d w F A xs) (n : Nat) : Row d w F A (xs.take n) := by
  intro i x hx
  rw [List.getElem?_take] at hx
  split at hx
  · exact h i x hx
  · simp at hx
theorem Row.drop {d : Rep α} {w : World} {F : Nat → Prop} {b o : Nat} {xs : List α} (h : Row d w F (some ⟨b, o, none⟩) xs) (n : Nat) : Row d w F (some ⟨b, o + n * d.sz, none⟩) (xs.drop n) := by
  intro i x hx
  rw [List.getElem?_drop] at hx
  obtain ⟨b', o', cs, hA, hF, hl, hr, hc⟩ := h _ x hx
  simp only [Option.some.injEq, Addr.mk.injEq, and_true] at hA
  obtain ⟨rfl, rfl⟩ := hA
  refine ⟨b, _, cs, rfl, hF, hl, hr, ?_⟩
  rw [show o + n * d.sz + i * d.sz = o + (n + i) * d.sz by rw [Nat.add_mul]; omega]
  exact hc
theorem Row.head {d : Rep α} {w : World} {F : Nat → Prop} {A : Option Addr} {xs : List α} (h : Row d w F A xs) (hx : 0 < xs.length) : ∃ b o, A = some ⟨b, o, none⟩ ∧ F b ∧ b < w.heap.size := by
  obtain ⟨b, o, _, hA, hF, hl, _⟩ := h 0 xs[0] (List.getElem?_eq_getElem hx)
  exact ⟨b, o, hA, hF, hl⟩

/-- A slice's address and capacity, over the row of its elements. -/
structure Sl (d : Rep α) (w : World) (F : Nat → Prop) (A : Option Addr) (cap : Nat) (xs : List α) : Prop where
  le : xs.length ≤ cap
  cap_le : cap ≤ 9223372036854775807
  nil : A = none → cap = 0
  row : Row d w F A xs
theorem Sl.step {d : Rep α} {w w1 : World} {F G : Nat → Prop} {A : Option Addr} {cap : Nat} {xs : List α} (hm : ∀ k, F k → k < w.heap.size → G k ∧ w1.heap[k]? = w.heap[k]?) (h : Sl d w F A cap xs) : Sl d w1 G A cap xs :=
  ⟨h.le, h.cap_le, h.nil, Row.step hm h.row⟩
theorem Sl.below {d : Rep α} {w w1 : World} {F : Nat → Prop} {A : Option Addr} {cap : Nat} {xs : List α} {B : Nat} (hb : Below B w w1) (hF : ∀ k, F k → k < w.heap.size → k < B) (h : Sl d w F A cap xs) : Sl d w1 F A cap xs :=
  h.step fun k hk hl => ⟨hk, hb.block k (hF k hk hl)⟩
theorem Sl.later {d : Rep α} {w w1 : World} {F : Nat → Prop} {A : Option Addr} {cap : Nat} {xs : List α} (hb : Below w.heap.size w w1) (h : Sl d w F A cap xs) : Sl d w1 F A cap xs :=
  h.below hb fun _ _ hl => hl
theorem Sl.mono {d : Rep α} {w : World} {F G : Nat → Prop} {A : Option Addr} {cap : Nat} {xs : List α} (hFG : ∀ k, F k → k < w.heap.size → G k) (h : Sl d w F A cap xs) : Sl d w G A cap xs :=
  h.step fun k hk hl => ⟨hFG k hk hl, rfl⟩
theorem Sl.len {d : Rep α} {w : World} {F : Nat → Prop} {A : Option Addr} {cap : Nat} {xs : List α} (h : Sl d w F A cap xs) : (xs.length : Int) ≤ 9223372036854775807 := by
  have := h.le; have := h.cap_le; omega
theorem Sl.empty (d : Rep α) (w : World) (F : Nat → Prop) : Sl d w F none 0 [] := ⟨Nat.le_refl _, by omega, fun _ => rfl, Row.nil d w F none⟩
theorem Sl.take {d : Rep α} {w : World} {F : Nat → Prop} {A : Option Addr} {cap : Nat} {xs : List α} (h : Sl d w F A cap xs) (n : Nat) : Sl d w F A cap (xs.take n) :=
  ⟨by have := h.le; have := List.length_take_le n xs; have : (xs.take n).length ≤ xs.length := by rw [List.length_take]; omega
      omega, h.cap_le, h.nil, h.row.take n⟩
def slice (d : Rep α) : Rep (List α) where
  sz := 1
  rel := fun w F xs cs => ∃ A cap, cs = [.slice A xs.length cap] ∧ Sl d w F A cap xs
  len := by rintro w F x cs ⟨A, cap, rfl, _⟩; rfl
  one := by rintro w F x cs ⟨A, cap, rfl, _⟩ u hu; rw [List.mem_singleton.1 hu]; rfl
  step := by
    rintro w w1 F G x cs hm ⟨A, cap, rfl, h⟩
    exact ⟨A, cap, rfl, h.step hm⟩

/-- Two in line. -/
def pair (a : Rep α) (b : Rep β) : Rep (α × β) where
  sz := a.sz + b.sz
  rel := fun w F x cs => ∃ c0 c1, cs = c0 ++ c1 ∧ a.rel w F x.1 c0 ∧ b.rel w F x.2 c1
  len := by rintro w F x cs ⟨c0, c1, rfl, h0, h1⟩; rw [List.length_append, a.len h0, b.len h1]
  one := by
    rintro w F x cs ⟨c0, c1, rfl, h0, h1⟩ u hu
    rcases List.mem_append.1 hu with hu | hu
    · exact a.one h0 u hu
    · exact b.one h1 u hu
  step := by
    rintro w w1 F G x cs hm ⟨c0, c1, rfl, h0, h1⟩
    exact ⟨c0, c1, rfl, a.step hm h0, b.step hm h1⟩
/-- A Lean structure by its fields. -/
def iso (d : Rep α) (f : β → α) : Rep β where
  sz := d.sz
  rel := fun w F x cs => d.rel w F (f x) cs
  len := d.len
  one := d.one
  step := d.step

/-- The cells of a list of things, in line. -/
def All (d : Rep α) (w : World) (F : Nat → Prop) (xs : List α) (cs : List Value) : Prop :=
  cs.length = xs.length * d.sz ∧ ∀ i x, xs[i]? = some x → d.rel w F x ((cs.drop (i * d.sz)).take d.sz)

theorem All.step {d : Rep α} {w w1 : World} {F G : Nat → Prop} {xs : List α} {cs : List Value} (hm : ∀ k, F k → k < w.heap.size → G k ∧ w1.heap[k]? = w.heap[k]?) (h : All d w F xs cs) : All d w1 G xs cs :=
  ⟨h.1, fun i x hx => d.step hm (h.2 i x hx)⟩
theorem All.nil (d : Rep α) (w : World) (F : Nat → Prop) : All d w F [] [] := ⟨by simp, fun i x h => by simp at h⟩
theorem All.snoc {d : Rep α} {w : World} {F : Nat → Prop} {xs : List α} {cs : List Value} {x : α} {c : List Value} (h : All d w F xs cs) (hx : d.rel w F x c) : All d w F (xs ++ [x]) (cs ++ c) := by
  refine ⟨by simp [h.1, d.len hx, Nat.add_mul], ?_⟩
  intro i y hy
  rcases Nat.lt_trichotomy i xs.length with hl | rfl | hl
  · rw [List.getElem?_append_left hl] at hy
    have hle : i * d.sz + d.sz ≤ xs.length * d.sz := by rw [← Nat.succ_mul]; exact Nat.mul_le_mul_right _ hl
    rw [List.drop_append_of_le_length (by rw [h.1]; omega), List.take_append_of_le_length (by rw [List.length_drop, h.1]; omega)]
    exact h.2 i y hy
  · simp at hy
    subst hy
    rw [← h.1, List.drop_left, List.take_of_length_le (by rw [d.len hx]; omega)]
    exact hx
  · rw [List.getElem?_eq_none (by simp; omega)] at hy
    simp at hy

/-- A slice of the call's own: its row may be written; what its elements lead into is not that row. -/
def Own (d : Rep α) (e : TypeId) (w : World) (base : Nat) (F : Nat → Prop) (v : Value) (xs : List α) : Prop :=
  ∃ cs, w.ownsRow base e d.sz v xs.length cs ∧ All d w F xs cs ∧ ∀ k, v.ownBlock = some k → ¬ F k

theorem Own.nil (d : Rep α) (e : TypeId) (w : World) (base : Nat) (F : Nat → Prop) : Own d e w base F (.slice none 0 0) [] :=
  ⟨[], World.ownsRow_nil w base e d.sz, All.nil d w F, fun k h => by simp [Value.ownBlock] at h⟩

theorem ownsRow_step {w w1 : World} {base : Nat} {e : TypeId} {size n : Nat} {v : Value} {xs : List Value} (h : w.ownsRow base e size v n xs) (hm : ∀ k, v.ownBlock = some k → w1.heap[k]? = w.heap[k]?) : w1.ownsRow base e size v n xs := by
  obtain ⟨h1, h2⟩ := h
  refine ⟨h1, ?_⟩
  rcases h2 with h2 | ⟨g, cap, cur, rfl, hg, hh, r⟩
  · exact .inl h2
  · exact .inr ⟨g, cap, cur, rfl, hg, (hm g (by simp [Value.ownBlock])).trans hh, r⟩

/-- The world has changed elsewhere. -/
theorem Own.step {d : Rep α} {e : TypeId} {w w1 : World} {base : Nat} {F : Nat → Prop} {v : Value} {xs : List α} (h : Own d e w base F v xs)
    (hm : ∀ k, F k ∨ v.ownBlock = some k → k < w.heap.size → w1.heap[k]? = w.heap[k]?) : Own d e w1 base F v xs := by
  obtain ⟨cs, h1, h2, h3⟩ := h
  refine ⟨cs, ownsRow_step h1 (fun k hk => hm k (.inr hk) (h1.lt k hk).2), h2.step (fun k hk hl => ⟨hk, hm k (.inl hk) hl⟩), h3⟩
theorem Own.below {d : Rep α} {e : TypeId} {w w1 : World} {base : Nat} {F : Nat → Prop} {v : Value} {xs : List α} (h : Own d e w base F v xs) (hb : Below w.heap.size w w1) : Own d e w1 base F v xs :=
  h.step fun k _ hl => hb.block k hl
theorem Own.lt {d : Rep α} {e : TypeId} {w : World} {base : Nat} {F : Nat → Prop} {v : Value} {xs : List α} (h : Own d e w base F v xs) : ∀ k, v.ownBlock = some k → base ≤ k ∧ k < w.heap.size :=
  fun k hk => by obtain ⟨cs, h1, _⟩ := h; exact h1.lt k hk
/-- The value of an own slice. -/
theorem Own.val {d : Rep α} {e : TypeId} {w : World} {base : Nat} {F : Nat → Prop} {v : Value} {xs : List α} (h : Own d e w base F v xs) : ∃ A cap, v = .slice A xs.length cap := by
  obtain ⟨cs, ⟨h1, h2⟩, _⟩ := h
  rcases h2 with ⟨rfl, h0⟩ | ⟨g, cap, cur, rfl, _⟩
  · exact ⟨none, 0, by rw [h0]⟩
  · exact ⟨_, cap, rfl⟩
/-- Behind the law of append: one more element. -/
theorem Own.push {d : Rep α} {e : TypeId} {w w1 : World} {base : Nat} {F : Nat → Prop} {v v1 : Value} {xs : List α} {cs c : List Value} {x : α}
    (hA : All d w F xs cs) (hF : ∀ k, v.ownBlock = some k → ¬ F k) (hF2 : ∀ k, F k → k < w.heap.size) (hx : d.rel w F x c) (hg : w.grownBy w1 v.ownBlock)
    (ho : w1.ownsRow base e d.sz v1 (xs.length + 1) (cs ++ c)) (hv : v1.ownBlock = v.ownBlock ∨ ∀ k, v1.ownBlock = some k → w.heap.size ≤ k) : Own d e w1 base F v1 (xs ++ [x]) := by
  have hm : ∀ k, F k → k < w.heap.size → F k ∧ w1.heap[k]? = w.heap[k]? := fun k hk hl => ⟨hk, hg.block k hl (fun e => hF k e.symm hk)⟩
  refine ⟨cs ++ c, by simpa using ho, (hA.snoc hx).step hm, ?_⟩
  intro k hk hFk
  rcases hv with hv | hv
  · rw [hv] at hk; exact hF k hk hFk
  · have := hv k hk; have := hF2 k hFk; omega

/-- An own slice, read. -/
theorem Own.rel {d : Rep α} {e : TypeId} {w : World} {base : Nat} {F G : Nat → Prop} {v : Value} {xs : List α} (h : Own d e w base F v xs) (hG : ∀ k, F k ∨ v.ownBlock = some k → G k) : (slice d).rel w G xs [v] := by
  obtain ⟨cs, ⟨h1, h2⟩, hA, h3⟩ := h
  rcases h2 with ⟨rfl, h0⟩ | ⟨g, cap, cur, rfl, hb, hg, hn, hc, hs, ht⟩
  · obtain rfl : xs = [] := List.eq_nil_of_length_eq_zero h0
    exact ⟨none, 0, rfl, Sl.empty d w G⟩
  · refine ⟨_, cap, rfl, hn, by simpa [maxLen] using hc, by simp, ?_⟩
    intro i x hx
    have hl : i < xs.length := (List.getElem?_eq_some_iff.1 hx).1
    refine ⟨g, 0, _, rfl, hG g (.inr (by simp [Value.ownBlock])), (Array.getElem?_eq_some_iff.1 hg).1, d.mono (fun k hk _ => hG k (.inl hk)) (hA.2 i x hx), ?_⟩
    intro j u hu
    rw [List.getElem?_take] at hu
    split at hu
    · rw [List.getElem?_drop, ← ht, List.getElem?_take] at hu
      split at hu
      · rw [cell_of_row w g _ cur e (0, 0) hg]
        simpa using hu
      · simp at hu
    · simp at hu
end
end Rep
end Go.Proofs.Ytabhafllkhoefaa
