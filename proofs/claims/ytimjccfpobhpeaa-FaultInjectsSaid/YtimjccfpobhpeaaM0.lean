-- joined from: Rep Under Map Kd Names Key PFx0 Clones Split SplitT Loads SplitA
import Derived.WalkKit
import Derived.WalkSpells
import Derived.WalkLawsBesides
import Derived.Deep.LoopGhost
import Derived.Deep.Draws
import Derived.Lib.Hide
import Derived.Deep.QuietTactic
import Derived.BigQuiet
import Derived.KernelRfl
import Derived.Laws.StructEq
import Derived.Maps.Keyed
import Derived.Laws.IdiomMaps
import Derived.ChangeMaps4
import Derived.Test.YtimjccfpobhpeaaWWords
import Derived.Test.YtimjccfpobhpeaaProg
import Derived.Lib.ConvBytes
import Derived.DeepKeys4
import Derived.Below
import Derived.Deep.AppendLies
import Derived.Maps.AppendAt
import Derived.OwnWalk
import Derived.Laws.BytesArg
import Derived.Laws.MakeOwn
import Derived.Laws.OwnMore
import Derived.Deep.OwnRows
import Derived.Tactics
import Derived.Laws.Slices
import Derived.RowKit3
import Derived.WideLaws
import Derived.Deep.DeepCutAuto
import Derived.Deep.CutBlock
import Derived.Deep.RegionHeld3
import Derived.Laws.Rows
import Derived.Lib.AppendStr
import Derived.ArgAppend
import Derived.Laws.IdiomCopy
import Derived.OrdersHeld
import Derived.Laws.BitsLemmas
import Derived.RowKit
import Derived.Test.YtimjccfpobhpeaaWLast
import Derived.Test.YtimjccfpobhpeaaWTab
import Derived.Test.YtimjccfpobhpeaaWQPut
import Derived.Test.YtimjccfpobhpeaaWApart
import Derived.Test.YtimjccfpobhpeaaWArr
import Derived.Test.YtimjccfpobhpeaaWZeros
import Derived.Test.YtimjccfpobhpeaaWFoot
import Derived.Test.YtimjccfpobhpeaaWKept
import Derived.Test.YtimjccfpobhpeaaWShare
import Derived.Test.YtimjccfpobhpeaaWN
import Derived.Test.YtimjccfpobhpeaaWEqStruct
import Derived.Test.YtimjccfpobhpeaaWGuard
import Derived.Test.YtimjccfpobhpeaaWNEv
import Derived.Test.YtimjccfpobhpeaaWMore
import Derived.Lib.SmallJoins
import Derived.Lib.BufferMore
/- How data of plain Lean types lie in the cells of the model's memory: a small library of this session's own. -/
namespace Go.Proofs.Ytimjccfpobhpeaa
open Go.RowKit

/-- x is of the integer kind k. -/
def InK (k : IntKind) (x : Int) : Prop := k.min ≤ x ∧ x ≤ k.max
theorem InK.i64 {x : Int} (h : InK .i64 x) : -9223372036854775808 ≤ x ∧ x ≤ 9223372036854775807 := h
theorem InK.u64 {x : Int} (h : InK .u64 x) : 0 ≤ x ∧ x ≤ 18446744073709551615 := h
theorem InK.u8 {x : Int} (h : InK .u8 x) : 0 ≤ x ∧ x ≤ 255 := h
theorem InK.mk64 {x : Int} (h : -9223372036854775808 ≤ x ∧ x ≤ 9223372036854775807) : InK .i64 x := h
theorem InK.mku64 {x : Int} (h : 0 ≤ x ∧ x ≤ 18446744073709551615) : InK .u64 x := h
theorem InK.mku8 {x : Int} (h : 0 ≤ x ∧ x ≤ 255) : InK .u8 x := h

/-- How a value of the Lean type α lies in sz cells; F: the blocks that it leads into. -/
structure Rep (α : Type) where
  sz : Nat
  rel : World → (Nat → Prop) → α → List Value → Prop
  len : ∀ {w F x cs}, rel w F x cs → cs.length = sz
  one : ∀ {w F x cs}, rel w F x cs → ∀ u ∈ cs, u.oneCell' = true
  step : ∀ {w w1 : World} {F G : Nat → Prop} {x cs}, (∀ k, F k → k < w.heap.size → G k ∧ w1.heap[k]? = w.heap[k]?) → rel w F x cs → rel w1 G x cs

/-- The cells from block b, place o on, are these. -/
def CellsAt (w : World) (b o : Nat) (cs : List Value) : Prop := ∀ j u, cs[j]? = some u → w.cell? ⟨b, o + j, none⟩ = some u

theorem CellsAt.step {w w1 : World} {b o : Nat} {cs : List Value} (h : CellsAt w b o cs) (hb : w1.heap[b]? = w.heap[b]?) : CellsAt w1 b o cs := fun j u hu =>
  (World.cell?_of_block (a := ⟨b, o + j, none⟩) hb).trans (h j u hu)

theorem cell_lt {w : World} {a : Addr} {v : Value} (h : w.cell? a = some v) : a.block < w.heap.size := block_lt_of_cell h

namespace Rep
section
variable {α β : Type}
def inBlocks (n : Nat) : Nat → Prop := fun k => k < n

theorem mono (d : Rep α) {w : World} {F G : Nat → Prop} {x cs} (hFG : ∀ k, F k → k < w.heap.size → G k) (h : d.rel w F x cs) : d.rel w G x cs :=
  d.step (fun k hk hl => ⟨hFG k hk hl, rfl⟩) h
theorem bound (d : Rep α) {w : World} {F : Nat → Prop} {x cs} (h : d.rel w F x cs) : d.rel w (fun k => F k ∧ k < w.heap.size) x cs :=
  d.step (fun _ hk hl => ⟨⟨hk, hl⟩, rfl⟩) h
theorem below (d : Rep α) {w w1 : World} {F : Nat → Prop} {x cs} {B : Nat} (hb : Below B w w1) (hF : ∀ k, F k → k < w.heap.size → k < B) (h : d.rel w F x cs) : d.rel w1 F x cs :=
  d.step (fun k hk hl => ⟨hk, hb.block k (hF k hk hl)⟩) h
theorem later (d : Rep α) {w w1 : World} {F : Nat → Prop} {x cs} (hb : Below w.heap.size w w1) (h : d.rel w F x cs) : d.rel w1 F x cs :=
  d.below hb (fun _ _ hl => hl) h

/-- One cell, the same in every world. -/
def cell (enc : α → Value) (ok : α → Prop) (h1 : ∀ x, (enc x).oneCell' = true) : Rep α where
  sz := 1
  rel := fun _ _ x cs => cs = [enc x] ∧ ok x
  len := fun h => by rw [h.1]; rfl
  one := fun h u hu => by rw [h.1] at hu; rw [List.mem_singleton.1 hu]; exact h1 _
  step := fun _ h => h

def int (k : IntKind) : Rep Int := cell (Value.int k) (InK k) (fun _ => rfl)
def bool : Rep Bool := cell Value.bool (fun _ => True) (fun _ => rfl)
def str : Rep ByteArray := cell Value.string (fun s => s.size ≤ 9223372036854775807) (fun _ => rfl)

/-- The elements of a row: the i-th lies at place o + i * size of block b. -/
def Row (d : Rep α) (w : World) (F : Nat → Prop) (A : Option Addr) (xs : List α) : Prop :=
  ∀ i x, xs[i]? = some x → ∃ b o cs, A = some ⟨b, o, none⟩ ∧ F b ∧ b < w.heap.size ∧ d.rel w F x cs ∧ CellsAt w b (o + i * d.sz) cs

theorem Row.step {d : Rep α} {w w1 : World} {F G : Nat → Prop} {A : Option Addr} {xs : List α} (hm : ∀ k, F k → k < w.heap.size → G k ∧ w1.heap[k]? = w.heap[k]?) (h : Row d w F A xs) : Row d w1 G A xs := by
  intro i x hx
  obtain ⟨b, o, cs, hA, hF, hl, hr, hc⟩ := h i x hx
  have hb := hm b hF hl
  refine ⟨b, o, cs, hA, hb.1, ?_, d.step hm hr, hc.step hb.2⟩
  have := hb.2
  rw [Array.getElem?_eq_getElem hl] at this
  exact (Array.getElem?_eq_some_iff.1 this).1

theorem Row.below {d : Rep α} {w w1 : World} {F : Nat → Prop} {A : Option Addr} {xs : List α} {B : Nat} (hb : Below B w w1) (hF : ∀ k, F k → k < w.heap.size → k < B) (h : Row d w F A xs) : Row d w1 F A xs :=
  Row.step (fun k hk hl => ⟨hk, hb.block k (hF k hk hl)⟩) h
theorem Row.later {d : Rep α} {w w1 : World} {F : Nat → Prop} {A : Option Addr} {xs : List α} (hb : Below w.heap.size w w1) (h : Row d w F A xs) : Row d w1 F A xs :=
  Row.below hb (fun _ _ hl => hl) h
theorem Row.mono {d : Rep α} {w : World} {F G : Nat → Prop} {A : Option Addr} {xs : List α} (hFG : ∀ k, F k → k < w.heap.size → G k) (h : Row d w F A xs) : Row d w G A xs :=
  Row.step (fun k hk hl => ⟨hFG k hk hl, rfl⟩) h
theorem Row.nil (d : Rep α) (w : World) (F : Nat → Prop) (A : Option Addr) : Row d w F A [] := fun i x h => by simp at h
theorem Row.take {d : Rep α} {w : World} {F : Nat → Prop} {A : Option Addr} {xs : List α} (h : Row d w F A xs) (n : Nat) : Row d w F A (xs.take n) := by
  intro i x hx
  rw [List.getElem?_take] at hx
  split at hx
  · exact h i x hx
  · simp at hx
theorem Row.drop {d : Rep α} {w : World} {F : Nat → Prop} {b o : Nat} {xs : List α} (h : Row d w F (some ⟨b, o, none⟩) xs) (n : Nat) : Row d w F (some ⟨b, o + n * d.sz, none⟩) (xs.drop n) := by
  intro i x hx
  rw [List.getElem?_drop] at hx
  obtain ⟨b', o', cs, hA, hF, hl, hr, hc⟩ := h _ x hx
  simp only [Option.some.injEq, Addr.mk.injEq, and_true] at hA
  obtain ⟨rfl, rfl⟩ := hA
  refine ⟨b, _, cs, rfl, hF, hl, hr, ?_⟩
  rw [show o + n * d.sz + i * d.sz = o + (n + i) * d.sz by rw [Nat.add_mul]; omega]
  exact hc
theorem Row.head {d : Rep α} {w : World} {F : Nat → Prop} {A : Option Addr} {xs : List α} (h : Row d w F A xs) (hx : 0 < xs.length) : ∃ b o, A = some ⟨b, o, none⟩ ∧ F b ∧ b < w.heap.size := by
  obtain ⟨b, o, _, hA, hF, hl, _⟩ := h 0 xs[0] (List.getElem?_eq_getElem hx)
  exact ⟨b, o, hA, hF, hl⟩

/-- A slice's address and capacity, over the row of its elements. -/
structure Sl (d : Rep α) (w : World) (F : Nat → Prop) (A : Option Addr) (cap : Nat) (xs : List α) : Prop where
  le : xs.length ≤ cap
  cap_le : cap ≤ 9223372036854775807
  nil : A = none → cap = 0
  row : Row d w F A xs
theorem Sl.step {d : Rep α} {w w1 : World} {F G : Nat → Prop} {A : Option Addr} {cap : Nat} {xs : List α} (hm : ∀ k, F k → k < w.heap.size → G k ∧ w1.heap[k]? = w.heap[k]?) (h : Sl d w F A cap xs) : Sl d w1 G A cap xs :=
  ⟨h.le, h.cap_le, h.nil, Row.step hm h.row⟩
theorem Sl.below {d : Rep α} {w w1 : World} {F : Nat → Prop} {A : Option Addr} {cap : Nat} {xs : List α} {B : Nat} (hb : Below B w w1) (hF : ∀ k, F k → k < w.heap.size → k < B) (h : Sl d w F A cap xs) : Sl d w1 F A cap xs :=
  h.step fun k hk hl => ⟨hk, hb.block k (hF k hk hl)⟩
theorem Sl.later {d : Rep α} {w w1 : World} {F : Nat → Prop} {A : Option Addr} {cap : Nat} {xs : List α} (hb : Below w.heap.size w w1) (h : Sl d w F A cap xs) : Sl d w1 F A cap xs :=
  h.below hb fun _ _ hl => hl
theorem Sl.mono {d : Rep α} {w : World} {F G : Nat → Prop} {A : Option Addr} {cap : Nat} {xs : List α} (hFG : ∀ k, F k → k < w.heap.size → G k) (h : Sl d w F A cap xs) : Sl d w G A cap xs :=
  h.step fun k hk hl => ⟨hFG k hk hl, rfl⟩
theorem Sl.len {d : Rep α} {w : World} {F : Nat → Prop} {A : Option Addr} {cap : Nat} {xs : List α} (h : Sl d w F A cap xs) : (xs.length : Int) ≤ 9223372036854775807 := by
  have := h.le; have := h.cap_le; omega
theorem Sl.empty (d : Rep α) (w : World) (F : Nat → Prop) : Sl d w F none 0 [] := ⟨Nat.le_refl _, by omega, fun _ => rfl, Row.nil d w F none⟩
theorem Sl.take {d : Rep α} {w : World} {F : Nat → Prop} {A : Option Addr} {cap : Nat} {xs : List α} (h : Sl d w F A cap xs) (n : Nat) : Sl d w F A cap (xs.take n) :=
  ⟨by have := h.le; have := List.length_take_le n xs; have : (xs.take n).length ≤ xs.length := by rw [List.length_take]; omega
      omega, h.cap_le, h.nil, h.row.take n⟩
def slice (d : Rep α) : Rep (List α) where
  sz := 1
  rel := fun w F xs cs => ∃ A cap, cs = [.slice A xs.length cap] ∧ Sl d w F A cap xs
  len := by rintro w F x cs ⟨A, cap, rfl, _⟩; rfl
  one := by rintro w F x cs ⟨A, cap, rfl, _⟩ u hu; rw [List.mem_singleton.1 hu]; rfl
  step := by
    rintro w w1 F G x cs hm ⟨A, cap, rfl, h⟩
    exact ⟨A, cap, rfl, h.step hm⟩

/-- Two in line. -/
def pair (a : Rep α) (b : Rep β) : Rep (α × β) where
  sz := a.sz + b.sz
  rel := fun w F x cs => ∃ c0 c1, cs = c0 ++ c1 ∧ a.rel w F x.1 c0 ∧ b.rel w F x.2 c1
  len := by rintro w F x cs ⟨c0, c1, rfl, h0, h1⟩; rw [List.length_append, a.len h0, b.len h1]
  one := by
    rintro w F x cs ⟨c0, c1, rfl, h0, h1⟩ u hu
    rcases List.mem_append.1 hu with hu | hu
    · exact a.one h0 u hu
    · exact b.one h1 u hu
  step := by
    rintro w w1 F G x cs hm ⟨c0, c1, rfl, h0, h1⟩
    exact ⟨c0, c1, rfl, a.step hm h0, b.step hm h1⟩
/-- A Lean structure by its fields. -/
def iso (d : Rep α) (f : β → α) : Rep β where
  sz := d.sz
  rel := fun w F x cs => d.rel w F (f x) cs
  len := d.len
  one := d.one
  step := d.step

/-- The cells of a list of things, in line. -/
def All (d : Rep α) (w : World) (F : Nat → Prop) (xs : List α) (cs : List Value) : Prop :=
  cs.length = xs.length * d.sz ∧ ∀ i x, xs[i]? = some x → d.rel w F x ((cs.drop (i * d.sz)).take d.sz)

theorem All.step {d : Rep α} {w w1 : World} {F G : Nat → Prop} {xs : List α} {cs : List Value} (hm : ∀ k, F k → k < w.heap.size → G k ∧ w1.heap[k]? = w.heap[k]?) (h : All d w F xs cs) : All d w1 G xs cs :=
  ⟨h.1, fun i x hx => d.step hm (h.2 i x hx)⟩
theorem All.nil (d : Rep α) (w : World) (F : Nat → Prop) : All d w F [] [] := ⟨by simp, fun i x h => by simp at h⟩
theorem All.snoc {d : Rep α} {w : World} {F : Nat → Prop} {xs : List α} {cs : List Value} {x : α} {c : List Value} (h : All d w F xs cs) (hx : d.rel w F x c) : All d w F (xs ++ [x]) (cs ++ c) := by
  refine ⟨by simp [h.1, d.len hx, Nat.add_mul], ?_⟩
  intro i y hy
  rcases Nat.lt_trichotomy i xs.length with hl | rfl | hl
  · rw [List.getElem?_append_left hl] at hy
    have hle : i * d.sz + d.sz ≤ xs.length * d.sz := by rw [← Nat.succ_mul]; exact Nat.mul_le_mul_right _ hl
    rw [List.drop_append_of_le_length (by rw [h.1]; omega), List.take_append_of_le_length (by rw [List.length_drop, h.1]; omega)]
    exact h.2 i y hy
  · simp at hy
    subst hy
    rw [← h.1, List.drop_left, List.take_of_length_le (by rw [d.len hx]; omega)]
    exact hx
  · rw [List.getElem?_eq_none (by simp; omega)] at hy
    simp at hy

/-- A slice of the call's own: its row may be written; what its elements lead into is not that row. -/
def Own (d : Rep α) (e : TypeId) (w : World) (base : Nat) (F : Nat → Prop) (v : Value) (xs : List α) : Prop :=
  ∃ cs, w.ownsRow base e d.sz v xs.length cs ∧ All d w F xs cs ∧ ∀ k, v.ownBlock = some k → ¬ F k

theorem Own.nil (d : Rep α) (e : TypeId) (w : World) (base : Nat) (F : Nat → Prop) : Own d e w base F (.slice none 0 0) [] :=
  ⟨[], World.ownsRow_nil w base e d.sz, All.nil d w F, fun k h => by simp [Value.ownBlock] at h⟩

theorem ownsRow_step {w w1 : World} {base : Nat} {e : TypeId} {size n : Nat} {v : Value} {xs : List Value} (h : w.ownsRow base e size v n xs) (hm : ∀ k, v.ownBlock = some k → w1.heap[k]? = w.heap[k]?) : w1.ownsRow base e size v n xs := by
  obtain ⟨h1, h2⟩ := h
  refine ⟨h1, ?_⟩
  rcases h2 with h2 | ⟨g, cap, cur, rfl, hg, hh, r⟩
  · exact .inl h2
  · exact .inr ⟨g, cap, cur, rfl, hg, (hm g (by simp [Value.ownBlock])).trans hh, r⟩

/-- The world has changed elsewhere. -/
theorem Own.step {d : Rep α} {e : TypeId} {w w1 : World} {base : Nat} {F : Nat → Prop} {v : Value} {xs : List α} (h : Own d e w base F v xs)
    (hm : ∀ k, F k ∨ v.ownBlock = some k → k < w.heap.size → w1.heap[k]? = w.heap[k]?) : Own d e w1 base F v xs := by
  obtain ⟨cs, h1, h2, h3⟩ := h
  refine ⟨cs, ownsRow_step h1 (fun k hk => hm k (.inr hk) (h1.lt k hk).2), h2.step (fun k hk hl => ⟨hk, hm k (.inl hk) hl⟩), h3⟩
theorem Own.below {d : Rep α} {e : TypeId} {w w1 : World} {base : Nat} {F : Nat → Prop} {v : Value} {xs : List α} (h : Own d e w base F v xs) (hb : Below w.heap.size w w1) : Own d e w1 base F v xs :=
  h.step fun k _ hl => hb.block k hl
theorem Own.lt {d : Rep α} {e : TypeId} {w : World} {base : Nat} {F : Nat → Prop} {v : Value} {xs : List α} (h : Own d e w base F v xs) : ∀ k, v.ownBlock = some k → base ≤ k ∧ k < w.heap.size :=
  fun k hk => by obtain ⟨cs, h1, _⟩ := h; exact h1.lt k hk
/-- The value of an own slice. -/
theorem Own.val {d : Rep α} {e : TypeId} {w : World} {base : Nat} {F : Nat → Prop} {v : Value} {xs : List α} (h : Own d e w base F v xs) : ∃ A cap, v = .slice A xs.length cap := by
  obtain ⟨cs, ⟨h1, h2⟩, _⟩ := h
  rcases h2 with ⟨rfl, h0⟩ | ⟨g, cap, cur, rfl, _⟩
  · exact ⟨none, 0, by rw [h0]⟩
  · exact ⟨_, cap, rfl⟩
/-- Behind the law of append: one more element. -/
theorem Own.push {d : Rep α} {e : TypeId} {w w1 : World} {base : Nat} {F : Nat → Prop} {v v1 : Value} {xs : List α} {cs c : List Value} {x : α}
    (hA : All d w F xs cs) (hF : ∀ k, v.ownBlock = some k → ¬ F k) (hF2 : ∀ k, F k → k < w.heap.size) (hx : d.rel w F x c) (hg : w.grownBy w1 v.ownBlock)
    (ho : w1.ownsRow base e d.sz v1 (xs.length + 1) (cs ++ c)) (hv : v1.ownBlock = v.ownBlock ∨ ∀ k, v1.ownBlock = some k → w.heap.size ≤ k) : Own d e w1 base F v1 (xs ++ [x]) := by
  have hm : ∀ k, F k → k < w.heap.size → F k ∧ w1.heap[k]? = w.heap[k]? := fun k hk hl => ⟨hk, hg.block k hl (fun e => hF k e.symm hk)⟩
  refine ⟨cs ++ c, by simpa using ho, (hA.snoc hx).step hm, ?_⟩
  intro k hk hFk
  rcases hv with hv | hv
  · rw [hv] at hk; exact hF k hk hFk
  · have := hv k hk; have := hF2 k hFk; omega

/-- An own slice, read. -/
theorem Own.rel {d : Rep α} {e : TypeId} {w : World} {base : Nat} {F G : Nat → Prop} {v : Value} {xs : List α} (h : Own d e w base F v xs) (hG : ∀ k, F k ∨ v.ownBlock = some k → G k) : (slice d).rel w G xs [v] := by
  obtain ⟨cs, ⟨h1, h2⟩, hA, h3⟩ := h
  rcases h2 with ⟨rfl, h0⟩ | ⟨g, cap, cur, rfl, hb, hg, hn, hc, hs, ht⟩
  · obtain rfl : xs = [] := List.eq_nil_of_length_eq_zero h0
    exact ⟨none, 0, rfl, Sl.empty d w G⟩
  · refine ⟨_, cap, rfl, hn, by simpa [maxLen] using hc, by simp, ?_⟩
    intro i x hx
    have hl : i < xs.length := (List.getElem?_eq_some_iff.1 hx).1
    refine ⟨g, 0, _, rfl, hG g (.inr (by simp [Value.ownBlock])), (Array.getElem?_eq_some_iff.1 hg).1, d.mono (fun k hk _ => hG k (.inl hk)) (hA.2 i x hx), ?_⟩
    intro j u hu
    rw [List.getElem?_take] at hu
    split at hu
    · rw [List.getElem?_drop, ← ht, List.getElem?_take] at hu
      split at hu
      · rw [cell_of_row w g _ cur e (0, 0) hg]
        simpa using hu
      · simp at hu
    · simp at hu
end
end Rep
end Go.Proofs.Ytimjccfpobhpeaa
/- Worlds in which all that was there is as it was: for walks over calls that make memory, and for statements whose order is open. -/
namespace Go.Proofs.Ytimjccfpobhpeaa
open Go.RowKit

/-- A world behind w: all blocks of w are there as they were. -/
structure Under (w : World) where
  val : World
  ok : Below w.heap.size w val

namespace Under
variable {w : World}
@[go_sem] theorem cell (x : Under w) (b o : Nat) (h : b < w.heap.size) : x.val.cell? ⟨b, o, none⟩ = w.cell? ⟨b, o, none⟩ := x.ok.cell (p := ⟨b, o, none⟩) h
@[go_sem] theorem frozen (x : Under w) (b o : Nat) (h : b < w.heap.size) : x.val.frozen? ⟨b, o, none⟩ = w.frozen? ⟨b, o, none⟩ := x.ok.frozen (p := ⟨b, o, none⟩) h
@[go_sem] theorem lt (x : Under w) (b : Nat) (h : b < w.heap.size) : b < x.val.heap.size := Nat.lt_of_lt_of_le h x.ok.size
theorem size (x : Under w) : w.heap.size ≤ x.val.heap.size := x.ok.size
def refl (w : World) : Under w := ⟨w, Below.refl _ _⟩
def alloc (x : Under w) (o : Obj) : Under w := ⟨x.val.alloc o, x.ok.alloc x.ok.size o⟩
def drew (x : Under w) : Under w := ⟨x.val.drew, x.ok.drew⟩
def trans (x : Under w) (y : Under x.val) : Under w := ⟨y.val, x.ok.trans (y.ok.mono x.ok.size)⟩
instance (w : World) : Nonempty (Under w) := ⟨Under.refl w⟩
end Under

@[go_sem] theorem le_heap_of {w : World} {b : Nat} (h : b < w.heap.size) : b ≤ w.heap.size := Nat.le_of_lt h
@[go_sem] theorem lt_heap_succ {w : World} {b : Nat} (h : b < w.heap.size) : b < w.heap.size + 1 := Nat.lt_succ_of_lt h
@[go_sem] theorem lt_heap_succ2 {w : World} {b : Nat} (h : b < w.heap.size) : b < w.heap.size + 1 + 1 := by omega

/-- w1 lies behind w. -/
def Is (w w1 : World) : Prop := ∃ x : Under w, w1 = x.val
theorem Is.of {w w1 : World} (h : Below w.heap.size w w1) : Is w w1 := ⟨⟨w1, h⟩, rfl⟩
theorem Is.below {w w1 : World} (h : Is w w1) : Below w.heap.size w w1 := by obtain ⟨x, rfl⟩ := h; exact x.ok
theorem Is.refl (w : World) : Is w w := ⟨Under.refl w, rfl⟩
theorem Is.val {w : World} (x : Under w) : Is w x.val := ⟨x, rfl⟩
theorem Is.alloc {w w1 : World} (h : Is w w1) (o : Obj) : Is w (w1.alloc o) := by obtain ⟨x, rfl⟩ := h; exact ⟨x.alloc o, rfl⟩
theorem Is.drew {w w1 : World} (h : Is w w1) : Is w w1.drew := by obtain ⟨x, rfl⟩ := h; exact ⟨x.drew, rfl⟩
theorem Is.trans {w w1 w2 : World} (h : Is w w1) (k : Is w1 w2) : Is w w2 := by obtain ⟨x, rfl⟩ := h; obtain ⟨y, rfl⟩ := k; exact ⟨x.trans y, rfl⟩
theorem Is.step {w w1 : World} (h : Is w w1) (y : Under w1) : Is w y.val := h.trans (Is.val y)
theorem Is.setCell {w w1 : World} (h : Is w w1) {p : Addr} (hp : w.heap.size ≤ p.block) (u : Value) : Is w (w1.setCell p u) := Is.of (h.below.setCell hp u)
theorem Is.grown {w w1 w2 : World} {row : Option Nat} (h : Is w w1) (hg : w1.grownBy w2 row) (hr : ∀ k, row = some k → w.heap.size ≤ k) : Is w w2 := Is.of (h.below.grown hg h.below.size hr)

theorem Calls.under {P : Program} {f : FuncId} {args : Array Value} {w : World} {v : Value} (x : Under w)
    (h : Calls P f args x.val fun e w'' => e = .returned v ∧ Is x.val w'') : Calls P f args x.val fun e w'' => e = .returned v ∧ ∃ y : Under w, w'' = y.val :=
  h.mono fun _ _ ⟨he, hw⟩ => ⟨he, (Is.val x).trans hw⟩

/-- A region that draws its order, whose operations read what was there and whose callees may make memory: one walk of the text's order. -/
theorem wp_region_under {P : Program} {id : Nat} {Q : Exit → Act → World → Prop} {a : Act} {w : World} {l : List Oper} (hm : P.follows .mixedOrders = true) (hB : Region.lexB .any l.toArray = true)
    (h : wpQuiet P l.toArray (fun w' => ∃ x : Under w, w' = x.val) (fun a' => ∀ w', (∃ x : Under w, w' = x.val) → Q .normal a' w') l a) : (Code.region id l.toArray true).wp P Q a w :=
  wp_region_quiet (C := fun w' => ∃ x : Under w, w' = x.val) hm hB ⟨⟨_, (Below.refl _ _).drew⟩, rfl⟩ (by simpa using h)

theorem Rep.Sl.is {α : Type} {d : Rep α} {w w1 : World} {F : Nat → Prop} {A : Option Addr} {cap : Nat} {xs : List α} (h : Rep.Sl d w F A cap xs) (hw : Is w w1) : Rep.Sl d w1 F A cap xs := h.later hw.below
theorem Rep.is {α : Type} (d : Rep α) {w w1 : World} {F : Nat → Prop} {x : α} {cs : List Value} (h : d.rel w F x cs) (hw : Is w w1) : d.rel w1 F x cs := d.later hw.below h
/-- '==' of two structs: field by field. -/
theorem eqFields_step {P : Program} {d : Nat} {xs ys : Array Value} {f : Field} {fs : List Field} {a b : Value} {r s : Bool} {w : World} (hn : f.name ≠ "_")
    (ha : (part f.type xs f.offset).run P w = .ok a w) (hb : (part f.type ys f.offset).run P w = .ok b w) (he : (Op.equalIn d f.type a b).run P w = .ok r w)
    (hr : (Op.eqFields d xs ys fs).run P w = .ok s w) : (Op.eqFields d xs ys (f :: fs)).run P w = .ok (r && s) w := by
  unfold Op.eqFields
  rw [if_pos hn]
  simp only [Sem.run_bind, ha, hb, he, Result.andThen_ok]
  cases r with
  | false => simp
  | true => simp [hr]
theorem eqFields_last {P : Program} {d : Nat} {xs ys : Array Value} {f : Field} {a b : Value} {r : Bool} {w : World} (hn : f.name ≠ "_")
    (ha : (part f.type xs f.offset).run P w = .ok a w) (hb : (part f.type ys f.offset).run P w = .ok b w) (he : (Op.equalIn d f.type a b).run P w = .ok r w) : (Op.eqFields d xs ys [f]).run P w = .ok r w := by
  have h := eqFields_step hn ha hb he (show (Op.eqFields d xs ys []).run P w = .ok true w by simp [Op.eqFields])
  rwa [Bool.and_true] at h
theorem eqStruct {P : Program} {d : Nat} {xs ys : Array Value} {r : Bool} {w : World} {t : TypeId} {fs : Array Field} (hu : P.underlying t = some (.struct fs)) (hp : P.stoodInHeld t = false)
    (h : (Op.eqFields d xs ys fs.toList).run P w = .ok r w) : (Op.equalIn (d + 1) t (.agg xs) (.agg ys)).run P w = .ok r w := by
  have hf : P.fieldsOf t = fs := by simp [Program.fieldsOf, hu]
  rw [run_equalIn_struct w d t xs ys (by rw [hf]; exact hu) hp, hf]
  exact h

theorem ret_int {k : IntKind} {a b : Int} (h : a = b) : Ending.returned (.int k a) = .returned (.int k b) := by rw [h]
theorem ret_bool {a b : Bool} (h : a = b) : Ending.returned (.bool a) = .returned (.bool b) := by rw [h]
theorem ret_val {a b : Value} (h : a = b) : Ending.returned a = .returned b := by rw [h]
end Go.Proofs.Ytimjccfpobhpeaa
/- Maps that a call makes, as association lists; worlds of which all but some blocks is as it was. -/
namespace Go.Proofs.Ytimjccfpobhpeaa
open Go.RowKit
open Go.ChangeMaps (setBlock)

/-- How keys of a Lean type lie in cells. -/
structure KeyEnc (P : Program) (kt : TypeId) (κ : Type) where
  enc : κ → Value
  ok : κ → Prop
  law : Maps.Keyed P kt
  key : ∀ k, ok k → ∃ l, keyOf P kt (enc k) = some l
  inj : ∀ a b, enc a = enc b → a = b

section
variable {κ ν : Type} [DecidableEq κ]
def mget : List (κ × ν) → κ → Option ν
  | [], _ => none
  | p :: m, k => if p.1 = k then some p.2 else mget m k
def mput : List (κ × ν) → κ → ν → List (κ × ν)
  | [], k, v => [(k, v)]
  | p :: m, k, v => if p.1 = k then (k, v) :: m else p :: mput m k v
theorem mget_mput (m : List (κ × ν)) (k k' : κ) (v : ν) : mget (mput m k v) k' = if k = k' then some v else mget m k' := by
  induction m with
  | nil => simp [mget, mput]
  | cons p m ih =>
    simp only [mput]
    split
    · rename_i h
      simp only [mget, h]
      split <;> simp_all
    · rename_i h
      simp only [mget, ih]
      split
      · rename_i h2
        rw [if_neg (by rintro rfl; exact h h2)]
      · rfl
theorem mem_mput {m : List (κ × ν)} {k : κ} {v : ν} {p : κ × ν} (h : p ∈ mput m k v) : p = (k, v) ∨ p ∈ m := by
  induction m with
  | nil => simpa [mput] using h
  | cons q m ih =>
    simp only [mput] at h
    split at h
    · rcases List.mem_cons.1 h with h | h
      · exact .inl h
      · exact .inr (List.mem_cons_of_mem _ h)
    · rcases List.mem_cons.1 h with h | h
      · exact .inr (h ▸ List.mem_cons_self)
      · rcases ih h with h | h
        · exact .inl h
        · exact .inr (List.mem_cons_of_mem _ h)
theorem mput_new {m : List (κ × ν)} {k : κ} {v : ν} (h : ∀ p ∈ m, p.1 ≠ k) : mput m k v = m ++ [(k, v)] := by
  induction m with
  | nil => rfl
  | cons p m ih => rw [mput, if_neg (h p List.mem_cons_self), ih (fun q hq => h q (List.mem_cons_of_mem _ hq))]; rfl
theorem mget_new {m : List (κ × ν)} {k : κ} (h : ∀ p ∈ m, p.1 ≠ k) : mget m k = none := by
  induction m with
  | nil => rfl
  | cons p m ih => rw [mget, if_neg (h p List.mem_cons_self), ih (fun q hq => h q (List.mem_cons_of_mem _ hq))]
theorem mput_at {m : List (κ × ν)} (hn : (m.map (·.1)).Nodup) {j : Nat} {k : κ} {v0 v : ν} (h : m[j]? = some (k, v0)) : mput m k v = m.set j (k, v) := by
  induction m generalizing j with
  | nil => simp at h
  | cons p m ih =>
    rw [List.map_cons, List.nodup_cons] at hn
    cases j with
    | zero =>
      simp only [List.getElem?_cons_zero, Option.some.injEq] at h
      subst h
      simp [mput]
    | succ j =>
      simp only [List.getElem?_cons_succ] at h
      have hm : (k, v0) ∈ m := List.mem_of_getElem? h
      rw [mput, if_neg (fun h0 : p.1 = k => hn.1 (by rw [h0]; exact List.mem_map_of_mem (f := Prod.fst) hm)), ih hn.2 h]
      rfl
theorem mget_at {m : List (κ × ν)} (hn : (m.map (·.1)).Nodup) {j : Nat} {k : κ} {v0 : ν} (h : m[j]? = some (k, v0)) : mget m k = some v0 := by
  induction m generalizing j with
  | nil => simp at h
  | cons p m ih =>
    rw [List.map_cons, List.nodup_cons] at hn
    cases j with
    | zero =>
      simp only [List.getElem?_cons_zero, Option.some.injEq] at h
      subst h
      simp [mget]
    | succ j =>
      simp only [List.getElem?_cons_succ] at h
      have hm : (k, v0) ∈ m := List.mem_of_getElem? h
      rw [mget, if_neg (fun h0 : p.1 = k => hn.1 (by rw [h0]; exact List.mem_map_of_mem (f := Prod.fst) hm)), ih hn.2 h]
theorem nodup_mput {m : List (κ × ν)} (hn : (m.map (·.1)).Nodup) (k : κ) (v : ν) : ((mput m k v).map (·.1)).Nodup := by
  induction m with
  | nil => simp [mput]
  | cons p m ih =>
    rw [List.map_cons, List.nodup_cons] at hn
    rw [mput]
    split
    · rename_i h
      rw [List.map_cons, List.nodup_cons]
      exact ⟨h ▸ hn.1, hn.2⟩
    · rename_i h
      rw [List.map_cons, List.nodup_cons]
      refine ⟨fun hm => ?_, ih hn.2⟩
      obtain ⟨q, hq, he⟩ := List.mem_map.1 hm
      rcases mem_mput hq with rfl | hq
      · exact h he.symm
      · exact hn.1 (he ▸ List.mem_map_of_mem (f := (·.1)) hq)

/-- Block b of w is a map that holds this association list. -/
def MapAt {P : Program} {kt : TypeId} (E : KeyEnc P kt κ) (ev : ν → Value) (w : World) (b : Nat) (m : List (κ × ν)) : Prop :=
  ∃ es clock, w.heap[b]? = some (.map es clock) ∧ es.toList.map (fun e => (e.key, e.val)) = m.map (fun p => (E.enc p.1, ev p.2)) ∧ (∀ p ∈ m, E.ok p.1) ∧ (m.map (·.1)).Nodup

variable {P : Program} {kt : TypeId} {E : KeyEnc P kt κ} {ev : ν → Value} {w : World} {b : Nat} {m : List (κ × ν)}
omit [DecidableEq κ] in
theorem MapAt.step {w1 : World} (h : MapAt E ev w b m) (hb : w1.heap[b]? = w.heap[b]?) : MapAt E ev w1 b m := by
  obtain ⟨es, clock, h1, h2⟩ := h
  exact ⟨es, clock, hb.trans h1, h2⟩
omit [DecidableEq κ] in
theorem MapAt.lt (h : MapAt E ev w b m) : b < w.heap.size := by
  obtain ⟨es, clock, h1, _⟩ := h
  exact (Array.getElem?_eq_some_iff.1 h1).1
omit [DecidableEq κ] in
theorem MapAt.is {w1 : World} (h : MapAt E ev w b m) (hw : Is w w1) : MapAt E ev w1 b m := h.step (hw.below.block b h.lt)
omit [DecidableEq κ] in
theorem MapAt.made (w : World) : MapAt E ev (w.alloc (.map #[] 0)) w.heap.size ([] : List (κ × ν)) := ⟨#[], 0, heap_alloc_new w _, rfl, by simp, by simp⟩

theorem map_find (h : MapAt E ev w b m) {k : κ} (hk : E.ok k) : ∃ es clock, w.heap[b]? = some (.map es clock) ∧
    (((Instr.findKey kt (E.enc k) es.toList).run P w = .ok none w ∧ mget m k = none ∧ mput (κ := κ) (ν := ν) m k = fun v => m ++ [(k, v)]) ∨
     ∃ j v0 e0, (Instr.findKey kt (E.enc k) es.toList).run P w = .ok (some (j, ev v0)) w ∧ es[j]? = some e0 ∧ e0.key = E.enc k ∧ m[j]? = some (k, v0) ∧ mget m k = some v0) := by
  obtain ⟨es, clock, h1, h2, h3, h4⟩ := h
  refine ⟨es, clock, h1, ?_⟩
  obtain ⟨l, hl⟩ := E.key k hk
  have hks : ∀ e ∈ es.toList, ∃ l, keyOf P kt e.key = some l := by
    intro e he
    have : (e.key, e.val) ∈ m.map (fun p => (E.enc p.1, ev p.2)) := h2 ▸ List.mem_map_of_mem (f := fun e : MapEntry => (e.key, e.val)) he
    obtain ⟨p, hp, hpe⟩ := List.mem_map.1 this
    have : e.key = E.enc p.1 := (congrArg Prod.fst hpe).symm
    rw [this]
    exact E.key p.1 (h3 p hp)
  rcases E.law.find w hl es.toList hks with ⟨hf, hne⟩ | ⟨j, e0, hf, hj, hke⟩
  · left
    have hne2 : ∀ p ∈ m, p.1 ≠ k := by
      rintro p hp rfl
      have : (E.enc p.1, ev p.2) ∈ es.toList.map (fun e => (e.key, e.val)) := h2 ▸ List.mem_map_of_mem (f := fun p : κ × ν => (E.enc p.1, ev p.2)) hp
      obtain ⟨e, he, hee⟩ := List.mem_map.1 this
      exact hne e he (congrArg Prod.fst hee)
    exact ⟨hf, mget_new hne2, funext fun v => mput_new hne2⟩
  · right
    have hx : (m.map (fun p => (E.enc p.1, ev p.2)))[j]? = some (e0.key, e0.val) := by rw [← h2, List.getElem?_map, hj]; rfl
    rw [List.getElem?_map] at hx
    cases hm : m[j]? with
    | none => rw [hm] at hx; simp at hx
    | some p =>
      rw [hm] at hx
      simp only [Option.map_some, Option.some.injEq, Prod.mk.injEq] at hx
      have hpk : p.1 = k := E.inj _ _ (hx.1.trans hke)
      obtain ⟨p1, p2⟩ := p
      subst hpk
      exact ⟨j, p2, e0, by rw [hf, hx.2], by simpa using hj, hke, hm, mget_at h4 hm⟩

theorem run_mapLookup (h : MapAt E ev w b m) {t e : TypeId} (ht : P.underlying t = some (.map kt e)) {z : Value} (hz : (zeroValue e).run P w = .ok z w) {k : κ} (hk : E.ok k) :
    (Instr.lookup t (.map (some b)) (E.enc k) false).run P w = .ok (((mget m k).map ev).getD z) w := by
  obtain ⟨l, hl⟩ := E.key k hk
  obtain ⟨es, clock, h1, hf | ⟨j, v0, e0, hf, _, _, _, hg⟩⟩ := map_find h hk
  · simp [Instr.lookup, run_underlying ht, MapKept.run_getObj_map h1, E.law.check w _ hl, hf.1, hf.2.1, hz, Result.andThen]
  · simp [Instr.lookup, run_underlying ht, MapKept.run_getObj_map h1, E.law.check w _ hl, hf, hg, Result.andThen]
theorem run_mapLookupOk (h : MapAt E ev w b m) {t e : TypeId} (ht : P.underlying t = some (.map kt e)) {z : Value} (hz : (zeroValue e).run P w = .ok z w) {k : κ} (hk : E.ok k) :
    (Instr.lookup t (.map (some b)) (E.enc k) true).run P w = .ok (.tuple #[((mget m k).map ev).getD z, .bool (mget m k).isSome]) w := by
  obtain ⟨l, hl⟩ := E.key k hk
  obtain ⟨es, clock, h1, hf | ⟨j, v0, e0, hf, _, _, _, hg⟩⟩ := map_find h hk
  · simp [Instr.lookup, run_underlying ht, MapKept.run_getObj_map h1, E.law.check w _ hl, hf.1, hf.2.1, hz, Result.andThen]
  · simp [Instr.lookup, run_underlying ht, MapKept.run_getObj_map h1, E.law.check w _ hl, hf, hg, Result.andThen]
theorem run_mapStore (h : MapAt E ev w b m) {t e : TypeId} (ht : P.underlying t = some (.map kt e)) {k : κ} (hk : E.ok k) (v : ν) :
    ∃ o, (Instr.mapUpdate t (.map (some b)) (E.enc k) (ev v)).run P w = .ok () (setBlock w b o) ∧ MapAt E ev (setBlock w b o) b (mput m k v) := by
  obtain ⟨l, hl⟩ := E.key k hk
  have hb := h.lt
  have hset : ∀ o, (setBlock w b o).heap[b]? = some o := fun o => by simp [setBlock, hb]
  have hfull := h
  obtain ⟨es', clock', h1', h2, h3, h4⟩ := h
  have hok : ∀ p ∈ mput m k v, E.ok p.1 := fun p hp => by
    rcases mem_mput hp with rfl | hp
    · exact hk
    · exact h3 p hp
  obtain ⟨es, clock, h1, hf | ⟨j, v0, e0, hf, he0, hke, hm, hg⟩⟩ := map_find hfull hk
  · rw [h1] at h1'
    cases h1'
    refine ⟨.map (es'.push { key := E.enc k, val := ev v, born := clock' }) (clock' + 1), ?_, _, _, hset _, ?_, hok, nodup_mput h4 k v⟩
    · simp [Instr.mapUpdate, run_underlying ht, MapKept.run_getObj_map h1, E.law.check w _ hl, hf.1, MapKept.run_setObj_map _ h1, Result.andThen, setBlock]
    · rw [hf.2.2]
      simp [h2]
  · rw [h1] at h1'
    cases h1'
    refine ⟨.map (es'.modify j fun e => { e with key := E.enc k, val := ev v }) clock', ?_, _, _, hset _, ?_, hok, nodup_mput h4 k v⟩
    · simp [Instr.mapUpdate, run_underlying ht, MapKept.run_getObj_map h1, E.law.check w _ hl, hf, he0, hke, E.law.stays w hl, MapKept.run_setObj_map _ h1, Result.andThen, setBlock]
    · rw [mput_at h4 hm]
      apply List.ext_getElem?
      intro i
      have hi := congrArg (fun l => l[i]?) h2
      simp only [List.getElem?_map] at hi ⊢
      rw [Array.getElem?_toList, Array.getElem?_modify, List.getElem?_set]
      have hjl : j < m.length := (List.getElem?_eq_some_iff.1 hm).1
      rw [Array.getElem?_toList] at hi
      by_cases hij : j = i
      · subst hij
        rw [if_pos rfl, if_pos rfl, if_pos hjl, he0]
        rfl
      · rw [if_neg hij, if_neg hij]
        exact hi
end

/-- A world behind w in which all blocks of w outside G are as they were. -/
structure But (w : World) (G : Nat → Prop) where
  val : World
  os : val.os = w.os
  tape : val.tape = w.tape
  output : val.output = w.output
  size : w.heap.size ≤ val.heap.size
  block : ∀ k, k < w.heap.size → ¬ G k → val.heap[k]? = w.heap[k]?
namespace But
variable {w : World} {G : Nat → Prop}
@[go_sem] theorem cell (x : But w G) (b o : Nat) (h : b < w.heap.size) (hG : ¬ G b) : x.val.cell? ⟨b, o, none⟩ = w.cell? ⟨b, o, none⟩ := World.cell?_of_block (a := ⟨b, o, none⟩) (x.block b h hG)
@[go_sem] theorem frozen (x : But w G) (b o : Nat) (h : b < w.heap.size) (hG : ¬ G b) : x.val.frozen? ⟨b, o, none⟩ = w.frozen? ⟨b, o, none⟩ := World.frozen?_of_block (a := ⟨b, o, none⟩) (x.block b h hG)
@[go_sem] theorem lt (x : But w G) (b : Nat) (h : b < w.heap.size) : b < x.val.heap.size := Nat.lt_of_lt_of_le h x.size
def refl (w : World) (G : Nat → Prop) : But w G := ⟨w, rfl, rfl, rfl, Nat.le_refl _, fun _ _ _ => rfl⟩
def under (x : But w G) (y : Under x.val) : But w G := ⟨y.val, y.ok.os.trans x.os, y.ok.tape.trans x.tape, y.ok.output.trans x.output, Nat.le_trans x.size y.ok.size, fun k hk hG => (y.ok.block k (Nat.lt_of_lt_of_le hk x.size)).trans (x.block k hk hG)⟩
def alloc (x : But w G) (o : Obj) : But w G := x.under ((Under.refl x.val).alloc o)
def drew (x : But w G) : But w G := x.under (Under.refl x.val).drew
def set (x : But w G) (b : Nat) (hb : G b) (o : Obj) : But w G := ⟨setBlock x.val b o, x.os, x.tape, x.output, by simpa [setBlock] using x.size, fun k hk hG => by
  have : b ≠ k := fun e => hG (e ▸ hb)
  simp only [setBlock]
  rw [Array.getElem?_setIfInBounds, if_neg this]
  exact x.block k hk hG⟩
theorem is {w0 : World} (x : But w G) (h : Is w0 w) (hG : ∀ k, G k → w0.heap.size ≤ k) : Is w0 x.val := by
  have hb := h.below
  refine Is.of ⟨x.os.trans hb.os, x.tape.trans hb.tape, x.output.trans hb.output, Nat.le_trans hb.size x.size, fun k hk => ?_⟩
  exact (x.block k (Nat.lt_of_lt_of_le hk hb.size) (fun hg => by have := hG k hg; omega)).trans (hb.block k hk)
end But
@[go_sem] theorem setBlock_cell (w : World) (b b' o' : Nat) (o : Obj) (h : b' ≠ b) : (setBlock w b o).cell? ⟨b', o', none⟩ = w.cell? ⟨b', o', none⟩ := by
  refine World.cell?_of_block (a := ⟨b', o', none⟩) ?_
  simp only [setBlock]
  rw [Array.getElem?_setIfInBounds, if_neg (Ne.symm h)]
@[go_sem] theorem setBlock_size (w : World) (b : Nat) (o : Obj) : (setBlock w b o).heap.size = w.heap.size := by simp [setBlock]

/-- Keys that are strings. -/
def strKey (P : Program) (kt : TypeId) (h : P.underlying kt = some .string) : KeyEnc P kt ByteArray where
  enc := Value.string
  ok := fun s => s.size ≤ maxLen
  law := Maps.string_keyed h
  key := fun s hs => ⟨_, WideMaps.keyOf_string_mk h hs⟩
  inj := fun a b h => by injection h
/-- Keys that are whole numbers. -/
def intKey (P : Program) (kt : TypeId) (q : IntKind) (h : P.underlying kt = some (.int q)) : KeyEnc P kt Int where
  enc := Value.int q
  ok := fun x => InK q x
  law := Maps.int_keyed h
  key := fun x hx => ⟨_, Maps.keyOf_int_mk h (by simp only [Lit.wf, Bool.and_eq_true, decide_eq_true_eq]; exact hx)⟩
  inj := fun a b h => by injection h
end Go.Proofs.Ytimjccfpobhpeaa
/- Rows that are read, in the print's own words (Kd.C): the cells of an element at a plain address. -/
namespace Go.Proofs.Ytimjccfpobhpeaa
open Go.RowKit Go.Proofs.YtimjccfpobhpeaaW.PrintWords

theorem kd_plain {α : Type} {d : Kd α} {w : World} {A : Option Addr} {n : Nat} {xs : List α} (h : Kd.C d w A n xs) (hz : 0 < d.sz) (hn : 0 < n) : ∃ b o, A = some ⟨b, o, none⟩ ∧ b < w.heap.size := by
  obtain ⟨hl, _, hc⟩ := h
  obtain ⟨ad, rfl, hc2⟩ := hc hn
  obtain ⟨c, hcl, _, hcell⟩ := hc2 0 xs[0] (List.getElem?_eq_getElem (by omega))
  have h0 := hcell 0 c[0] (List.getElem?_eq_getElem (by omega))
  obtain ⟨b, o, spot⟩ := ad
  have h9 := World.cell?_spot h0
  have hspot : spot = none := by simpa [Addr.add] using h9
  subst hspot
  exact ⟨b, o, rfl, by have := block_lt_of_cell h0; rwa [Addr.add_lit] at this⟩
/-- Element i: its cells. -/
theorem kd_at {α : Type} {d : Kd α} {w : World} {A : Option Addr} {n : Nat} {xs : List α} (h : Kd.C d w A n xs) (hz : 0 < d.sz) {i : Nat} {x : α} (hx : xs[i]? = some x) :
    ∃ b o cs, A = some ⟨b, o, none⟩ ∧ b < w.heap.size ∧ cs.length = d.sz ∧ d.K w x cs ∧ ∀ j u, cs[j]? = some u → w.cell? ⟨b, o + (i * d.sz + j), none⟩ = some u := by
  have hi : i < xs.length := (List.getElem?_eq_some_iff.1 hx).1
  obtain ⟨b, o, rfl, hb⟩ := kd_plain h hz (by have := h.1; omega)
  obtain ⟨hl, _, hc⟩ := h
  obtain ⟨ad, had, hc⟩ := hc (by omega)
  injection had with had
  subst had
  obtain ⟨c, hcl, hK, hcell⟩ := hc i x hx
  exact ⟨b, o, c, rfl, hb, hcl, hK, fun j u hu => by have := hcell j u hu; rwa [Addr.add_lit] at this⟩
theorem kd_len {α : Type} {d : Kd α} {w : World} {A : Option Addr} {n : Nat} {xs : List α} (h : Kd.C d w A n xs) : xs.length = n ∧ (xs.length : Int) ≤ 9223372036854775807 := by
  obtain ⟨hl, hm, _⟩ := h
  exact ⟨hl, by omega⟩
theorem kd_str {w : World} {A : Option Addr} {n : Nat} {xs : List ByteArray} (h : Kd.C Kd.string w A n xs) {i : Nat} {x : ByteArray} (hx : xs[i]? = some x) :
    ∃ b o, A = some ⟨b, o, none⟩ ∧ b < w.heap.size ∧ w.cell? ⟨b, o + i, none⟩ = some (.string x) := by
  obtain ⟨b, o, cs, rfl, hb, _, hK, hc⟩ := kd_at h (by exact Nat.one_pos) hx
  have hK : cs = [.string x] := hK
  subst hK
  refine ⟨b, o, rfl, hb, ?_⟩
  have := hc 0 _ rfl
  simpa [Kd.string, Kd.scalar] using this
theorem kd_int {k : IntKind} {w : World} {A : Option Addr} {n : Nat} {xs : List Int} (h : Kd.C (Kd.int k) w A n xs) {i : Nat} {x : Int} (hx : xs[i]? = some x) :
    ∃ b o, A = some ⟨b, o, none⟩ ∧ b < w.heap.size ∧ w.cell? ⟨b, o + i, none⟩ = some (.int k x) := by
  obtain ⟨b, o, cs, rfl, hb, _, hK, hc⟩ := kd_at h (by exact Nat.one_pos) hx
  have hK : cs = [.int k x] := hK
  subst hK
  refine ⟨b, o, rfl, hb, ?_⟩
  have := hc 0 _ rfl
  simpa [Kd.int, Kd.scalar] using this
theorem kd_bool {w : World} {A : Option Addr} {n : Nat} {xs : List Bool} (h : Kd.C Kd.bool w A n xs) {i : Nat} {x : Bool} (hx : xs[i]? = some x) :
    ∃ b o, A = some ⟨b, o, none⟩ ∧ b < w.heap.size ∧ w.cell? ⟨b, o + i, none⟩ = some (.bool x) := by
  obtain ⟨b, o, cs, rfl, hb, _, hK, hc⟩ := kd_at h (by exact Nat.one_pos) hx
  have hK : cs = [.bool x] := hK
  subst hK
  refine ⟨b, o, rfl, hb, ?_⟩
  have := hc 0 _ rfl
  simpa [Kd.bool, Kd.scalar] using this
theorem kd_is {α : Type} {d : Kd α} {w w1 : World} {A : Option Addr} {n : Nat} {xs : List α} (h : Kd.C d w A n xs) (hw : Is w w1) : Kd.C d w1 A n xs := Kd.C_below h hw.below
end Go.Proofs.Ytimjccfpobhpeaa
/- graph.Name and graph.Names: which strings are names, and whether one is there twice. -/
namespace Go.Proofs.Ytimjccfpobhpeaa
open Go.RowKit Go.Proofs.YtimjccfpobhpeaaW.PrintWords
open Go.ChangeMaps (setBlock)
set_option maxRecDepth 100000

theorem get_ex {α : Type} {xs : List α} {i : Nat} (h : i < xs.length) : ∃ x, xs[i]? = some x := ⟨xs[i], List.getElem?_eq_getElem h⟩
theorem drop_cons {α : Type} {xs : List α} {i : Nat} {x : α} (h : xs[i]? = some x) : xs.drop i = x :: xs.drop (i + 1) := by
  obtain ⟨hi, rfl⟩ := List.getElem?_eq_some_iff.1 h
  exact List.drop_eq_getElem_cons hi
theorem drop_end {α : Type} (xs : List α) : xs.drop xs.length = [] := List.drop_length
def Aside (p : Prop) : Prop := p
theorem Aside.out {p : Prop} (h : Aside p) : p := h

def charsOk (l : List UInt8) : Bool := l.all fun c => decide (33 ≤ c.toNat) && decide (c.toNat ≤ 126)
def nameOk (s : ByteArray) : Bool := decide (1 ≤ s.size) && decide (s.size ≤ 128) && charsOk s.data.toList

set_option maxHeartbeats 2000000 in
theorem name_calls (s : ByteArray) (w : World) :
    Calls Try.prog 57 #[.string s] w fun e w' => e = .returned (.bool (nameOk s)) ∧ Is w w' := by
  by_cases h1 : 1 ≤ s.size ∧ s.size ≤ 128
  case neg =>
    have hno : nameOk s = false := by
      unfold nameOk
      by_cases h : 1 ≤ s.size
      · have : ¬ s.size ≤ 128 := fun e => h1 ⟨h, e⟩
        simp [this]
      · simp [h]
    rw [hno]
    go_enter Try.func57, Try.ntmps57
    by_cases h : 1 ≤ s.size
    · have h2 : ¬ s.size ≤ 128 := fun e => h1 ⟨h, e⟩
      clear h1 hno
      have q1 : decide ((s.size : Int) < 1) = false := by grind
      have q2 : decide (128 < (s.size : Int)) = true := by grind
      go_wp2
      go_ret
      exact ⟨rfl, Is.refl w⟩
    · clear h1 hno
      have q1 : decide ((s.size : Int) < 1) = true := by grind
      go_wp2
      go_ret
      exact ⟨rfl, Is.refl w⟩
  case pos =>
    obtain ⟨ha, hb⟩ := h1
    have hno : nameOk s = charsOk s.data.toList := by
      unfold nameOk
      simp [ha, hb]
    rw [hno]
    have hconv : ∀ W : World, (convert 9 129 (.string s)).run Try.prog W = .ok (.slice (some ⟨W.heap.size, 0, none⟩) s.size (grownCap W s.size 0 5)) (Lib.bytesWorld W 5 s) := fun W =>
      Lib.run_convert_string_bytes W _ _ _ s Try.underlying9 Try.underlying129 Try.underlying5
    have hW : Is w (Lib.bytesWorld w 5 s) := Is.of ⟨by simp [Lib.bytesWorld, World.freeze, World.alloc, World.drew, -World.alloc_eq, -World.drew_eq], by simp [Lib.bytesWorld, World.freeze, World.alloc, World.drew, -World.alloc_eq, -World.drew_eq], by simp [Lib.bytesWorld, World.freeze, World.alloc, World.drew, -World.alloc_eq, -World.drew_eq], by rw [Lib.bytesWorld_size]; omega, fun k hk => Lib.bytesWorld_at_old w _ s k hk⟩
    go_enter Try.func57, Try.ntmps57
    have q1 : decide ((s.size : Int) < 1) = false := by grind
    have q2 : decide (128 < (s.size : Int)) = false := by grind
    have hcell : ∀ i c, s.data.toList[i]? = some c → (Lib.bytesWorld w 5 s).cell? ⟨w.heap.size, i, none⟩ = some (.int .u8 (c.toNat : Int)) := by
      intro i c hc
      have hi : i < s.size := (List.getElem?_eq_some_iff.1 hc).1
      rw [Lib.bytesWorld_cell w _ s i hi, List.getD, hc]
      rfl
    have hlen : s.data.toList.length = s.size := rfl
    generalize hL : s.data.toList = L at *
    generalize hbw : Lib.bytesWorld w 5 s = bw at *
    have hcell2 := Lib.hid hcell
    have hlen2 := Lib.hid hlen
    have hL2 := Lib.hid hL
    clear hcell hlen hL
    go_wp2
    clear hbw hconv
    go_loopg [4, 16] s.size (fun d _ t wr => ∃ (i : Nat), i + d = s.size ∧ t = .int .i64 i ∧ wr = bw ∧ Aside (charsOk (L.drop i) = charsOk L))
    case atStart => exact ⟨0, by omega, rfl, rfl, rfl⟩
    case round =>
      obtain ⟨i, hi, rfl, rfl, hI⟩ := hrel
      have hi2 := Lib.hid hi
      by_cases hlt : i < s.size
      · obtain ⟨c, hc⟩ := get_ex (xs := L) (i := i) (by rw [hlen2.out]; exact hlt)
        have hcl := hcell2.out i c hc
        obtain ⟨gk, rfl⟩ : ∃ m, gk = m + 1 := ⟨gk - 1, by omega⟩
        rw [drop_cons hc] at hI
        have hI2 := Lib.hid hI.out
        clear hI hc hi
        go_wp2
        all_goals first
          | (go_roundg gk
             case measure => omega
             case rel =>
               refine ⟨i + 1, by have := hi2.out; omega, by go_num, rfl, ?_⟩
               unfold Aside
               rw [← hI2.out]
               unfold charsOk
               rw [List.all_cons]
               have h1 : 33 ≤ c.toNat := by omega
               have h2 : c.toNat ≤ 126 := by omega
               simp [h1, h2])
          | (go_ret
             refine ⟨ret_bool ?_, hW⟩
             rw [← hI2.out]
             unfold charsOk
             rw [List.all_cons]
             have : ¬ (33 ≤ c.toNat ∧ c.toNat ≤ 126) := by omega
             by_cases h1 : 33 ≤ c.toNat
             · have h2 : ¬ c.toNat ≤ 126 := by omega
               simp [h2]
             · simp [h1])
      · obtain rfl : i = s.size := by omega
        go_wp2
        go_ret
        refine ⟨ret_bool ?_, hW⟩
        have := hI.out
        rw [← hlen2.out, drop_end] at this
        rw [← this]; rfl

def nameKey : KeyEnc Try.prog 9 ByteArray := strKey Try.prog 9 Try.underlying9
def inB (s : ByteArray) (l : List ByteArray) : Bool := l.any fun x => decide (x = s)
theorem inB_iff {s : ByteArray} {l : List ByteArray} : inB s l = true ↔ s ∈ l := by
  unfold inB
  rw [List.any_eq_true]
  constructor
  · rintro ⟨x, hx, he⟩
    rw [← of_decide_eq_true he]
    exact hx
  · exact fun h => ⟨s, h, decide_eq_true rfl⟩
def namesF : List ByteArray → List ByteArray → Int
  | _, [] => 0
  | seen, s :: r => if nameOk s then (if inB s seen then 6 else namesF (seen ++ [s]) r) else 9
def seenOf (xs : List ByteArray) : List (ByteArray × Int) := xs.map fun s => (s, 1)
theorem mget_seen (xs : List ByteArray) (s : ByteArray) : mget (seenOf xs) s = if inB s xs then some 1 else none := by
  induction xs with
  | nil => rfl
  | cons x xs ih =>
    unfold seenOf at ih ⊢
    rw [List.map_cons, mget]
    by_cases h : x = s
    · simp [h, inB]
    · rw [if_neg h, ih]
      unfold inB
      rw [List.any_cons, decide_eq_false h, Bool.false_or]
theorem mput_seen (xs : List ByteArray) (s : ByteArray) (h : ¬ inB s xs = true) : mput (seenOf xs) s 1 = seenOf (xs ++ [s]) := by
  rw [mput_new (by
    intro p hp
    obtain ⟨x, hx, rfl⟩ := List.mem_map.1 hp
    rintro rfl
    exact h (inB_iff.2 hx))]
  simp [seenOf]
theorem nameOk_size {s : ByteArray} (h : nameOk s = true) : s.size ≤ maxLen := by
  unfold nameOk at h
  simp only [Bool.and_eq_true, decide_eq_true_eq] at h
  unfold maxLen
  omega

set_option maxHeartbeats 4000000 in
theorem names_calls (A : Option Addr) (c : Nat) (xs : List ByteArray) (w : World) (h : Kd.C Kd.string w A xs.length xs) :
    Calls Try.prog 31 #[.slice A xs.length c] w fun e w' => e = .returned (.int .i64 (namesF [] xs)) ∧ Is w w' := by
  have hm := (kd_len h).2
  have hmm := @run_makeMap Try.prog
  have hz : ∀ W, (zeroValue 3).run Try.prog W = .ok (.int .i64 0) W := fun W => by kernel_rfl
  have hM0 : MapAt nameKey (Value.int .i64) (w.alloc (.map #[] 0)) w.heap.size (seenOf (xs.take 0)) := MapAt.made w
  go_enter Try.func31, Try.ntmps31
  go_wp2
  go_loopg [5, 9] xs.length (fun d _ t wr => ∃ (i : Nat) (z : But (w.alloc (.map #[] 0)) (fun k => k = w.heap.size)), i + d = xs.length ∧ t = .int .i64 i ∧ wr = z.val ∧ MapAt nameKey (Value.int .i64) z.val w.heap.size (seenOf (xs.take i)) ∧ Aside (namesF (xs.take i) (xs.drop i) = namesF [] xs))
  case atStart => exact ⟨0, But.refl _ _, by omega, rfl, rfl, hM0, rfl⟩
  case round =>
    clear hM0
    obtain ⟨i, z, hi, rfl, rfl, hM, hI⟩ := hrel
    have hi2 := Lib.hid hi
    have hwz : Is w z.val := z.is ((Is.refl w).alloc _) (by rintro k rfl; exact Nat.le_refl _)
    by_cases hlt : i < xs.length
    · obtain ⟨s, hs⟩ := get_ex hlt
      obtain ⟨b, o, rfl, hb, hc⟩ := kd_str h hs
      obtain ⟨gk, rfl⟩ : ∃ m, gk = m + 1 := ⟨gk - 1, by omega⟩
      have hbn : b ≠ w.heap.size := by omega
      have hbl : b ≤ w.heap.size := by omega
      rw [drop_cons hs, namesF] at hI
      have hI2 := Lib.hid hI.out
      have hs2 := Lib.hid hs
      clear hI hs hi
      cases hk : nameOk s with
      | false =>
        have hk2 := Lib.hid hk
        clear hk
        go_wp2_with (go_at_call 57; refine (name_calls s _).mono ?_; rw [hk2.out]; rintro e w' ⟨rfl, ⟨v, rfl⟩⟩)
        go_ret
        exact ⟨ret_int (by rw [← hI2.out, hk2.out]; rfl), hwz.step v⟩
      | true =>
        have hk2 := Lib.hid hk
        have hok : nameKey.ok s := nameOk_size hk
        clear hk
        by_cases hd : inB s (xs.take i) = true
        · have hg1 : mget (seenOf (xs.take i)) s = some 1 := by rw [mget_seen, if_pos hd]
          have hlk : ∀ v : Under z.val, (Instr.lookup 120 (.map (some w.heap.size)) (.string s) false).run Try.prog v.val = .ok (.int .i64 1) v.val := fun v =>
            (run_mapLookup (hM.is ⟨v, rfl⟩) Try.underlying120 (hz _) hok).trans (by rw [hg1]; rfl)
          have hup0 : ∀ v : Under z.val, ∃ o, (Instr.mapUpdate 120 (.map (some w.heap.size)) (.string s) (.int .i64 2)).run Try.prog v.val = .ok () (setBlock v.val w.heap.size o) ∧ MapAt nameKey (Value.int .i64) (setBlock v.val w.heap.size o) w.heap.size (mput (seenOf (xs.take i)) s 2) := fun v =>
            run_mapStore (hM.is ⟨v, rfl⟩) Try.underlying120 hok 2
          obtain ⟨ob, hob⟩ := Classical.skolem.1 hup0
          have hup := fun v => (hob v).1
          have hlk2 : ∀ v : Under z.val, (Instr.lookup 120 (.map (some w.heap.size)) (.string s) false).run Try.prog (setBlock v.val w.heap.size (ob v)) = .ok (.int .i64 2) (setBlock v.val w.heap.size (ob v)) := fun v =>
            (run_mapLookup (hob v).2 Try.underlying120 (hz _) hok).trans (by rw [mget_mput, if_pos rfl]; rfl)
          clear hup0 hob hg1
          have hd2 := Lib.hid hd
          clear hd
          have hwz2 : ∀ v : Under z.val, Is w (setBlock v.val w.heap.size (ob v)) := fun v => ((z.under v).set _ rfl (ob v)).is ((Is.refl w).alloc _) (by rintro k rfl; exact Nat.le_refl _)
          go_wp2_with (go_at_call 57; refine (name_calls s _).mono ?_; rw [hk2.out]; rintro e w' ⟨rfl, ⟨v, rfl⟩⟩)
          go_ret
          exact ⟨ret_int (by rw [← hI2.out, hk2.out, if_pos rfl, if_pos hd2.out]), hwz2 _⟩
        · have hg1 : mget (seenOf (xs.take i)) s = none := by rw [mget_seen, if_neg hd]
          have hlk : ∀ v : Under z.val, (Instr.lookup 120 (.map (some w.heap.size)) (.string s) false).run Try.prog v.val = .ok (.int .i64 0) v.val := fun v =>
            (run_mapLookup (hM.is ⟨v, rfl⟩) Try.underlying120 (hz _) hok).trans (by rw [hg1]; rfl)
          have hup0 : ∀ v : Under z.val, ∃ o, (Instr.mapUpdate 120 (.map (some w.heap.size)) (.string s) (.int .i64 1)).run Try.prog v.val = .ok () (setBlock v.val w.heap.size o) ∧ MapAt nameKey (Value.int .i64) (setBlock v.val w.heap.size o) w.heap.size (mput (seenOf (xs.take i)) s 1) := fun v =>
            run_mapStore (hM.is ⟨v, rfl⟩) Try.underlying120 hok 1
          obtain ⟨ob, hob⟩ := Classical.skolem.1 hup0
          have hup := fun v => (hob v).1
          have hob2 := Lib.hid (fun v => (hob v).2)
          have hlk2 : ∀ v : Under z.val, (Instr.lookup 120 (.map (some w.heap.size)) (.string s) false).run Try.prog (setBlock v.val w.heap.size (ob v)) = .ok (.int .i64 1) (setBlock v.val w.heap.size (ob v)) := fun v =>
            (run_mapLookup (hob v).2 Try.underlying120 (hz _) hok).trans (by rw [mget_mput, if_pos rfl]; rfl)
          clear hup0 hob hg1
          have hd2 := Lib.hid hd
          clear hd
          go_wp2_with (go_at_call 57; refine (name_calls s _).mono ?_; rw [hk2.out]; rintro e w' ⟨rfl, ⟨v, rfl⟩⟩)
          go_roundg gk
          case measure => omega
          case rel =>
            refine ⟨i + 1, (z.under v).set _ rfl (ob v), by have := hi2.out; omega, by go_num, rfl, ?_, ?_⟩
            · rw [List.take_add_one, hs2.out, Option.toList_some, ← mput_seen _ _ hd2.out]
              exact hob2.out v
            · unfold Aside
              rw [← hI2.out, hk2.out, if_pos rfl, if_neg hd2.out, List.take_add_one, hs2.out, Option.toList_some]
    · obtain rfl : i = xs.length := by omega
      obtain rfl : gk = 0 := by omega
      rw [drop_end, namesF] at hI
      have hI2 := Lib.hid hI.out
      clear hI hi
      go_wp2
      go_ret
      exact ⟨ret_int (by rw [← hI2.out]), hwz⟩
end Go.Proofs.Ytimjccfpobhpeaa
/- Keys that are three numbers in an array. -/
namespace Go.Proofs.Ytimjccfpobhpeaa
open Go.RowKit
set_option maxRecDepth 100000

theorem keyLits3 {P : Program} {k e : TypeId} (hu : P.underlying k = some (.array 3 e)) (he : P.underlying e = some (.int .i64)) (h1 : P.cellsOf k = 3) (h2 : P.cellsOf e = 1) (d : Nat) (a b c : Int) (ha : (Lit.int IntKind.i64 a).wf = true) (hb : (Lit.int IntKind.i64 b).wf = true) (hc : (Lit.int IntKind.i64 c).wf = true) :
    P.keyLits (d + 2) k [.int .i64 a, .int .i64 b, .int .i64 c] = some [.int .i64 a, .int .i64 b, .int .i64 c] := by
  have one : ∀ x, (Lit.int IntKind.i64 x).wf = true → P.keyLits (d + 1) e [.int .i64 x] = some [.int .i64 x] := fun x hx => by
    simp [Program.keyLits, he, hx]
  have hr : List.range 3 = [0, 1, 2] := by decide
  unfold Program.keyLits
  simp [hu, h1, h2, hr, one a ha, one b hb, one c hc]
theorem keyOf3 {P : Program} {k e : TypeId} (hu : P.underlying k = some (.array 3 e)) (he : P.underlying e = some (.int .i64)) (h1 : P.cellsOf k = 3) (h2 : P.cellsOf e = 1) (hk : P.keyType k = true) (hs : 1 ≤ P.types.size) (a b c : Int) (ha : (Lit.int IntKind.i64 a).wf = true) (hb : (Lit.int IntKind.i64 b).wf = true) (hc : (Lit.int IntKind.i64 c).wf = true) :
    ∃ l, keyOf P k (.agg #[.int .i64 a, .int .i64 b, .int .i64 c]) = some l := by
  obtain ⟨d, hd⟩ : ∃ d, P.types.size + 1 = d + 2 := ⟨P.types.size - 1, by omega⟩
  unfold keyOf
  rw [hu]
  simp [hk, Value.formed, hu, h1, Value.cells, hd, keyLits3 hu he h1 h2 d a b c ha hb hc]
theorem key3_of (a b c : Int) (ha : InK .i64 a) (hb : InK .i64 b) (hc : InK .i64 c) : ∃ l, keyOf Try.prog 95 (.agg #[.int .i64 a, .int .i64 b, .int .i64 c]) = some l :=
  keyOf3 Try.underlying95 Try.underlying3 (by kernel_rfl) (by kernel_rfl) (by kernel_rfl) (of_decide_eq_true (by kernel_rfl)) a b c (by simp only [Lit.wf, Bool.and_eq_true, decide_eq_true_eq]; exact ha) (by simp only [Lit.wf, Bool.and_eq_true, decide_eq_true_eq]; exact hb) (by simp only [Lit.wf, Bool.and_eq_true, decide_eq_true_eq]; exact hc)
theorem law3 : Maps.Keyed Try.prog 95 := Maps.Keyed.of_law (deep_law_laid (by kernel_rfl) (m := 2) (by omega) (of_decide_eq_true (by kernel_rfl)) (by kernel_rfl) (by kernel_rfl))
def key3 : KeyEnc Try.prog 95 (Int × Int × Int) where
  enc := fun k => .agg #[.int .i64 k.1, .int .i64 k.2.1, .int .i64 k.2.2]
  ok := fun k => InK .i64 k.1 ∧ InK .i64 k.2.1 ∧ InK .i64 k.2.2
  law := law3
  key := fun k h => key3_of _ _ _ h.1 h.2.1 h.2.2
  inj := fun a b h => by
    obtain ⟨a1, a2, a3⟩ := a
    obtain ⟨b1, b2, b3⟩ := b
    simpa using h
end Go.Proofs.Ytimjccfpobhpeaa
-- written by this session's own program out of the translation
namespace Go.Proofs.Ytimjccfpobhpeaa.PF
open Go.RowKit Go.Proofs.YtimjccfpobhpeaaW.PrintWords Go.Proofs.YtimjccfpobhpeaaW.PrintLast Go.Proofs.YtimjccfpobhpeaaW.PrintMore
attribute [local go_sem] max2_int min2_int max_two min_two max_three min_three max_four min_four   -- for this text's walks alone
set_option linter.unusedVariables false
set_option linter.unusedSimpArgs false



def errW : Option Int → Value
  | none => .nilIface
  | some c => .iface 0 (.int .i64 c)
theorem errW_none : errW none = .nilIface := rfl
theorem errW_some (c : Int) : errW (some c) = .iface 0 (.int .i64 c) := rfl

theorem info3 : (Try.prog.info? 3).map (fun i => (i.zero, i.size, i.bytes)) = some (some (.int .i64 0), 1, 8) := by kernel_rfl
theorem info4 : (Try.prog.info? 4).map (fun i => (i.zero, i.size, i.bytes)) = some (some (.bool false), 1, 1) := by kernel_rfl
theorem info9 : (Try.prog.info? 9).map (fun i => (i.zero, i.size, i.bytes)) = some (some (.string ⟨#[]⟩), 1, 16) := by kernel_rfl
theorem info29 : (Try.prog.info? 29).map (fun i => (i.zero, i.size, i.bytes)) = some (some (.agg #[(.int .i64 0), (.int .i64 0), (.bool false)]), 3, 24) := by kernel_rfl
theorem info53 : (Try.prog.info? 53).map (fun i => (i.zero, i.size, i.bytes)) = some (some (.slice none 0 0), 1, 24) := by kernel_rfl
theorem info55 : (Try.prog.info? 55).map (fun i => (i.zero, i.size, i.bytes)) = some (some (.agg #[(.slice none 0 0), (.slice none 0 0)]), 2, 48) := by kernel_rfl
theorem info75 : (Try.prog.info? 75).map (fun i => (i.zero, i.size, i.bytes)) = some (some (.slice none 0 0), 1, 24) := by kernel_rfl
theorem info78 : (Try.prog.info? 78).map (fun i => (i.zero, i.size, i.bytes)) = some (some (.int .u64 0), 1, 8) := by kernel_rfl
theorem info80 : (Try.prog.info? 80).map (fun i => (i.zero, i.size, i.bytes)) = some (some (.agg #[(.int .i64 0), (.int .u64 0), (.slice none 0 0)]), 3, 40) := by kernel_rfl
theorem info82 : (Try.prog.info? 82).map (fun i => (i.zero, i.size, i.bytes)) = some (some (.agg #[(.string ⟨#[]⟩), (.int .i64 0), (.int .i64 0), (.int .i64 0), (.bool false)]), 5, 48) := by kernel_rfl
-- the values' own types
def rd_L1 (xs : List (List ByteArray)) (i : Int) : (List ByteArray) := xs.getD i.toNat ([] : List ByteArray)
theorem at_L1 {w : World} {A : Option Addr} {n : Nat} {xs : List (List ByteArray)} (h : Kd.C (Kd.slice 9 Kd.string) w A n xs) (i : Int) (h0 : 0 ≤ i) (h1 : i < n) : ∃ ad A0 c0, A = some ad ∧ w.cell? (ad.add i.toNat) = some (.slice A0 (rd_L1 xs i).length c0) ∧ (rd_L1 xs i).length ≤ c0 ∧ Kd.string.C w A0 (rd_L1 xs i).length (rd_L1 xs i) := by
  obtain ⟨ad, c, e, _, hK, hc0⟩ := Kd.C_get h ([] : List ByteArray) i h0 h1
  have hc : ∀ j u, c[j]? = some u → w.cell? (ad.add (i.toNat * 1 + j)) = some u := hc0
  obtain ⟨A0, c0, rfl, l0, g0⟩ := hK
  exact ⟨ad, A0, c0, e, by have hq := hc 0 _ rfl; rwa [Nat.mul_one, Nat.add_zero] at hq, l0, g0⟩

/-! #### struct type 82 -/
structure S82 where
  f0 : ByteArray
  f1 : Int
  f2 : Int
  f3 : Int
  f4 : Bool
def z82 : S82 := ⟨(⟨#[]⟩ : ByteArray), (0 : Int), (0 : Int), (0 : Int), false⟩
def k82 : Kd S82 := Kd.iso (Kd.pair Kd.string (Kd.pair (Kd.int .i64) (Kd.pair (Kd.int .i64) (Kd.pair (Kd.int .i64) Kd.bool)))) (fun x : S82 => (x.f0, x.f1, x.f2, x.f3, x.f4))
theorem k82_open {w : World} {x : S82} {cs : List Value} (h : k82.K w x cs) : cs = [.string x.f0, .int .i64 x.f1, .int .i64 x.f2, .int .i64 x.f3, .bool x.f4] := by
  obtain ⟨_, _, rfl, rfl, ⟨_, _, rfl, rfl, ⟨_, _, rfl, rfl, ⟨_, _, rfl, rfl, rfl⟩⟩⟩⟩ := h
  exact rfl
theorem k82_openM {w : World} {base : Nat} {ok : Nat → Prop} {x : S82} {cs : List Value} (h : k82.M w base ok x cs) : cs = [.string x.f0, .int .i64 x.f1, .int .i64 x.f2, .int .i64 x.f3, .bool x.f4] := by
  obtain ⟨_, _, rfl, rfl, ⟨_, _, rfl, rfl, ⟨_, _, rfl, rfl, ⟨_, _, rfl, rfl, rfl⟩⟩⟩⟩ := h
  exact rfl
theorem k82_mk (w : World) (x : S82)  : k82.K w x [.string x.f0, .int .i64 x.f1, .int .i64 x.f2, .int .i64 x.f3, .bool x.f4] := ⟨[.string x.f0], [.int .i64 x.f1, .int .i64 x.f2, .int .i64 x.f3, .bool x.f4], rfl, rfl, ⟨[.int .i64 x.f1], [.int .i64 x.f2, .int .i64 x.f3, .bool x.f4], rfl, rfl, ⟨[.int .i64 x.f2], [.int .i64 x.f3, .bool x.f4], rfl, rfl, ⟨[.int .i64 x.f3], [.bool x.f4], rfl, rfl, rfl⟩⟩⟩⟩
theorem k82_mkM (w : World) (base : Nat) (ok : Nat → Prop) (x : S82)  : k82.M w base ok x [.string x.f0, .int .i64 x.f1, .int .i64 x.f2, .int .i64 x.f3, .bool x.f4] := ⟨[.string x.f0], [.int .i64 x.f1, .int .i64 x.f2, .int .i64 x.f3, .bool x.f4], rfl, rfl, ⟨[.int .i64 x.f1], [.int .i64 x.f2, .int .i64 x.f3, .bool x.f4], rfl, rfl, ⟨[.int .i64 x.f2], [.int .i64 x.f3, .bool x.f4], rfl, rfl, ⟨[.int .i64 x.f3], [.bool x.f4], rfl, rfl, rfl⟩⟩⟩⟩
theorem k82_mkF (W : World) (ok : Nat → Prop) (x : S82) : Kd.FK k82 W ok x [.string x.f0, .int .i64 x.f1, .int .i64 x.f2, .int .i64 x.f3, .bool x.f4] := fun W2 _ => k82_mk W2 x
def rd_T82 (xs : List S82) (i : Int) : S82 := xs.getD i.toNat z82
theorem at_T82 {w : World} {A : Option Addr} {n : Nat} {xs : List S82} (h : Kd.C k82 w A n xs) (i : Int) (h0 : 0 ≤ i) (h1 : i < n) : ∃ ad , A = some ad ∧ w.cell? (ad.add (i.toNat * 5)) = some (.string (rd_T82 xs i).f0) ∧ w.cell? ⟨(ad.add (i.toNat * 5)).block, (ad.add (i.toNat * 5)).off + 1, none⟩ = some (.int .i64 (rd_T82 xs i).f1) ∧ w.cell? ⟨(ad.add (i.toNat * 5)).block, (ad.add (i.toNat * 5)).off + 2, none⟩ = some (.int .i64 (rd_T82 xs i).f2) ∧ w.cell? ⟨(ad.add (i.toNat * 5)).block, (ad.add (i.toNat * 5)).off + 3, none⟩ = some (.int .i64 (rd_T82 xs i).f3) ∧ w.cell? ⟨(ad.add (i.toNat * 5)).block, (ad.add (i.toNat * 5)).off + 4, none⟩ = some (.bool (rd_T82 xs i).f4) := by
  obtain ⟨ad, c, e, _, hK, hc0⟩ := Kd.C_get h z82 i h0 h1
  have hc : ∀ j u, c[j]? = some u → w.cell? (ad.add (i.toNat * 5 + j)) = some u := hc0
  obtain rfl := k82_open hK
  exact ⟨ad, e, hc 0 _ rfl, by rw [← add_field _ _ 1 (by omega)]; exact hc 1 _ rfl, by rw [← add_field _ _ 2 (by omega)]; exact hc 2 _ rfl, by rw [← add_field _ _ 3 (by omega)]; exact hc 3 _ rfl, by rw [← add_field _ _ 4 (by omega)]; exact hc 4 _ rfl⟩

def rd_L6 (xs : List (List Int)) (i : Int) : (List Int) := xs.getD i.toNat ([] : List Int)
theorem at_L6 {w : World} {A : Option Addr} {n : Nat} {xs : List (List Int)} (h : Kd.C (Kd.slice 3 (Kd.int .i64)) w A n xs) (i : Int) (h0 : 0 ≤ i) (h1 : i < n) : ∃ ad A0 c0, A = some ad ∧ w.cell? (ad.add i.toNat) = some (.slice A0 (rd_L6 xs i).length c0) ∧ (rd_L6 xs i).length ≤ c0 ∧ (Kd.int .i64).C w A0 (rd_L6 xs i).length (rd_L6 xs i) := by
  obtain ⟨ad, c, e, _, hK, hc0⟩ := Kd.C_get h ([] : List Int) i h0 h1
  have hc : ∀ j u, c[j]? = some u → w.cell? (ad.add (i.toNat * 1 + j)) = some u := hc0
  obtain ⟨A0, c0, rfl, l0, g0⟩ := hK
  exact ⟨ad, A0, c0, e, by have hq := hc 0 _ rfl; rwa [Nat.mul_one, Nat.add_zero] at hq, l0, g0⟩

/-! #### struct type 80 -/
structure S80 where
  f0 : Int
  f1 : Int
  f2 : (List Int)
def z80 : S80 := ⟨(0 : Int), (0 : Int), ([] : List Int)⟩
def k80 : Kd S80 := Kd.iso (Kd.pair (Kd.int .i64) (Kd.pair (Kd.int .u64) (Kd.slice 3 (Kd.int .i64)))) (fun x : S80 => (x.f0, x.f1, x.f2))
theorem k80_open {w : World} {x : S80} {cs : List Value} (h : k80.K w x cs) : ∃ A2 c2, cs = [.int .i64 x.f0, .int .u64 x.f1, .slice A2 x.f2.length c2] ∧ x.f2.length ≤ c2 ∧ (Kd.int .i64).C w A2 x.f2.length x.f2 := by
  obtain ⟨_, _, rfl, rfl, ⟨_, _, rfl, rfl, ⟨A2, c2, rfl, l2, g2⟩⟩⟩ := h
  exact ⟨A2, c2, rfl, l2, g2⟩
theorem k80_openM {w : World} {base : Nat} {ok : Nat → Prop} {x : S80} {cs : List Value} (h : k80.M w base ok x cs) : ∃ v2, cs = [.int .i64 x.f0, .int .u64 x.f1, v2] ∧ (Kd.int .i64).R 3 w base ok v2 x.f2 := by
  obtain ⟨_, _, rfl, rfl, ⟨_, _, rfl, rfl, ⟨v2, rfl, g2⟩⟩⟩ := h
  exact ⟨v2, rfl, g2⟩
theorem k80_mk (w : World) (x : S80) {A2 : Option Addr} {c2 : Nat} (l2 : x.f2.length ≤ c2) (g2 : (Kd.int .i64).C w A2 x.f2.length x.f2) : k80.K w x [.int .i64 x.f0, .int .u64 x.f1, .slice A2 x.f2.length c2] := ⟨[.int .i64 x.f0], [.int .u64 x.f1, .slice A2 x.f2.length c2], rfl, rfl, ⟨[.int .u64 x.f1], [.slice A2 x.f2.length c2], rfl, rfl, ⟨A2, c2, rfl, l2, g2⟩⟩⟩
theorem k80_mkM (w : World) (base : Nat) (ok : Nat → Prop) (x : S80) {v2 : Value} (g2 : (Kd.int .i64).R 3 w base ok v2 x.f2) : k80.M w base ok x [.int .i64 x.f0, .int .u64 x.f1, v2] := ⟨[.int .i64 x.f0], [.int .u64 x.f1, v2], rfl, rfl, ⟨[.int .u64 x.f1], [v2], rfl, rfl, ⟨v2, rfl, g2⟩⟩⟩
theorem k80_openF {W : World} {ok : Nat → Prop} {x : S80} {cs : List Value} (h : Kd.FK k80 W ok x cs) : ∃ A2 c2, cs = [.int .i64 x.f0, .int .u64 x.f1, .slice A2 x.f2.length c2] ∧ x.f2.length ≤ c2 ∧ Kd.F (Kd.int .i64) W ok A2 x.f2.length x.f2 := by
  obtain ⟨A2, c2, rfl, l2, _⟩ := k80_open (Kd.FK_now h)
  exact ⟨A2, c2, rfl, l2, (fun W' hW => by obtain ⟨A2_, c2_, he, l2_, g2_⟩ := k80_open (h W' hW); injection (Option.some.inj (show some (Value.slice A2 x.f2.length c2) = some (Value.slice A2_ x.f2.length c2_) from congrArg (fun l => l[2]?) he)) with ha_ _ _; rw [ha_]; exact g2_)⟩
theorem k80_mkF (W : World) (ok : Nat → Prop) (x : S80) {A2 : Option Addr} {c2 : Nat} (l2 : x.f2.length ≤ c2) (g2 : Kd.F (Kd.int .i64) W ok A2 x.f2.length x.f2) : Kd.FK k80 W ok x [.int .i64 x.f0, .int .u64 x.f1, .slice A2 x.f2.length c2] := fun W2 hW => k80_mk W2 x l2 (g2 W2 hW)
def rd_T80 (xs : List S80) (i : Int) : S80 := xs.getD i.toNat z80
theorem at_T80 {w : World} {A : Option Addr} {n : Nat} {xs : List S80} (h : Kd.C k80 w A n xs) (i : Int) (h0 : 0 ≤ i) (h1 : i < n) : ∃ ad A2 c2, A = some ad ∧ w.cell? (ad.add (i.toNat * 3)) = some (.int .i64 (rd_T80 xs i).f0) ∧ w.cell? ⟨(ad.add (i.toNat * 3)).block, (ad.add (i.toNat * 3)).off + 1, none⟩ = some (.int .u64 (rd_T80 xs i).f1) ∧ w.cell? ⟨(ad.add (i.toNat * 3)).block, (ad.add (i.toNat * 3)).off + 2, none⟩ = some (.slice A2 (rd_T80 xs i).f2.length c2) ∧ (rd_T80 xs i).f2.length ≤ c2 ∧ (Kd.int .i64).C w A2 (rd_T80 xs i).f2.length (rd_T80 xs i).f2 := by
  obtain ⟨ad, c, e, _, hK, hc0⟩ := Kd.C_get h z80 i h0 h1
  have hc : ∀ j u, c[j]? = some u → w.cell? (ad.add (i.toNat * 3 + j)) = some u := hc0
  obtain ⟨A2, c2, rfl, l2, g2⟩ := k80_open hK
  exact ⟨ad, A2, c2, e, hc 0 _ rfl, by rw [← add_field _ _ 1 (by omega)]; exact hc 1 _ rfl, by rw [← add_field _ _ 2 (by omega)]; exact hc 2 _ rfl, l2, g2⟩

def rd_L8 (xs : List (List S82)) (i : Int) : (List S82) := xs.getD i.toNat ([] : List S82)
theorem at_L8 {w : World} {A : Option Addr} {n : Nat} {xs : List (List S82)} (h : Kd.C (Kd.slice 82 k82) w A n xs) (i : Int) (h0 : 0 ≤ i) (h1 : i < n) : ∃ ad A0 c0, A = some ad ∧ w.cell? (ad.add i.toNat) = some (.slice A0 (rd_L8 xs i).length c0) ∧ (rd_L8 xs i).length ≤ c0 ∧ k82.C w A0 (rd_L8 xs i).length (rd_L8 xs i) := by
  obtain ⟨ad, c, e, _, hK, hc0⟩ := Kd.C_get h ([] : List S82) i h0 h1
  have hc : ∀ j u, c[j]? = some u → w.cell? (ad.add (i.toNat * 1 + j)) = some u := hc0
  obtain ⟨A0, c0, rfl, l0, g0⟩ := hK
  exact ⟨ad, A0, c0, e, by have hq := hc 0 _ rfl; rwa [Nat.mul_one, Nat.add_zero] at hq, l0, g0⟩

def rd_L9 (xs : List (List S80)) (i : Int) : (List S80) := xs.getD i.toNat ([] : List S80)
theorem at_L9 {w : World} {A : Option Addr} {n : Nat} {xs : List (List S80)} (h : Kd.C (Kd.slice 80 k80) w A n xs) (i : Int) (h0 : 0 ≤ i) (h1 : i < n) : ∃ ad A0 c0, A = some ad ∧ w.cell? (ad.add i.toNat) = some (.slice A0 (rd_L9 xs i).length c0) ∧ (rd_L9 xs i).length ≤ c0 ∧ k80.C w A0 (rd_L9 xs i).length (rd_L9 xs i) := by
  obtain ⟨ad, c, e, _, hK, hc0⟩ := Kd.C_get h ([] : List S80) i h0 h1
  have hc : ∀ j u, c[j]? = some u → w.cell? (ad.add (i.toNat * 1 + j)) = some u := hc0
  obtain ⟨A0, c0, rfl, l0, g0⟩ := hK
  exact ⟨ad, A0, c0, e, by have hq := hc 0 _ rfl; rwa [Nat.mul_one, Nat.add_zero] at hq, l0, g0⟩

/-! #### struct type 27 -/
structure S27 where
  f0 : (List ByteArray)
  f1 : (List ByteArray)
  f2 : (List S82)
  f3 : (List S80)
  f4 : (List Int)
def z27 : S27 := ⟨([] : List ByteArray), ([] : List ByteArray), ([] : List S82), ([] : List S80), ([] : List Int)⟩
def k27 : Kd S27 := Kd.iso (Kd.pair (Kd.slice 9 Kd.string) (Kd.pair (Kd.slice 9 Kd.string) (Kd.pair (Kd.slice 82 k82) (Kd.pair (Kd.slice 80 k80) (Kd.slice 3 (Kd.int .i64)))))) (fun x : S27 => (x.f0, x.f1, x.f2, x.f3, x.f4))
theorem k27_open {w : World} {x : S27} {cs : List Value} (h : k27.K w x cs) : ∃ A0 c0 A1 c1 A2 c2 A3 c3 A4 c4, cs = [.slice A0 x.f0.length c0, .slice A1 x.f1.length c1, .slice A2 x.f2.length c2, .slice A3 x.f3.length c3, .slice A4 x.f4.length c4] ∧ x.f0.length ≤ c0 ∧ Kd.string.C w A0 x.f0.length x.f0 ∧ x.f1.length ≤ c1 ∧ Kd.string.C w A1 x.f1.length x.f1 ∧ x.f2.length ≤ c2 ∧ k82.C w A2 x.f2.length x.f2 ∧ x.f3.length ≤ c3 ∧ k80.C w A3 x.f3.length x.f3 ∧ x.f4.length ≤ c4 ∧ (Kd.int .i64).C w A4 x.f4.length x.f4 := by
  obtain ⟨_, _, rfl, ⟨A0, c0, rfl, l0, g0⟩, ⟨_, _, rfl, ⟨A1, c1, rfl, l1, g1⟩, ⟨_, _, rfl, ⟨A2, c2, rfl, l2, g2⟩, ⟨_, _, rfl, ⟨A3, c3, rfl, l3, g3⟩, ⟨A4, c4, rfl, l4, g4⟩⟩⟩⟩⟩ := h
  exact ⟨A0, c0, A1, c1, A2, c2, A3, c3, A4, c4, rfl, l0, g0, l1, g1, l2, g2, l3, g3, l4, g4⟩
theorem k27_openM {w : World} {base : Nat} {ok : Nat → Prop} {x : S27} {cs : List Value} (h : k27.M w base ok x cs) : ∃ v0 v1 v2 v3 v4, cs = [v0, v1, v2, v3, v4] ∧ Kd.string.R 9 w base ok v0 x.f0 ∧ Kd.string.R 9 w base ok v1 x.f1 ∧ k82.R 82 w base ok v2 x.f2 ∧ k80.R 80 w base ok v3 x.f3 ∧ (Kd.int .i64).R 3 w base ok v4 x.f4 := by
  obtain ⟨_, _, rfl, ⟨v0, rfl, g0⟩, ⟨_, _, rfl, ⟨v1, rfl, g1⟩, ⟨_, _, rfl, ⟨v2, rfl, g2⟩, ⟨_, _, rfl, ⟨v3, rfl, g3⟩, ⟨v4, rfl, g4⟩⟩⟩⟩⟩ := h
  exact ⟨v0, v1, v2, v3, v4, rfl, g0, g1, g2, g3, g4⟩
theorem k27_mk (w : World) (x : S27) {A0 : Option Addr} {c0 : Nat} (l0 : x.f0.length ≤ c0) (g0 : Kd.string.C w A0 x.f0.length x.f0) {A1 : Option Addr} {c1 : Nat} (l1 : x.f1.length ≤ c1) (g1 : Kd.string.C w A1 x.f1.length x.f1) {A2 : Option Addr} {c2 : Nat} (l2 : x.f2.length ≤ c2) (g2 : k82.C w A2 x.f2.length x.f2) {A3 : Option Addr} {c3 : Nat} (l3 : x.f3.length ≤ c3) (g3 : k80.C w A3 x.f3.length x.f3) {A4 : Option Addr} {c4 : Nat} (l4 : x.f4.length ≤ c4) (g4 : (Kd.int .i64).C w A4 x.f4.length x.f4) : k27.K w x [.slice A0 x.f0.length c0, .slice A1 x.f1.length c1, .slice A2 x.f2.length c2, .slice A3 x.f3.length c3, .slice A4 x.f4.length c4] := ⟨[.slice A0 x.f0.length c0], [.slice A1 x.f1.length c1, .slice A2 x.f2.length c2, .slice A3 x.f3.length c3, .slice A4 x.f4.length c4], rfl, ⟨A0, c0, rfl, l0, g0⟩, ⟨[.slice A1 x.f1.length c1], [.slice A2 x.f2.length c2, .slice A3 x.f3.length c3, .slice A4 x.f4.length c4], rfl, ⟨A1, c1, rfl, l1, g1⟩, ⟨[.slice A2 x.f2.length c2], [.slice A3 x.f3.length c3, .slice A4 x.f4.length c4], rfl, ⟨A2, c2, rfl, l2, g2⟩, ⟨[.slice A3 x.f3.length c3], [.slice A4 x.f4.length c4], rfl, ⟨A3, c3, rfl, l3, g3⟩, ⟨A4, c4, rfl, l4, g4⟩⟩⟩⟩⟩
theorem k27_mkM (w : World) (base : Nat) (ok : Nat → Prop) (x : S27) {v0 : Value} (g0 : Kd.string.R 9 w base ok v0 x.f0) {v1 : Value} (g1 : Kd.string.R 9 w base ok v1 x.f1) {v2 : Value} (g2 : k82.R 82 w base ok v2 x.f2) {v3 : Value} (g3 : k80.R 80 w base ok v3 x.f3) {v4 : Value} (g4 : (Kd.int .i64).R 3 w base ok v4 x.f4) : k27.M w base ok x [v0, v1, v2, v3, v4] := ⟨[v0], [v1, v2, v3, v4], rfl, ⟨v0, rfl, g0⟩, ⟨[v1], [v2, v3, v4], rfl, ⟨v1, rfl, g1⟩, ⟨[v2], [v3, v4], rfl, ⟨v2, rfl, g2⟩, ⟨[v3], [v4], rfl, ⟨v3, rfl, g3⟩, ⟨v4, rfl, g4⟩⟩⟩⟩⟩
theorem k27_openF {W : World} {ok : Nat → Prop} {x : S27} {cs : List Value} (h : Kd.FK k27 W ok x cs) : ∃ A0 c0 A1 c1 A2 c2 A3 c3 A4 c4, cs = [.slice A0 x.f0.length c0, .slice A1 x.f1.length c1, .slice A2 x.f2.length c2, .slice A3 x.f3.length c3, .slice A4 x.f4.length c4] ∧ x.f0.length ≤ c0 ∧ Kd.F Kd.string W ok A0 x.f0.length x.f0 ∧ x.f1.length ≤ c1 ∧ Kd.F Kd.string W ok A1 x.f1.length x.f1 ∧ x.f2.length ≤ c2 ∧ Kd.F k82 W ok A2 x.f2.length x.f2 ∧ x.f3.length ≤ c3 ∧ Kd.F k80 W ok A3 x.f3.length x.f3 ∧ x.f4.length ≤ c4 ∧ Kd.F (Kd.int .i64) W ok A4 x.f4.length x.f4 := by
  obtain ⟨A0, c0, A1, c1, A2, c2, A3, c3, A4, c4, rfl, l0, _, l1, _, l2, _, l3, _, l4, _⟩ := k27_open (Kd.FK_now h)
  exact ⟨A0, c0, A1, c1, A2, c2, A3, c3, A4, c4, rfl, l0, (fun W' hW => by obtain ⟨A0_, c0_, A1_, c1_, A2_, c2_, A3_, c3_, A4_, c4_, he, l0_, g0_, l1_, g1_, l2_, g2_, l3_, g3_, l4_, g4_⟩ := k27_open (h W' hW); injection (Option.some.inj (show some (Value.slice A0 x.f0.length c0) = some (Value.slice A0_ x.f0.length c0_) from congrArg (fun l => l[0]?) he)) with ha_ _ _; rw [ha_]; exact g0_), l1, (fun W' hW => by obtain ⟨A0_, c0_, A1_, c1_, A2_, c2_, A3_, c3_, A4_, c4_, he, l0_, g0_, l1_, g1_, l2_, g2_, l3_, g3_, l4_, g4_⟩ := k27_open (h W' hW); injection (Option.some.inj (show some (Value.slice A1 x.f1.length c1) = some (Value.slice A1_ x.f1.length c1_) from congrArg (fun l => l[1]?) he)) with ha_ _ _; rw [ha_]; exact g1_), l2, (fun W' hW => by obtain ⟨A0_, c0_, A1_, c1_, A2_, c2_, A3_, c3_, A4_, c4_, he, l0_, g0_, l1_, g1_, l2_, g2_, l3_, g3_, l4_, g4_⟩ := k27_open (h W' hW); injection (Option.some.inj (show some (Value.slice A2 x.f2.length c2) = some (Value.slice A2_ x.f2.length c2_) from congrArg (fun l => l[2]?) he)) with ha_ _ _; rw [ha_]; exact g2_), l3, (fun W' hW => by obtain ⟨A0_, c0_, A1_, c1_, A2_, c2_, A3_, c3_, A4_, c4_, he, l0_, g0_, l1_, g1_, l2_, g2_, l3_, g3_, l4_, g4_⟩ := k27_open (h W' hW); injection (Option.some.inj (show some (Value.slice A3 x.f3.length c3) = some (Value.slice A3_ x.f3.length c3_) from congrArg (fun l => l[3]?) he)) with ha_ _ _; rw [ha_]; exact g3_), l4, (fun W' hW => by obtain ⟨A0_, c0_, A1_, c1_, A2_, c2_, A3_, c3_, A4_, c4_, he, l0_, g0_, l1_, g1_, l2_, g2_, l3_, g3_, l4_, g4_⟩ := k27_open (h W' hW); injection (Option.some.inj (show some (Value.slice A4 x.f4.length c4) = some (Value.slice A4_ x.f4.length c4_) from congrArg (fun l => l[4]?) he)) with ha_ _ _; rw [ha_]; exact g4_)⟩
theorem k27_mkF (W : World) (ok : Nat → Prop) (x : S27) {A0 : Option Addr} {c0 : Nat} (l0 : x.f0.length ≤ c0) (g0 : Kd.F Kd.string W ok A0 x.f0.length x.f0) {A1 : Option Addr} {c1 : Nat} (l1 : x.f1.length ≤ c1) (g1 : Kd.F Kd.string W ok A1 x.f1.length x.f1) {A2 : Option Addr} {c2 : Nat} (l2 : x.f2.length ≤ c2) (g2 : Kd.F k82 W ok A2 x.f2.length x.f2) {A3 : Option Addr} {c3 : Nat} (l3 : x.f3.length ≤ c3) (g3 : Kd.F k80 W ok A3 x.f3.length x.f3) {A4 : Option Addr} {c4 : Nat} (l4 : x.f4.length ≤ c4) (g4 : Kd.F (Kd.int .i64) W ok A4 x.f4.length x.f4) : Kd.FK k27 W ok x [.slice A0 x.f0.length c0, .slice A1 x.f1.length c1, .slice A2 x.f2.length c2, .slice A3 x.f3.length c3, .slice A4 x.f4.length c4] := fun W2 hW => k27_mk W2 x l0 (g0 W2 hW) l1 (g1 W2 hW) l2 (g2 W2 hW) l3 (g3 W2 hW) l4 (g4 W2 hW)
def rd_T27 (xs : List S27) (i : Int) : S27 := xs.getD i.toNat z27
theorem at_T27 {w : World} {A : Option Addr} {n : Nat} {xs : List S27} (h : Kd.C k27 w A n xs) (i : Int) (h0 : 0 ≤ i) (h1 : i < n) : ∃ ad A0 c0 A1 c1 A2 c2 A3 c3 A4 c4, A = some ad ∧ w.cell? (ad.add (i.toNat * 5)) = some (.slice A0 (rd_T27 xs i).f0.length c0) ∧ w.cell? ⟨(ad.add (i.toNat * 5)).block, (ad.add (i.toNat * 5)).off + 1, none⟩ = some (.slice A1 (rd_T27 xs i).f1.length c1) ∧ w.cell? ⟨(ad.add (i.toNat * 5)).block, (ad.add (i.toNat * 5)).off + 2, none⟩ = some (.slice A2 (rd_T27 xs i).f2.length c2) ∧ w.cell? ⟨(ad.add (i.toNat * 5)).block, (ad.add (i.toNat * 5)).off + 3, none⟩ = some (.slice A3 (rd_T27 xs i).f3.length c3) ∧ w.cell? ⟨(ad.add (i.toNat * 5)).block, (ad.add (i.toNat * 5)).off + 4, none⟩ = some (.slice A4 (rd_T27 xs i).f4.length c4) ∧ (rd_T27 xs i).f0.length ≤ c0 ∧ Kd.string.C w A0 (rd_T27 xs i).f0.length (rd_T27 xs i).f0 ∧ (rd_T27 xs i).f1.length ≤ c1 ∧ Kd.string.C w A1 (rd_T27 xs i).f1.length (rd_T27 xs i).f1 ∧ (rd_T27 xs i).f2.length ≤ c2 ∧ k82.C w A2 (rd_T27 xs i).f2.length (rd_T27 xs i).f2 ∧ (rd_T27 xs i).f3.length ≤ c3 ∧ k80.C w A3 (rd_T27 xs i).f3.length (rd_T27 xs i).f3 ∧ (rd_T27 xs i).f4.length ≤ c4 ∧ (Kd.int .i64).C w A4 (rd_T27 xs i).f4.length (rd_T27 xs i).f4 := by
  obtain ⟨ad, c, e, _, hK, hc0⟩ := Kd.C_get h z27 i h0 h1
  have hc : ∀ j u, c[j]? = some u → w.cell? (ad.add (i.toNat * 5 + j)) = some u := hc0
  obtain ⟨A0, c0, A1, c1, A2, c2, A3, c3, A4, c4, rfl, l0, g0, l1, g1, l2, g2, l3, g3, l4, g4⟩ := k27_open hK
  exact ⟨ad, A0, c0, A1, c1, A2, c2, A3, c3, A4, c4, e, hc 0 _ rfl, by rw [← add_field _ _ 1 (by omega)]; exact hc 1 _ rfl, by rw [← add_field _ _ 2 (by omega)]; exact hc 2 _ rfl, by rw [← add_field _ _ 3 (by omega)]; exact hc 3 _ rfl, by rw [← add_field _ _ 4 (by omega)]; exact hc 4 _ rfl, l0, g0, l1, g1, l2, g2, l3, g3, l4, g4⟩

/-! #### struct type 77 -/
structure S77 where
  f0 : Int
  f1 : Int
  f2 : Int
def z77 : S77 := ⟨(0 : Int), (0 : Int), (0 : Int)⟩
def k77 : Kd S77 := Kd.iso (Kd.pair (Kd.int .i64) (Kd.pair (Kd.int .i64) (Kd.int .i64))) (fun x : S77 => (x.f0, x.f1, x.f2))
theorem k77_open {w : World} {x : S77} {cs : List Value} (h : k77.K w x cs) : cs = [.int .i64 x.f0, .int .i64 x.f1, .int .i64 x.f2] := by
  obtain ⟨_, _, rfl, rfl, ⟨_, _, rfl, rfl, rfl⟩⟩ := h
  exact rfl
theorem k77_openM {w : World} {base : Nat} {ok : Nat → Prop} {x : S77} {cs : List Value} (h : k77.M w base ok x cs) : cs = [.int .i64 x.f0, .int .i64 x.f1, .int .i64 x.f2] := by
  obtain ⟨_, _, rfl, rfl, ⟨_, _, rfl, rfl, rfl⟩⟩ := h
  exact rfl
theorem k77_mk (w : World) (x : S77)  : k77.K w x [.int .i64 x.f0, .int .i64 x.f1, .int .i64 x.f2] := ⟨[.int .i64 x.f0], [.int .i64 x.f1, .int .i64 x.f2], rfl, rfl, ⟨[.int .i64 x.f1], [.int .i64 x.f2], rfl, rfl, rfl⟩⟩
theorem k77_mkM (w : World) (base : Nat) (ok : Nat → Prop) (x : S77)  : k77.M w base ok x [.int .i64 x.f0, .int .i64 x.f1, .int .i64 x.f2] := ⟨[.int .i64 x.f0], [.int .i64 x.f1, .int .i64 x.f2], rfl, rfl, ⟨[.int .i64 x.f1], [.int .i64 x.f2], rfl, rfl, rfl⟩⟩
theorem k77_mkF (W : World) (ok : Nat → Prop) (x : S77) : Kd.FK k77 W ok x [.int .i64 x.f0, .int .i64 x.f1, .int .i64 x.f2] := fun W2 _ => k77_mk W2 x
def rd_T77 (xs : List S77) (i : Int) : S77 := xs.getD i.toNat z77
theorem at_T77 {w : World} {A : Option Addr} {n : Nat} {xs : List S77} (h : Kd.C k77 w A n xs) (i : Int) (h0 : 0 ≤ i) (h1 : i < n) : ∃ ad , A = some ad ∧ w.cell? (ad.add (i.toNat * 3)) = some (.int .i64 (rd_T77 xs i).f0) ∧ w.cell? ⟨(ad.add (i.toNat * 3)).block, (ad.add (i.toNat * 3)).off + 1, none⟩ = some (.int .i64 (rd_T77 xs i).f1) ∧ w.cell? ⟨(ad.add (i.toNat * 3)).block, (ad.add (i.toNat * 3)).off + 2, none⟩ = some (.int .i64 (rd_T77 xs i).f2) := by
  obtain ⟨ad, c, e, _, hK, hc0⟩ := Kd.C_get h z77 i h0 h1
  have hc : ∀ j u, c[j]? = some u → w.cell? (ad.add (i.toNat * 3 + j)) = some u := hc0
  obtain rfl := k77_open hK
  exact ⟨ad, e, hc 0 _ rfl, by rw [← add_field _ _ 1 (by omega)]; exact hc 1 _ rfl, by rw [← add_field _ _ 2 (by omega)]; exact hc 2 _ rfl⟩

def rd_L12 (xs : List (List S77)) (i : Int) : (List S77) := xs.getD i.toNat ([] : List S77)
theorem at_L12 {w : World} {A : Option Addr} {n : Nat} {xs : List (List S77)} (h : Kd.C (Kd.slice 77 k77) w A n xs) (i : Int) (h0 : 0 ≤ i) (h1 : i < n) : ∃ ad A0 c0, A = some ad ∧ w.cell? (ad.add i.toNat) = some (.slice A0 (rd_L12 xs i).length c0) ∧ (rd_L12 xs i).length ≤ c0 ∧ k77.C w A0 (rd_L12 xs i).length (rd_L12 xs i) := by
  obtain ⟨ad, c, e, _, hK, hc0⟩ := Kd.C_get h ([] : List S77) i h0 h1
  have hc : ∀ j u, c[j]? = some u → w.cell? (ad.add (i.toNat * 1 + j)) = some u := hc0
  obtain ⟨A0, c0, rfl, l0, g0⟩ := hK
  exact ⟨ad, A0, c0, e, by have hq := hc 0 _ rfl; rwa [Nat.mul_one, Nat.add_zero] at hq, l0, g0⟩

def rd_L13 (xs : List (List (List S77))) (i : Int) : (List (List S77)) := xs.getD i.toNat ([] : List (List S77))
theorem at_L13 {w : World} {A : Option Addr} {n : Nat} {xs : List (List (List S77))} (h : Kd.C (Kd.slice 75 (Kd.slice 77 k77)) w A n xs) (i : Int) (h0 : 0 ≤ i) (h1 : i < n) : ∃ ad A0 c0, A = some ad ∧ w.cell? (ad.add i.toNat) = some (.slice A0 (rd_L13 xs i).length c0) ∧ (rd_L13 xs i).length ≤ c0 ∧ (Kd.slice 77 k77).C w A0 (rd_L13 xs i).length (rd_L13 xs i) := by
  obtain ⟨ad, c, e, _, hK, hc0⟩ := Kd.C_get h ([] : List (List S77)) i h0 h1
  have hc : ∀ j u, c[j]? = some u → w.cell? (ad.add (i.toNat * 1 + j)) = some u := hc0
  obtain ⟨A0, c0, rfl, l0, g0⟩ := hK
  exact ⟨ad, A0, c0, e, by have hq := hc 0 _ rfl; rwa [Nat.mul_one, Nat.add_zero] at hq, l0, g0⟩

/-! #### struct type 29 -/
structure S29 where
  f0 : Int
  f1 : Int
  f2 : Bool
def z29 : S29 := ⟨(0 : Int), (0 : Int), false⟩
def k29 : Kd S29 := Kd.iso (Kd.pair (Kd.int .i64) (Kd.pair (Kd.int .i64) Kd.bool)) (fun x : S29 => (x.f0, x.f1, x.f2))
theorem k29_open {w : World} {x : S29} {cs : List Value} (h : k29.K w x cs) : cs = [.int .i64 x.f0, .int .i64 x.f1, .bool x.f2] := by
  obtain ⟨_, _, rfl, rfl, ⟨_, _, rfl, rfl, rfl⟩⟩ := h
  exact rfl
theorem k29_openM {w : World} {base : Nat} {ok : Nat → Prop} {x : S29} {cs : List Value} (h : k29.M w base ok x cs) : cs = [.int .i64 x.f0, .int .i64 x.f1, .bool x.f2] := by
  obtain ⟨_, _, rfl, rfl, ⟨_, _, rfl, rfl, rfl⟩⟩ := h
  exact rfl
theorem k29_mk (w : World) (x : S29)  : k29.K w x [.int .i64 x.f0, .int .i64 x.f1, .bool x.f2] := ⟨[.int .i64 x.f0], [.int .i64 x.f1, .bool x.f2], rfl, rfl, ⟨[.int .i64 x.f1], [.bool x.f2], rfl, rfl, rfl⟩⟩
theorem k29_mkM (w : World) (base : Nat) (ok : Nat → Prop) (x : S29)  : k29.M w base ok x [.int .i64 x.f0, .int .i64 x.f1, .bool x.f2] := ⟨[.int .i64 x.f0], [.int .i64 x.f1, .bool x.f2], rfl, rfl, ⟨[.int .i64 x.f1], [.bool x.f2], rfl, rfl, rfl⟩⟩
theorem k29_mkF (W : World) (ok : Nat → Prop) (x : S29) : Kd.FK k29 W ok x [.int .i64 x.f0, .int .i64 x.f1, .bool x.f2] := fun W2 _ => k29_mk W2 x
def rd_T29 (xs : List S29) (i : Int) : S29 := xs.getD i.toNat z29
theorem at_T29 {w : World} {A : Option Addr} {n : Nat} {xs : List S29} (h : Kd.C k29 w A n xs) (i : Int) (h0 : 0 ≤ i) (h1 : i < n) : ∃ ad , A = some ad ∧ w.cell? (ad.add (i.toNat * 3)) = some (.int .i64 (rd_T29 xs i).f0) ∧ w.cell? ⟨(ad.add (i.toNat * 3)).block, (ad.add (i.toNat * 3)).off + 1, none⟩ = some (.int .i64 (rd_T29 xs i).f1) ∧ w.cell? ⟨(ad.add (i.toNat * 3)).block, (ad.add (i.toNat * 3)).off + 2, none⟩ = some (.bool (rd_T29 xs i).f2) := by
  obtain ⟨ad, c, e, _, hK, hc0⟩ := Kd.C_get h z29 i h0 h1
  have hc : ∀ j u, c[j]? = some u → w.cell? (ad.add (i.toNat * 3 + j)) = some u := hc0
  obtain rfl := k29_open hK
  exact ⟨ad, e, hc 0 _ rfl, by rw [← add_field _ _ 1 (by omega)]; exact hc 1 _ rfl, by rw [← add_field _ _ 2 (by omega)]; exact hc 2 _ rfl⟩

def rd_L15 (xs : List (List Bool)) (i : Int) : (List Bool) := xs.getD i.toNat ([] : List Bool)
theorem at_L15 {w : World} {A : Option Addr} {n : Nat} {xs : List (List Bool)} (h : Kd.C (Kd.slice 4 Kd.bool) w A n xs) (i : Int) (h0 : 0 ≤ i) (h1 : i < n) : ∃ ad A0 c0, A = some ad ∧ w.cell? (ad.add i.toNat) = some (.slice A0 (rd_L15 xs i).length c0) ∧ (rd_L15 xs i).length ≤ c0 ∧ Kd.bool.C w A0 (rd_L15 xs i).length (rd_L15 xs i) := by
  obtain ⟨ad, c, e, _, hK, hc0⟩ := Kd.C_get h ([] : List Bool) i h0 h1
  have hc : ∀ j u, c[j]? = some u → w.cell? (ad.add (i.toNat * 1 + j)) = some u := hc0
  obtain ⟨A0, c0, rfl, l0, g0⟩ := hK
  exact ⟨ad, A0, c0, e, by have hq := hc 0 _ rfl; rwa [Nat.mul_one, Nat.add_zero] at hq, l0, g0⟩

/-! #### struct type 55 -/
structure S55 where
  f0 : (List Bool)
  f1 : (List Bool)
def z55 : S55 := ⟨([] : List Bool), ([] : List Bool)⟩
def k55 : Kd S55 := Kd.iso (Kd.pair (Kd.slice 4 Kd.bool) (Kd.slice 4 Kd.bool)) (fun x : S55 => (x.f0, x.f1))
theorem k55_open {w : World} {x : S55} {cs : List Value} (h : k55.K w x cs) : ∃ A0 c0 A1 c1, cs = [.slice A0 x.f0.length c0, .slice A1 x.f1.length c1] ∧ x.f0.length ≤ c0 ∧ Kd.bool.C w A0 x.f0.length x.f0 ∧ x.f1.length ≤ c1 ∧ Kd.bool.C w A1 x.f1.length x.f1 := by
  obtain ⟨_, _, rfl, ⟨A0, c0, rfl, l0, g0⟩, ⟨A1, c1, rfl, l1, g1⟩⟩ := h
  exact ⟨A0, c0, A1, c1, rfl, l0, g0, l1, g1⟩
theorem k55_openM {w : World} {base : Nat} {ok : Nat → Prop} {x : S55} {cs : List Value} (h : k55.M w base ok x cs) : ∃ v0 v1, cs = [v0, v1] ∧ Kd.bool.R 4 w base ok v0 x.f0 ∧ Kd.bool.R 4 w base ok v1 x.f1 := by
  obtain ⟨_, _, rfl, ⟨v0, rfl, g0⟩, ⟨v1, rfl, g1⟩⟩ := h
  exact ⟨v0, v1, rfl, g0, g1⟩
theorem k55_mk (w : World) (x : S55) {A0 : Option Addr} {c0 : Nat} (l0 : x.f0.length ≤ c0) (g0 : Kd.bool.C w A0 x.f0.length x.f0) {A1 : Option Addr} {c1 : Nat} (l1 : x.f1.length ≤ c1) (g1 : Kd.bool.C w A1 x.f1.length x.f1) : k55.K w x [.slice A0 x.f0.length c0, .slice A1 x.f1.length c1] := ⟨[.slice A0 x.f0.length c0], [.slice A1 x.f1.length c1], rfl, ⟨A0, c0, rfl, l0, g0⟩, ⟨A1, c1, rfl, l1, g1⟩⟩
theorem k55_mkM (w : World) (base : Nat) (ok : Nat → Prop) (x : S55) {v0 : Value} (g0 : Kd.bool.R 4 w base ok v0 x.f0) {v1 : Value} (g1 : Kd.bool.R 4 w base ok v1 x.f1) : k55.M w base ok x [v0, v1] := ⟨[v0], [v1], rfl, ⟨v0, rfl, g0⟩, ⟨v1, rfl, g1⟩⟩
theorem k55_openF {W : World} {ok : Nat → Prop} {x : S55} {cs : List Value} (h : Kd.FK k55 W ok x cs) : ∃ A0 c0 A1 c1, cs = [.slice A0 x.f0.length c0, .slice A1 x.f1.length c1] ∧ x.f0.length ≤ c0 ∧ Kd.F Kd.bool W ok A0 x.f0.length x.f0 ∧ x.f1.length ≤ c1 ∧ Kd.F Kd.bool W ok A1 x.f1.length x.f1 := by
  obtain ⟨A0, c0, A1, c1, rfl, l0, _, l1, _⟩ := k55_open (Kd.FK_now h)
  exact ⟨A0, c0, A1, c1, rfl, l0, (fun W' hW => by obtain ⟨A0_, c0_, A1_, c1_, he, l0_, g0_, l1_, g1_⟩ := k55_open (h W' hW); injection (Option.some.inj (show some (Value.slice A0 x.f0.length c0) = some (Value.slice A0_ x.f0.length c0_) from congrArg (fun l => l[0]?) he)) with ha_ _ _; rw [ha_]; exact g0_), l1, (fun W' hW => by obtain ⟨A0_, c0_, A1_, c1_, he, l0_, g0_, l1_, g1_⟩ := k55_open (h W' hW); injection (Option.some.inj (show some (Value.slice A1 x.f1.length c1) = some (Value.slice A1_ x.f1.length c1_) from congrArg (fun l => l[1]?) he)) with ha_ _ _; rw [ha_]; exact g1_)⟩
theorem k55_mkF (W : World) (ok : Nat → Prop) (x : S55) {A0 : Option Addr} {c0 : Nat} (l0 : x.f0.length ≤ c0) (g0 : Kd.F Kd.bool W ok A0 x.f0.length x.f0) {A1 : Option Addr} {c1 : Nat} (l1 : x.f1.length ≤ c1) (g1 : Kd.F Kd.bool W ok A1 x.f1.length x.f1) : Kd.FK k55 W ok x [.slice A0 x.f0.length c0, .slice A1 x.f1.length c1] := fun W2 hW => k55_mk W2 x l0 (g0 W2 hW) l1 (g1 W2 hW)
def rd_T55 (xs : List S55) (i : Int) : S55 := xs.getD i.toNat z55
theorem at_T55 {w : World} {A : Option Addr} {n : Nat} {xs : List S55} (h : Kd.C k55 w A n xs) (i : Int) (h0 : 0 ≤ i) (h1 : i < n) : ∃ ad A0 c0 A1 c1, A = some ad ∧ w.cell? (ad.add (i.toNat * 2)) = some (.slice A0 (rd_T55 xs i).f0.length c0) ∧ w.cell? ⟨(ad.add (i.toNat * 2)).block, (ad.add (i.toNat * 2)).off + 1, none⟩ = some (.slice A1 (rd_T55 xs i).f1.length c1) ∧ (rd_T55 xs i).f0.length ≤ c0 ∧ Kd.bool.C w A0 (rd_T55 xs i).f0.length (rd_T55 xs i).f0 ∧ (rd_T55 xs i).f1.length ≤ c1 ∧ Kd.bool.C w A1 (rd_T55 xs i).f1.length (rd_T55 xs i).f1 := by
  obtain ⟨ad, c, e, _, hK, hc0⟩ := Kd.C_get h z55 i h0 h1
  have hc : ∀ j u, c[j]? = some u → w.cell? (ad.add (i.toNat * 2 + j)) = some u := hc0
  obtain ⟨A0, c0, A1, c1, rfl, l0, g0, l1, g1⟩ := k55_open hK
  exact ⟨ad, A0, c0, A1, c1, e, hc 0 _ rfl, by rw [← add_field _ _ 1 (by omega)]; exact hc 1 _ rfl, l0, g0, l1, g1⟩

def rd_L17 (xs : List (List S29)) (i : Int) : (List S29) := xs.getD i.toNat ([] : List S29)
theorem at_L17 {w : World} {A : Option Addr} {n : Nat} {xs : List (List S29)} (h : Kd.C (Kd.slice 29 k29) w A n xs) (i : Int) (h0 : 0 ≤ i) (h1 : i < n) : ∃ ad A0 c0, A = some ad ∧ w.cell? (ad.add i.toNat) = some (.slice A0 (rd_L17 xs i).length c0) ∧ (rd_L17 xs i).length ≤ c0 ∧ k29.C w A0 (rd_L17 xs i).length (rd_L17 xs i) := by
  obtain ⟨ad, c, e, _, hK, hc0⟩ := Kd.C_get h ([] : List S29) i h0 h1
  have hc : ∀ j u, c[j]? = some u → w.cell? (ad.add (i.toNat * 1 + j)) = some u := hc0
  obtain ⟨A0, c0, rfl, l0, g0⟩ := hK
  exact ⟨ad, A0, c0, e, by have hq := hc 0 _ rfl; rwa [Nat.mul_one, Nat.add_zero] at hq, l0, g0⟩

def rd_L18 (xs : List (List S55)) (i : Int) : (List S55) := xs.getD i.toNat ([] : List S55)
theorem at_L18 {w : World} {A : Option Addr} {n : Nat} {xs : List (List S55)} (h : Kd.C (Kd.slice 55 k55) w A n xs) (i : Int) (h0 : 0 ≤ i) (h1 : i < n) : ∃ ad A0 c0, A = some ad ∧ w.cell? (ad.add i.toNat) = some (.slice A0 (rd_L18 xs i).length c0) ∧ (rd_L18 xs i).length ≤ c0 ∧ k55.C w A0 (rd_L18 xs i).length (rd_L18 xs i) := by
  obtain ⟨ad, c, e, _, hK, hc0⟩ := Kd.C_get h ([] : List S55) i h0 h1
  have hc : ∀ j u, c[j]? = some u → w.cell? (ad.add (i.toNat * 1 + j)) = some u := hc0
  obtain ⟨A0, c0, rfl, l0, g0⟩ := hK
  exact ⟨ad, A0, c0, e, by have hq := hc 0 _ rfl; rwa [Nat.mul_one, Nat.add_zero] at hq, l0, g0⟩

end Go.Proofs.Ytimjccfpobhpeaa.PF
/- slices.Clone: of strings, numbers, flip-flops and gates (the gates' inputs stay shared). -/
namespace Go.Proofs.Ytimjccfpobhpeaa
open Go.RowKit Go.Proofs.YtimjccfpobhpeaaW.PrintWords Go.Proofs.Ytimjccfpobhpeaa.PF
set_option maxRecDepth 100000

theorem kd_fresh {α : Type} (d : Kd α) (e : Nat) (w : World) (base : Nat) (hb : base ≤ w.heap.size) : Kd.R d e (w.alloc (.cells #[] e)) base (fun _ => True) (.slice (some ⟨w.heap.size, 0, none⟩) 0 0) [] := by
  refine ⟨fun _ _ => trivial, [], ?_, Reps.none _ _⟩
  have h2 := World.ownsRow_lit (base := base) (e := e) (size := d.sz) w #[] 0 hb (by simp [maxLen]) (by simp)
  simpa using h2
theorem kd_nil {α : Type} {d : Kd α} {w : World} {n : Nat} {xs : List α} (h : Kd.C d w none n xs) : xs = [] := by
  obtain ⟨hl, _, hc⟩ := h
  rcases Nat.eq_zero_or_pos n with h0 | h0
  · exact List.eq_nil_of_length_eq_zero (by omega)
  · obtain ⟨ad, h, _⟩ := hc h0
    cases h
/-- A gate whose inputs lie where they lay in an elder world. -/
def kGateF (w0 : World) : Kd S80 := Kd.iso (Kd.pair (Kd.int .i64) (Kd.pair (Kd.int .u64) (Kd.fixed (Kd.slice 3 (Kd.int .i64)) w0))) (fun x : S80 => (x.f0, x.f1, x.f2))
theorem kGateF_mk {w0 w : World} {base : Nat} {x : S80} {cs : List Value} (h : k80.K w0 x cs) : (kGateF w0).M w base (fun _ => False) x cs := by
  obtain ⟨A2, c2, rfl, l2, g2⟩ := k80_open h
  exact ⟨[_], [_, _], rfl, rfl, [_], [_], rfl, rfl, A2, c2, rfl, l2, g2⟩

theorem info_strs : (Try.prog.info? 9).map (fun i => (i.zero, i.size, i.bytes)) = some (some (.string ⟨#[]⟩), Kd.string.sz, 16) := by kernel_rfl
set_option maxHeartbeats 2000000 in
theorem clone_strs (A : Option Addr) (c : Nat) (ys : List ByteArray) (w : World) (h : Kd.C Kd.string w A ys.length ys) (hmax : ys.length * 16 ≤ 140737488355328) :
    Calls Try.prog 30 #[.slice A ys.length c] w fun e w' => ∃ v, e = .returned v ∧ Kd.R Kd.string 9 w' w.heap.size (fun _ => True) v ys ∧ Below w.heap.size w w' := by
  have hu := Try.underlying22
  rcases A with _ | ad
  · obtain rfl := kd_nil h
    go_enter Try.func30, Try.ntmps30
    have heq : ∀ W : World, (binOp .eql 22 (.slice none 0 c) (.slice none 0 0)).run Try.prog W = .ok (.bool true) W := fun W => Lib.run_eql_slice_nil_nil W 0 c hu
    go_wp2
    go_ret
    exact ⟨_, rfl, Kd.R_nil _ _ _ _ _, Below.refl _ _⟩
  · have heq : ∀ W : World, (binOp .eql 22 (.slice (some ad) ys.length c) (.slice none 0 0)).run Try.prog W = .ok (.bool false) W := fun W => Lib.run_eql_slice_nil W _ _ _ _ _ _ _ hu
    have hf := kd_fresh Kd.string 9 w w.heap.size (Nat.le_refl _)
    have hW : Below w.heap.size w (w.alloc (.cells #[] 9)) := (Below.refl _ _).alloc (Nat.le_refl _) _
    go_enter Try.func30, Try.ntmps30
    go_wp2_with (at_builtin; refine Kd.R_append_rows Kd.string (Rr := Kd.string.K w) (w0 := w) w.heap.size rfl (.tmp 5) (.tmp 6) 22 9 _ 16 rfl Try.underlying22 info_strs rfl (Nat.succ_pos _) (by decide) _ [] ys (some ad) ys.length c (fun _ => True) (fun _ => False) rfl rfl hf ?hR (fun _ _ hK => hK) (fun _ hk => hk.elim) (fun _ _ => trivial) hW (by simp) (by simpa using hmax) ?_; (case hR => exact { h.imp_ hW (fun _ _ hK => hK) with }); intro v1 w1 hR1 hB1 hg1 hat1)
    go_ret
    exact ⟨_, rfl, hR1, hB1⟩

theorem info_ints : (Try.prog.info? 3).map (fun i => (i.zero, i.size, i.bytes)) = some (some (.int .i64 0), (Kd.int .i64).sz, 8) := by kernel_rfl
set_option maxHeartbeats 2000000 in
theorem clone_ints (A : Option Addr) (c : Nat) (ys : List Int) (w : World) (h : Kd.C (Kd.int .i64) w A ys.length ys) (hmax : ys.length * 8 ≤ 140737488355328) :
    Calls Try.prog 56 #[.slice A ys.length c] w fun e w' => ∃ v, e = .returned v ∧ Kd.R (Kd.int .i64) 3 w' w.heap.size (fun _ => True) v ys ∧ Below w.heap.size w w' := by
  have hu := Try.underlying25
  rcases A with _ | ad
  · obtain rfl := kd_nil h
    go_enter Try.func56, Try.ntmps56
    have heq : ∀ W : World, (binOp .eql 25 (.slice none 0 c) (.slice none 0 0)).run Try.prog W = .ok (.bool true) W := fun W => Lib.run_eql_slice_nil_nil W 0 c hu
    go_wp2
    go_ret
    exact ⟨_, rfl, Kd.R_nil _ _ _ _ _, Below.refl _ _⟩
  · have heq : ∀ W : World, (binOp .eql 25 (.slice (some ad) ys.length c) (.slice none 0 0)).run Try.prog W = .ok (.bool false) W := fun W => Lib.run_eql_slice_nil W _ _ _ _ _ _ _ hu
    have hf := kd_fresh (Kd.int .i64) 3 w w.heap.size (Nat.le_refl _)
    have hW : Below w.heap.size w (w.alloc (.cells #[] 3)) := (Below.refl _ _).alloc (Nat.le_refl _) _
    go_enter Try.func56, Try.ntmps56
    go_wp2_with (at_builtin; refine Kd.R_append_rows (Kd.int .i64) (Rr := (Kd.int .i64).K w) (w0 := w) w.heap.size rfl (.tmp 5) (.tmp 6) 25 3 _ 8 rfl Try.underlying25 info_ints rfl (Nat.succ_pos _) (by decide) _ [] ys (some ad) ys.length c (fun _ => True) (fun _ => False) rfl rfl hf ?hR (fun _ _ hK => hK) (fun _ hk => hk.elim) (fun _ _ => trivial) hW (by simp) (by simpa using hmax) ?_; (case hR => exact { h.imp_ hW (fun _ _ hK => hK) with }); intro v1 w1 hR1 hB1 hg1 hat1)
    go_ret
    exact ⟨_, rfl, hR1, hB1⟩

theorem info_flops : (Try.prog.info? 82).map (fun i => (i.zero, i.size, i.bytes)) = some (some (.agg #[.string ⟨#[]⟩, .int .i64 0, .int .i64 0, .int .i64 0, .bool false]), k82.sz, 48) := by kernel_rfl
set_option maxHeartbeats 2000000 in
theorem clone_flops (A : Option Addr) (c : Nat) (ys : List S82) (w : World) (h : Kd.C k82 w A ys.length ys) (hmax : ys.length * 48 ≤ 140737488355328) :
    Calls Try.prog 54 #[.slice A ys.length c] w fun e w' => ∃ v, e = .returned v ∧ Kd.R k82 82 w' w.heap.size (fun _ => True) v ys ∧ Below w.heap.size w w' := by
  have hu := Try.underlying23
  rcases A with _ | ad
  · obtain rfl := kd_nil h
    go_enter Try.func54, Try.ntmps54
    have heq : ∀ W : World, (binOp .eql 23 (.slice none 0 c) (.slice none 0 0)).run Try.prog W = .ok (.bool true) W := fun W => Lib.run_eql_slice_nil_nil W 0 c hu
    go_wp2
    go_ret
    exact ⟨_, rfl, Kd.R_nil _ _ _ _ _, Below.refl _ _⟩
  · have heq : ∀ W : World, (binOp .eql 23 (.slice (some ad) ys.length c) (.slice none 0 0)).run Try.prog W = .ok (.bool false) W := fun W => Lib.run_eql_slice_nil W _ _ _ _ _ _ _ hu
    have hf := kd_fresh k82 82 w w.heap.size (Nat.le_refl _)
    have hW : Below w.heap.size w (w.alloc (.cells #[] 82)) := (Below.refl _ _).alloc (Nat.le_refl _) _
    go_enter Try.func54, Try.ntmps54
    go_wp2_with (at_builtin; refine Kd.R_append_rows k82 (Rr := k82.K w) (w0 := w) w.heap.size rfl (.tmp 5) (.tmp 6) 23 82 _ 48 rfl Try.underlying23 info_flops rfl (Nat.succ_pos _) (by decide) _ [] ys (some ad) ys.length c (fun _ => True) (fun _ => False) rfl rfl hf ?hR (fun _ _ hK => (by obtain rfl := k82_open hK; exact k82_mkM _ _ _ _)) (fun _ hk => hk.elim) (fun _ _ => trivial) hW (by simp) (by simpa using hmax) ?_; (case hR => exact { h.imp_ hW (fun _ _ hK => hK) with }); intro v1 w1 hR1 hB1 hg1 hat1)
    go_ret
    exact ⟨_, rfl, hR1, hB1⟩

theorem info_gates : (Try.prog.info? 80).map (fun i => (i.zero, i.size, i.bytes)) = some (some (.agg #[.int .i64 0, .int .u64 0, .slice none 0 0]), 3, 40) := by kernel_rfl
set_option maxHeartbeats 2000000 in
theorem clone_gates (A : Option Addr) (c : Nat) (ys : List S80) (w0 w : World) (hb0 : Below w0.heap.size w0 w) (h : Kd.C k80 w0 A ys.length ys) (hmax : ys.length * 40 ≤ 140737488355328) :
    Calls Try.prog 55 #[.slice A ys.length c] w fun e w' => ∃ v, e = .returned v ∧ Kd.R (kGateF w0) 80 w' w.heap.size (fun _ => True) v ys ∧ Below w.heap.size w w' := by
  have hu := Try.underlying24
  rcases A with _ | ad
  · obtain rfl := kd_nil h
    go_enter Try.func55, Try.ntmps55
    have heq : ∀ W : World, (binOp .eql 24 (.slice none 0 c) (.slice none 0 0)).run Try.prog W = .ok (.bool true) W := fun W => Lib.run_eql_slice_nil_nil W 0 c hu
    go_wp2
    go_ret
    exact ⟨_, rfl, Kd.R_nil _ _ _ _ _, Below.refl _ _⟩
  · have heq : ∀ W : World, (binOp .eql 24 (.slice (some ad) ys.length c) (.slice none 0 0)).run Try.prog W = .ok (.bool false) W := fun W => Lib.run_eql_slice_nil W _ _ _ _ _ _ _ hu
    have hf := kd_fresh (kGateF w0) 80 w w.heap.size (Nat.le_refl _)
    have hW : Below w.heap.size w (w.alloc (.cells #[] 80)) := (Below.refl _ _).alloc (Nat.le_refl _) _
    go_enter Try.func55, Try.ntmps55
    go_wp2_with (at_builtin; refine Kd.R_append_rows (kGateF w0) (Rr := k80.K w0) (w0 := w) w.heap.size rfl (.tmp 5) (.tmp 6) 24 80 _ 40 rfl Try.underlying24 info_gates rfl (Nat.succ_pos _) (by decide) _ [] ys (some ad) ys.length c (fun _ => True) (fun _ => False) rfl rfl hf ?hR (fun _ _ hK => kGateF_mk hK) (fun _ hk => hk.elim) (fun _ _ => trivial) hW (by simp) (by simpa using hmax) ?_; (case hR => exact { h.imp_ (hb0.trans (hW.mono hb0.size)) (fun _ _ hK => hK) with }); intro v1 w1 hR1 hB1 hg1 hat1)
    go_ret
    exact ⟨_, rfl, hR1, hB1⟩
end Go.Proofs.Ytimjccfpobhpeaa
/- A region that draws its order, with operations that read what nobody in the region writes, and operations that come up in one order alone: the readers first, then the others as a list. -/
namespace Go.Proofs.Ytimjccfpobhpeaa
open Go.RowKit

/-- An operation that hands back a value, or stops: no call of a Go function, no send, no panic's way. -/
def rdr (o : Oper) : Bool :=
  match o.op with
  | .move _ | .assign _ | .pick _ _ _ | .load _ _ | .binOp _ _ _ _ _ | .unOp _ _ _ | .convert _ _ _ | .slice _ _ _ _ _ | .fieldAddr _ _ _ | .field _ _ _ | .indexAddr _ _ _ | .index _ _ _
  | .lookup _ _ _ _ | .extract _ _ | .build _ _ | .makeFunc _ _ _ | .makeInterface _ _ => true
  | .call c => (match c.callee with | .builtin .len => true | _ => false)
  | _ => false
def pickB : List Bool → List Oper → List Oper
  | true :: m, o :: l => o :: pickB m l
  | false :: m, _ :: l => pickB m l
  | _, _ => []
def dropB : List Bool → List Oper → List Oper
  | true :: m, _ :: l => dropB m l
  | false :: m, o :: l => o :: dropB m l
  | _, _ => []
def readersB (md : Region.Mode) (ops : Array Oper) : List Bool → Nat → Array Bool → Bool
  | [], _, _ => true
  | true :: m, k, listed => (Region.ready md ops listed).contains k && Region.free md ops listed k && ((ops[k]?).map rdr).getD false && readersB md ops m (k + 1) (listed.setIfInBounds k true)
  | false :: m, k, listed => readersB md ops m (k + 1) listed
def listedB : List Bool → Nat → Array Bool → Array Bool
  | [], _, listed => listed
  | true :: m, k, listed => listedB m (k + 1) (listed.setIfInBounds k true)
  | false :: m, k, listed => listedB m (k + 1) listed
def effectsB (md : Region.Mode) (ops : Array Oper) : List Bool → Nat → Array Bool → Bool
  | [], _, listed => (Region.ready md ops listed).isEmpty
  | false :: m, k, listed => (Region.ready md ops listed == [k]) && effectsB md ops m (k + 1) (listed.setIfInBounds k true)
  | true :: m, k, listed => effectsB md ops m (k + 1) listed
def splitB (md : Region.Mode) (ops : Array Oper) (m : List Bool) : Bool :=
  Region.noSelect ops && (m.length == ops.size) && readersB md ops m 0 (Array.replicate ops.size false) && effectsB md ops m 0 (listedB m 0 (Array.replicate ops.size false))

section
variable {P : Program} {ops : Array Oper} {S : World → Prop} {Q : Exit → Act → World → Prop} {md : Region.Mode}
/-- The others, one behind another; S stands behind each. -/
def wpListS (P : Program) (ops : Array Oper) (S : World → Prop) (Q : Exit → Act → World → Prop) : List Oper → Act → World → Prop
  | [], a, w => Q .normal a w
  | o :: rest, a, w => if Region.wanted o (yielded ops a.tmps) then o.wp P a w (fun a' w' => S w' ∧ wpListS P ops S Q rest a' w') Q ∨ (o.asks P a w ∧ LetsOut Q) else wpListS P ops S Q rest (a.put o.dst undef) w

theorem quiet_reads {o : Oper} {a : Act} {w : World} {v : Value} (hr : rdr o = true) (h : o.quietAt P a S w v) : (execOp a.eval o).run P w = .ok (.value v) w := by
  have vform : ∀ (s : Sem Value), Oper.quietUpon P S w v ((do pure (Next.value (← s))).run P w) → ((do pure (Next.value (← s))).run P w) = .ok (.value v) w := by
    intro s hs
    simp only [Sem.run_bind, Sem.run_pure] at hs ⊢
    cases hsr : s.run P w with
    | ok u w' =>
      rw [hsr] at hs
      simp only [Result.andThen_ok, Oper.quietUpon] at hs ⊢
      rw [hs.1, hs.2]
    | halt x w' =>
      rw [hsr] at hs
      simp [Result.andThen, Oper.quietUpon] at hs
  unfold Oper.quietAt at h
  unfold rdr at hr
  unfold execOp at h ⊢
  cases hop : o.op
  all_goals rw [hop] at hr
  all_goals simp only [hop] at h ⊢
  all_goals first | (simp at hr; done) | exact vform _ h | skip
  case move x => simpa [Oper.quietUpon, eq_comm] using h
  case assign x => simpa [Oper.quietUpon, eq_comm] using h
  case pick c x y =>
    simp only [Sem.run_bind, Sem.run_pure] at h ⊢
    cases hsr : (asBool (a.eval c)).run P w with
    | ok u w' =>
      rw [hsr] at h
      simp only [Result.andThen_ok, Oper.quietUpon] at h ⊢
      rw [h.1, h.2]
    | halt x w' =>
      rw [hsr] at h
      simp [Result.andThen, Oper.quietUpon] at h
  case call c =>
    obtain ⟨callee, args, tys⟩ := c
    cases callee with
    | value f => simp at hr
    | invoke r m => simp at hr
    | builtin b =>
      cases b
      all_goals first | (simp at hr; done) | skip
      simp only [resolve, Sem.run_bind, Sem.run_pure, Result.andThen_ok, invoke, builtin] at h ⊢
      have hv := vform (Builtin.len_ tys o.type (args.map a.eval)) (by simp only [Sem.run_bind, Sem.run_pure]; exact h)
      simpa only [Sem.run_bind, Sem.run_pure] using hv

theorem mix_readers {w : World} (hs : Region.noSelect ops = true) (hS : S w) (hQ : ∀ c a d v w, Q (.panic c) (Act.put a d v) w → Q (.panic c) a w) {G : Act → Prop} {n : Nat} :
    ∀ (m : List Bool) (l : List Oper) (k : Nat) (listed : Array Bool) (a : Act), (∀ j, l[j]? = ops[k + j]?) → readersB md ops m k listed = true →
      (∀ a', G a' → wpAnyH P md ops Q S n (listedB m k listed) a' w) → wpQuiet P ops S G (pickB m l) a → wpAnyH P md ops Q S ((m.filter id).length + n) listed a w
  | [], l, k, listed, a, _, _, hG, h => by
    simp only [pickB] at h
    simpa [listedB] using hG a h
  | true :: m, [], k, listed, a, hl, hB, _, _ => by
    simp only [readersB, Bool.and_eq_true] at hB
    have := hl 0
    simp only [List.getElem?_nil, Nat.add_zero] at this
    rw [← this] at hB
    simp at hB
  | true :: m, o :: l, k, listed, a, hl, hB, hG, h => by
    have h0 : ops[k]? = some o := by simpa using (hl 0).symm
    simp only [readersB, Bool.and_eq_true, h0, Option.map_some, Option.getD_some] at hB
    obtain ⟨⟨⟨hr, hf⟩, hrd⟩, hB'⟩ := hB
    have hl' : ∀ j, l[j]? = ops[k + 1 + j]? := fun j => by have := hl (j + 1); simpa [Nat.add_assoc, Nat.add_comm 1 j] using this
    simp only [pickB, wpQuiet] at h
    rw [show ((true :: m).filter id).length + n = ((m.filter id).length + n) + 1 by simp; omega]
    by_cases hw : Region.wanted o (yielded ops a.tmps) = true
    · rw [if_pos hw] at h
      obtain ⟨v, hv, hn⟩ := h
      refine wpAnyH_take (v := v) h0 hs hf (by simpa using hr) (fun c a w => hQ c a _ _ w) (.inl ⟨hw, fun w' hw' => quiet_reads hrd (hv w' hw')⟩) hS ?_
      exact mix_readers hs hS hQ m l (k + 1) _ _ hl' hB' hG hn
    · rw [if_neg hw] at h
      refine wpAnyH_take (v := undef) h0 hs hf (by simpa using hr) (fun c a w => hQ c a _ _ w) (.inr ⟨by simpa using hw, rfl⟩) hS ?_
      exact mix_readers hs hS hQ m l (k + 1) _ _ hl' hB' hG h
  | false :: m, [], k, listed, a, hl, hB, hG, h => by
    have hp : pickB (false :: m) [] = pickB m [] := by cases m with | nil => rfl | cons b m => cases b <;> rfl
    rw [hp] at h
    have := mix_readers (w := w) hs hS hQ m [] (k + 1) listed a (fun j => by
      have hsz := hl 0
      simp only [List.getElem?_nil, Nat.add_zero] at hsz
      have : ops.size ≤ k := by rcases Nat.lt_or_ge k ops.size with hlt | hge
                                · rw [Array.getElem?_eq_getElem hlt] at hsz; cases hsz
                                · exact hge
      rw [Array.getElem?_eq_none (by omega)]; rfl) hB hG h
    simpa using this
  | false :: m, o :: l, k, listed, a, hl, hB, hG, h => by
    have := mix_readers hs hS hQ m l (k + 1) listed a (fun j => by have := hl (j + 1); simpa [Nat.add_assoc, Nat.add_comm 1 j] using this) hB hG h
    simpa using this

theorem mix_effects : ∀ (m : List Bool) (l : List Oper) (k : Nat) (listed : Array Bool) (a : Act) (w : World), m.length = l.length → (∀ j, l[j]? = ops[k + j]?) → S w → effectsB md ops m k listed = true →
      wpListS P ops S Q (dropB m l) a w → wpAnyH P md ops Q S ((m.filter (!·)).length) listed a w
  | [], [], k, listed, a, w, _, _, _, hB, h => by
    simp only [effectsB, List.isEmpty_iff] at hB
    exact wpAnyH_done hB h _
  | [], _ :: _, _, _, _, _, hm, _, _, _, _ => by simp at hm
  | _ :: _, [], _, _, _, _, hm, _, _, _, _ => by simp at hm
  | true :: m, o :: l, k, listed, a, w, hm, hl, hS, hB, h => by
    have := mix_effects m l (k + 1) listed a w (by simpa using hm) (fun j => by have := hl (j + 1); simpa [Nat.add_assoc, Nat.add_comm 1 j] using this) hS hB h
    simpa using this
  | false :: m, o :: l, k, listed, a, w, hm, hl, hS, hB, h => by
    have h0 : ops[k]? = some o := by simpa using (hl 0).symm
    simp only [effectsB, Bool.and_eq_true, beq_iff_eq] at hB
    have hl' : ∀ j, l[j]? = ops[k + 1 + j]? := fun j => by have := hl (j + 1); simpa [Nat.add_assoc, Nat.add_comm 1 j] using this
    simp only [dropB, wpListS] at h
    rw [show ((false :: m).filter (!·)).length = (m.filter (!·)).length + 1 by simp]
    refine wpAnyH_all hB.1 (by simp) fun i hi => ?_
    simp only [List.mem_singleton] at hi
    subst hi
    unfold wpOp
    simp only [h0]
    by_cases hw : Region.wanted o (yielded ops a.tmps) = true
    · rw [if_pos hw] at h
      rw [if_pos hw]
      rcases h with h | h
      case inr => exact .inr h
      refine .inl (Oper.wp_mono (fun a' w' h' => ⟨h'.1, ?_⟩) h)
      exact mix_effects m l _ _ a' w' (by simpa using hm) hl' h'.1 hB.2 h'.2
    · rw [if_neg hw] at h
      rw [if_neg hw]
      exact ⟨hS, mix_effects m l _ _ _ w (by simpa using hm) hl' hS hB.2 h⟩

theorem filter_both (m : List Bool) : (m.filter id).length + (m.filter (!·)).length = m.length := by
  induction m with
  | nil => rfl
  | cons b m ih => cases b <;> simp only [List.filter_cons, id, Bool.not_true, Bool.not_false, if_true, Bool.false_eq_true, if_false, List.length_cons] <;> omega

/-- THE REGION. m: which operations are taken first. -/
theorem wp_region_split {id : Nat} {a : Act} {w : World} {l : List Oper} (S : World → Prop) (m : List Bool) (hm : P.follows .mixedOrders = true) (hB : splitB .any l.toArray m = true) (hS : S w.drew)
    (hQ : ∀ c a d v w, Q (.panic c) (Act.put a d v) w → Q (.panic c) a w)
    (h : wpQuiet P l.toArray S (fun a' => wpListS P l.toArray S Q (dropB m l) a' w.drew) (pickB m l) a) : (Code.region id l.toArray true).wp P Q a w := by
  simp only [splitB, Bool.and_eq_true, beq_iff_eq] at hB
  obtain ⟨⟨⟨hs, hlen⟩, hR⟩, hE⟩ := hB
  refine wp_region_held (S := S) hm ?_
  have hlen' : m.length = l.length := by simpa using hlen
  have key := mix_readers (P := P) (Q := Q) (md := .any) (w := w.drew) (n := (m.filter (!·)).length) hs hS hQ m l 0 (Array.replicate l.toArray.size false) a (fun j => by simp) hR
    (fun a' ha' => mix_effects m l 0 _ a' w.drew hlen' (fun j => by simp) hS hE ha') h
  rw [filter_both, hlen] at key
  exact key

theorem wpListS_nil {a : Act} {w : World} (h : Q .normal a w) : wpListS P ops S Q [] a w := h
def oneBy (S : World → Prop) (N : Act → World → Prop) (Q : Exit → Act → World → Prop) : Exit → Act → World → Prop
  | .normal, a, w => S w ∧ N a w
  | .exit i, a, w => Q (.exit i) a w
  | .goto l, a, w => Q (.goto l) a w
  | .ret, a, w => Q .ret a w
  | .panic c, a, w => Q (.panic c) a w
  | .outgrown, a, w => Q .outgrown a w
theorem upon_oneBy {N : Act → World → Prop} {o : Oper} {a : Act} {K : Act → World → Prop} {r : Result Next} : o.upon P a K (oneBy S N Q) r = o.upon P a K Q r := by
  cases r with
  | ok n w' => cases n <;> rfl
  | halt x w' => cases x <;> rfl
/-- One of the others: as a list of one, what follows behind a variable. -/
theorem wpListS_step {o : Oper} {rest : List Oper} {a : Act} {w : World} (h : ∀ Q', (∀ a' w', S w' ∧ wpListS P ops S Q rest a' w' → Q' .normal a' w') → wpList P ops Q' [o] a w) (_hS : S w) : wpListS P ops S Q (o :: rest) a w := by
  have h1 := h (oneBy S (wpListS P ops S Q rest) Q) (fun _ _ h => h)
  rw [wpListS]
  rw [wpList] at h1
  split
  · rename_i hw
    rw [if_pos hw] at h1
    rcases h1 with h1 | h1
    · refine .inl ?_
      unfold Oper.wp at h1 ⊢
      rw [upon_oneBy] at h1
      exact h1
    · exact .inr h1
  · rename_i hw
    rw [if_neg hw] at h1
    exact h1.2
end
end Go.Proofs.Ytimjccfpobhpeaa
/- As Split, for a region whose last operation waits for all others: what the readers lean on need not stand behind it. -/
namespace Go.Proofs.Ytimjccfpobhpeaa
open Go.RowKit

section
variable {P : Program} {ops : Array Oper} {S : World → Prop} {Q : Exit → Act → World → Prop} {md : Region.Mode} {last : Nat}
def wpAnyT (P : Program) (md : Region.Mode) (ops : Array Oper) (Q : Exit → Act → World → Prop) (S : World → Prop) (last : Nat) : Nat → Array Bool → Act → World → Prop
  | 0, listed, a, w => Region.ready md ops listed = [] ∧ Q .normal a w
  | fuel + 1, listed, a, w =>
    (Region.ready md ops listed = [] → Q .normal a w) ∧
    ∀ i ∈ Region.ready md ops listed, wpOp P ops Q i (fun a' w' => (i = last ∨ S w') ∧ wpAnyT P md ops Q S last fuel (listed.setIfInBounds i true) a' w') a w
theorem anyT : ∀ (fuel : Nat) (listed : Array Bool) (a : Act) (w : World), wpAnyT P md ops Q S last fuel listed a w → wpAny P md ops Q fuel listed a w
  | 0, _, _, _, h => h
  | fuel + 1, _, _, _, h => ⟨h.1, fun i hi => wpOp_mono (fun a' w' h' => anyT fuel _ a' w' h'.2) (h.2 i hi)⟩
def waitsFor (md : Region.Mode) (ops : Array Oper) (last i : Nat) : Bool := match ops[last]? with
  | none => false
  | some o => o.after.any fun e => Region.binds md e && e.on == i

/-- A reader that is ready may come first. -/
theorem anyT_first {i : Nat} {oi : Oper} {v : Value} (hi : ops[i]? = some oi) (hs : Region.noSelect ops = true) (hw : waitsFor md ops last i = true) (hQ : ∀ c a w, Q (.panic c) (a.put oi.dst v) w → Q (.panic c) a w) :
    ∀ (fuel : Nat) (listed : Array Bool) (a : Act) (w : World),
      (∀ j oj, ops[j]? = some oj → j ≠ i → listed.getD j true = false → (∀ e ∈ oj.after, Region.binds md e = true → e.on ≠ i) → oi.apart ops oj = true) →
      i ∈ Region.ready md ops listed → YieldsIf P ops S oi v a → S w → wpAnyT P md ops Q S last fuel (listed.setIfInBounds i true) (a.put oi.dst v) w → wpAnyT P md ops Q S last (fuel + 1) listed a w := by
  have hsel := Region.noSelect_spec hs
  have hnl : ∀ listed : Array Bool, i ∈ Region.ready md ops listed → last ∈ Region.ready md ops listed → False := by
    intro listed hir hlr
    obtain ⟨hun, _⟩ := mem_ready.1 hir
    obtain ⟨_, ol, hol, hall⟩ := mem_ready.1 hlr
    simp only [waitsFor, hol, Array.any_eq_true] at hw
    obtain ⟨k, hk, hbk⟩ := hw
    simp only [Bool.and_eq_true, beq_iff_eq] at hbk
    have h1 := hall _ (Array.getElem_mem hk) hbk.1
    rw [hbk.2] at h1
    rcases Nat.lt_or_ge i listed.size with hlt | hge
    · simp only [Array.getD_eq_getD_getElem?, Array.getElem?_eq_getElem hlt, Option.getD_some] at h1 hun
      rw [hun] at h1; cases h1
    · simp [Array.getElem?_eq_none hge] at h1
  intro fuel
  induction fuel with
  | zero =>
    intro listed a w _ hr hy hS H
    refine ⟨fun h0 => (by rw [h0] at hr; cases hr), fun j hj => ?_⟩
    by_cases hji : j = i
    · subst hji
      exact hy.wpOp hi hS ⟨.inr hS, H⟩
    · have h0 := ready_mono hj hji
      rw [H.1] at h0
      cases h0
  | succ fuel ih =>
    intro listed a w hfree hr hy hS H
    refine ⟨fun h0 => (by rw [h0] at hr; cases hr), fun j hj => ?_⟩
    by_cases hji : j = i
    · subst hji
      exact hy.wpOp hi hS ⟨.inr hS, H⟩
    · have hjl : j ≠ last := fun e => hnl listed hr (e ▸ hj)
      obtain ⟨hjun, oj, hoj, hall⟩ := mem_ready.1 hj
      have hnot : ∀ e ∈ oj.after, Region.binds md e = true → e.on ≠ i := fun e he hb heq => by
        have h1 := hall e he hb
        have h0 := (mem_ready.1 hr).1
        rw [heq] at h1
        rcases Nat.lt_or_ge i listed.size with hlt | hge
        · simp only [Array.getD_eq_getD_getElem?, Array.getElem?_eq_getElem hlt, Option.getD_some] at h1 h0
          rw [h0] at h1; cases h1
        · simp [Array.getElem?_eq_none hge] at h1
      have h2 := wpOp_putIf hoj (hfree j oj hoj hji hjun hnot) (fun cs b => hsel i oi cs b hi) (fun cs b => hsel j oj cs b hoj) hQ hy (H.2 j (ready_mono hj hji))
      refine wpOp_mono (fun a' w' h3 => ?_) h2
      have hSw : S w' := h3.2.1.resolve_left hjl
      refine ⟨.inr hSw, ih (listed.setIfInBounds j true) a' w' ?_ (ready_mono hr (Ne.symm hji)) h3.1 hSw ?_⟩
      · intro k ok hk hki hun hno
        refine hfree k ok hk hki ?_ hno
        by_cases hjk : j = k
        · exact hjk ▸ hjun
        · rwa [getD_set_ne true hjk] at hun
      · rw [Array.setIfInBounds_comm _ _ hji]
        exact h3.2.2

def readersT (md : Region.Mode) (ops : Array Oper) (last : Nat) : List Bool → Nat → Array Bool → Bool
  | [], _, _ => true
  | true :: m, k, listed => (Region.ready md ops listed).contains k && Region.free md ops listed k && ((ops[k]?).map rdr).getD false && waitsFor md ops last k && readersT md ops last m (k + 1) (listed.setIfInBounds k true)
  | false :: m, k, listed => readersT md ops last m (k + 1) listed
def splitT (md : Region.Mode) (ops : Array Oper) (m : List Bool) : Bool :=
  Region.noSelect ops && (m.length == ops.size) && readersT md ops (ops.size - 1) m 0 (Array.replicate ops.size false) && effectsB md ops m 0 (listedB m 0 (Array.replicate ops.size false))

/-- The others, one behind another; S stands behind each but the last. -/
def wpListT (P : Program) (ops : Array Oper) (S : World → Prop) (Q : Exit → Act → World → Prop) : List Oper → Act → World → Prop
  | [], a, w => Q .normal a w
  | o :: rest, a, w => if Region.wanted o (yielded ops a.tmps) then o.wp P a w (fun a' w' => (rest = [] ∨ S w') ∧ wpListT P ops S Q rest a' w') Q ∨ (o.asks P a w ∧ LetsOut Q) else (rest = [] ∨ S w) ∧ wpListT P ops S Q rest (a.put o.dst undef) w

theorem mixT_readers {w : World} (hs : Region.noSelect ops = true) (hS : S w) (hQ : ∀ c a d v w, Q (.panic c) (Act.put a d v) w → Q (.panic c) a w) {G : Act → Prop} {n : Nat} :
    ∀ (m : List Bool) (l : List Oper) (k : Nat) (listed : Array Bool) (a : Act), (∀ j, l[j]? = ops[k + j]?) → m.length = l.length → readersT md ops last m k listed = true →
      (∀ a', G a' → wpAnyT P md ops Q S last n (listedB m k listed) a' w) → wpQuiet P ops S G (pickB m l) a → wpAnyT P md ops Q S last ((m.filter id).length + n) listed a w
  | [], l, k, listed, a, _, _, _, hG, h => by
    simp only [pickB] at h
    simpa [listedB] using hG a h
  | _ :: _, [], _, _, _, _, hm, _, _, _ => by simp at hm
  | true :: m, o :: l, k, listed, a, hl, hm, hB, hG, h => by
    have h0 : ops[k]? = some o := by simpa using (hl 0).symm
    simp only [readersT, Bool.and_eq_true, h0, Option.map_some, Option.getD_some] at hB
    obtain ⟨⟨⟨⟨hr, hf⟩, hrd⟩, hwt⟩, hB'⟩ := hB
    have hl' : ∀ j, l[j]? = ops[k + 1 + j]? := fun j => by have := hl (j + 1); simpa [Nat.add_assoc, Nat.add_comm 1 j] using this
    simp only [pickB, wpQuiet] at h
    rw [show ((true :: m).filter id).length + n = ((m.filter id).length + n) + 1 by simp; omega]
    by_cases hw : Region.wanted o (yielded ops a.tmps) = true
    · rw [if_pos hw] at h
      obtain ⟨v, hv, hn⟩ := h
      refine anyT_first (v := v) h0 hs hwt (fun c a w => hQ c a _ _ w) _ _ _ _ (Region.free_spec h0 hf) (by simpa using hr) (.inl ⟨hw, fun w' hw' => quiet_reads hrd (hv w' hw')⟩) hS ?_
      exact mixT_readers hs hS hQ m l (k + 1) _ _ hl' (by simpa using hm) hB' hG hn
    · rw [if_neg hw] at h
      refine anyT_first (v := undef) h0 hs hwt (fun c a w => hQ c a _ _ w) _ _ _ _ (Region.free_spec h0 hf) (by simpa using hr) (.inr ⟨by simpa using hw, rfl⟩) hS ?_
      exact mixT_readers hs hS hQ m l (k + 1) _ _ hl' (by simpa using hm) hB' hG h
  | false :: m, o :: l, k, listed, a, hl, hm, hB, hG, h => by
    have := mixT_readers hs hS hQ m l (k + 1) listed a (fun j => by have := hl (j + 1); simpa [Nat.add_assoc, Nat.add_comm 1 j] using this) (by simpa using hm) hB hG h
    simpa using this

theorem dropB_nil : ∀ (m : List Bool) (l : List Oper) (_k : Nat), m.length = l.length → dropB m l = [] → (m.filter (!·)) = []
  | [], _, _, _, _ => rfl
  | _ :: _, [], _, hm, _ => by simp at hm
  | true :: m, o :: l, k, hm, h => by simpa using dropB_nil m l k (by simpa using hm) h
  | false :: m, o :: l, k, hm, h => by simp [dropB] at h

theorem mixT_effects : ∀ (m : List Bool) (l : List Oper) (k : Nat) (listed : Array Bool) (a : Act) (w : World), m.length = l.length → (∀ j, l[j]? = ops[k + j]?) → k + l.length = ops.size → effectsB md ops m k listed = true →
      m.getLast? ≠ some true → (dropB m l = [] ∨ S w) → wpListT P ops S Q (dropB m l) a w → wpAnyT P md ops Q S (ops.size - 1) ((m.filter (!·)).length) listed a w
  | [], [], k, listed, a, w, _, _, _, hB, _, _, h => by
    simp only [effectsB, List.isEmpty_iff] at hB
    exact ⟨hB, h⟩
  | [], _ :: _, _, _, _, _, hm, _, _, _, _, _, _ => by simp at hm
  | _ :: _, [], _, _, _, _, hm, _, _, _, _, _, _ => by simp at hm
  | true :: m, o :: l, k, listed, a, w, hm, hl, hk, hB, hla, hS, h => by
    have := mixT_effects m l (k + 1) listed a w (by simpa using hm) (fun j => by have := hl (j + 1); simpa [Nat.add_assoc, Nat.add_comm 1 j] using this) (by simp at hk; omega) hB (by
      cases m with
      | nil => simp
      | cons b m => simpa using hla) hS h
    simpa using this
  | false :: m, o :: l, k, listed, a, w, hm, hl, hk, hB, hla, _, h => by
    have h0 : ops[k]? = some o := by simpa using (hl 0).symm
    simp only [effectsB, Bool.and_eq_true, beq_iff_eq] at hB
    have hl' : ∀ j, l[j]? = ops[k + 1 + j]? := fun j => by have := hl (j + 1); simpa [Nat.add_assoc, Nat.add_comm 1 j] using this
    have hm' : m.length = l.length := by simpa using hm
    have hk' : k + 1 + l.length = ops.size := by simp at hk; omega
    have hla' : m.getLast? ≠ some true := by
      cases m with
      | nil => simp
      | cons b m => simpa using hla
    have hend : dropB m l = [] → k = ops.size - 1 := by
      intro hd
      have hf := dropB_nil m l k hm' hd
      cases m with
      | nil => simp only [List.length_nil] at hm'; omega
      | cons b m =>
        exfalso
        obtain ⟨x, hx⟩ : ∃ x, (b :: m).getLast? = some x := ⟨_, List.getLast?_eq_some_getLast (List.cons_ne_nil b m)⟩
        have hxm : x ∈ b :: m := List.mem_of_getLast? hx
        have hxt : x = true := by
          cases x with
          | true => rfl
          | false => exact absurd (List.mem_filter.2 ⟨hxm, rfl⟩) (by rw [hf]; simp)
        exact hla' (hxt ▸ hx)
    simp only [dropB, wpListT] at h
    rw [show ((false :: m).filter (!·)).length = (m.filter (!·)).length + 1 by simp]
    refine ⟨fun h' => absurd (hB.1 ▸ h') (by simp), fun i hi => ?_⟩
    rw [hB.1, List.mem_singleton] at hi
    subst hi
    unfold wpOp
    simp only [h0]
    by_cases hw : Region.wanted o (yielded ops a.tmps) = true
    · rw [if_pos hw] at h
      rw [if_pos hw]
      rcases h with h | h
      case inr => exact .inr h
      refine .inl (Oper.wp_mono (fun a' w' h' => ⟨h'.1.imp hend id, ?_⟩) h)
      exact mixT_effects m l _ _ a' w' hm' hl' hk' hB.2 hla' h'.1 h'.2
    · rw [if_neg hw] at h
      rw [if_neg hw]
      exact ⟨h.1.imp hend id, mixT_effects m l _ _ _ w hm' hl' hk' hB.2 hla' h.1 h.2⟩

/-- THE REGION. m: which operations are taken first; the last one is none of them. -/
theorem wp_region_splitT {id : Nat} {a : Act} {w : World} {l : List Oper} (S : World → Prop) (m : List Bool) (hm : P.follows .mixedOrders = true) (hB : splitT .any l.toArray m = true) (hla : m.getLast? ≠ some true) (hS : S w.drew)
    (hQ : ∀ c a d v w, Q (.panic c) (Act.put a d v) w → Q (.panic c) a w)
    (h : wpQuiet P l.toArray S (fun a' => wpListT P l.toArray S Q (dropB m l) a' w.drew) (pickB m l) a) : (Code.region id l.toArray true).wp P Q a w := by
  simp only [splitT, Bool.and_eq_true, beq_iff_eq] at hB
  obtain ⟨⟨⟨hs, hlen⟩, hR⟩, hE⟩ := hB
  have hlen' : m.length = l.length := by simpa using hlen
  refine wp_region_any hm (anyT (S := S) (last := l.toArray.size - 1) _ _ _ _ ?_)
  have key := mixT_readers (P := P) (Q := Q) (md := .any) (last := l.toArray.size - 1) (w := w.drew) (n := (m.filter (!·)).length) hs hS hQ m l 0 (Array.replicate l.toArray.size false) a (fun j => by simp) hlen' hR
    (fun a' ha' => mixT_effects m l 0 _ a' w.drew hlen' (fun j => by simp) (by simp) hE hla (.inr hS) ha') h
  rw [filter_both, hlen] at key
  exact key

def oneByT (S : Prop → World → Prop) (N : Act → World → Prop) (Q : Exit → Act → World → Prop) (E : Prop) : Exit → Act → World → Prop
  | .normal, a, w => S E w ∧ N a w
  | .exit i, a, w => Q (.exit i) a w
  | .goto l, a, w => Q (.goto l) a w
  | .ret, a, w => Q .ret a w
  | .panic c, a, w => Q (.panic c) a w
  | .outgrown, a, w => Q .outgrown a w
theorem upon_oneByT {S' : Prop → World → Prop} {E : Prop} {N : Act → World → Prop} {o : Oper} {a : Act} {K : Act → World → Prop} {r : Result Next} : o.upon P a K (oneByT S' N Q E) r = o.upon P a K Q r := by
  cases r with
  | ok n w' => cases n <;> rfl
  | halt x w' => cases x <;> rfl
/-- One of the others, with more behind it. -/
theorem wpListT_step {o o2 : Oper} {rest : List Oper} {a : Act} {w : World} (h : ∀ Q', (∀ a' w', S w' ∧ wpListT P ops S Q (o2 :: rest) a' w' → Q' .normal a' w') → wpList P ops Q' [o] a w) : wpListT P ops S Q (o :: o2 :: rest) a w := by
  have h1 := h (oneByT (fun _ w => S w) (wpListT P ops S Q (o2 :: rest)) Q True) (fun _ _ h => h)
  rw [wpListT]
  rw [wpList] at h1
  split
  · rename_i hw
    rw [if_pos hw] at h1
    rcases h1 with h1 | h1
    · refine .inl ?_
      unfold Oper.wp at h1 ⊢
      rw [upon_oneByT] at h1
      have : (wpList P ops (oneByT (fun _ w => S w) (wpListT P ops S Q (o2 :: rest)) Q True) []) = fun a' w' => S w' ∧ wpListT P ops S Q (o2 :: rest) a' w' := rfl
      rw [this] at h1
      exact Oper.wp_mono (fun a' w' h' => ⟨.inr h'.1, h'.2⟩) h1
    · exact .inr h1
  · rename_i hw
    rw [if_neg hw] at h1
    exact ⟨.inr h1.1, h1.2⟩
/-- The last one. -/
theorem wpListT_last {o : Oper} {a : Act} {w : World} (h : ∀ Q', (∀ a' w', Q .normal a' w' → Q' .normal a' w') → wpList P ops Q' [o] a w) : wpListT P ops S Q [o] a w := by
  have h1 := h (oneByT (fun _ _ => True) (Q .normal) Q True) (fun _ _ h => ⟨trivial, h⟩)
  rw [wpListT]
  rw [wpList] at h1
  split
  · rename_i hw
    rw [if_pos hw] at h1
    rcases h1 with h1 | h1
    · refine .inl ?_
      unfold Oper.wp at h1 ⊢
      rw [upon_oneByT] at h1
      have : (wpList P ops (oneByT (fun _ _ => True) (Q .normal) Q True) []) = fun a' w' => True ∧ Q .normal a' w' := rfl
      rw [this] at h1
      exact Oper.wp_mono (fun a' w' h' => ⟨.inl rfl, h'.2⟩) h1
    · exact .inr h1
  · rename_i hw
    rw [if_neg hw] at h1
    exact ⟨.inl rfl, h1.2⟩
end
end Go.Proofs.Ytimjccfpobhpeaa
/- netlist.Loads: for each net the places where it is used. -/
namespace Go.Proofs.Ytimjccfpobhpeaa
open Go.RowKit Go.Proofs.YtimjccfpobhpeaaW.PrintWords Go.Proofs.Ytimjccfpobhpeaa.PF
set_option maxRecDepth 100000

abbrev kLoad := k77
abbrev Load := S77
theorem info_load : (Try.prog.info? 77).map (fun i => (i.zero, i.size, i.bytes)) = some (some (.agg #[.int .i64 0, .int .i64 0, .int .i64 0]), 3, 24) := by kernel_rfl
instance (w : World) (G : Nat → Prop) : Nonempty (But w G) := ⟨But.refl w G⟩
def useF (rows : List (List Load)) (net : Int) (l : Load) : List (List Load) := rows.set net.toNat (rows.getD net.toNat [] ++ [l])

set_option maxHeartbeats 4000000 in
theorem use_calls (g base : Nat) (w0 w : World) (v : Value) (rows : List (List Load)) (net : Int) (l : Load) (hb : w.heap[g]? = some (.cells #[v] 70 (0, 0)))
    (hS : Kd.S (Kd.slice 77 kLoad) 75 w base (fun _ => True) v rows) (h0 : 0 ≤ net) (h1 : net < rows.length) (hl : ((rows.getD net.toNat []).length + 1) * 24 ≤ 140737488355328) (hbase : base ≤ w.heap.size) (hB : Below base w0 w) :
    Calls Try.prog 53 #[.int .i64 net, .agg #[.int .i64 l.f0, .int .i64 l.f1, .int .i64 l.f2], .pointer (some ⟨g, 0, none⟩)] w fun e w' => e = .returned (.tuple #[]) ∧
      w'.heap[g]? = some (.cells #[v] 70 (0, 0)) ∧ Kd.S (Kd.slice 77 kLoad) 75 w' base (fun _ => True) v (useF rows net l) ∧ Below base w0 w' ∧ w.heap.size ≤ w'.heap.size ∧
      ∀ (k : Nat) (t : TypeId) (cs : Array Value), w.heap[k]? = some (.cells cs t (0, 0)) → t ≠ 75 → t ≠ 77 → w'.heap[k]? = w.heap[k]? := by
  have hu := Try.underlying77
  have hg : g < w.heap.size := (Array.getElem?_eq_some_iff.1 hb).1
  have hc0 := cell_of_row w g 0 _ _ _ hb
  simp at hc0
  have hpos : 0 < rows.length := by omega
  obtain ⟨gv, cap, rfl, hgv, hgvl, cells, hgvb⟩ := Kd.S_form hS hpos
  have hne : g ≠ gv := by
    rintro rfl
    rw [hb] at hgvb
    injection hgvb with hgvb
    injection hgvb with _ hgvb
    exact absurd hgvb (by decide)
  have hS1 := Kd.S_drew (Kd.S_alloc hS (.cells #[.int .i64 l.f0, .int .i64 l.f1, .int .i64 l.f2] 77))
  have hgvl2 : gv ≤ w.heap.size := by omega
  have hgvn : gv ≠ w.heap.size := by omega
  have hgn : g ≠ w.heap.size := by omega
  unfold useF
  obtain ⟨ri, hri⟩ : ∃ ri, rows.getD net.toNat [] = ri := ⟨_, rfl⟩
  rw [hri] at hl ⊢
  have hrih := Lib.hid hri
  obtain ⟨oki, c, hcl, hM, hcc, hfr, hoki, hH⟩ := Kd.S_elem hS [] net h0 h1
  rw [hri] at hM
  clear hri
  obtain ⟨vi, rfl, hR⟩ := hM
  have hci := hcc 0 vi rfl
  simp only [Kd.slice, Nat.mul_one, Nat.add_zero] at hci
  obtain ⟨oi, hoi⟩ : ∃ oi, vi.ownBlock = oi := ⟨_, rfl⟩
  have hoil : ∀ k, oi = some k → k < w.heap.size ∧ k ≠ gv ∧ k ≠ g := by
    intro k hk
    have h1 := hoki k (hR.1 k (hoi.trans hk))
    obtain ⟨cells, ht⟩ := Kd.R_typed hR k (hoi.trans hk)
    have hk0 := Kd.R_lt hR k (hoi.trans hk)
    refine ⟨hk0, h1.2, ?_⟩
    rintro rfl
    rw [hb] at ht
    injection ht with ht
    injection ht with _ ht
    exact absurd ht (by decide)
  have n1 : ¬ oi = some gv := fun e => (hoil _ e).2.1 rfl
  have n2 : ¬ oi = some g := fun e => (hoil _ e).2.2 rfl
  have n3 : ¬ oi = some w.heap.size := fun e => by have := (hoil _ e).1; omega
  obtain ⟨Ai, ci, rfl⟩ := Kd.R_slice hR
  have hRh := Lib.hid hR
  have hoih := Lib.hid hoi
  clear hR hoi
  go_enter Try.func53, Try.ntmps53
  go_wp2
  refine wp_region_splitT (fun w' => ∃ x : But (w.alloc (.cells #[.int .i64 l.f0, .int .i64 l.f1, .int .i64 l.f2] 77)) (fun k => oi = some k), w' = x.val) [true, true, true, true, true, true, true, false, false, false, false] (by kernel_rfl) (by kernel_rfl) (by decide) ⟨(But.refl _ _).drew, rfl⟩ (fun _ _ d _ _ h => by cases d <;> exact h) ?_
  simp only [pickB, dropB]
  repeat (go_big_quiet_step (fail))
  refine wpQuiet_nil ?_
  refine wpListT_step (fun Q' hQ' => ?_)
  go_wp2_with fail
  refine ⟨⟨((But.refl _ _).drew).alloc _, rfl⟩, ?_⟩
  refine wpListT_step (fun Q' hQ' => ?_)
  have hW : Is w (w.alloc (.cells #[.int .i64 l.f0, .int .i64 l.f1, .int .i64 l.f2] 77)).drew := ((Is.refl w).alloc _).drew
  have hR2 := Kd.R_below hRh.out hW.below
  have hp : kLoad.M (w.alloc (.cells #[.int .i64 l.f0, .int .i64 l.f1, .int .i64 l.f2] 77)).drew base (fun _ => False) l [.int .i64 l.f0, .int .i64 l.f1, .int .i64 l.f2] := k77_mkM _ _ _ l
  rw [show ((w.alloc (.cells #[.int .i64 l.f0, .int .i64 l.f1, .int .i64 l.f2] 77)).alloc (.cells #[.int .i64 l.f0, .int .i64 l.f1, .int .i64 l.f2] 77)).drew = ((w.alloc (.cells #[.int .i64 l.f0, .int .i64 l.f1, .int .i64 l.f2] 77)).drew).alloc (.cells #[.int .i64 l.f0, .int .i64 l.f1, .int .i64 l.f2] 77) from rfl]
  have hwid := Kd.H_widen hH
  have hsz : (w.alloc (.cells #[.int .i64 l.f0, .int .i64 l.f1, .int .i64 l.f2] 77)).drew.heap.size = w.heap.size + 1 := by simp
  have hR2' := Kd.R_mono (ok' := fun k => oki k ∨ True ∧ w.heap.size ≤ k) hR2 (fun k hk => .inl hk)
  refine Kd.R_append kLoad (w0 := w0) base rfl (.tmp 10) (.tmp 12) 75 77 _ 24 rfl Try.underlying75 info_load rfl (by decide) (by decide) _ _ l _ (fun k => oki k ∨ True ∧ w.heap.size ≤ k) (fun _ => False) rfl (by rw [hsz]; rfl) hp (fun k h => h.elim) (fun k hk => .inr ⟨trivial, by omega⟩) hR2' ((hB.alloc hbase _).drew) (by omega) hl ?_
  intro v1 w1 hR3 hB3 hg3 hat3
  refine wpList_nil ?_
  refine hQ' _ _ ⟨?_, ?_⟩
  · refine ⟨⟨w1, hg3.os.trans rfl, hg3.tape.trans rfl, hg3.output.trans rfl, Nat.le_trans (by simp) hg3.size, fun k hk hG => (hg3.block k hk (fun e => hG (hoih.out ▸ e.symm))).trans rfl⟩, rfl⟩
  have hH3 := Kd.H_grown (Kd.H_below hwid hW.below) hg3 (fun k hk => .inl ((hRh.out.1 k hk)))
  obtain ⟨A3, c3, rfl⟩ := Kd.R_slice hR3
  rw [show (ri ++ [l]).length = ri.length + 1 by simp] at hR3
  have hgv3 : gv < w1.heap.size := Nat.lt_of_lt_of_le hgvl (Nat.le_trans (by simp) hg3.size)
  refine wpListT_step (fun Q' hQ' => ?_)
  go_wp2_with fail
  refine ⟨⟨⟨w1, hg3.os.trans rfl, hg3.tape.trans rfl, hg3.output.trans rfl, Nat.le_trans (by simp) hg3.size, fun k hk hG => (hg3.block k hk (fun e => hG (hoih.out ▸ e.symm))).trans rfl⟩, rfl⟩, ?_⟩
  refine wpListT_last (fun Q' hQ' => ?_)
  refine Kd.H_store (Kd.slice 77 kLoad) (w0 := w0) base rfl rfl 75 (.tmp 14) (.tmp 13) rfl 75 net 0 rows (ri ++ [l]) (.slice A3 (ri.length + 1) c3) [.slice A3 (ri.length + 1) c3] _ (fun _ => True) _ _ rfl (by simp [Kd.slice]) rfl rfl (by kernel_rfl) (by simp [Value.oneCell']) hH3 h0 h1 (by simp [Kd.slice]) ⟨_, rfl, hR3⟩ (fun k hk => hk) hB3 ?_
  intro w2 hS2 hB2 hg2
  refine wpList_nil ?_
  refine hQ' _ _ ?_
  go_end0
  refine ⟨rfl, ?_, hS2, hB2, Nat.le_trans (Nat.le_trans (by simp) hg3.size) hg2.size, fun k t cs hk ht1 ht2 => ?_⟩
  rotate_left
  · have hkl := (Array.getElem?_eq_some_iff.1 hk).1
    have e1 := hg2.block k (Nat.lt_of_lt_of_le hkl (Nat.le_trans (by simp) hg3.size)) (fun e => by
      injection e with e
      subst e
      rw [hgvb] at hk
      injection hk with hk
      injection hk with _ hk
      exact ht1 hk.symm)
    have e2 := hg3.block k (by rw [hsz]; omega) (fun e => by
      obtain ⟨_, ht⟩ := Kd.R_typed hRh.out k e.symm
      rw [hk] at ht
      injection ht with ht
      injection ht with _ ht
      exact ht2 ht)
    exact e1.trans (e2.trans (Below.heap_alloc w _ k hkl))
  have e1 := hg2.block g (Nat.lt_of_lt_of_le hg (Nat.le_trans (by simp) hg3.size)) (fun e => hne (by injection e))
  have e2 := hg3.block g (by rw [hsz]; omega) (fun e => n2 (hoih.out ▸ e.symm))
  exact e1.trans (e2.trans ((Below.heap_alloc w _ g hg).trans hb))
end Go.Proofs.Ytimjccfpobhpeaa
/- As SplitT, for a region in which two operations that write may come in either order. -/
namespace Go.Proofs.Ytimjccfpobhpeaa
open Go.RowKit

section
variable {P : Program} {ops : Array Oper} {S : World → Prop} {Q : Exit → Act → World → Prop} {md : Region.Mode} {last : Nat}
theorem wpOp_of_list {o : Oper} {i : Nat} {a : Act} {w : World} {N : Act → World → Prop} (hi : ops[i]? = some o) (h : ∀ Q', (∀ a' w', N a' w' → Q' .normal a' w') → wpList P ops Q' [o] a w) : wpOp P ops Q i N a w := by
  have h1 := h (oneByT (fun _ _ => True) N Q True) (fun _ _ h => ⟨trivial, h⟩)
  unfold wpOp
  simp only [hi]
  rw [wpList] at h1
  split
  · rename_i hw
    rw [if_pos hw] at h1
    rcases h1 with h1 | h1
    · refine .inl ?_
      unfold Oper.wp at h1 ⊢
      rw [upon_oneByT] at h1
      have : (wpList P ops (oneByT (fun _ _ => True) N Q True) []) = fun a' w' => True ∧ N a' w' := rfl
      rw [this] at h1
      exact Oper.wp_mono (fun a' w' h' => h'.2) h1
    · exact .inr h1
  · rename_i hw
    rw [if_neg hw] at h1
    exact h1.2
theorem anyT_end {a : Act} {w : World} {L : Array Bool} (hr : Region.ready md ops L = []) (h : Q .normal a w) : wpAnyT P md ops Q S last 0 L a w := ⟨hr, h⟩
theorem anyT_one {i : Nat} {o : Oper} {fuel : Nat} {a : Act} {w : World} {L : Array Bool} (L' : Array Bool) (hr : Region.ready md ops L = [i]) (hi : ops.toList[i]? = some o) (hL : L.setIfInBounds i true = L')
    (h : ∀ Q', (∀ a' w', (i = last ∨ S w') ∧ wpAnyT P md ops Q S last fuel L' a' w' → Q' .normal a' w') → wpList P ops Q' [o] a w) : wpAnyT P md ops Q S last (fuel + 1) L a w := by
  refine ⟨fun h0 => absurd (hr ▸ h0) (by simp), fun k hk => ?_⟩
  rw [hr, List.mem_singleton] at hk
  subst hk
  rw [hL]
  exact wpOp_of_list (by simpa using hi) h
theorem anyT_two {i j : Nat} {o1 o2 : Oper} {fuel : Nat} {a : Act} {w : World} {L : Array Bool} (L1 L2 : Array Bool) (hr : Region.ready md ops L = [i, j]) (hi : ops.toList[i]? = some o1) (hj : ops.toList[j]? = some o2) (hL1 : L.setIfInBounds i true = L1) (hL2 : L.setIfInBounds j true = L2)
    (h1 : ∀ Q', (∀ a' w', (i = last ∨ S w') ∧ wpAnyT P md ops Q S last fuel L1 a' w' → Q' .normal a' w') → wpList P ops Q' [o1] a w)
    (h2 : ∀ Q', (∀ a' w', (j = last ∨ S w') ∧ wpAnyT P md ops Q S last fuel L2 a' w' → Q' .normal a' w') → wpList P ops Q' [o2] a w) : wpAnyT P md ops Q S last (fuel + 1) L a w := by
  refine ⟨fun h0 => absurd (hr ▸ h0) (by simp), fun k hk => ?_⟩
  rw [hr] at hk
  rcases List.mem_cons.1 hk with rfl | hk
  · rw [hL1]
    exact wpOp_of_list (by simpa using hi) h1
  · rw [List.mem_singleton] at hk
    subst hk
    rw [hL2]
    exact wpOp_of_list (by simpa using hj) h2

def splitA (md : Region.Mode) (ops : Array Oper) (m : List Bool) : Bool :=
  Region.noSelect ops && (m.length == ops.size) && readersT md ops (ops.size - 1) m 0 (Array.replicate ops.size false)
/-- THE REGION: the readers first; n operations are left, L says which stand behind us. -/
theorem wp_region_splitA {id : Nat} {a : Act} {w : World} {l : List Oper} (S : World → Prop) (m : List Bool) (n : Nat) (L : Array Bool) (hm : P.follows .mixedOrders = true) (hB : splitA .any l.toArray m = true)
    (hn : (m.filter (!·)).length = n) (hL : listedB m 0 (Array.replicate l.toArray.size false) = L) (hS : S w.drew)
    (hQ : ∀ c a d v w, Q (.panic c) (Act.put a d v) w → Q (.panic c) a w)
    (h : wpQuiet P l.toArray S (fun a' => wpAnyT P .any l.toArray Q S (l.length - 1) n L a' w.drew) (pickB m l) a) : (Code.region id l.toArray true).wp P Q a w := by
  simp only [splitA, Bool.and_eq_true, beq_iff_eq] at hB
  obtain ⟨⟨hs, hlen⟩, hR⟩ := hB
  have hlen' : m.length = l.length := by simpa using hlen
  refine wp_region_any hm (anyT (S := S) (last := l.toArray.size - 1) _ _ _ _ ?_)
  have key := mixT_readers (P := P) (Q := Q) (md := .any) (last := l.toArray.size - 1) (w := w.drew) (n := (m.filter (!·)).length) hs hS hQ m l 0 (Array.replicate l.toArray.size false) a (fun j => by simp) hlen' hR
    (G := fun a' => wpAnyT P .any l.toArray Q S (l.length - 1) n L a' w.drew) (fun a' ha' => by rw [hn, hL]; simpa using ha') h
  rw [filter_both, hlen] at key
  exact key
end
end Go.Proofs.Ytimjccfpobhpeaa
