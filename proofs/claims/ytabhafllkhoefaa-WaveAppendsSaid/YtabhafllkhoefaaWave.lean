/- Waves as plain data, and how they lie in memory; the check of a line. -/
import Derived.Test.YtabhafllkhoefaaBits
namespace Go.Proofs.Ytabhafllkhoefaa
open Go.RowKit
set_option maxRecDepth 100000

structure Line where
  Name : ByteArray
  W : Int
  At : List Int
  Val : List Bits
structure Wave where
  End : Int
  Lines : List Line
def kLine : Rep Line := Rep.iso (Rep.pair Rep.str (Rep.pair (Rep.int .i64) (Rep.pair (Rep.slice (Rep.int .i64)) (Rep.slice kBits)))) (fun x => (x.Name, x.W, x.At, x.Val))
def kWave : Rep Wave := Rep.iso (Rep.pair (Rep.int .i64) (Rep.slice kLine)) (fun x => (x.End, x.Lines))
def LineOk (x : Line) : Prop := x.Name.size ≤ 9223372036854775807 ∧ InK .i64 x.W
theorem kLine_iff {w : World} {F : Nat → Prop} {x : Line} {cs : List Value} : kLine.rel w F x cs ↔ ∃ A2 c2 A3 c3, cs = [.string x.Name, .int .i64 x.W, .slice A2 x.At.length c2, .slice A3 x.Val.length c3] ∧ LineOk x ∧ Rep.Sl (Rep.int .i64) w F A2 c2 x.At ∧ Rep.Sl kBits w F A3 c3 x.Val := by
  constructor
  · rintro ⟨_, _, rfl, ⟨rfl, h1⟩, ⟨_, _, rfl, ⟨rfl, h2⟩, ⟨_, _, rfl, ⟨A2, c2, rfl, h3⟩, ⟨A3, c3, rfl, h4⟩⟩⟩⟩
    exact ⟨A2, c2, A3, c3, rfl, ⟨h1, h2⟩, h3, h4⟩
  · rintro ⟨A2, c2, A3, c3, rfl, ⟨h1, h2⟩, h3, h4⟩
    exact ⟨[_], [_, _, _], rfl, ⟨rfl, h1⟩, ⟨[_], [_, _], rfl, ⟨rfl, h2⟩, ⟨[_], [_], rfl, ⟨A2, c2, rfl, h3⟩, ⟨A3, c3, rfl, h4⟩⟩⟩⟩
theorem kWave_iff {w : World} {F : Nat → Prop} {x : Wave} {cs : List Value} : kWave.rel w F x cs ↔ ∃ A c, cs = [.int .i64 x.End, .slice A x.Lines.length c] ∧ InK .i64 x.End ∧ Rep.Sl kLine w F A c x.Lines := by
  constructor
  · rintro ⟨_, _, rfl, ⟨rfl, h1⟩, ⟨A, c, rfl, h2⟩⟩
    exact ⟨A, c, rfl, h1, h2⟩
  · rintro ⟨A, c, rfl, h1, h2⟩
    exact ⟨[_], [_], rfl, ⟨rfl, h1⟩, ⟨A, c, rfl, h2⟩⟩

namespace Rep
/-- The i-th element of a row of numbers. -/
theorem rowInt {k : IntKind} {w : World} {F : Nat → Prop} {A : Option Addr} {xs : List Int} (h : Row (int k) w F A xs) {i : Nat} {x : Int} (hx : xs[i]? = some x) :
    ∃ b o, A = some ⟨b, o, none⟩ ∧ b < w.heap.size ∧ w.cell? ⟨b, o + i, none⟩ = some (.int k x) ∧ InK k x := by
  obtain ⟨b, o, cs, hA, _, hl, ⟨rfl, hk⟩, hc⟩ := h i x hx
  exact ⟨b, o, hA, hl, by have := hc 0 _ rfl; simpa [Rep.int, Rep.cell] using this, hk⟩
theorem rowBits {w : World} {F : Nat → Prop} {A : Option Addr} {xs : List Bits} (h : Row kBits w F A xs) {i : Nat} {x : Bits} (hx : xs[i]? = some x) :
    ∃ b o, A = some ⟨b, o, none⟩ ∧ b < w.heap.size ∧ w.cell? ⟨b, o + i * 3, none⟩ = some (.int .i64 x.W) ∧ w.cell? ⟨b, o + i * 3 + 1, none⟩ = some (.int .u64 x.V) ∧ w.cell? ⟨b, o + i * 3 + 2, none⟩ = some (.int .u64 x.X) ∧ BitsOk x := by
  obtain ⟨b, o, cs, hA, _, hl, hr, hc⟩ := h i x hx
  obtain ⟨rfl, hk⟩ := kBits_iff.1 hr
  exact ⟨b, o, hA, hl, hc 0 _ rfl, hc 1 _ rfl, hc 2 _ rfl, hk⟩
theorem rowLine {w : World} {F : Nat → Prop} {A : Option Addr} {xs : List Line} (h : Row kLine w F A xs) {i : Nat} {x : Line} (hx : xs[i]? = some x) :
    ∃ b o A2 c2 A3 c3, A = some ⟨b, o, none⟩ ∧ b < w.heap.size ∧ w.cell? ⟨b, o + i * 4, none⟩ = some (.string x.Name) ∧ w.cell? ⟨b, o + i * 4 + 1, none⟩ = some (.int .i64 x.W) ∧
      w.cell? ⟨b, o + i * 4 + 2, none⟩ = some (.slice A2 x.At.length c2) ∧ w.cell? ⟨b, o + i * 4 + 3, none⟩ = some (.slice A3 x.Val.length c3) ∧ LineOk x ∧ Sl (int .i64) w F A2 c2 x.At ∧ Sl kBits w F A3 c3 x.Val := by
  obtain ⟨b, o, cs, hA, _, hl, hr, hc⟩ := h i x hx
  obtain ⟨A2, c2, A3, c3, rfl, hk, h2, h3⟩ := kLine_iff.1 hr
  exact ⟨b, o, A2, c2, A3, c3, hA, hl, hc 0 _ rfl, hc 1 _ rfl, hc 2 _ rfl, hc 3 _ rfl, hk, h2, h3⟩
end Rep

namespace Rep
theorem rowIntAt {k : IntKind} {w : World} {F : Nat → Prop} {b o : Nat} {xs : List Int} (h : Row (int k) w F (some ⟨b, o, none⟩) xs) {i : Nat} {x : Int} (hx : xs[i]? = some x) :
    b < w.heap.size ∧ w.cell? ⟨b, o + i, none⟩ = some (.int k x) ∧ InK k x := by
  obtain ⟨b', o', hA, h1, h2, h3⟩ := rowInt h hx
  simp only [Option.some.injEq, Addr.mk.injEq, and_true] at hA
  obtain ⟨rfl, rfl⟩ := hA
  exact ⟨h1, h2, h3⟩
theorem rowBitsAt {w : World} {F : Nat → Prop} {b o : Nat} {xs : List Bits} (h : Row kBits w F (some ⟨b, o, none⟩) xs) {i : Nat} {x : Bits} (hx : xs[i]? = some x) :
    b < w.heap.size ∧ w.cell? ⟨b, o + i * 3, none⟩ = some (.int .i64 x.W) ∧ w.cell? ⟨b, o + i * 3 + 1, none⟩ = some (.int .u64 x.V) ∧ w.cell? ⟨b, o + i * 3 + 2, none⟩ = some (.int .u64 x.X) ∧ BitsOk x := by
  obtain ⟨b', o', hA, h⟩ := rowBits h hx
  simp only [Option.some.injEq, Addr.mk.injEq, and_true] at hA
  obtain ⟨rfl, rfl⟩ := hA
  exact h
theorem rowLineAt {w : World} {F : Nat → Prop} {b o : Nat} {xs : List Line} (h : Row kLine w F (some ⟨b, o, none⟩) xs) {i : Nat} {x : Line} (hx : xs[i]? = some x) :
    ∃ A2 c2 A3 c3, b < w.heap.size ∧ w.cell? ⟨b, o + i * 4, none⟩ = some (.string x.Name) ∧ w.cell? ⟨b, o + i * 4 + 1, none⟩ = some (.int .i64 x.W) ∧
      w.cell? ⟨b, o + i * 4 + 2, none⟩ = some (.slice A2 x.At.length c2) ∧ w.cell? ⟨b, o + i * 4 + 3, none⟩ = some (.slice A3 x.Val.length c3) ∧ LineOk x ∧ Sl (int .i64) w F A2 c2 x.At ∧ Sl kBits w F A3 c3 x.Val := by
  obtain ⟨b', o', A2, c2, A3, c3, hA, h⟩ := rowLine h hx
  simp only [Option.some.injEq, Addr.mk.injEq, and_true] at hA
  obtain ⟨rfl, rfl⟩ := hA
  exact ⟨A2, c2, A3, c3, h⟩
end Rep
theorem getD_of {α : Type} {xs : List α} {i : Nat} {x d : α} (h : xs[i]? = some x) : xs.getD i d = x := by simp [h]
theorem get_ex {α : Type} {xs : List α} {i : Nat} (h : i < xs.length) : ∃ x, xs[i]? = some x := ⟨_, List.getElem?_eq_getElem h⟩

/-- The i-th byte of a string; 0 behind its end. -/
def byteAt (s : ByteArray) (i : Nat) : Int := if h : i < s.size then ((s[i]'h).toNat : Int) else 0
theorem byteAt_lt {s : ByteArray} {i : Nat} (h : i < s.size) : byteAt s i = ((s[i]'h).toNat : Int) := by unfold byteAt; rw [dif_pos h]
/-- Can a string be the name of a line? -/
def namedFrom (s : ByteArray) : Nat → Nat → Bool
  | 0, _ => true
  | d + 1, i => if byteAt s i < 33 ∨ 126 < byteAt s i then false else namedFrom s d (i + 1)
theorem namedFrom_step {s : ByteArray} {i : Nat} (h : i < s.size) : namedFrom s (s.size - i) i = if ((s[i]'h).toNat : Int) < 33 ∨ 126 < ((s[i]'h).toNat : Int) then false else namedFrom s (s.size - (i + 1)) (i + 1) := by
  rw [show s.size - i = (s.size - (i + 1)) + 1 by omega, namedFrom, byteAt_lt h]
def named (s : ByteArray) : Bool := if s.size < 1 ∨ 128 < s.size then false else namedFrom s s.size 0

set_option maxHeartbeats 1000000 in
theorem named_calls (s : ByteArray) (w : World) (hs : s.size ≤ 9223372036854775807) :
    Calls Try.prog 78 #[.string s] w fun e w' => e = .returned (.bool (named s)) ∧ w' = w := by
  by_cases h1 : s.size < 1
  · go_enter Try.func78, Try.ntmps78
    go_wp2
    go_ret
    exact ⟨ret_bool (by unfold named; rw [if_pos (.inl h1)]), rfl⟩
  · by_cases h2 : 128 < s.size
    · go_enter Try.func78, Try.ntmps78
      go_wp2
      go_ret
      exact ⟨ret_bool (by unfold named; rw [if_pos (.inr h2)]), rfl⟩
    · go_enter Try.func78, Try.ntmps78
      go_wp2
      go_loop [3, 14] (fun _ t => ∃ i : Nat, i ≤ s.size ∧ t = .int .i64 i ∧ Aside (namedFrom s (s.size - i) i = named s)) (fun _ t => s.size - (intOf t).toNat)
      case atStart => exact ⟨0, by omega, rfl, by unfold Aside named; rw [if_neg (by omega)]; rfl⟩
      case round =>
        obtain ⟨i, hi, rfl, hI⟩ := hrel
        by_cases hlt : i < s.size
        · have hs1 := Lib.hid (namedFrom_step hlt)
          go_wp2
          case roundEnd => exact ⟨⟨i + 1, by omega, by go_num, by unfold Aside at *; rw [← hI, hs1.out, if_neg (by omega)]⟩, by simp [intOf]; omega⟩
          all_goals go_ret
          all_goals exact ⟨ret_bool (by unfold Aside at hI; rw [← hI, hs1.out, if_pos (by omega)]), rfl⟩
        · obtain rfl : i = s.size := by omega
          go_wp2
          go_ret
          exact ⟨ret_bool (by unfold Aside at hI; rw [← hI, Nat.sub_self]; rfl), rfl⟩
end Go.Proofs.Ytabhafllkhoefaa
