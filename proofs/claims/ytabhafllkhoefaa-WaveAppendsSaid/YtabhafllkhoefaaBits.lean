/- Vectors of bits: masks, their check. -/
import Derived.Test.YtabhafllkhoefaaProg
import Derived.Test.YtabhafllkhoefaaUnder
namespace Go.Proofs.Ytabhafllkhoefaa
open Go.RowKit
set_option maxRecDepth 100000

structure Bits where
  W : Int
  V : Int
  X : Int
def Bits.zero : Bits := ⟨0, 0, 0⟩
def Bits.beq (a b : Bits) : Bool := a.W == b.W && (a.V == b.V && a.X == b.X)
theorem Bits.beq_iff {a b : Bits} : a.beq b = true ↔ a = b := by
  cases a; cases b; simp [Bits.beq]
def kBits : Rep Bits := Rep.iso (Rep.pair (Rep.int .i64) (Rep.pair (Rep.int .u64) (Rep.int .u64))) (fun x => (x.W, x.V, x.X))
def BitsOk (x : Bits) : Prop := InK .i64 x.W ∧ InK .u64 x.V ∧ InK .u64 x.X
theorem kBits_iff {w : World} {F : Nat → Prop} {x : Bits} {cs : List Value} : kBits.rel w F x cs ↔ cs = [.int .i64 x.W, .int .u64 x.V, .int .u64 x.X] ∧ BitsOk x := by
  constructor
  · rintro ⟨_, _, rfl, ⟨rfl, h1⟩, ⟨_, _, rfl, ⟨rfl, h2⟩, ⟨rfl, h3⟩⟩⟩
    exact ⟨rfl, h1, h2, h3⟩
  · rintro ⟨rfl, h1, h2, h3⟩
    exact ⟨[_], [_, _], rfl, ⟨rfl, h1⟩, ⟨[_], [_], rfl, ⟨rfl, h2⟩, ⟨rfl, h3⟩⟩⟩

/-- '==' of two vectors. -/
theorem eqBits (d : Nat) (w : World) (a0 a1 a2 b0 b1 b2 : Int) : (Op.equalIn (d + 2) 41 (.agg #[.int .i64 a0, .int .u64 a1, .int .u64 a2]) (.agg #[.int .i64 b0, .int .u64 b1, .int .u64 b2])).run Try.prog w = .ok (a0 == b0 && (a1 == b1 && a2 == b2)) w := by
  refine eqStruct Try.underlying41 (by kernel_rfl) ?_
  refine eqFields_step (by decide) (by go_simp; rfl) (by go_simp; rfl) (by go_simp) ?_
  refine eqFields_step (by decide) (by go_simp; rfl) (by go_simp; rfl) (by go_simp) ?_
  exact eqFields_last (by decide) (by go_simp; rfl) (by go_simp; rfl) (by go_simp)
attribute [go_sem high] eqBits

def mask (n : Int) : Int := 2 ^ n.toNat - 1
theorem pow_le64 {n : Nat} (h : n ≤ 64) : 1 ≤ (2 : Int) ^ n ∧ (2 : Int) ^ n ≤ 18446744073709551616 := by
  have h2 : (2 : Nat) ^ n ≤ 2 ^ 64 := Nat.pow_le_pow_right (by omega) h
  have h1 : 1 ≤ (2 : Nat) ^ n := Nat.one_le_two_pow
  have e : ((2 ^ n : Nat) : Int) = (2 : Int) ^ n := by simp
  have h3 : (2 : Nat) ^ 64 = 18446744073709551616 := by decide
  rw [← e]; omega
theorem pow_le63 {n : Nat} (h : n ≤ 63) : 1 ≤ (2 : Int) ^ n ∧ (2 : Int) ^ n ≤ 9223372036854775808 := by
  have h2 : (2 : Nat) ^ n ≤ 2 ^ 63 := Nat.pow_le_pow_right (by omega) h
  have h1 : 1 ≤ (2 : Nat) ^ n := Nat.one_le_two_pow
  have e : ((2 ^ n : Nat) : Int) = (2 : Int) ^ n := by simp
  have h3 : (2 : Nat) ^ 63 = 9223372036854775808 := by decide
  rw [← e]; omega
theorem wrapu64 {x : Int} (h0 : 0 ≤ x) (h1 : x ≤ 18446744073709551615) : IntKind.u64.wrap x = x := by
  simp only [IntKind.wrap, IntKind.signed, IntKind.bits]
  simp
  omega
theorem mask_ok {n : Int} (h0 : 0 ≤ n) (h1 : n ≤ 64) : 0 ≤ mask n ∧ mask n ≤ 18446744073709551615 := by
  have := pow_le64 (n := n.toNat) (by omega)
  unfold mask; omega
set_option maxHeartbeats 400000 in
theorem mask_calls (n : Int) (w : World) (h0 : 0 ≤ n) (h1 : n ≤ 64) :
    Calls Try.prog 72 #[.int .i64 n] w fun e w' => e = .returned (.int .u64 (mask n)) ∧ w' = w := by
  by_cases h : n ≥ 64
  · go_enter Try.func72, Try.ntmps72
    go_wp2
    go_ret
    exact ⟨ret_int (by have : n = 64 := by omega
                       subst this; rfl), rfl⟩
  · go_enter Try.func72, Try.ntmps72
    go_wp2
    go_ret
    have hp := pow_le63 (n := n.toNat) (by omega)
    exact ⟨ret_int (by rw [wrapu64 (x := 2 ^ n.toNat) (by omega) (by omega), wrapu64 (by omega) (by omega)]; rfl), rfl⟩

def bitsBad (x : Bits) : Bool := Go.bits .andNot .u64 (Go.bits .or .u64 x.V x.X) (mask x.W) != 0
def bitsCheck (x : Bits) : Int := if x.W < 1 ∨ 64 < x.W then 2 else if bitsBad x then 4 else 0

set_option maxHeartbeats 1000000 in
theorem bitsCheck_calls (x : Bits) (w : World) (_hx : BitsOk x) :
    Calls Try.prog 73 #[.agg #[.int .i64 x.W, .int .u64 x.V, .int .u64 x.X]] w fun e w' => e = .returned (.int .i64 (bitsCheck x)) ∧ Is w w' := by
  have hu := Try.underlying41
  by_cases h1 : x.W < 1
  · go_enter Try.func73, Try.ntmps73
    go_wp2
    go_ret
    exact ⟨ret_int (by unfold bitsCheck; rw [if_pos (.inl h1)]), (Is.refl w).alloc _⟩
  · by_cases h2 : 64 < x.W
    · go_enter Try.func73, Try.ntmps73
      go_wp2
      go_ret
      exact ⟨ret_int (by unfold bitsCheck; rw [if_pos (.inr h2)]), (Is.refl w).alloc _⟩
    · go_enter Try.func73, Try.ntmps73
      go_wp2
      refine wp_region_under (by kernel_rfl) (by kernel_rfl) ?_
      repeat (go_big_quiet_step ((go_at_call 72; exact Calls.under _ ((mask_calls _ _ (by omega) (by omega)).mono fun e w' ⟨he, hw⟩ => ⟨he, hw ▸ Is.refl _⟩))))
      refine wpQuiet_nil ?_
      rintro _ ⟨y, rfl⟩
      go_wp2
      all_goals go_ret
      all_goals refine ⟨ret_int ?_, ((Is.refl w).alloc _).step y⟩
      · unfold bitsCheck bitsBad; rw [if_neg (by omega)]; simp [*]
      · unfold bitsCheck bitsBad; rw [if_neg (by omega)]; simp [*]
end Go.Proofs.Ytabhafllkhoefaa
