/- Numbers in bytes of seven bits; the sum of bytes. -/
import Derived.Test.YtabhafllkhoefaaOwn
import Derived.Test.YtabhafllkhoefaaBits
namespace Go.Proofs.Ytabhafllkhoefaa
open Go.RowKit
set_option maxRecDepth 100000

abbrev kByte : Rep Int := Rep.int .u8
theorem info_byte : (Try.prog.info? 5).map (fun i => (i.zero, i.size, i.bytes)) = some (some (.int .u8 0), 1, 1) := by kernel_rfl
theorem byteT : SlT Try.prog 25 5 (.int .u8 0) 1 1 := ⟨Try.underlying25, info_byte, rfl, by omega⟩
def sevenF : Nat → Int → List Int
  | 0, _ => []
  | f + 1, n => if n < 128 then [n] else (n % 128 + 128) :: sevenF f (n / 128)
def seven (n : Int) : List Int := sevenF 10 n
theorem or128 {x : Int} (h0 : 0 ≤ x) (h1 : x < 256) : Go.bits .or .u8 x 128 = x % 128 + 128 := by
  obtain ⟨n, rfl⟩ := Int.eq_ofNat_of_zero_le h0
  have hn : n < 256 := by omega
  have key : ∀ m : Fin 256, Go.bits .or .u8 ((m.val : Nat) : Int) 128 = ((m.val : Nat) : Int) % 128 + 128 := by decide +kernel
  exact key ⟨n, hn⟩

set_option maxHeartbeats 2000000 in
theorem number_calls (v : Value) (xs : List Int) (n : Int) (w : World) (base : Nat) (h : Rep.Own kByte 5 w base NoB v xs) (hn : InK .u64 n) (hb : base ≤ w.heap.size) (hl : xs.length + 10 ≤ 70368744177664) :
    Calls Try.prog 43 #[v, .int .u64 n] w fun e w' => ∃ v', e = .returned v' ∧ Rep.Own kByte 5 w' base NoB v' (xs ++ seven n) ∧ Grew w w' v v' := by
  obtain ⟨i0, hi, hz0, hz1, hz2⟩ := info_parts info_byte
  have hn1 := hn.u64.1
  have hn2 := hn.u64.2
  go_enter Try.func43, Try.ntmps43
  go_wp2
  go_loopg [0, 1] 9 (fun d u m wr => ∃ (ys : List Int) (q : Int), m = .int .u64 q ∧ 0 ≤ q ∧ q ≤ 18446744073709551615 ∧ Aside (q < 128 ^ (d + 1) ∧ ys ++ sevenF (d + 1) q = xs ++ seven n ∧ ys.length + d + 1 = xs.length + 10) ∧ Rep.Own kByte 5 wr base NoB u ys ∧ Aside (Grew w wr v u))
  case atStart => exact ⟨xs, n, rfl, hn1, hn2, ⟨by omega, rfl, rfl⟩, h, Grew.refl w v⟩
  case round =>
    clear h
    obtain ⟨ys, q, rfl, hq0, hq1, hA, ho, hG⟩ := hrel
    have hbw : base ≤ wr.heap.size := Nat.le_trans hb hG.out.by_.size
    have b1 : ys.length + 1 ≤ maxLen := le_maxLen (by have := hA.out.2.2; omega)
    have b2 : (ys.length + 1) * 1 ≤ 140737488355328 := by have := hA.out.2.2; omega
    by_cases hlt : q < 128
    · have hk : InK .u8 q := InK.mku8 (by omega)
      go_wp2_with (at_builtin; refine wpList_one rfl (.tmp 15) (.tmp 18) rfl byteT rfl rfl ho (y := q) ⟨rfl, hk⟩ (fun k hk => hk.elim) b1 b2 hbw ?_; intro v' w' ho' hg')
      go_ret
      refine ⟨v', rfl, ?_, hG.out.trans hg'⟩
      have := hA.out.2.1
      rw [sevenF, if_pos hlt] at this
      rwa [← this]
    · have hlt2 : 128 ≤ q := by omega
      have hk8 : InK .u8 (Go.bits .or .u8 (q % 256) 128) := by rw [or128 (by omega) (by omega)]; exact InK.mku8 (by omega)
      go_wp2_with (at_builtin; refine wpList_one rfl (.tmp 9) (.tmp 13) rfl byteT rfl rfl ho (y := _) ⟨rfl, hk8⟩ (fun k hk => hk.elim) b1 b2 hbw ?_; intro v' w' ho' hg')
      cases gk with
      | zero => exact absurd hA.out.1 (by rw [Int.pow_succ]; omega)
      | succ d =>
        go_roundg d
        case measure => omega
        case rel => exact ⟨_, q / 128, rfl, by omega, by omega, ⟨by have := hA.out.1; rw [Int.pow_succ] at this; omega, by have := hA.out.2.1; rw [sevenF, if_neg (by omega)] at this; rw [← this, or128 (by omega) (by omega), List.append_assoc, List.singleton_append, show q % 256 % 128 = q % 128 by omega], by have := hA.out.2.2; simp; omega⟩, ho', hG.out.trans hg'⟩
end Go.Proofs.Ytabhafllkhoefaa
