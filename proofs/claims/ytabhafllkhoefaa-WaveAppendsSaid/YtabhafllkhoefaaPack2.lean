/- The sum of bytes; equal bytes; bytes with their sum. -/
import Derived.Test.YtabhafllkhoefaaPack1
import Derived.Test.YtabhafllkhoefaaOwn2
import Derived.Test.YtabhafllkhoefaaWave
import Derived.Test.YtabhafllkhoefaaCheck
namespace Go.Proofs.Ytabhafllkhoefaa
open Go.RowKit
set_option maxRecDepth 100000

def sumF : List Int → Int → Int → Int
  | [], lo, hi => hi * 65536 + lo
  | x :: l, lo, hi => sumF l ((lo + x) % 65521) ((hi + (lo + x) % 65521) % 65521)
def sumOf (l : List Int) : Int := sumF l 1 0
theorem or16 {a b : Int} (ha0 : 0 ≤ a) (ha : a < 65536) (hb0 : 0 ≤ b) (hb : b < 65536) : Go.bits .or .u32 (a * 65536) b = a * 65536 + b :=
  bits_join .u32 32 (by decide) (fun n h0 h1 => by rw [IntKind.wrap_u32]; omega) 16 (a * 65536) b (by omega) (by omega) (by omega) hb0 (by omega) (by omega)

set_option maxHeartbeats 2000000 in
theorem sum_calls (A : Option Addr) (c : Nat) (xs : List Int) (w : World) (F : Nat → Prop) (h : Rep.Sl kByte w F A c xs) :
    Calls Try.prog 13 #[.slice A xs.length c] w fun e w' => e = .returned (.int .u32 (sumOf xs)) ∧ Is w w' := by
  have hm := h.len
  go_enter Try.func13, Try.ntmps13
  go_wp2
  go_loopg [3, 4, 6, 9] xs.length (fun d l g _ t wr => ∃ (i : Nat) (lo hi : Int), i + d = xs.length ∧ l = .int .u32 lo ∧ g = .int .u32 hi ∧ t = .int .i64 i ∧ wr = w ∧ 0 ≤ lo ∧ lo < 65521 ∧ 0 ≤ hi ∧ hi < 65521 ∧ Aside (sumF (xs.drop i) lo hi = sumOf xs))
  case atStart => exact ⟨0, 1, 0, by omega, rfl, rfl, rfl, rfl, by omega, by omega, by omega, by omega, rfl⟩
  case round =>
    obtain ⟨i, lo, hi, hi1, rfl, rfl, rfl, rfl, l0, l1, g0, g1, hI⟩ := hrel
    have hi2 := Lib.hid hi1
    by_cases hlt : i < xs.length
    · obtain ⟨x, hx⟩ := get_ex hlt
      obtain ⟨b, o, rfl, hb, hc, hk⟩ := Rep.rowInt h.row hx
      have hk0 := hk.u8.1
      have hk1 := hk.u8.2
      obtain ⟨gk, rfl⟩ : ∃ m, gk = m + 1 := ⟨gk - 1, by omega⟩
      rw [drop_cons hx, sumF] at hI
      have hI2 := Lib.hid hI.out
      clear hI hx hi1
      go_wp2
      go_roundg gk
      case measure => omega
      case rel => exact ⟨i + 1, _, _, by have := hi2.out; omega, rfl, rfl, by go_num, rfl, by omega, by omega, by omega, by omega, hI2.out⟩
    · obtain rfl : i = xs.length := by omega
      rw [drop_end, sumF] at hI
      have hI2 := Lib.hid hI.out
      clear hI hi1
      go_wp2
      go_ret
      exact ⟨ret_int (by rw [or16 g0 (by omega) l0 (by omega)]; exact hI2.out), Is.refl _⟩

/-- The reference's sum: it answers as the program's does. -/
theorem sumF_mod (l : List Int) (lo hi lo2 hi2 : Int) (h1 : lo % 65521 = lo2 % 65521) (h2 : hi % 65521 = hi2 % 65521) : sumF l (lo % 65521) (hi % 65521) = sumF l (lo2 % 65521) (hi2 % 65521) := by rw [h1, h2]
theorem sumF_step (l : List Int) (x lo hi : Int) : sumF (x :: l) (lo % 65521) (hi % 65521) = sumF l ((lo + x) % 65521) ((hi + (lo + x) % 65521) % 65521) := by
  rw [sumF]
  congr 1 <;> omega

set_option maxHeartbeats 2000000 in
theorem checksum_calls (A : Option Addr) (c : Nat) (xs : List Int) (w : World) (F : Nat → Prop) (h : Rep.Sl kByte w F A c xs) (hlen : xs.length ≤ 140737488351232) :
    Calls Try.prog 14 #[.slice A xs.length c] w fun e w' => e = .returned (.int .u32 (sumOf xs)) ∧ Is w w' := by
  have hm := h.len
  go_enter Try.func14, Try.ntmps14
  go_wp2
  go_loopg [3, 4, 6, 9] xs.length (fun d l g _ t wr => ∃ (i : Nat) (lo hi : Int), i + d = xs.length ∧ l = .int .i64 lo ∧ g = .int .i64 hi ∧ t = .int .i64 i ∧ wr = w ∧ 0 ≤ lo ∧ lo ≤ 1 + 255 * i ∧ 0 ≤ hi ∧ hi ≤ 65520 * i ∧ Aside (sumF (xs.drop i) (lo % 65521) (hi % 65521) = sumOf xs))
  case atStart => exact ⟨0, 1, 0, by omega, rfl, rfl, rfl, rfl, by omega, by omega, by omega, by omega, rfl⟩
  case round =>
    obtain ⟨i, lo, hi, hi1, rfl, rfl, rfl, rfl, l0, l1, g0, g1, hI⟩ := hrel
    have hi2 := Lib.hid hi1
    by_cases hlt : i < xs.length
    · obtain ⟨x, hx⟩ := get_ex hlt
      obtain ⟨b, o, rfl, hb, hc, hk⟩ := Rep.rowInt h.row hx
      have hk0 := hk.u8.1
      have hk1 := hk.u8.2
      obtain ⟨gk, rfl⟩ : ∃ m, gk = m + 1 := ⟨gk - 1, by omega⟩
      rw [drop_cons hx, sumF_step] at hI
      have hI2 := Lib.hid hI.out
      clear hI hx hi1
      go_wp2
      go_roundg gk
      case measure => omega
      case rel => exact ⟨i + 1, _, _, by have := hi2.out; omega, rfl, rfl, by go_num, rfl, by omega, by omega, by omega, by omega, hI2.out⟩
    · obtain rfl : i = xs.length := by omega
      rw [drop_end, sumF] at hI
      have hI2 := Lib.hid hI.out
      clear hI hi1
      go_wp2
      go_ret
      exact ⟨ret_int (by rw [← hI2.out]; try omega), Is.refl _⟩

set_option maxHeartbeats 2000000 in
theorem eqBytes_calls (A B : Option Addr) (c c' : Nat) (xs ys : List Int) (w : World) (F G : Nat → Prop) (h : Rep.Sl kByte w F A c xs) (h' : Rep.Sl kByte w G B c' ys) :
    Calls Try.prog 15 #[.slice A xs.length c, .slice B ys.length c'] w fun e w' => e = .returned (.bool (decide (xs = ys))) ∧ Is w w' := by
  have hm := h.len
  have hm' := h'.len
  go_enter Try.func15, Try.ntmps15
  go_wp2
  · go_ret
    exact ⟨ret_bool (decide_eq_false (fun e => by subst e; simp_all)).symm, Is.refl w⟩
  have hl : Hid (xs.length = ys.length) := Lib.hid (by grind)
  have q1 : ((xs.length : Int) != (ys.length : Int)) = false := by grind
  simp only [q1]
  go_loopg [5, 13] xs.length (fun d _ t wr => ∃ (i : Nat), i + d = xs.length ∧ t = .int .i64 i ∧ Is w wr ∧ Aside (xs.take i = ys.take i))
  case atStart => exact ⟨0, by omega, rfl, Is.refl w, rfl⟩
  case round =>
    obtain ⟨i, hi1, rfl, hw, hI⟩ := hrel
    have hi2 := Lib.hid hi1
    by_cases hlt : i < xs.length
    · obtain ⟨x, hx⟩ := get_ex hlt
      obtain ⟨y, hy⟩ := get_ex (xs := ys) (i := i) (by have := hl.out; omega)
      obtain ⟨b, o, rfl, hb, hc, hk⟩ := Rep.rowInt (h.is hw).row hx
      obtain ⟨b', o', rfl, hb', hc', hk'⟩ := Rep.rowInt (h'.is hw).row hy
      have hlt2 : (i : Int) < (ys.length : Int) := by have := hl.out; omega
      obtain ⟨gk, rfl⟩ : ∃ m, gk = m + 1 := ⟨gk - 1, by omega⟩
      have hx2 := Lib.hid hx
      have hy2 := Lib.hid hy
      clear hx hy hi1
      go_wp2
      refine wp_region_under (by kernel_rfl) (by kernel_rfl) ?_
      repeat (go_big_quiet_step (fail))
      refine wpQuiet_nil ?_
      rintro _ ⟨z, rfl⟩
      go_wp2
      · go_ret
        refine ⟨ret_bool (decide_eq_false (fun e => ?_)).symm, hw.step z⟩
        have h1 := hx2.out
        rw [e, hy2.out] at h1
        simp_all
      · have hxy : x = y := by simp_all
        go_roundg gk
        case measure => omega
        case rel => exact ⟨i + 1, by have := hi2.out; omega, by go_num, hw.step z, by unfold Aside at *; rw [List.take_add_one, List.take_add_one, hI, hx2.out, hy2.out, hxy]⟩
    · obtain rfl : i = xs.length := by omega
      go_wp2
      go_ret
      refine ⟨ret_bool (decide_eq_true ?_).symm, hw⟩
      have := hI.out
      rw [List.take_length, hl.out, List.take_length] at this
      exact this

set_option maxHeartbeats 1000000 in
theorem clip_calls (A : Option Addr) (c n : Nat) (w : World) (hc : n ≤ c) (hm : c ≤ 9223372036854775807) :
    Calls Try.prog 65 #[.slice A n c] w fun e w' => e = .returned (.slice A n n) ∧ Is w w' := by
  have h1 : (n : Int) ≤ (c : Int) := by omega
  have h2 : (c : Int) ≤ 9223372036854775807 := by omega
  go_enter Try.func65, Try.ntmps65
  go_wp2
  all_goals go_ret
  all_goals exact ⟨rfl, Is.refl w⟩

/-- Bytes with their sum. -/
def sealOf (xs : List Int) : List Int := xs ++ [sumOf xs / 16777216, sumOf xs / 65536 % 256, sumOf xs / 256 % 256, sumOf xs % 256]
theorem sumF_lt (l : List Int) (lo hi : Int) (h0 : 0 ≤ lo) (h1 : lo < 65521) (h2 : 0 ≤ hi) (h3 : hi < 65521) : 0 ≤ sumF l lo hi ∧ sumF l lo hi < 4294967296 := by
  induction l generalizing lo hi with
  | nil => rw [sumF]; omega
  | cons x l ih => rw [sumF]; exact ih _ _ (by omega) (by omega) (by omega) (by omega)
theorem sumOf_lt (l : List Int) : 0 ≤ sumOf l ∧ sumOf l < 4294967296 := sumF_lt l 1 0 (by omega) (by omega) (by omega) (by omega)

set_option maxHeartbeats 2000000 in
theorem sealed_calls (A : Option Addr) (c : Nat) (xs : List Int) (w : World) (F : Nat → Prop) (h : Rep.Sl kByte w F A c xs) (hlen : xs.length ≤ 140737488351232) :
    Calls Try.prog 31 #[.slice A xs.length c] w fun e w' => ∃ v, e = .returned v ∧ Rep.Own kByte 5 w' w.heap.size NoB v (sealOf xs) ∧ Is w w' := by
  have hm := h.len
  have hs := sumOf_lt xs
  have hs1 := hs.1
  have hs2 := hs.2
  have hle := h.le
  have hcl := h.cap_le
  have hb4 : ∀ q ∈ [sumOf xs / 16777216, sumOf xs / 65536 % 256, sumOf xs / 256 % 256, sumOf xs % 256], InK .u8 q := by
    intro q hq
    simp only [List.mem_cons, List.not_mem_nil, or_false] at hq
    rcases hq with rfl | rfl | rfl | rfl <;> exact InK.mku8 (by omega)
  have h63 : xs.length + [sumOf xs / 16777216, sumOf xs / 65536 % 256, sumOf xs / 256 % 256, sumOf xs % 256].length ≤ maxLen := le_maxLen (by simp; omega)
  have hby : (xs.length + [sumOf xs / 16777216, sumOf xs / 65536 % 256, sumOf xs / 256 % 256, sumOf xs % 256].length) * 1 ≤ 140737488355328 := by simp; omega
  go_enter Try.func31, Try.ntmps31
  go_wp2_with (first
    | (go_at_call 14; refine (checksum_calls A c xs _ F h hlen).mono ?_; rintro e w' ⟨rfl, ⟨x, rfl⟩⟩)
    | (go_at_call 65; refine (clip_calls A c xs.length _ hle hcl).mono ?_; rintro e w' ⟨rfl, ⟨y, rfl⟩⟩)
    | (at_builtin; refine wpList_full rfl (.tmp 7) (.tmp 19) rfl byteT rfl (ys := [sumOf xs / 16777216, sumOf xs / 65536 % 256, sumOf xs / 256 % 256, sumOf xs % 256]) rfl ((h.inb.is ((Is.val x).step y)).clip.inb) (all_ints hb4) (fun k hk => hk) (by simp) h63 hby ?_; intro v' w' ho' hw'))
  go_ret
  exact ⟨v', rfl, (ho'.flat (Rep.Flat.int _) (fun _ _ => rfl)).lower ((Is.val x).step y).below.size, (((Is.val x).step y)).trans hw'⟩
end Go.Proofs.Ytabhafllkhoefaa
