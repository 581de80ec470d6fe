/- slices.BinarySearch of numbers, and the number of the value at a time. -/
import Derived.Test.YtabhafllkhoefaaCheck
namespace Go.Proofs.Ytabhafllkhoefaa
open Go.RowKit
set_option maxRecDepth 100000

set_option maxHeartbeats 1000000 in
theorem notNaN_calls (x : Int) (w : World) : Calls Try.prog 102 #[.int .i64 x] w fun e w' => e = .returned (.bool false) ∧ w' = w := by
  go_enter Try.func102, Try.ntmps102
  go_wp2
  go_ret
  exact ⟨ret_bool (by simp), rfl⟩
set_option maxHeartbeats 1000000 in
theorem notNaN2_calls (x : Int) (w : World) : Calls Try.prog 90 #[.int .i64 x] w fun e w' => e = .returned (.bool false) ∧ w' = w := by
  go_enter Try.func90, Try.ntmps90
  go_wp2
  go_ret
  exact ⟨ret_bool (by simp), rfl⟩
set_option maxHeartbeats 1000000 in
theorem less_calls (x y : Int) (w : World) : Calls Try.prog 89 #[.int .i64 x, .int .i64 y] w fun e w' => e = .returned (.bool (decide (x < y))) ∧ w' = w := by
  go_enter Try.func89, Try.ntmps89
  go_wp2_with (go_at_call 102; refine (notNaN_calls _ _).mono ?_; rintro e w' ⟨rfl, rfl⟩)
  all_goals go_ret
  all_goals exact ⟨ret_bool (by first | rfl | simp), rfl⟩
/-- Binary search, as it goes. -/
def bsF (xs : List Int) (t : Int) : Nat → Nat → Nat → Nat
  | 0, lo, _ => lo
  | d + 1, lo, hi => if lo < hi then if xs.getD ((lo + hi) / 2) 0 < t then bsF xs t d ((lo + hi) / 2 + 1) hi else bsF xs t d lo ((lo + hi) / 2) else lo
def bsearch (xs : List Int) (t : Int) : Nat := bsF xs t xs.length 0 xs.length
theorem bsF_done (xs : List Int) (t : Int) (d lo hi : Nat) (h : hi ≤ lo) : bsF xs t d lo hi = lo := by
  cases d with
  | zero => rfl
  | succ d => rw [bsF, if_neg (by omega)]
theorem bsF_fuel (xs : List Int) (t : Int) : ∀ (d d' lo hi : Nat), hi - lo ≤ d → hi - lo ≤ d' → bsF xs t d lo hi = bsF xs t d' lo hi
  | 0, d', lo, hi, h, _ => by rw [bsF_done _ _ 0 _ _ (by omega), bsF_done _ _ d' _ _ (by omega)]
  | d + 1, 0, lo, hi, _, h => by rw [bsF_done _ _ 0 _ _ (by omega), bsF_done _ _ (d + 1) _ _ (by omega)]
  | d + 1, d' + 1, lo, hi, h, h' => by
    rw [bsF, bsF]
    split
    · split
      · exact bsF_fuel xs t d d' _ _ (by omega) (by omega)
      · exact bsF_fuel xs t d d' _ _ (by omega) (by omega)
    · rfl
def bfound (xs : List Int) (t : Int) : Bool := decide (bsearch xs t < xs.length) && (xs.getD (bsearch xs t) 0 == t)

theorem midwrap (lo hi : Nat) (h1 : lo ≤ 9223372036854775807) (h2 : hi ≤ 9223372036854775807) : wrap64 (IntKind.u64.wrap (wrap64 ((lo : Int) + (hi : Int))) / 2) = (((lo + hi) / 2 : Nat) : Int) := by
  rw [IntKind.wrap_u64]
  unfold wrap64
  omega

set_option maxHeartbeats 4000000 in
theorem bsearch_calls (A : Option Addr) (c : Nat) (xs : List Int) (t : Int) (w : World) (F : Nat → Prop) (h : Rep.Sl (Rep.int .i64) w F A c xs) :
    Calls Try.prog 82 #[.slice A xs.length c, .int .i64 t] w fun e w' => e = .returned (.tuple #[.int .i64 (bsearch xs t), .bool (bfound xs t)]) ∧ w' = w := by
  have hm := h.len
  go_enter Try.func82, Try.ntmps82
  go_wp2
  go_loopg [7, 8, 9] xs.length (fun d l g _ wr => ∃ (lo hi : Nat), l = .int .i64 lo ∧ g = .int .i64 hi ∧ wr = w ∧ lo ≤ hi ∧ hi ≤ xs.length ∧ Aside (hi - lo ≤ d ∧ bsF xs t d lo hi = bsearch xs t))
  case atStart => exact ⟨0, xs.length, rfl, rfl, rfl, by omega, by omega, by omega, rfl⟩
  case round =>
    obtain ⟨lo, hi, rfl, rfl, rfl, h1, h2, hI⟩ := hrel
    have hI2 := Lib.hid hI.out
    clear hI
    by_cases hlt : lo < hi
    · obtain ⟨gk, rfl⟩ : ∃ m, gk = m + 1 := ⟨gk - 1, by have := hI2.out.1; omega⟩
      obtain ⟨y, hy⟩ := get_ex (xs := xs) (i := (lo + hi) / 2) (by omega)
      obtain ⟨b, o, rfl, hb, hc, hk⟩ := Rep.rowInt h.row hy
      have hy2 := Lib.hid hy
      have hlt2 := Lib.hid hlt
      have q0 : (lo : Int) < (hi : Int) := by omega
      have q6 := midwrap lo hi (by omega) (by omega)
      obtain ⟨m, hmid⟩ : ∃ m, (lo + hi) / 2 = m := ⟨_, rfl⟩
      rw [hmid] at hc q6
      have q2 : (m : Int) < (xs.length : Int) := by omega
      have hmid2 := Lib.hid hmid
      clear hy hlt hmid
      go_wp2_with (go_at_call 89; refine (less_calls _ _ _).mono ?_; rintro e w' ⟨rfl, rfl⟩)
      · go_roundg gk
        case measure => omega
        case rel =>
          have h5 := hI2.out
          have h6 := hlt2.out
          have h7 := hmid2.out
          refine ⟨m + 1, hi, by go_num, rfl, rfl, by omega, by omega, by omega, ?_⟩
          rw [← h5.2, bsF, if_pos h6, getD_of hy2.out, if_pos (by assumption), h7]
      · go_roundg gk
        case measure => omega
        case rel =>
          have h5 := hI2.out
          have h6 := hlt2.out
          have h7 := hmid2.out
          refine ⟨lo, m, rfl, rfl, rfl, by omega, by omega, by omega, ?_⟩
          rw [← h5.2, bsF, if_pos h6, getD_of hy2.out, if_neg (by omega), h7]
    · obtain rfl : lo = hi := by omega
      have hbs := Lib.hid (show bsearch xs t = lo by have := hI2.out.2; rw [← this]; exact bsF_done _ _ _ _ _ (Nat.le_refl _))
      by_cases hll : lo < xs.length
      · obtain ⟨y, hy⟩ := get_ex (xs := xs) (i := lo) hll
        obtain ⟨b, o, rfl, hb, hc, hk⟩ := Rep.rowInt h.row hy
        have hy2 := Lib.hid hy
        clear hy
        go_wp2_with (go_at_call 90; refine (notNaN2_calls _ _).mono ?_; rintro e w' ⟨rfl, rfl⟩)
        all_goals go_ret2
        all_goals refine ⟨?_, rfl⟩
        all_goals (show Ending.returned (.tuple #[.int .i64 (lo : Int), .bool _]) = _; rw [hbs.out]; unfold bfound; rw [hbs.out, getD_of hy2.out]; simp_all)
      · go_wp2
        go_ret2
        refine ⟨?_, rfl⟩
        show Ending.returned (.tuple #[.int .i64 (lo : Int), .bool _]) = _
        rw [hbs.out]; unfold bfound; rw [hbs.out]; simp [hll]
set_option maxHeartbeats 1000000 in
theorem nameIs2_calls (l : Line) (s : ByteArray) (v2 v3 : Value) (g : Nat) (w : World) (hg : g < w.heap.size) (h0 : w.cell? ⟨g, 0, none⟩ = some (.string s)) :
    Calls Try.prog 81 #[.agg #[.string l.Name, .int .i64 l.W, v2, v3], .pointer (some ⟨g, 0, none⟩)] w fun e w' => e = .returned (.bool (l.Name.toList == s.toList)) ∧ Is w w' := by
  have hu := Try.underlying50
  go_enter Try.func81, Try.ntmps81
  go_wp2
  go_ret
  exact ⟨rfl, (Is.refl w).alloc _⟩

set_option maxHeartbeats 4000000 in
theorem indexName2_calls (xs : List Line) (s : ByteArray) (A : Option Addr) (c g : Nat) (w : World) (F : Nat → Prop) (h : Rep.Sl kLine w F A c xs) (hg : g < w.heap.size) (h0 : w.cell? ⟨g, 0, none⟩ = some (.string s)) :
    Calls Try.prog 79 #[.slice A xs.length c, .func (.func 81) #[] #[.pointer (some ⟨g, 0, none⟩)]] w fun e w' => e = .returned (.int .i64 (idxFrom s xs 0)) ∧ Is w w' := by
  have hu := Try.underlying50
  have hm := h.len
  go_enter Try.func79, Try.ntmps79
  go_wp2
  go_loopg [5, 8] xs.length (fun d _ t wr => ∃ (i : Nat) (x : Under w), i + d = xs.length ∧ t = .int .i64 i ∧ wr = x.val ∧ Aside (idxFrom s (xs.drop i) i = idxFrom s xs 0))
  case atStart => exact ⟨0, Under.refl _, by omega, rfl, rfl, rfl⟩
  case round =>
    obtain ⟨i, x, hi, rfl, rfl, hI⟩ := hrel
    have hi2 := Lib.hid hi
    by_cases hlt : i < xs.length
    · obtain ⟨l, hl⟩ := get_ex hlt
      obtain ⟨b, o, A2, c2, A3, c3, rfl, hb, hc0, hc1, hc2, hc3, hk, _, _⟩ := Rep.rowLine h.row hl
      obtain ⟨gk, rfl⟩ : ∃ m, gk = m + 1 := ⟨gk - 1, by omega⟩
      have hbx : b < x.val.heap.size := x.lt _ hb
      have hgx : g < x.val.heap.size := x.lt _ hg
      rw [drop_cons hl, idxFrom] at hI
      have hl2 := Lib.hid hl
      clear hi hl
      by_cases hs : (l.Name.toList == s.toList) = true
      · have hI2 := Lib.hid hI.out
        clear hI
        go_wp2_with (go_at_call 81; refine (nameIs2_calls l s _ _ g _ hgx (by rw [x.cell _ _ hg]; exact h0)).mono ?_; rintro e w' ⟨rfl, ⟨y, rfl⟩⟩)
        go_ret
        exact ⟨ret_int (by rw [← hI2.out, if_pos hs]), (Is.val x).step y⟩
      · have hs' : (l.Name.toList == s.toList) = false := by simpa using hs
        have hI2 := Lib.hid hI.out
        clear hI hs
        go_wp2_with (go_at_call 81; refine (nameIs2_calls l s _ _ g _ hgx (by rw [x.cell _ _ hg]; exact h0)).mono ?_; rintro e w' ⟨rfl, ⟨y, rfl⟩⟩)
        go_roundg gk
        case measure => omega
        case rel => exact ⟨i + 1, x.trans y, by have := hi2.out; omega, by go_num, rfl, by unfold Aside; rw [← hI2.out, if_neg (by rw [hs']; decide)]; norm_cast⟩
    · obtain rfl : i = xs.length := by omega
      go_wp2
      go_ret
      exact ⟨ret_int (by rw [← hI.out, drop_end]; rfl), Is.val x⟩


/-- The number of the value that a line has at a time. -/
def indexOf (xs : List Int) (t : Int) : Int := if bfound xs t then bsearch xs t else (bsearch xs t : Int) - 1
theorem bsF_le (xs : List Int) (t : Int) : ∀ (d lo hi : Nat), lo ≤ hi → hi ≤ xs.length → bsF xs t d lo hi ≤ xs.length
  | 0, lo, hi, h1, h2 => by rw [bsF]; omega
  | d + 1, lo, hi, h1, h2 => by
    rw [bsF]
    split
    · split
      · exact bsF_le xs t d _ _ (by omega) h2
      · exact bsF_le xs t d _ _ (by omega) (by omega)
    · omega

set_option maxHeartbeats 1000000 in
theorem index_calls (l : Line) (A2 A3 : Option Addr) (c2 c3 : Nat) (t : Int) (w : World) (F : Nat → Prop) (h2 : Rep.Sl (Rep.int .i64) w F A2 c2 l.At) :
    Calls Try.prog 58 #[.agg #[.string l.Name, .int .i64 l.W, .slice A2 l.At.length c2, .slice A3 l.Val.length c3], .int .i64 t] w fun e w' => e = .returned (.int .i64 (indexOf l.At t)) ∧ Is w w' := by
  have hu := Try.underlying50
  have hm := h2.len
  have hle : (bsearch l.At t : Int) ≤ (l.At.length : Int) := by have := bsF_le l.At t l.At.length 0 l.At.length (by omega) (Nat.le_refl _); unfold bsearch; omega
  have hlo : (-9223372036854775808 : Int) ≤ (bsearch l.At t : Int) - 1 := by omega
  go_enter Try.func58, Try.ntmps58
  go_wp2_with (go_at_call 82; refine (bsearch_calls A2 c2 l.At t _ F (h2.is ((Is.refl w).alloc _))).mono ?_; rintro e w1 ⟨rfl, rfl⟩)
  all_goals go_ret
  all_goals exact ⟨ret_int (by unfold indexOf; simp_all), (Is.refl w).alloc _⟩
end Go.Proofs.Ytabhafllkhoefaa
