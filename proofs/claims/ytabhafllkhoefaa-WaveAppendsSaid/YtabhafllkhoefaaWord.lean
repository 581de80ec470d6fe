/- The reference's check of a name: it answers as the program's does. -/
import Derived.Test.YtabhafllkhoefaaLine
namespace Go.Proofs.Ytabhafllkhoefaa
open Go.RowKit
set_option maxRecDepth 100000

set_option maxHeartbeats 1000000 in
theorem wordRune_calls (r : Int) (w : World) : Calls Try.prog 88 #[.int .i32 r] w fun e w' => e = .returned (.bool (decide (r < 33) || decide (126 < r))) ∧ w' = w := by
  by_cases h : r < 33
  · go_enter Try.func88, Try.ntmps88
    go_wp2
    go_ret
    exact ⟨ret_bool (by simp [h]), rfl⟩
  · go_enter Try.func88, Try.ntmps88
    go_wp2
    go_ret
    exact ⟨ret_bool (by simp; omega), rfl⟩

theorem decode_bad {s : ByteArray} {i : Nat} (h : i < s.size) (hb : ((s[i]'h).toNat : Int) < 33 ∨ 126 < ((s[i]'h).toNat : Int)) : (decide (((Utf8.decode s i).1 : Int) < 33) || decide (126 < ((Utf8.decode s i).1 : Int))) = true := by
  by_cases ha : (s[i]'h).toNat < 128
  · rw [decode_ascii s i h ha]; grind
  · have := (decode_high s i h (by omega)).1
    grind
theorem decode_good {s : ByteArray} {i : Nat} (h : i < s.size) (hb : ¬ (((s[i]'h).toNat : Int) < 33 ∨ 126 < ((s[i]'h).toNat : Int))) : Utf8.decode s i = ((s[i]'h).toNat, 1) := decode_ascii s i h (by omega)

set_option maxHeartbeats 2000000 in
theorem indexWord_calls (s : ByteArray) (w : World) (_hs : s.size ≤ 9223372036854775807) :
    Calls Try.prog 101 #[.string s, .func (.func 88) #[] #[], .bool true] w fun e w' => ∃ r : Int, e = .returned (.int .i64 r) ∧ decide (r < 0) = namedFrom s s.size 0 ∧ Is w w' := by
  have hu := Try.underlying9
  go_enter Try.func101, Try.ntmps101
  go_wp2
  go_loopg [7, 8] s.size (fun d _ _ wr => ∃ i : Nat, i + d = s.size ∧ wr = w.iter s i ∧ Aside (namedFrom s d i = namedFrom s s.size 0))
  case atStart => exact ⟨0, by omega, rfl, rfl⟩
  case round =>
    obtain ⟨i, hi, rfl, hI⟩ := hrel
    have hi2 := Lib.hid hi
    by_cases hlt : i < s.size
    · obtain ⟨gk, rfl⟩ : ∃ m, gk = m + 1 := ⟨gk - 1, by omega⟩
      have hst := namedFrom_step hlt
      rw [show s.size - i = gk + 1 by omega, show s.size - (i + 1) = gk by omega] at hst
      have hst2 := Lib.hid (hst.symm.trans hI.out)
      clear hst hI hi
      have hnx : ∀ ty, (Instr.next (.pointer (some ⟨w.heap.size, 0, none⟩)) true ty).run Try.prog (w.iter s i) = _ := fun ty => run_next_any w s i ty hlt
      by_cases hb : ((s[i]'hlt).toNat : Int) < 33 ∨ 126 < ((s[i]'hlt).toNat : Int)
      · have hd := decode_bad hlt hb
        have hb2 := Lib.hid hb
        clear hb
        go_wp2_with (go_at_call 88; refine (wordRune_calls _ _).mono ?_; rintro e w' ⟨rfl, rfl⟩)
        go_ret
        exact ⟨i, rfl, by rw [← hst2.out, if_pos hb2.out]; simp, (Is.refl w).alloc _⟩
      · have hd := decode_good hlt hb
        have hd1 : (Utf8.decode s i).1 = (s[i]'hlt).toNat := by rw [hd]
        have hd2 : (Utf8.decode s i).2 = 1 := by rw [hd]
        have hn : (decide (((s[i]'hlt).toNat : Int) < 33) || decide (126 < ((s[i]'hlt).toNat : Int))) = false := by grind
        have hb2 := Lib.hid hb
        rw [hd1, hd2] at hnx
        clear hb hd hd1 hd2
        go_wp2_with (go_at_call 88; refine (wordRune_calls _ _).mono ?_; rintro e w' ⟨rfl, rfl⟩)
        go_roundg gk
        case measure => omega
        case rel => exact ⟨i + 1, by have := hi2.out; omega, rfl, by unfold Aside; rw [← hst2.out, if_neg hb2.out]⟩
    · obtain rfl : i = s.size := by omega
      obtain rfl : gk = 0 := by omega
      have hnx : ∀ ty, (Instr.next (.pointer (some ⟨w.heap.size, 0, none⟩)) true ty).run Try.prog (w.iter s s.size) = _ := fun ty => run_next_end w s s.size ty hlt
      go_wp2
      go_ret
      exact ⟨-1, rfl, by rw [← hI.out]; rfl, (Is.refl w).alloc _⟩

theorem toList_nil (s : ByteArray) : s.toList = [] ↔ s.size = 0 := by
  rw [ByteArray.toList_eq]
  constructor
  · intro h
    have : s.data.toList.length = 0 := by rw [h]; rfl
    simpa using this
  · intro h
    exact List.eq_nil_of_length_eq_zero (by simpa using h)
theorem named_of_word (s : ByteArray) : named s = (decide (1 ≤ s.size) && decide (s.size ≤ 128) && namedFrom s s.size 0) := by unfold named; grind

set_option maxHeartbeats 2000000 in
theorem indexFunc_calls (s : ByteArray) (w : World) (hs : s.size ≤ 9223372036854775807) :
    Calls Try.prog 87 #[.string s, .func (.func 88) #[] #[]] w fun e w' => ∃ r : Int, e = .returned (.int .i64 r) ∧ decide (r < 0) = namedFrom s s.size 0 ∧ Is w w' := by
  go_enter Try.func87, Try.ntmps87
  go_wp2_with (go_at_call 101; refine (indexWord_calls s _ hs).mono ?_; rintro e w' ⟨r, rfl, hr, hw⟩; have hr2 := Lib.hid hr; clear hr)
  go_ret
  exact ⟨r, rfl, hr2.out, hw⟩

set_option maxHeartbeats 2000000 in
theorem word_calls (s : ByteArray) (w : World) (hs : s.size ≤ 9223372036854775807) :
    Calls Try.prog 76 #[.string s] w fun e w' => e = .returned (.bool (named s)) ∧ Is w w' := by
  go_enter Try.func76, Try.ntmps76
  go_wp2_with (go_at_call 87; refine (indexFunc_calls s _ hs).mono ?_; rintro e w' ⟨r, rfl, hr, hw⟩; have hr2 := Lib.hid hr; clear hr)
  · go_ret
    have h0 : s.size = 0 := (toList_nil s).1 (by assumption)
    exact ⟨ret_bool (by rw [named_of_word]; simp [h0]), Is.refl w⟩
  · go_ret
    have h0 : ¬ s.size = 0 := fun h => absurd ((toList_nil s).2 h) (by assumption)
    have h1 : s.size ≤ 128 := by omega
    exact ⟨ret_bool (by rw [named_of_word, ← hr2.out]; have h2 : 1 ≤ s.size := by omega
                        have h3 : s.toList.isEmpty = false := by simp [toList_nil, h0]
                        rw [h3]; simp [h1, h2]), hw⟩
  · go_ret
    have h1 : ¬ s.size ≤ 128 := by omega
    exact ⟨ret_bool (by rw [named_of_word]; simp [h1]), Is.refl w⟩
end Go.Proofs.Ytabhafllkhoefaa
