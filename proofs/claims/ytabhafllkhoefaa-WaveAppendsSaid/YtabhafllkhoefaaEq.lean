/- Equality of rows of numbers, of vectors, of lines, and of waves. -/
import Derived.Test.YtabhafllkhoefaaCheck
import Derived.Test.YtabhafllkhoefaaPack2
namespace Go.Proofs.Ytabhafllkhoefaa
open Go.RowKit
set_option maxRecDepth 100000

instance : DecidableEq Bits := fun a b => decidable_of_iff (a.beq b = true) Bits.beq_iff
theorem Bits.beq_dec (a b : Bits) : a.beq b = decide (a = b) := by
  by_cases h : a = b
  · rw [decide_eq_true h, Bits.beq_iff.2 h]
  · rw [decide_eq_false h]
    simpa using fun e => h (Bits.beq_iff.1 e)

def all2 {α β : Type} (f : α → β → Bool) : List α → List β → Bool
  | [], [] => true
  | x :: xs, y :: ys => f x y && all2 f xs ys
  | [], _ :: _ => false
  | _ :: _, [] => false
theorem all2_len {α β : Type} {f : α → β → Bool} : ∀ {xs : List α} {ys : List β}, all2 f xs ys = true → xs.length = ys.length
  | [], [], _ => rfl
  | x :: xs, y :: ys, h => by
    simp only [all2, Bool.and_eq_true] at h
    simp [all2_len h.2]
theorem all2_ne {α β : Type} {f : α → β → Bool} {xs : List α} {ys : List β} (h : xs.length ≠ ys.length) : all2 f xs ys = false := by
  cases e : all2 f xs ys with
  | false => rfl
  | true => exact absurd (all2_len e) h
theorem all2_eq {α : Type} {f : α → α → Bool} (hf : ∀ x y, f x y = true ↔ x = y) : ∀ (xs ys : List α), all2 f xs ys = true ↔ xs = ys
  | [], [] => by simp [all2]
  | x :: xs, y :: ys => by simp [all2, hf, all2_eq hf xs ys]
  | [], _ :: _ => by simp [all2]
  | _ :: _, [] => by simp [all2]


set_option maxHeartbeats 2000000 in
theorem eqInts_calls (A B : Option Addr) (c c' : Nat) (xs ys : List Int) (w : World) (F G : Nat → Prop) (h : Rep.Sl (Rep.int .i64) w F A c xs) (h' : Rep.Sl (Rep.int .i64) w G B c' ys) :
    Calls Try.prog 55 #[.slice A xs.length c, .slice B ys.length c'] w fun e w' => e = .returned (.bool (decide (xs = ys))) ∧ Is w w' := by
  have hm := h.len
  have hm' := h'.len
  go_enter Try.func55, Try.ntmps55
  go_wp2
  · go_ret
    exact ⟨ret_bool (decide_eq_false (fun e => by subst e; simp_all)).symm, Is.refl w⟩
  have hl : Hid (xs.length = ys.length) := Lib.hid (by grind)
  have q1 : ((xs.length : Int) != (ys.length : Int)) = false := by grind
  simp only [q1]
  go_loopg [5, 13] xs.length (fun d _ t wr => ∃ (i : Nat), i + d = xs.length ∧ t = .int .i64 i ∧ Is w wr ∧ Aside (xs.take i = ys.take i))
  case atStart => exact ⟨0, by omega, rfl, Is.refl w, rfl⟩
  case round =>
    obtain ⟨i, hi1, rfl, hw, hI⟩ := hrel
    have hi2 := Lib.hid hi1
    by_cases hlt : i < xs.length
    · obtain ⟨x, hx⟩ := get_ex hlt
      obtain ⟨y, hy⟩ := get_ex (xs := ys) (i := i) (by have := hl.out; omega)
      obtain ⟨b, o, rfl, hb, hc, hk⟩ := Rep.rowInt (h.is hw).row hx
      obtain ⟨b', o', rfl, hb', hc', hk'⟩ := Rep.rowInt (h'.is hw).row hy
      have hlt2 : (i : Int) < (ys.length : Int) := by have := hl.out; omega
      obtain ⟨gk, rfl⟩ : ∃ m, gk = m + 1 := ⟨gk - 1, by omega⟩
      have hx2 := Lib.hid hx
      have hy2 := Lib.hid hy
      clear hx hy hi1
      go_wp2
      refine wp_region_under (by kernel_rfl) (by kernel_rfl) ?_
      repeat (go_big_quiet_step (fail))
      refine wpQuiet_nil ?_
      rintro _ ⟨z, rfl⟩
      go_wp2
      · go_ret
        refine ⟨ret_bool (decide_eq_false (fun e => ?_)).symm, hw.step z⟩
        have h1 := hx2.out
        rw [e, hy2.out] at h1
        simp_all
      · have hxy : x = y := by simp_all
        go_roundg gk
        case measure => omega
        case rel => exact ⟨i + 1, by have := hi2.out; omega, by go_num, hw.step z, by unfold Aside at *; rw [List.take_add_one, List.take_add_one, hI, hx2.out, hy2.out, hxy]⟩
    · obtain rfl : i = xs.length := by omega
      go_wp2
      go_ret
      refine ⟨ret_bool (decide_eq_true ?_).symm, hw⟩
      have := hI.out
      rw [List.take_length, hl.out, List.take_length] at this
      exact this

set_option maxHeartbeats 2000000 in
theorem eqRow_calls (A B : Option Addr) (c c' : Nat) (xs ys : List Bits) (w : World) (F G : Nat → Prop) (h : Rep.Sl (kBits) w F A c xs) (h' : Rep.Sl (kBits) w G B c' ys) :
    Calls Try.prog 56 #[.slice A xs.length c, .slice B ys.length c'] w fun e w' => e = .returned (.bool (decide (xs = ys))) ∧ Is w w' := by
  have hu := Try.underlying41
  have hm := h.len
  have hm' := h'.len
  go_enter Try.func56, Try.ntmps56
  go_wp2
  · go_ret
    exact ⟨ret_bool (decide_eq_false (fun e => by subst e; simp_all)).symm, Is.refl w⟩
  have hl : Hid (xs.length = ys.length) := Lib.hid (by grind)
  have q1 : ((xs.length : Int) != (ys.length : Int)) = false := by grind
  simp only [q1]
  go_loopg [5, 13] xs.length (fun d _ t wr => ∃ (i : Nat), i + d = xs.length ∧ t = .int .i64 i ∧ Is w wr ∧ Aside (xs.take i = ys.take i))
  case atStart => exact ⟨0, by omega, rfl, Is.refl w, rfl⟩
  case round =>
    obtain ⟨i, hi1, rfl, hw, hI⟩ := hrel
    have hi2 := Lib.hid hi1
    by_cases hlt : i < xs.length
    · obtain ⟨x, hx⟩ := get_ex hlt
      obtain ⟨y, hy⟩ := get_ex (xs := ys) (i := i) (by have := hl.out; omega)
      obtain ⟨b, o, rfl, hb, hc0, hc1, hc2, hk⟩ := Rep.rowBits (h.is hw).row hx
      obtain ⟨b', o', rfl, hb', hc0', hc1', hc2', hk'⟩ := Rep.rowBits (h'.is hw).row hy
      have hlt2 : (i : Int) < (ys.length : Int) := by have := hl.out; omega
      obtain ⟨gk, rfl⟩ : ∃ m, gk = m + 1 := ⟨gk - 1, by omega⟩
      have hx2 := Lib.hid hx
      have hy2 := Lib.hid hy
      clear hx hy hi1
      go_wp2
      refine wp_region_under (by kernel_rfl) (by kernel_rfl) ?_
      repeat (go_big_quiet_step (fail))
      refine wpQuiet_nil ?_
      rintro _ ⟨z, rfl⟩
      go_wp2
      · go_ret
        refine ⟨ret_bool (decide_eq_false (fun e => ?_)).symm, hw.step z⟩
        have h1 := hx2.out
        rw [e, hy2.out] at h1
        simp_all
      · have hxy : x = y := by refine Bits.beq_iff.1 ?_; unfold Bits.beq; simp_all
        go_roundg gk
        case measure => omega
        case rel => exact ⟨i + 1, by have := hi2.out; omega, by go_num, hw.step z, by unfold Aside at *; rw [List.take_add_one, List.take_add_one, hI, hx2.out, hy2.out, hxy]⟩
    · obtain rfl : i = xs.length := by omega
      go_wp2
      go_ret
      refine ⟨ret_bool (decide_eq_true ?_).symm, hw⟩
      have := hI.out
      rw [List.take_length, hl.out, List.take_length] at this
      exact this

def lineFits (l m : Line) : Bool := (l.Name.toList == m.Name.toList) && (l.W == m.W)
def lineSame (l m : Line) : Bool := decide (l.At = m.At) && decide (l.Val = m.Val)

set_option maxHeartbeats 2000000 in
theorem fits1_calls (l m : Line) (v2 v3 u2 u3 : Value) (w : World) :
    Calls Try.prog 80 #[.agg #[.string l.Name, .int .i64 l.W, v2, v3], .agg #[.string m.Name, .int .i64 m.W, u2, u3]] w fun e w' => e = .returned (.bool (lineFits l m)) ∧ Is w w' := by
  have hu := Try.underlying50
  go_enter Try.func80, Try.ntmps80
  by_cases h : (l.Name.toList == m.Name.toList) = true
  · go_wp2
    go_ret
    exact ⟨ret_bool (by unfold lineFits; simp [*]), ((Is.refl w).alloc _).alloc _⟩
  · have h : (l.Name.toList == m.Name.toList) = false := by simpa using h
    go_wp2
    go_ret
    exact ⟨ret_bool (by unfold lineFits; simp [*]), ((Is.refl w).alloc _).alloc _⟩

set_option maxHeartbeats 2000000 in
theorem same1_calls (l m : Line) (A2 A3 B2 B3 : Option Addr) (c2 c3 d2 d3 : Nat) (w : World) (F G : Nat → Prop) (h2 : Rep.Sl (Rep.int .i64) w F A2 c2 l.At) (h3 : Rep.Sl kBits w F A3 c3 l.Val) (k2 : Rep.Sl (Rep.int .i64) w G B2 d2 m.At) (k3 : Rep.Sl kBits w G B3 d3 m.Val) :
    Calls Try.prog 54 #[.agg #[.string l.Name, .int .i64 l.W, .slice A2 l.At.length c2, .slice A3 l.Val.length c3], .agg #[.string m.Name, .int .i64 m.W, .slice B2 m.At.length d2, .slice B3 m.Val.length d3]] w fun e w' => e = .returned (.bool (lineSame l m)) ∧ Is w w' := by
  have hu := Try.underlying50
  go_enter Try.func54, Try.ntmps54
  have hW : Is w ((w.alloc (.cells #[.string l.Name, .int .i64 l.W, .slice A2 l.At.length c2, .slice A3 l.Val.length c3] 50)).alloc (.cells #[.string m.Name, .int .i64 m.W, .slice B2 m.At.length d2, .slice B3 m.Val.length d3] 50)) := ((Is.refl w).alloc _).alloc _
  have hB : ∀ y : Under ((w.alloc (.cells #[.string l.Name, .int .i64 l.W, .slice A2 l.At.length c2, .slice A3 l.Val.length c3] 50)).alloc (.cells #[.string m.Name, .int .i64 m.W, .slice B2 m.At.length d2, .slice B3 m.Val.length d3] 50)), w.heap.size < y.val.heap.size ∧ w.heap.size + 1 < y.val.heap.size := fun y => ⟨y.lt _ (by simp; omega), y.lt _ (by simp)⟩
  by_cases h : l.At = m.At
  · have hd : decide (l.At = m.At) = true := decide_eq_true h
    have hh := Lib.hid h
    clear h
    go_wp2_with (first
      | (go_at_call 55; refine (eqInts_calls A2 B2 c2 d2 l.At m.At _ _ _ (h2.is hW) (k2.is hW)).mono ?_; rw [hd]; rintro e w1 ⟨rfl, ⟨x1, rfl⟩⟩; have hW1 := hW.step x1; have hb1 := (hB x1).1; have hb2 := (hB x1).2)
      | (go_at_call 56; refine (eqRow_calls A3 B3 c3 d3 l.Val m.Val _ _ _ (h3.is hW1) (k3.is hW1)).mono ?_; rintro e w2 ⟨rfl, ⟨x2, rfl⟩⟩; have hW2 := hW1.step x2))
    go_ret
    exact ⟨ret_bool (by unfold lineSame; rw [hd]; simp), hW2⟩
  · have hd : decide (l.At = m.At) = false := decide_eq_false h
    have hh := Lib.hid h
    clear h
    go_wp2_with (go_at_call 55; refine (eqInts_calls A2 B2 c2 d2 l.At m.At _ _ _ (h2.is hW) (k2.is hW)).mono ?_; rw [hd]; rintro e w1 ⟨rfl, ⟨x1, rfl⟩⟩; have hW1 := hW.step x1)
    go_ret
    exact ⟨ret_bool (by unfold lineSame; rw [hd]; simp), hW1⟩

set_option maxHeartbeats 4000000 in
theorem eqFits_calls (xs ys : List Line) (A B : Option Addr) (c c' : Nat) (w : World) (F G : Nat → Prop) (h : Rep.Sl kLine w F A c xs) (h' : Rep.Sl kLine w G B c' ys) :
    Calls Try.prog 28 #[.slice A xs.length c, .slice B ys.length c', .func (.func 80) #[] #[]] w fun e w' => e = .returned (.bool (all2 lineFits xs ys)) ∧ Is w w' := by
  have hu := Try.underlying50
  have hm := h.len
  have hm' := h'.len
  go_enter Try.func28, Try.ntmps28
  go_wp2
  · go_ret
    exact ⟨ret_bool (all2_ne (fun e => by simp_all)).symm, Is.refl w⟩
  have hl : Hid (xs.length = ys.length) := Lib.hid (by grind)
  have q1 : ((xs.length : Int) != (ys.length : Int)) = false := by grind
  simp only [q1]
  go_loopg [7, 8, 9, 17] xs.length (fun d _ _ _ t wr => ∃ (i : Nat) (z : Under w), i + d = xs.length ∧ t = .int .i64 i ∧ wr = z.val ∧ Aside (all2 lineFits (xs.drop i) (ys.drop i) = all2 lineFits xs ys))
  case atStart => exact ⟨0, Under.refl w, by omega, rfl, rfl, rfl⟩
  case round =>
    obtain ⟨i, z, hi1, rfl, rfl, hI⟩ := hrel
    have hi2 := Lib.hid hi1
    by_cases hlt : i < xs.length
    · obtain ⟨l, hx⟩ := get_ex hlt
      obtain ⟨m, hy⟩ := get_ex (xs := ys) (i := i) (by have := hl.out; omega)
      obtain ⟨b, o, A2, c2, A3, c3, rfl, hb, hc0, hc1, hc2, hc3, hk, h2, h3⟩ := Rep.rowLine h.row hx
      obtain ⟨b', o', B2, d2, B3, d3, rfl, hb', hd0, hd1, hd2, hd3, hk', k2, k3⟩ := Rep.rowLine h'.row hy
      have hlt2 : (i : Int) < (ys.length : Int) := by have := hl.out; omega
      obtain ⟨gk, rfl⟩ : ∃ m, gk = m + 1 := ⟨gk - 1, by omega⟩
      rw [drop_cons hx, drop_cons hy, all2] at hI
      have hI2 := Lib.hid hI.out
      have hbz : b < z.val.heap.size := z.lt _ hb
      have hbz' : b' < z.val.heap.size := z.lt _ hb'
      have hbn : b ≠ z.val.heap.size := by omega
      have hbn' : b' ≠ z.val.heap.size := by omega
      have hbz1 : b' < z.val.heap.size + 1 := by omega
      have hW := fun A B => ((Is.val z).alloc A).alloc B
      clear hI hx hy hi1
      cases hs : lineFits l m with
      | false =>
        go_wp2_with (go_at_call 80; refine (fits1_calls l m _ _ _ _ _).mono ?_; rw [hs]; rintro e w1 ⟨rfl, ⟨x1, rfl⟩⟩)
        go_ret
        exact ⟨ret_bool (by rw [← hI2.out, hs]; rfl), (hW _ _).step x1⟩
      | true =>
        go_wp2_with (go_at_call 80; refine (fits1_calls l m _ _ _ _ _).mono ?_; rw [hs]; rintro e w1 ⟨rfl, ⟨x1, rfl⟩⟩)
        obtain ⟨q, hq⟩ := (hW _ _).step x1
        rw [hq]
        go_roundg gk
        case measure => omega
        case rel => exact ⟨i + 1, q, by have := hi2.out; omega, by go_num, rfl, by unfold Aside; rw [← hI2.out, hs]; rfl⟩
    · obtain rfl : i = xs.length := by omega
      go_wp2
      go_ret
      refine ⟨ret_bool ?_, Is.val z⟩
      have := hI.out
      rw [drop_end, hl.out, drop_end] at this
      rw [← this]; rfl

set_option maxHeartbeats 4000000 in
theorem eqSame_calls (xs ys : List Line) (A B : Option Addr) (c c' : Nat) (w : World) (F G : Nat → Prop) (h : Rep.Sl kLine w F A c xs) (h' : Rep.Sl kLine w G B c' ys) :
    Calls Try.prog 28 #[.slice A xs.length c, .slice B ys.length c', .func (.func 54) #[] #[]] w fun e w' => e = .returned (.bool (all2 lineSame xs ys)) ∧ Is w w' := by
  have hu := Try.underlying50
  have hm := h.len
  have hm' := h'.len
  go_enter Try.func28, Try.ntmps28
  go_wp2
  · go_ret
    exact ⟨ret_bool (all2_ne (fun e => by simp_all)).symm, Is.refl w⟩
  have hl : Hid (xs.length = ys.length) := Lib.hid (by grind)
  have q1 : ((xs.length : Int) != (ys.length : Int)) = false := by grind
  simp only [q1]
  go_loopg [7, 8, 9, 17] xs.length (fun d _ _ _ t wr => ∃ (i : Nat) (z : Under w), i + d = xs.length ∧ t = .int .i64 i ∧ wr = z.val ∧ Aside (all2 lineSame (xs.drop i) (ys.drop i) = all2 lineSame xs ys))
  case atStart => exact ⟨0, Under.refl w, by omega, rfl, rfl, rfl⟩
  case round =>
    obtain ⟨i, z, hi1, rfl, rfl, hI⟩ := hrel
    have hi2 := Lib.hid hi1
    by_cases hlt : i < xs.length
    · obtain ⟨l, hx⟩ := get_ex hlt
      obtain ⟨m, hy⟩ := get_ex (xs := ys) (i := i) (by have := hl.out; omega)
      obtain ⟨b, o, A2, c2, A3, c3, rfl, hb, hc0, hc1, hc2, hc3, hk, h2, h3⟩ := Rep.rowLine h.row hx
      obtain ⟨b', o', B2, d2, B3, d3, rfl, hb', hd0, hd1, hd2, hd3, hk', k2, k3⟩ := Rep.rowLine h'.row hy
      have hlt2 : (i : Int) < (ys.length : Int) := by have := hl.out; omega
      obtain ⟨gk, rfl⟩ : ∃ m, gk = m + 1 := ⟨gk - 1, by omega⟩
      rw [drop_cons hx, drop_cons hy, all2] at hI
      have hI2 := Lib.hid hI.out
      have hbz : b < z.val.heap.size := z.lt _ hb
      have hbz' : b' < z.val.heap.size := z.lt _ hb'
      have hbn : b ≠ z.val.heap.size := by omega
      have hbn' : b' ≠ z.val.heap.size := by omega
      have hbz1 : b' < z.val.heap.size + 1 := by omega
      have hW := fun A B => ((Is.val z).alloc A).alloc B
      clear hI hx hy hi1
      cases hs : lineSame l m with
      | false =>
        go_wp2_with (go_at_call 54; refine (same1_calls l m A2 A3 B2 B3 c2 c3 d2 d3 _ _ _ (h2.is (hW _ _)) (h3.is (hW _ _)) (k2.is (hW _ _)) (k3.is (hW _ _))).mono ?_; rw [hs]; rintro e w1 ⟨rfl, ⟨x1, rfl⟩⟩)
        go_ret
        exact ⟨ret_bool (by rw [← hI2.out, hs]; rfl), (hW _ _).step x1⟩
      | true =>
        go_wp2_with (go_at_call 54; refine (same1_calls l m A2 A3 B2 B3 c2 c3 d2 d3 _ _ _ (h2.is (hW _ _)) (h3.is (hW _ _)) (k2.is (hW _ _)) (k3.is (hW _ _))).mono ?_; rw [hs]; rintro e w1 ⟨rfl, ⟨x1, rfl⟩⟩)
        obtain ⟨q, hq⟩ := (hW _ _).step x1
        rw [hq]
        go_roundg gk
        case measure => omega
        case rel => exact ⟨i + 1, q, by have := hi2.out; omega, by go_num, rfl, by unfold Aside; rw [← hI2.out, hs]; rfl⟩
    · obtain rfl : i = xs.length := by omega
      go_wp2
      go_ret
      refine ⟨ret_bool ?_, Is.val z⟩
      have := hI.out
      rw [drop_end, hl.out, drop_end] at this
      rw [← this]; rfl
end Go.Proofs.Ytabhafllkhoefaa
