/- slices.Clone of numbers and of vectors; slices.EqualFunc with the law's own closure. -/
import Derived.Test.YtabhafllkhoefaaSame
import Derived.Test.YtabhafllkhoefaaPiece
namespace Go.Proofs.Ytabhafllkhoefaa
open Go.RowKit
set_option maxRecDepth 100000

set_option maxHeartbeats 2000000 in
theorem cloneInts_calls (A : Option Addr) (c : Nat) (ys : List Int) (w : World) (F : Nat → Prop) (h : Rep.Sl (Rep.int .i64) w F A c ys) (hpos : 0 < ys.length) (hmax : ys.length ≤ 1000000) :
    Calls Try.prog 61 #[.slice A ys.length c] w fun e w' => ∃ v, e = .returned v ∧ Rep.Own (Rep.int .i64) 3 w' w.heap.size NoB v ys ∧ Is w w' := by
  have hu := Try.underlying47
  obtain ⟨b, o, rfl, _⟩ := h.row.head hpos
  have heq : ∀ W : World, (binOp .eql 47 (.slice (some ⟨b, o, none⟩) ys.length c) (.slice none 0 0)).run Try.prog W = .ok (.bool false) W := fun W => Lib.run_eql_slice_nil W _ _ _ _ _ _ _ hu
  have ho : Rep.Own (Rep.int .i64) 3 (w.alloc (.cells #[] 3)) w.heap.size NoB (.slice (some ⟨w.heap.size, 0, none⟩) 0 0) [] :=
    Rep.Own.fresh (c := []) (Rep.All.nil _ _ _) (Nat.le_refl _) (fun k hk => hk.elim) (by simp)
  have hs := h.is ((Is.refl w).alloc (.cells #[] 3))
  go_enter Try.func61, Try.ntmps61
  go_wp2_with (at_builtin; refine wpList_slF (Rep.Flat.int _) rfl (.tmp 5) (.tmp 6) rfl intT rfl rfl ho hs (le_maxLen (by simp; omega)) (by simp; omega) (by simp) ?_; intro v' w8 ho8 hg8)
  go_ret
  refine ⟨v', rfl, by simpa using ho8, ((Is.refl w).alloc _).grown hg8.by_ (fun k hk => (ho.lt k hk).1)⟩

set_option maxHeartbeats 2000000 in
theorem cloneBits_calls (A : Option Addr) (c : Nat) (ys : List Bits) (w : World) (F : Nat → Prop) (h : Rep.Sl (kBits) w F A c ys) (hpos : 0 < ys.length) (hmax : ys.length ≤ 1000000) :
    Calls Try.prog 62 #[.slice A ys.length c] w fun e w' => ∃ v, e = .returned v ∧ Rep.Own (kBits) 41 w' w.heap.size NoB v ys ∧ Is w w' := by
  have hu := Try.underlying48
  obtain ⟨b, o, rfl, _⟩ := h.row.head hpos
  have heq : ∀ W : World, (binOp .eql 48 (.slice (some ⟨b, o, none⟩) ys.length c) (.slice none 0 0)).run Try.prog W = .ok (.bool false) W := fun W => Lib.run_eql_slice_nil W _ _ _ _ _ _ _ hu
  have ho : Rep.Own (kBits) 41 (w.alloc (.cells #[] 41)) w.heap.size NoB (.slice (some ⟨w.heap.size, 0, none⟩) 0 0) [] :=
    Rep.Own.fresh (c := []) (Rep.All.nil _ _ _) (Nat.le_refl _) (fun k hk => hk.elim) (by simp)
  have hs := h.is ((Is.refl w).alloc (.cells #[] 41))
  go_enter Try.func62, Try.ntmps62
  go_wp2_with (at_builtin; refine wpList_slF kBits_flat rfl (.tmp 5) (.tmp 6) rfl bitsT rfl rfl ho hs (le_maxLen (by simp; omega)) (by simp; omega) (by simp) ?_; intro v' w8 ho8 hg8)
  go_ret
  refine ⟨v', rfl, by simpa using ho8, ((Is.refl w).alloc _).grown hg8.by_ (fun k hk => (ho.lt k hk).1)⟩

set_option maxHeartbeats 2000000 in
theorem fits2_calls (l m : Line) (v2 v3 u2 u3 : Value) (w : World) :
    Calls Try.prog 27 #[.agg #[.string l.Name, .int .i64 l.W, v2, v3], .agg #[.string m.Name, .int .i64 m.W, u2, u3]] w fun e w' => e = .returned (.bool (lineFits l m)) ∧ Is w w' := by
  have hu := Try.underlying50
  go_enter Try.func27, Try.ntmps27
  by_cases h : (l.Name.toList == m.Name.toList) = true
  · go_wp2
    go_ret
    exact ⟨ret_bool (by unfold lineFits; simp [*]), ((Is.refl w).alloc _).alloc _⟩
  · have h : (l.Name.toList == m.Name.toList) = false := by simpa using h
    go_wp2
    go_ret
    exact ⟨ret_bool (by unfold lineFits; simp [*]), ((Is.refl w).alloc _).alloc _⟩

set_option maxHeartbeats 4000000 in
theorem eqFits2_calls (xs ys : List Line) (A B : Option Addr) (c c' : Nat) (w : World) (F G : Nat → Prop) (h : Rep.Sl kLine w F A c xs) (h' : Rep.Sl kLine w G B c' ys) :
    Calls Try.prog 28 #[.slice A xs.length c, .slice B ys.length c', .func (.func 27) #[] #[]] w fun e w' => e = .returned (.bool (all2 lineFits xs ys)) ∧ Is w w' := by
  have hu := Try.underlying50
  have hm := h.len
  have hm' := h'.len
  go_enter Try.func28, Try.ntmps28
  go_wp2
  · go_ret
    exact ⟨ret_bool (all2_ne (fun e => by simp_all)).symm, Is.refl w⟩
  have hl : Hid (xs.length = ys.length) := Lib.hid (by grind)
  have q1 : ((xs.length : Int) != (ys.length : Int)) = false := by grind
  simp only [q1]
  go_loopg [7, 8, 9, 17] xs.length (fun d _ _ _ t wr => ∃ (i : Nat) (z : Under w), i + d = xs.length ∧ t = .int .i64 i ∧ wr = z.val ∧ Aside (all2 lineFits (xs.drop i) (ys.drop i) = all2 lineFits xs ys))
  case atStart => exact ⟨0, Under.refl w, by omega, rfl, rfl, rfl⟩
  case round =>
    obtain ⟨i, z, hi1, rfl, rfl, hI⟩ := hrel
    have hi2 := Lib.hid hi1
    by_cases hlt : i < xs.length
    · obtain ⟨l, hx⟩ := get_ex hlt
      obtain ⟨m, hy⟩ := get_ex (xs := ys) (i := i) (by have := hl.out; omega)
      obtain ⟨b, o, A2, c2, A3, c3, rfl, hb, hc0, hc1, hc2, hc3, hk, h2, h3⟩ := Rep.rowLine h.row hx
      obtain ⟨b', o', B2, d2, B3, d3, rfl, hb', hd0, hd1, hd2, hd3, hk', k2, k3⟩ := Rep.rowLine h'.row hy
      have hlt2 : (i : Int) < (ys.length : Int) := by have := hl.out; omega
      obtain ⟨gk, rfl⟩ : ∃ m, gk = m + 1 := ⟨gk - 1, by omega⟩
      rw [drop_cons hx, drop_cons hy, all2] at hI
      have hI2 := Lib.hid hI.out
      have hbz : b < z.val.heap.size := z.lt _ hb
      have hbz' : b' < z.val.heap.size := z.lt _ hb'
      have hbn : b ≠ z.val.heap.size := by omega
      have hbn' : b' ≠ z.val.heap.size := by omega
      have hbz1 : b' < z.val.heap.size + 1 := by omega
      have hW := fun A B => ((Is.val z).alloc A).alloc B
      clear hI hx hy hi1
      cases hs : lineFits l m with
      | false =>
        go_wp2_with (go_at_call 27; refine (fits2_calls l m _ _ _ _ _).mono ?_; rw [hs]; rintro e w1 ⟨rfl, ⟨x1, rfl⟩⟩)
        go_ret
        exact ⟨ret_bool (by rw [← hI2.out, hs]; rfl), (hW _ _).step x1⟩
      | true =>
        go_wp2_with (go_at_call 27; refine (fits2_calls l m _ _ _ _ _).mono ?_; rw [hs]; rintro e w1 ⟨rfl, ⟨x1, rfl⟩⟩)
        obtain ⟨q, hq⟩ := (hW _ _).step x1
        rw [hq]
        go_roundg gk
        case measure => omega
        case rel => exact ⟨i + 1, q, by have := hi2.out; omega, by go_num, rfl, by unfold Aside; rw [← hI2.out, hs]; rfl⟩
    · obtain rfl : i = xs.length := by omega
      go_wp2
      go_ret
      refine ⟨ret_bool ?_, Is.val z⟩
      have := hI.out
      rw [drop_end, hl.out, drop_end] at this
      rw [← this]; rfl

theorem merge_app (a : List Int) (v : List Bits) : ∀ (xs : List Int) (us : List Bits) (ys : List Int) (ws : List Bits), xs.length = us.length → merge a v (xs ++ ys) (us ++ ws) = merge (merge a v xs us).1 (merge a v xs us).2 ys ws := by
  intro xs
  induction xs generalizing a v with
  | nil =>
    intro us ys ws h
    obtain rfl : us = [] := List.eq_nil_of_length_eq_zero h.symm
    rfl
  | cons x xs ih =>
    intro us ys ws h
    match us, h with
    | u :: us, h =>
      rw [List.cons_append, List.cons_append, merge, merge]
      exact ih _ _ us ys ws (by simpa using h)
/-- What has no value twice in a row stays as it is. -/
theorem merge_valid (a : List Int) (v : List Bits) : ∀ (xs : List Int) (us : List Bits), xs.length = us.length → (∀ i, i < us.length → us[i]? ≠ (if i = 0 then v.getLast? else us[i - 1]?)) → merge a v xs us = (a ++ xs, v ++ us) := by
  intro xs
  induction xs generalizing a v with
  | nil =>
    intro us h _
    obtain rfl : us = [] := List.eq_nil_of_length_eq_zero h.symm
    simp [merge]
  | cons x xs ih =>
    intro us h hd
    match us, h with
    | u :: us, h =>
      have h0 := hd 0 (by simp)
      simp only [List.getElem?_cons_zero, if_true] at h0
      rw [merge, addAt, addVal, if_neg (fun e => h0 e.symm), if_neg (fun e => h0 e.symm), ih _ _ us (by simpa using h) (fun i hi => ?_)]
      · simp
      · have h1 := hd (i + 1) (by simpa using hi)
        simp only [List.getElem?_cons_succ, Nat.add_one_ne_zero, if_false, Nat.add_sub_cancel] at h1
        by_cases hz : i = 0
        · subst hz
          simpa using h1
        · rw [if_neg hz]
          obtain ⟨m, rfl⟩ : ∃ m, i = m + 1 := ⟨i - 1, by omega⟩
          simpa using h1
theorem LV.merge {l : Line} {e : Int} (h : LV l e) : merge [] [] l.At l.Val = (l.At, l.Val) := by
  have := merge_valid [] [] l.At l.Val h.len.symm (fun i hi => ?_)
  · simpa using this
  · by_cases hz : i = 0
    · subst hz
      rw [if_pos rfl, List.getElem?_eq_getElem hi]
      simp
    · rw [if_neg hz]
      obtain ⟨m, rfl⟩ : ∃ m, i = m + 1 := ⟨i - 1, by omega⟩
      have hd := h.diff m (by rw [← h.len]; exact hi)
      have hm : m < l.Val.length := by omega
      rw [Nat.add_sub_cancel, List.getElem?_eq_getElem hi, List.getElem?_eq_getElem hm]
      rw [List.getD, List.getD, List.getElem?_eq_getElem hi, List.getElem?_eq_getElem hm] at hd
      simpa using hd

def backT (a : Int) (ts : List Int) : List Int := ts.map (fun t => a + 1 + t)
def behLine (a : Int) (l m : Line) : Line := ⟨l.Name, l.W, (Go.Proofs.Ytabhafllkhoefaa.merge l.At l.Val (backT a m.At) m.Val).1, (Go.Proofs.Ytabhafllkhoefaa.merge l.At l.Val (backT a m.At) m.Val).2⟩
def behOf (x y : Wave) : Wave := ⟨x.End + 1 + y.End, List.zipWith (behLine x.End) x.Lines y.Lines⟩
/-- The reference's way to the same line. -/
theorem beh_shown {l m : Line} {e : Int} (a : Int) (h : LV l e) : Go.Proofs.Ytabhafllkhoefaa.merge [] [] (l.At ++ backT a m.At) (l.Val ++ m.Val) = ((behLine a l m).At, (behLine a l m).Val) := by
  rw [merge_app [] [] l.At l.Val _ _ h.len.symm, h.merge]
  rfl
theorem merge_len (a : List Int) (v : List Bits) : ∀ (xs : List Int) (us : List Bits), (Go.Proofs.Ytabhafllkhoefaa.merge a v xs us).1.length ≤ a.length + xs.length ∧ (Go.Proofs.Ytabhafllkhoefaa.merge a v xs us).2.length ≤ v.length + xs.length := by
  intro xs
  induction xs generalizing a v with
  | nil => intro us; simp [Go.Proofs.Ytabhafllkhoefaa.merge]
  | cons x xs ih =>
    intro us
    cases us with
    | nil => simp [Go.Proofs.Ytabhafllkhoefaa.merge]
    | cons u us =>
      have h1 := ih (addAt a v x u) (addVal v u) us
      have h2 := addAt_len a v x u
      have h3 := addVal_len v u
      rw [Go.Proofs.Ytabhafllkhoefaa.merge]
      simp only [List.length_cons]
      omega
end Go.Proofs.Ytabhafllkhoefaa
