/- The check of a wave. -/
import Derived.Test.YtabhafllkhoefaaFault
namespace Go.Proofs.Ytabhafllkhoefaa
open Go.RowKit
set_option maxRecDepth 100000

theorem drop_cons {α : Type} {xs : List α} {i : Nat} {x : α} (h : xs[i]? = some x) : xs.drop i = x :: xs.drop (i + 1) := by
  obtain ⟨hl, rfl⟩ := List.getElem?_eq_some_iff.1 h
  exact List.drop_eq_getElem_cons hl
theorem drop_end {α : Type} (xs : List α) : xs.drop xs.length = [] := List.drop_length

/-- Which line has the name? -/
def idxFrom (s : ByteArray) : List Line → Int → Int
  | [], _ => -1
  | l :: ls, i => if l.Name.toList == s.toList then i else idxFrom s ls (i + 1)

set_option maxHeartbeats 1000000 in
theorem nameIs_calls (l : Line) (s : ByteArray) (v2 v3 : Value) (g : Nat) (w : World) (hg : g < w.heap.size) (h0 : w.cell? ⟨g, 0, none⟩ = some (.string s)) :
    Calls Try.prog 52 #[.agg #[.string l.Name, .int .i64 l.W, v2, v3], .pointer (some ⟨g, 0, none⟩)] w fun e w' => e = .returned (.bool (l.Name.toList == s.toList)) ∧ Is w w' := by
  have hu := Try.underlying50
  go_enter Try.func52, Try.ntmps52
  go_wp2
  go_ret
  exact ⟨rfl, (Is.refl w).alloc _⟩

set_option maxHeartbeats 4000000 in
theorem indexName_calls (xs : List Line) (s : ByteArray) (A : Option Addr) (c g : Nat) (w : World) (F : Nat → Prop) (h : Rep.Sl kLine w F A c xs) (hg : g < w.heap.size) (h0 : w.cell? ⟨g, 0, none⟩ = some (.string s)) :
    Calls Try.prog 79 #[.slice A xs.length c, .func (.func 52) #[] #[.pointer (some ⟨g, 0, none⟩)]] w fun e w' => e = .returned (.int .i64 (idxFrom s xs 0)) ∧ Is w w' := by
  have hu := Try.underlying50
  have hm := h.len
  go_enter Try.func79, Try.ntmps79
  go_wp2
  go_loopg [5, 8] xs.length (fun d _ t wr => ∃ (i : Nat) (x : Under w), i + d = xs.length ∧ t = .int .i64 i ∧ wr = x.val ∧ Aside (idxFrom s (xs.drop i) i = idxFrom s xs 0))
  case atStart => exact ⟨0, Under.refl _, by omega, rfl, rfl, rfl⟩
  case round =>
    obtain ⟨i, x, hi, rfl, rfl, hI⟩ := hrel
    have hi2 := Lib.hid hi
    by_cases hlt : i < xs.length
    · obtain ⟨l, hl⟩ := get_ex hlt
      obtain ⟨b, o, A2, c2, A3, c3, rfl, hb, hc0, hc1, hc2, hc3, hk, _, _⟩ := Rep.rowLine h.row hl
      obtain ⟨gk, rfl⟩ : ∃ m, gk = m + 1 := ⟨gk - 1, by omega⟩
      have hbx : b < x.val.heap.size := x.lt _ hb
      have hgx : g < x.val.heap.size := x.lt _ hg
      rw [drop_cons hl, idxFrom] at hI
      have hl2 := Lib.hid hl
      clear hi hl
      by_cases hs : (l.Name.toList == s.toList) = true
      · have hI2 := Lib.hid hI.out
        clear hI
        go_wp2_with (go_at_call 52; refine (nameIs_calls l s _ _ g _ hgx (by rw [x.cell _ _ hg]; exact h0)).mono ?_; rintro e w' ⟨rfl, ⟨y, rfl⟩⟩)
        go_ret
        exact ⟨ret_int (by rw [← hI2.out, if_pos hs]), (Is.val x).step y⟩
      · have hs' : (l.Name.toList == s.toList) = false := by simpa using hs
        have hI2 := Lib.hid hI.out
        clear hI hs
        go_wp2_with (go_at_call 52; refine (nameIs_calls l s _ _ g _ hgx (by rw [x.cell _ _ hg]; exact h0)).mono ?_; rintro e w' ⟨rfl, ⟨y, rfl⟩⟩)
        go_roundg gk
        case measure => omega
        case rel => exact ⟨i + 1, x.trans y, by have := hi2.out; omega, by go_num, rfl, by unfold Aside; rw [← hI2.out, if_neg (by rw [hs']; decide)]; norm_cast⟩
    · obtain rfl : i = xs.length := by omega
      go_wp2
      go_ret
      exact ⟨ret_int (by rw [← hI.out, drop_end]; rfl), Is.val x⟩

set_option maxHeartbeats 1000000 in
theorem containsName_calls (xs : List Line) (n : Nat) (hn : xs.length = n) (s : ByteArray) (A : Option Addr) (c g : Nat) (w : World) (F : Nat → Prop) (h : Rep.Sl kLine w F A c xs) (hg : g < w.heap.size) (h0 : w.cell? ⟨g, 0, none⟩ = some (.string s)) :
    Calls Try.prog 51 #[.slice A n c, .func (.func 52) #[] #[.pointer (some ⟨g, 0, none⟩)]] w fun e w' => e = .returned (.bool (decide (0 ≤ idxFrom s xs 0))) ∧ Is w w' := by
  subst hn
  go_enter Try.func51, Try.ntmps51
  go_wp2_with (go_at_call 79; refine (indexName_calls xs s A c g w F h hg h0).mono ?_; rintro e w' ⟨rfl, hw⟩)
  go_ret
  exact ⟨rfl, hw⟩

def totFrom : List Line → Int → Int
  | [], a => a
  | l :: ls, a => totFrom ls (wrap64 (a + l.At.length))
def linesFrom (x : Wave) : Nat → Nat → Int
  | 0, _ => 0
  | d + 1, i => match x.Lines[i]? with
    | none => 0
    | some l => if lineFault l x.End ≠ 0 then lineFault l x.End else if 0 ≤ idxFrom l.Name (x.Lines.take i) 0 then 6 else linesFrom x d (i + 1)
def waveFault (x : Wave) : Int :=
  if x.End < 0 ∨ 1099511627776 < x.End then 2 else if 160 < x.Lines.length ∨ 20000 < totFrom x.Lines 0 then 3 else linesFrom x x.Lines.length 0
theorem linesFrom_step {x : Wave} {d i : Nat} {l : Line} (h : x.Lines[i]? = some l) : linesFrom x (d + 1) i = if lineFault l x.End ≠ 0 then lineFault l x.End else if 0 ≤ idxFrom l.Name (x.Lines.take i) 0 then 6 else linesFrom x d (i + 1) := by
  rw [linesFrom, h]

set_option maxHeartbeats 4000000 in
theorem check_calls (x : Wave) (A : Option Addr) (c : Nat) (w : World) (F : Nat → Prop) (he : InK .i64 x.End) (h : Rep.Sl kLine w F A c x.Lines) :
    Calls Try.prog 17 #[.agg #[.int .i64 x.End, .slice A x.Lines.length c]] w fun e w' => e = .returned (.int .i64 (waveFault x)) ∧ Is w w' := by
  have hu := Try.underlying50
  have hu2 := Try.underlying24
  have hm := h.len
  go_enter Try.func17, Try.ntmps17
  go_wp2
  all_goals try (go_ret; exact ⟨ret_int (by unfold waveFault; grind), (Is.refl w).alloc _⟩)
  have e1 : 0 ≤ x.End := by omega
  have e2 : x.End ≤ 1099511627776 := by omega
  have hB : ∀ y : Under (w.alloc (.cells #[.int .i64 x.End, .slice A x.Lines.length c] 24)), w.heap.size < y.val.heap.size := fun y => y.lt _ (by simp)
  go_loopg [3, 5, 20] x.Lines.length (fun d t _ u wr => ∃ (i : Nat) (n : Int) (y : Under (w.alloc (.cells #[.int .i64 x.End, .slice A x.Lines.length c] 24))), i + d = x.Lines.length ∧ t = .int .i64 n ∧ u = .int .i64 i ∧ wr = y.val ∧ Aside (totFrom (x.Lines.drop i) n = totFrom x.Lines 0))
  case atStart => exact ⟨0, 0, Under.refl _, by omega, rfl, rfl, rfl, rfl⟩
  case round =>
    obtain ⟨i, n, y, hi, rfl, rfl, rfl, hI⟩ := hrel
    have hi2 := Lib.hid hi
    by_cases hlt : i < x.Lines.length
    · obtain ⟨l, hl⟩ := get_ex hlt
      obtain ⟨b, o, A2, c2, A3, c3, rfl, hb, hc0, hc1, hc2, hc3, hk, _, _⟩ := Rep.rowLine h.row hl
      obtain ⟨gk, rfl⟩ : ∃ m, gk = m + 1 := ⟨gk - 1, by omega⟩
      have hby : b < y.val.heap.size := y.lt _ (by simp; omega)
      have hbl : b ≤ w.heap.size := by omega
      rw [drop_cons hl, totFrom] at hI
      have hI2 := Lib.hid hI.out
      clear hI hl hi
      go_wp2
      go_roundg gk
      case measure => omega
      case rel => exact ⟨i + 1, _, y.alloc _, by have := hi2.out; omega, rfl, by go_num, rfl, hI2.out⟩
    · obtain rfl : i = x.Lines.length := by omega
      rw [drop_end, totFrom] at hI
      have hI2 := Lib.hid hI.out
      clear hI hi2 hi
      have hgy := hB y
      go_wp2
      all_goals try (go_ret; exact ⟨ret_int (by unfold waveFault; rw [← hI2.out]; grind), ((Is.refl w).alloc _).step y⟩)
      have hwf : Hid (waveFault x = linesFrom x x.Lines.length 0) := Lib.hid (by unfold waveFault; rw [← hI2.out]; grind)
      have dd1 : decide (160 < (x.Lines.length : Int)) = false := by grind
      have dd2 : decide (20000 < n) = false := by grind
      simp only [dd1, dd2]
      go_loopg [6, 7, 8, 41] x.Lines.length (fun d _ _ _ u wr => ∃ (i : Nat) (z : Under y.val), i + d = x.Lines.length ∧ u = .int .i64 i ∧ wr = z.val ∧ Aside (linesFrom x d i = waveFault x))
      case atStart => exact ⟨0, Under.refl _, by omega, rfl, rfl, hwf.out.symm⟩
      case round =>
        obtain ⟨i, z, hi, rfl, rfl, hI⟩ := hrel
        have hi2 := Lib.hid hi
        by_cases hlt : i < x.Lines.length
        · obtain ⟨l, hl⟩ := get_ex hlt
          obtain ⟨b, o, A2, c2, A3, c3, rfl, hb, hc0, hc1, hc2, hc3, hk, hs2, hs3⟩ := Rep.rowLine h.row hl
          obtain ⟨gk, rfl⟩ : ∃ m, gk = m + 1 := ⟨gk - 1, by omega⟩
          have hby : b < y.val.heap.size := y.lt _ (by simp; omega)
          have hbz : b < z.val.heap.size := z.lt _ hby
          have hgz : w.heap.size < z.val.heap.size := z.lt _ hgy
          have hbl : b ≤ w.heap.size := by omega
          have hwz : Is w z.val := (((Is.refl w).alloc _).step y).step z
          have hst := Lib.hid ((linesFrom_step hl).symm.trans hI.out)
          have hlen : (x.Lines.take i).length = i := by rw [List.length_take]; omega
          have hlen2 := Lib.hid hlen
          have hl2 := Lib.hid hl
          clear hI hl hi hlen
          have hic : i ≤ c := by have := h.le; omega
          go_wp2_with (first
            | (go_at_call 50; refine (checkLine_head l x.End _ F A2 A3 c2 c3 hk (hs2.is (hwz.alloc _)) (hs3.is (hwz.alloc _)) he).mono ?_; rintro e w' ⟨rfl, ⟨v, rfl⟩⟩)
            | (go_at_call 51; refine (containsName_calls (x.Lines.take i) i hlen2.out l.Name _ c _ _ F ((h.take i).is ((hwz.alloc _).step v)) (v.lt _ (by simp)) (by rw [v.cell _ _ (by simp)]; go_simp)).mono ?_; rintro e w' ⟨rfl, ⟨u, rfl⟩⟩))
          · go_ret
            exact ⟨ret_int (by rw [← hst.out]; grind), (hwz.alloc _).step v⟩
          · go_ret
            exact ⟨ret_int (by rw [← hst.out]; grind), ((hwz.alloc _).step v).step u⟩
          · go_roundg gk
            case measure => omega
            case rel => exact ⟨i + 1, ((z.alloc _).trans v).trans u, by have := hi2.out; omega, by go_num, rfl, by unfold Aside; rw [← hst.out]; grind⟩
        · obtain rfl : i = x.Lines.length := by omega
          obtain rfl : gk = 0 := by omega
          go_wp2
          go_ret
          exact ⟨ret_int (by rw [← hI.out]; rfl), (((Is.refl w).alloc _).step y).step z⟩
end Go.Proofs.Ytabhafllkhoefaa
