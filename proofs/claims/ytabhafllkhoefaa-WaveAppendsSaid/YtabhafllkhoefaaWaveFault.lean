/- The reference's check of a wave: it answers as the program's does. -/
import Derived.Test.YtabhafllkhoefaaCheck
import Derived.Test.YtabhafllkhoefaaMap
namespace Go.Proofs.Ytabhafllkhoefaa
open Go.RowKit
open Go.ChangeMaps (setBlock)
set_option maxRecDepth 100000

def nameKey : KeyEnc Try.prog 9 ByteArray := strKey Try.prog 9 Try.underlying9
theorem toList_inj {a b : ByteArray} (h : a.toList = b.toList) : a = b := by
  rw [ByteArray.toList_eq, ByteArray.toList_eq] at h
  cases a; cases b
  simp only [ByteArray.mk.injEq]
  exact Array.toList_inj.1 h
theorem toList_beq (a b : ByteArray) : (a.toList == b.toList) = decide (a = b) := by
  by_cases h : a = b
  · subst h; simp
  · simp only [h, decide_false]
    exact beq_eq_false_iff_ne.2 fun h2 => h (toList_inj h2)
theorem idx_any (s : ByteArray) (xs : List Line) (i : Int) (hi : 0 ≤ i) : (0 ≤ idxFrom s xs i) ↔ ∃ l ∈ xs, l.Name = s := by
  induction xs generalizing i with
  | nil => simp [idxFrom]
  | cons l ls ih =>
    rw [idxFrom]
    by_cases h : l.Name = s
    · subst h
      simp [hi]
    · have h2 : (l.Name.toList == s.toList) = false := by
        rw [toList_beq]
        simpa using h
      rw [if_neg (by rw [h2]; decide), ih (i + 1) (by omega)]
      simp [h]
def seenOf (xs : List Line) : List (ByteArray × Bool) := xs.map fun l => (l.Name, true)
theorem mget_seen (s : ByteArray) (xs : List Line) : ((mget (seenOf xs) s).map Value.bool).getD (.bool false) = .bool (decide (0 ≤ idxFrom s xs 0)) := by
  have h := idx_any s xs 0 (by omega)
  by_cases hx : ∃ l ∈ xs, l.Name = s
  · rw [decide_eq_true (h.2 hx)]
    have : mget (seenOf xs) s = some true := by
      clear h
      induction xs with
      | nil => simp at hx
      | cons l ls ih =>
        unfold seenOf
        rw [List.map_cons, mget]
        split
        · rfl
        · rename_i hne
          apply ih
          obtain ⟨m, hm, he⟩ := hx
          rcases List.mem_cons.1 hm with rfl | hm
          · exact absurd he hne
          · exact ⟨m, hm, he⟩
    rw [this]; rfl
  · rw [decide_eq_false (fun h0 => hx (h.1 h0))]
    rw [mget_new (by
      intro p hp
      obtain ⟨l, hl, rfl⟩ := List.mem_map.1 hp
      exact fun e => hx ⟨l, hl, e⟩)]
    rfl

set_option maxHeartbeats 4000000 in
theorem waveFault_calls (x : Wave) (A : Option Addr) (c : Nat) (w : World) (F : Nat → Prop) (he : InK .i64 x.End) (h : Rep.Sl kLine w F A c x.Lines) :
    Calls Try.prog 11 #[.agg #[.int .i64 x.End, .slice A x.Lines.length c]] w fun e w' => e = .returned (.int .i64 (waveFault x)) ∧ Is w w' := by
  have hu := Try.underlying50
  have hu2 := Try.underlying24
  have hmm := @run_makeMap Try.prog
  have hm := h.len
  go_enter Try.func11, Try.ntmps11
  go_wp2
  all_goals try (go_ret; exact ⟨ret_int (by unfold waveFault; grind), (Is.refl w).alloc _⟩)
  have e1 : 0 ≤ x.End := by omega
  have e2 : x.End ≤ 1099511627776 := by omega
  have hB : ∀ y : Under (w.alloc (.cells #[.int .i64 x.End, .slice A x.Lines.length c] 24)), w.heap.size < y.val.heap.size := fun y => y.lt _ (by simp)
  go_loopg [3, 5, 21] x.Lines.length (fun d t _ u wr => ∃ (i : Nat) (n : Int) (y : Under (w.alloc (.cells #[.int .i64 x.End, .slice A x.Lines.length c] 24))), i + d = x.Lines.length ∧ t = .int .i64 n ∧ u = .int .i64 i ∧ wr = y.val ∧ Aside (totFrom (x.Lines.drop i) n = totFrom x.Lines 0))
  case atStart => exact ⟨0, 0, Under.refl _, by omega, rfl, rfl, rfl, rfl⟩
  case round =>
    obtain ⟨i, n, y, hi, rfl, rfl, rfl, hI⟩ := hrel
    have hi2 := Lib.hid hi
    by_cases hlt : i < x.Lines.length
    · obtain ⟨l, hl⟩ := get_ex hlt
      obtain ⟨b, o, A2, c2, A3, c3, rfl, hb, hc0, hc1, hc2, hc3, hk, _, _⟩ := Rep.rowLine h.row hl
      obtain ⟨gk, rfl⟩ : ∃ m, gk = m + 1 := ⟨gk - 1, by omega⟩
      have hby : b < y.val.heap.size := y.lt _ (by simp; omega)
      have hbl : b ≤ w.heap.size := by omega
      rw [drop_cons hl, totFrom] at hI
      have hI2 := Lib.hid hI.out
      clear hI hl hi
      go_wp2
      go_roundg gk
      case measure => omega
      case rel => exact ⟨i + 1, _, y.alloc _, by have := hi2.out; omega, rfl, by go_num, rfl, hI2.out⟩
    · obtain rfl : i = x.Lines.length := by omega
      rw [drop_end, totFrom] at hI
      have hI2 := Lib.hid hI.out
      clear hI hi2 hi
      have hgy := hB y
      go_wp2
      all_goals try (go_ret; exact ⟨ret_int (by unfold waveFault; rw [← hI2.out]; grind), ((Is.refl w).alloc _).step y⟩)
      have hwf : Hid (waveFault x = linesFrom x x.Lines.length 0) := Lib.hid (by unfold waveFault; rw [← hI2.out]; grind)
      have dd1 : decide (160 < (x.Lines.length : Int)) = false := by grind
      have dd2 : decide (20000 < n) = false := by grind
      simp only [dd1, dd2]
      have hz : ∀ W, (zeroValue 4).run Try.prog W = .ok (.bool false) W := fun W => by kernel_rfl
      have hM0 : MapAt nameKey Value.bool (y.val.alloc (.map #[] 0)) y.val.heap.size (seenOf (x.Lines.take 0)) := MapAt.made y.val
      go_loopg [8, 9, 43] x.Lines.length (fun d _ _ u wr => ∃ (i : Nat) (z : But (y.val.alloc (.map #[] 0)) (fun k => k = y.val.heap.size)), i + d = x.Lines.length ∧ u = .int .i64 i ∧ wr = z.val ∧ MapAt nameKey Value.bool z.val y.val.heap.size (seenOf (x.Lines.take i)) ∧ Aside (linesFrom x d i = waveFault x))
      case atStart => exact ⟨0, But.refl _ _, by omega, rfl, rfl, hM0, hwf.out.symm⟩
      case round =>
        clear hM0
        obtain ⟨i, z, hi, rfl, rfl, hM, hI⟩ := hrel
        have hi2 := Lib.hid hi
        by_cases hlt : i < x.Lines.length
        · obtain ⟨l, hl⟩ := get_ex hlt
          obtain ⟨b, o, A2, c2, A3, c3, rfl, hb, hc0, hc1, hc2, hc3, hk, hs2, hs3⟩ := Rep.rowLine h.row hl
          obtain ⟨gk, rfl⟩ : ∃ m, gk = m + 1 := ⟨gk - 1, by omega⟩
          have hby : b < y.val.heap.size := y.lt _ (by simp; omega)
          have hne : b ≠ y.val.heap.size := by omega
          have hbz : b < z.val.heap.size := z.lt _ (by simp; omega)
          have hgz : w.heap.size < z.val.heap.size := z.lt _ (by simp; omega)
          have hne2 : w.heap.size ≠ y.val.heap.size := by omega
          have hbl : b ≤ w.heap.size := by omega
          have hbl2 : b ≤ y.val.heap.size := by omega
          have hgl2 : w.heap.size ≤ y.val.heap.size := by omega
          have hgt2 : y.val.heap.size < z.val.heap.size := z.lt _ (by simp)
          have hwz : Is w z.val := z.is (((Is.refl w).alloc _).step y |>.alloc _) (by rintro k rfl; exact hgl2)
          have hst := Lib.hid ((linesFrom_step hl).symm.trans hI.out)
          have hok : nameKey.ok l.Name := hk.1
          have hlk : ∀ v : Under (z.val.alloc (.cells #[.string l.Name, .int .i64 l.W, .slice A2 l.At.length c2, .slice A3 l.Val.length c3] 50)), (Instr.lookup 91 (.map (some y.val.heap.size)) (.string l.Name) false).run Try.prog v.val = .ok (.bool (decide (0 ≤ idxFrom l.Name (x.Lines.take i) 0))) v.val := fun v =>
            (run_mapLookup (hM.is (((Is.refl _).alloc _).step v)) Try.underlying91 (hz _) hok).trans (by rw [mget_seen])
          have hup0 : ∀ v : Under (z.val.alloc (.cells #[.string l.Name, .int .i64 l.W, .slice A2 l.At.length c2, .slice A3 l.Val.length c3] 50)), ∃ o, (Instr.mapUpdate 91 (.map (some y.val.heap.size)) (.string l.Name) (.bool true)).run Try.prog v.val = .ok () (setBlock v.val y.val.heap.size o) ∧ MapAt nameKey Value.bool (setBlock v.val y.val.heap.size o) y.val.heap.size (mput (seenOf (x.Lines.take i)) l.Name true) := fun v =>
            run_mapStore (hM.is (((Is.refl _).alloc _).step v)) Try.underlying91 hok true
          obtain ⟨ob, hob⟩ := Classical.skolem.1 hup0
          have hup := fun v => (hob v).1
          have hob2 := Lib.hid (fun v => (hob v).2)
          have hl2 := Lib.hid hl
          clear hI hl hi hup0 hob
          go_wp2_with (go_at_call 45; refine (lineFault_calls l x.End _ F A2 A3 c2 c3 hk (hs2.is (hwz.alloc _)) (hs3.is (hwz.alloc _)) he).mono ?_; rintro e w' ⟨rfl, ⟨v, rfl⟩⟩)
          · go_ret
            exact ⟨ret_int (by rw [← hst.out]; grind), (hwz.alloc _).step v⟩
          · go_ret
            exact ⟨ret_int (by rw [← hst.out]; grind), (hwz.alloc _).step v⟩
          · have hsn : mput (seenOf (x.Lines.take i)) l.Name true = seenOf (x.Lines.take (i + 1)) := by
              have h0 : ¬ 0 ≤ idxFrom l.Name (x.Lines.take i) 0 := by omega
              rw [idx_any _ _ _ (by omega)] at h0
              rw [mput_new (by
                intro p hp
                obtain ⟨m, hm, rfl⟩ := List.mem_map.1 hp
                exact fun e => h0 ⟨m, hm, e⟩), List.take_add_one, hl2.out]
              simp [seenOf]
            go_roundg gk
            case measure => omega
            case rel => exact ⟨i + 1, ((z.alloc _).under v).set _ rfl (ob v), by have := hi2.out; omega, by go_num, rfl, hsn ▸ hob2.out v, by unfold Aside; rw [← hst.out]; grind⟩
        · obtain rfl : i = x.Lines.length := by omega
          obtain rfl : gk = 0 := by omega
          go_wp2
          go_ret
          exact ⟨ret_int (by rw [← hI.out]; rfl), z.is (((Is.refl w).alloc _).step y |>.alloc _) (by rintro k rfl; omega)⟩
end Go.Proofs.Ytabhafllkhoefaa
