/- The line with a name (the reference), its value at a time, the next change; the errors of Value. -/
import Derived.Test.YtabhafllkhoefaaValue
import Derived.Test.YtabhafllkhoefaaEq
namespace Go.Proofs.Ytabhafllkhoefaa
open Go.RowKit
set_option maxRecDepth 100000

set_option maxHeartbeats 4000000 in
theorem called_calls (x : Wave) (s : ByteArray) (A : Option Addr) (c : Nat) (w : World) (F : Nat → Prop) (h : Rep.Sl kLine w F A c x.Lines) :
    Calls Try.prog 20 #[.agg #[.int .i64 x.End, .slice A x.Lines.length c], .string s] w fun e w' =>
      ((idxFrom s x.Lines 0 < 0 ∧ e = .returned (.pointer none)) ∨ (0 ≤ idxFrom s x.Lines 0 ∧ ∃ b o, A = some ⟨b, o, none⟩ ∧ e = .returned (.pointer (some ⟨b, o + (idxFrom s x.Lines 0).toNat * 4, none⟩)))) ∧ Is w w' := by
  have hu := Try.underlying24
  have hu2 := Try.underlying50
  have hm := h.len
  have hB : ∀ z : Under (w.alloc (.cells #[.int .i64 x.End, .slice A x.Lines.length c] 24)), w.heap.size < z.val.heap.size := fun z => z.lt _ (by simp)
  go_enter Try.func20, Try.ntmps20
  go_wp2
  go_loopg [5, 9] x.Lines.length (fun d' _ t wr => ∃ (i : Nat), i + d' = x.Lines.length ∧ t = .int .i64 i ∧ wr = w.alloc (.cells #[.int .i64 x.End, .slice A x.Lines.length c] 24) ∧ Aside (idxFrom s (x.Lines.drop i) i = idxFrom s x.Lines 0))
  case atStart => exact ⟨0, by omega, rfl, rfl, rfl⟩
  case round =>
    obtain ⟨i, hi1, rfl, rfl, hI⟩ := hrel
    have hi2 := Lib.hid hi1
    by_cases hlt : i < x.Lines.length
    · obtain ⟨l, hx⟩ := get_ex hlt
      obtain ⟨b, o, A2, c2, A3, c3, rfl, hb, hc0, hc1, hc2, hc3, hk, h2, h3⟩ := Rep.rowLine h.row hx
      obtain ⟨gk, rfl⟩ : ∃ m, gk = m + 1 := ⟨gk - 1, by omega⟩
      rw [drop_cons hx, idxFrom] at hI
      have hI2 := Lib.hid hI.out
      have hbw : b ≤ w.heap.size := by omega
      clear hI hx hi1
      by_cases hs : (l.Name.toList == s.toList) = true
      · go_wp2
        go_ret
        have h9 := hI2.out
        rw [if_pos hs] at h9
        refine ⟨.inr ⟨by rw [← h9]; omega, b, o, rfl, ?_⟩, (Is.refl w).alloc _⟩
        rw [← h9]
        simp
      · have hs' : (l.Name.toList == s.toList) = false := by simpa using hs
        clear hs
        go_wp2
        go_roundg gk
        case measure => omega
        case rel => exact ⟨i + 1, by have := hi2.out; omega, by go_num, rfl, by unfold Aside; rw [← hI2.out, if_neg (by rw [hs']; decide)]; norm_cast⟩
    · obtain rfl : i = x.Lines.length := by omega
      go_wp2
      go_ret
      refine ⟨.inl ⟨?_, rfl⟩, (Is.refl w).alloc _⟩
      rw [← hI.out, drop_end, idxFrom]
      omega

/-- The value of a line at a time, as the reference finds it. -/
def hadFrom (l : Line) (t : Int) : Nat → Nat → Bits → Bits
  | 0, _, b => b
  | d + 1, i, b => hadFrom l t d (i + 1) (if l.At.getD i 0 ≤ t then l.Val.getD i Bits.zero else b)
def had (l : Line) (t : Int) : Bits := hadFrom l t l.At.length 0 Bits.zero
theorem heap_alloc3_at1 (w : World) (A B C : Obj) : (((w.alloc A).alloc B).alloc C).heap[w.heap.size + 1]? = some B :=
  (Below.heap_alloc ((w.alloc A).alloc B) C _ (by simp)).trans (heap_alloc2_new w A B)
theorem set3' (w : World) (G : Nat → Prop) (b : Nat) (hb : G b) (u0 u1 u2 : Value) : ∃ x : But w G, ((w.setCell ⟨b, 0, none⟩ u0).setCell ⟨b, 1, none⟩ u1).setCell ⟨b, 2, none⟩ u2 = x.val := by
  obtain ⟨y1, g1⟩ := (But.refl w G).setCell ⟨b, 0, none⟩ hb u0
  obtain ⟨y2, g2⟩ := y1.setCell ⟨b, 1, none⟩ hb u1
  obtain ⟨y3, g3⟩ := y2.setCell ⟨b, 2, none⟩ hb u2
  exact ⟨y3, by rw [← g3, ← g2, ← g1]; rfl⟩

set_option maxHeartbeats 4000000 in
theorem had_calls (l : Line) (A2 A3 : Option Addr) (c2 c3 : Nat) (t : Int) (w : World) (F : Nat → Prop) (hle : l.At.length ≤ l.Val.length) (h2 : Rep.Sl (Rep.int .i64) w F A2 c2 l.At) (h3 : Rep.Sl kBits w F A3 c3 l.Val) :
    Calls Try.prog 23 #[.agg #[.string l.Name, .int .i64 l.W, .slice A2 l.At.length c2, .slice A3 l.Val.length c3], .int .i64 t] w fun e w' =>
      e = .returned (.agg #[.int .i64 (had l t).W, .int .u64 (had l t).V, .int .u64 (had l t).X]) ∧ Is w w' := by
  have hu := Try.underlying50
  have hu2 := Try.underlying41
  have hm := h2.len
  have hm3 := h3.len
  have hleh := Lib.hid hle
  clear hle
  go_enter Try.func23, Try.ntmps23
  go_wp2
  go_loopg [6, 7, 11] l.At.length (fun d' _ _ t' wr => ∃ (i : Nat) (v : Bits) (z : But (((w.alloc (.cells #[.string l.Name, .int .i64 l.W, .slice A2 l.At.length c2, .slice A3 l.Val.length c3] 50)).alloc (.cells #[.int .i64 0, .int .u64 0, .int .u64 0] 41)).alloc (.cells #[.int .i64 0, .int .u64 0, .int .u64 0] 41)) (fun k => k = w.heap.size + 1 + 1)),
      t' = .int .i64 i ∧ wr = z.val ∧ Aside (z.val.heap[w.heap.size + 1 + 1]? = some (.cells #[.int .i64 v.W, .int .u64 v.V, .int .u64 v.X] 41 (0, 0))) ∧ Aside (i + d' = l.At.length ∧ hadFrom l t d' i v = had l t))
  case atStart => exact ⟨0, Bits.zero, But.refl _ _, rfl, rfl, heap_alloc3_new w _ _ _, by omega, rfl⟩
  case round =>
    obtain ⟨i, v, z, rfl, rfl, hbox, hA⟩ := hrel
    have hgz : w.heap.size < z.val.heap.size := z.lt _ (by simp; omega)
    have hgz1 : w.heap.size + 1 < z.val.heap.size := z.lt _ (by simp)
    have d0 : ¬ w.heap.size = w.heap.size + 1 + 1 := by omega
    have e0 : w.heap.size < w.heap.size + 1 + 1 := by omega
    have e1 : w.heap.size < w.heap.size + 1 + 1 + 1 := by omega
    have hgz2 : w.heap.size + 1 + 1 < z.val.heap.size := z.lt _ (by simp)
    have hf0 : z.val.frozen? ⟨w.heap.size + 1 + 1, 0, none⟩ = false := frozen_of_row _ _ _ _ _ hbox.out
    have hf1 : z.val.frozen? ⟨w.heap.size + 1 + 1, 1, none⟩ = false := frozen_of_row _ _ _ _ _ hbox.out
    have hf2 : z.val.frozen? ⟨w.heap.size + 1 + 1, 2, none⟩ = false := frozen_of_row _ _ _ _ _ hbox.out
    have hqc0 := cell_of_row z.val (w.heap.size + 1 + 1) 0 _ _ _ hbox.out
    have hqc1 := cell_of_row z.val (w.heap.size + 1 + 1) 1 _ _ _ hbox.out
    have hqc2 := cell_of_row z.val (w.heap.size + 1 + 1) 2 _ _ _ hbox.out
    simp at hqc0 hqc1 hqc2
    by_cases hlt : i < l.At.length
    · obtain ⟨a, hta⟩ := get_ex hlt
      obtain ⟨u, hv⟩ := get_ex (xs := l.Val) (i := i) (by have := hleh.out; omega)
      obtain ⟨b2, o2, rfl, hb2, hct, hkt⟩ := Rep.rowInt h2.row hta
      obtain ⟨b3, o3, rfl, hb3, hcv1, hcv2, hcv3, hkv⟩ := Rep.rowBits h3.row hv
      have hlv : (i : Int) < (l.Val.length : Int) := by have := hleh.out; omega
      obtain ⟨gk, rfl⟩ : ∃ m, gk = m + 1 := ⟨gk - 1, by have := hA.out.1; omega⟩
      have n2 : ¬ b2 = w.heap.size + 1 + 1 := by omega
      have n3 : ¬ b3 = w.heap.size + 1 + 1 := by omega
      have l2 : b2 ≤ w.heap.size := by omega
      have l3 : b3 ≤ w.heap.size := by omega
      have l2' : b2 < w.heap.size + 1 + 1 := by omega
      have l3' : b3 < w.heap.size + 1 + 1 := by omega
      have s2 : b2 < w.heap.size + 1 + 1 + 1 := by omega
      have s3 : b3 < w.heap.size + 1 + 1 + 1 := by omega
      have hbz2 : b2 < z.val.heap.size := z.lt _ (by simp; omega)
      have hbz3 : b3 < z.val.heap.size := z.lt _ (by simp; omega)
      have hst := Lib.hid hA.out
      have hta2 := Lib.hid hta
      have hv2 := Lib.hid hv
      have hbox2 := Lib.hid hbox.out
      clear hA hta hv hbox
      by_cases hat : a ≤ t
      · go_wp2
        obtain ⟨z3, hz3⟩ := set3' z.val (fun k => k = w.heap.size + 1 + 1) (w.heap.size + 1 + 1) rfl (.int .i64 u.W) (.int .u64 u.V) (.int .u64 u.X)
        have hbox3 := setCell3_heap z.val (w.heap.size + 1 + 1) _ _ _ (.int .i64 u.W) (.int .u64 u.V) (.int .u64 u.X) hbox2.out
        rw [hz3]
        go_roundg gk
        case measure => omega
        case rel =>
          refine ⟨i + 1, u, z.comp z3 (fun k _ hk => hk), by go_num, rfl, ?_, ?_⟩
          · unfold Aside
            rw [show (z.comp z3 (fun k _ hk => hk)).val = z3.val from rfl, ← hz3]
            exact hbox3
          · have h0 := hst.out
            refine ⟨by omega, ?_⟩
            rw [← h0.2, hadFrom, getD_of hta2.out, if_pos hat, List.getD, hv2.out]
            rfl
      · go_wp2
        go_roundg gk
        case measure => omega
        case rel =>
          refine ⟨i + 1, v, z, by go_num, rfl, hbox2.out, ?_⟩
          have h0 := hst.out
          refine ⟨by omega, ?_⟩
          rw [← h0.2, hadFrom, getD_of hta2.out, if_neg (by omega)]
    · obtain rfl : i = l.At.length := by have := hA.out.1; omega
      obtain rfl : gk = 0 := by have := hA.out.1; omega
      have hv : v = had l t := by have := hA.out.2; rw [hadFrom] at this; exact this
      have hr0 : z.val.heap[w.heap.size + 1]? = some (.cells #[.int .i64 0, .int .u64 0, .int .u64 0] 41 (0, 0)) := (z.block _ (by simp) (by omega)).trans (heap_alloc3_at1 w _ _ _)
      have hg0 : z.val.frozen? ⟨w.heap.size + 1, 0, none⟩ = false := frozen_of_row _ _ _ _ _ hr0
      have hg1 : z.val.frozen? ⟨w.heap.size + 1, 1, none⟩ = false := frozen_of_row _ _ _ _ _ hr0
      have hg2 : z.val.frozen? ⟨w.heap.size + 1, 2, none⟩ = false := frozen_of_row _ _ _ _ _ hr0
      have hr := Lib.hid hr0
      subst hv
      clear hA hbox hr0
      go_wp2
      have hrow : (((z.val.setCell ⟨w.heap.size + 1, 0, none⟩ (.int .i64 (had l t).W)).setCell ⟨w.heap.size + 1, 1, none⟩ (.int .u64 (had l t).V)).setCell ⟨w.heap.size + 1, 2, none⟩ (.int .u64 (had l t).X)).heap[w.heap.size + 1]? = _ := setCell3_heap z.val (w.heap.size + 1) _ _ _ (.int .i64 (had l t).W) (.int .u64 (had l t).V) (.int .u64 (had l t).X) hr.out
      obtain ⟨z3, hz3⟩ := set3' z.val (fun k => w.heap.size + 1 ≤ k) (w.heap.size + 1) (Nat.le_refl _) (.int .i64 (had l t).W) (.int .u64 (had l t).V) (.int .u64 (had l t).X)
      ((try simp only [Exit.inBlock, Exit.then]); refine bodyPost_ret (results_cell_row rfl _ _ (w.heap.size + 1) _ _ _ _ rfl hrow Try.underlying41 rfl (by kernel_rfl)) rfl ?_)
      refine ⟨rfl, ?_⟩
      rw [hz3]
      exact z3.is (z.is ((((Is.refl w).alloc _).alloc _).alloc _) (fun k hk => by omega)) (fun k hk => by omega)

/-- The first number of a row behind t. -/
def after1 (t : Int) : List Int → Option Int
  | [] => none
  | a :: r => if t < a then some a else after1 t r

set_option maxHeartbeats 4000000 in
theorem next_calls (x : Wave) (s : ByteArray) (t : Int) (A : Option Addr) (c : Nat) (w : World) (F : Nat → Prop) (he : InK .i64 x.End) (h : Rep.Sl kLine w F A c x.Lines) :
    Calls Try.prog 22 #[.agg #[.int .i64 x.End, .slice A x.Lines.length c], .string s, .int .i64 t] w fun e w' =>
      ((findErr x s ≠ 0 ∧ e = .returned (.tuple #[.int .i64 0, .int .i64 (findErr x s)])) ∨
       (findErr x s = 0 ∧ ∃ l, x.Lines[(idxFrom s x.Lines 0).toNat]? = some l ∧
         ((∃ a, after1 t (l.At.drop 1) = some a ∧ e = .returned (.tuple #[.int .i64 a, .int .i64 0])) ∨ (after1 t (l.At.drop 1) = none ∧ e = .returned (.tuple #[.int .i64 0, .int .i64 7]))))) ∧ Is w w' := by
  have hu := Try.underlying50
  have hu2 := Try.underlying24
  have hm := h.len
  by_cases hfe : findErr x s = 0
  · have hfh := Lib.hid hfe
    clear hfe
    go_enter Try.func22, Try.ntmps22
    go_wp2_with (go_at_call 57; refine (find_calls x s A c _ (fun k => k < w.heap.size) he (h.inb.is ((Is.refl w).alloc _))).mono ?_; rintro e w1 ⟨hor, ⟨x1, rfl⟩⟩; obtain ⟨_, _, l, A2, c2, A3, c3, hl, hk, hs2, hs3, rfl⟩ := hor.resolve_left (fun h => h.1 hfh.out); have hx0 : w.heap.size < x1.val.heap.size := x1.lt _ (by simp))
    have hlh := Lib.hid hl
    have hml := hs2.len
    clear hl hor
    go_loopg [10, 11, 24] l.At.length (fun d' _ _ t' wr => ∃ (i : Nat), t' = .int .i64 i ∧ wr = x1.val.alloc (.cells #[.string l.Name, .int .i64 l.W, .slice A2 l.At.length c2, .slice A3 l.Val.length c3] 50) ∧ Aside (i + d' = l.At.length ∧ after1 t (l.At.drop (max i 1)) = after1 t (l.At.drop 1)))
    case atStart => exact ⟨0, rfl, rfl, by omega, rfl⟩
    case round =>
      obtain ⟨i, rfl, rfl, hA⟩ := hrel
      by_cases hlt : i < l.At.length
      · obtain ⟨a, hta⟩ := get_ex hlt
        obtain ⟨b2', o2', _, hA2', hF2, _⟩ := hs2.row i a hta
        obtain ⟨b2, o2, rfl, hb2, hct, hkt⟩ := Rep.rowInt hs2.row hta
        have hbw : b2 < w.heap.size := by
          simp only [Option.some.injEq, Addr.mk.injEq, and_true] at hA2'
          rw [hA2'.1]; exact hF2
        have hbx : b2 < x1.val.heap.size := x1.lt _ (by simp; omega)
        have hbl : b2 < w.heap.size + 1 := by omega
        have hbl' : b2 ≤ w.heap.size := by omega
        have hbn : b2 ≠ w.heap.size := by omega
        have hbn' : b2 ≠ x1.val.heap.size := by omega
        have hct1 := (((Is.val x1).alloc (.cells #[.string l.Name, .int .i64 l.W, .slice (some ⟨b2, o2, none⟩) l.At.length c2, .slice A3 l.Val.length c3] 50)).below.cell (p := ⟨b2, o2 + i, none⟩) (by simp; omega)).trans hct
        obtain ⟨gk, rfl⟩ : ∃ m, gk = m + 1 := ⟨gk - 1, by have := hA.out.1; omega⟩
        have hst := Lib.hid hA.out
        have hta2 := Lib.hid hta
        clear hA hta hA2' hF2
        by_cases hi0 : i = 0
        · subst hi0
          simp only [Nat.add_zero] at hct hct1
          go_wp2
          go_roundg gk
          case measure => omega
          case rel =>
            have h0 := hst.out
            exact ⟨1, rfl, rfl, by omega, by rw [← h0.2]; rfl⟩
        · have hp : 0 < (i : Int) := by omega
          have hih := Lib.hid hi0
          clear hi0
          have hn : after1 t (l.At.drop (max i 1)) = if t < a then some a else after1 t (l.At.drop (i + 1)) := by
            rw [show max i 1 = i by have := hih.out; omega, drop_cons hta2.out, after1]
          have hnh := Lib.hid hn
          clear hn
          by_cases hta3 : t < a
          · go_wp2
            go_ret2
            refine ⟨.inr ⟨hfh.out, l, hlh.out, .inl ⟨a, ?_, rfl⟩⟩, (((Is.refl w).alloc _).step x1).alloc _⟩
            rw [← hst.out.2, hnh.out, if_pos hta3]
          · go_wp2
            go_roundg gk
            case measure => omega
            case rel =>
              have h0 := hst.out
              refine ⟨i + 1, by go_num, rfl, by omega, ?_⟩
              rw [← h0.2, hnh.out, if_neg (by omega), show max (i + 1) 1 = i + 1 by omega]
      · obtain rfl : i = l.At.length := by have := hA.out.1; omega
        have hst := Lib.hid hA.out
        clear hA
        go_wp2
        go_ret2
        refine ⟨.inr ⟨hfh.out, l, hlh.out, .inr ⟨?_, rfl⟩⟩, (((Is.refl w).alloc _).step x1).alloc _⟩
        rw [← hst.out.2, List.drop_of_length_le (by omega)]
        rfl
  · have hb : (findErr x s != 0) = true := by simpa using hfe
    have hfh := Lib.hid hfe
    clear hfe
    go_enter Try.func22, Try.ntmps22
    go_wp2_with (go_at_call 57; refine (find_calls x s A c _ F he (h.is ((Is.refl w).alloc _))).mono ?_; rintro e w1 ⟨hor, ⟨x1, rfl⟩⟩; obtain ⟨_, rfl⟩ := hor.resolve_right (fun h => hfh.out h.1); have hx0 : w.heap.size < x1.val.heap.size := x1.lt _ (by simp))
    go_ret2
    exact ⟨.inl ⟨hfh.out, rfl⟩, (((Is.refl w).alloc _).step x1).alloc _⟩
end Go.Proofs.Ytabhafllkhoefaa
