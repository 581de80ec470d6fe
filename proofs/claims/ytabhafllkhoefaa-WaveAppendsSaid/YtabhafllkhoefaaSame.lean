/- Equality of waves: wave.fits, wave.Same, and the reference's SameWave. -/
import Derived.Test.YtabhafllkhoefaaEq
namespace Go.Proofs.Ytabhafllkhoefaa
open Go.RowKit
set_option maxRecDepth 100000

def lineAll (l m : Line) : Bool := lineFits l m && lineSame l m
def sameWave (x y : Wave) : Bool := (x.End == y.End) && all2 lineAll x.Lines y.Lines
theorem all2_and {α β : Type} {f g : α → β → Bool} : ∀ (xs : List α) (ys : List β), all2 (fun x y => f x y && g x y) xs ys = (all2 f xs ys && all2 g xs ys)
  | [], [] => rfl
  | x :: xs, y :: ys => by
    simp only [all2, all2_and xs ys]
    cases f x y <;> cases g x y <;> simp
  | [], _ :: _ => rfl
  | _ :: _, [] => rfl
theorem all2_lineAll (xs ys : List Line) : all2 lineAll xs ys = (all2 lineFits xs ys && all2 lineSame xs ys) := all2_and xs ys
theorem lineAll_refl (l : Line) : lineAll l l = true := by simp [lineAll, lineFits, lineSame]
theorem all2_refl {α : Type} {f : α → α → Bool} (hf : ∀ x, f x x = true) : ∀ xs : List α, all2 f xs xs = true
  | [] => rfl
  | x :: xs => by simp [all2, hf, all2_refl hf xs]
theorem sameWave_refl (x : Wave) : sameWave x x = true := by simp [sameWave, all2_refl lineAll_refl]

set_option maxHeartbeats 2000000 in
theorem fits_calls (x y : Wave) (A B : Option Addr) (c d : Nat) (w : World) (F G : Nat → Prop) (h : Rep.Sl kLine w F A c x.Lines) (k : Rep.Sl kLine w G B d y.Lines) :
    Calls Try.prog 53 #[.agg #[.int .i64 x.End, .slice A x.Lines.length c], .agg #[.int .i64 y.End, .slice B y.Lines.length d]] w fun e w' => e = .returned (.bool (all2 lineFits x.Lines y.Lines)) ∧ Is w w' := by
  have hu := Try.underlying24
  have hW : Is w ((w.alloc (.cells #[.int .i64 x.End, .slice A x.Lines.length c] 24)).alloc (.cells #[.int .i64 y.End, .slice B y.Lines.length d] 24)) := ((Is.refl w).alloc _).alloc _
  go_enter Try.func53, Try.ntmps53
  go_wp2_with (go_at_call 28; refine (eqFits_calls x.Lines y.Lines A B c d _ _ _ (h.is hW) (k.is hW)).mono ?_; rintro e w1 ⟨rfl, ⟨x1, rfl⟩⟩)
  go_ret
  exact ⟨rfl, hW.step x1⟩

set_option maxHeartbeats 2000000 in
theorem same_calls (x y : Wave) (A B : Option Addr) (c d : Nat) (w : World) (F G : Nat → Prop) (h : Rep.Sl kLine w F A c x.Lines) (k : Rep.Sl kLine w G B d y.Lines) :
    Calls Try.prog 18 #[.agg #[.int .i64 x.End, .slice A x.Lines.length c], .agg #[.int .i64 y.End, .slice B y.Lines.length d]] w fun e w' => e = .returned (.bool (sameWave x y)) ∧ Is w w' := by
  have hu := Try.underlying24
  have hW : Is w ((w.alloc (.cells #[.int .i64 x.End, .slice A x.Lines.length c] 24)).alloc (.cells #[.int .i64 y.End, .slice B y.Lines.length d] 24)) := ((Is.refl w).alloc _).alloc _
  have hB : ∀ z : Under ((w.alloc (.cells #[.int .i64 x.End, .slice A x.Lines.length c] 24)).alloc (.cells #[.int .i64 y.End, .slice B y.Lines.length d] 24)), w.heap.size < z.val.heap.size ∧ w.heap.size + 1 < z.val.heap.size := fun z => ⟨z.lt _ (by simp; omega), z.lt _ (by simp)⟩
  go_enter Try.func18, Try.ntmps18
  cases he : (x.End == y.End) with
  | false =>
    go_wp2
    go_ret
    exact ⟨ret_bool (by unfold sameWave; rw [he]; rfl), hW⟩
  | true =>
    cases hf : all2 lineFits x.Lines y.Lines with
    | false =>
      go_wp2_with (go_at_call 53; refine (fits_calls x y A B c d _ _ _ (h.is hW) (k.is hW)).mono ?_; rw [hf]; rintro e w1 ⟨rfl, ⟨x1, rfl⟩⟩; have hW1 := hW.step x1; have hb1 := (hB x1).1; have hb2 := (hB x1).2)
      go_ret
      exact ⟨ret_bool (by unfold sameWave; rw [he, all2_lineAll, hf]; rfl), hW1⟩
    | true =>
      go_wp2_with (first
        | (go_at_call 53; refine (fits_calls x y A B c d _ _ _ (h.is hW) (k.is hW)).mono ?_; rw [hf]; rintro e w1 ⟨rfl, ⟨x1, rfl⟩⟩; have hW1 := hW.step x1; have hb1 := (hB x1).1; have hb2 := (hB x1).2)
        | (go_at_call 28; refine (eqSame_calls x.Lines y.Lines A B c d _ _ _ (h.is hW1) (k.is hW1)).mono ?_; rintro e w2 ⟨rfl, ⟨x2, rfl⟩⟩; have hW2 := hW1.step x2))
      go_ret
      exact ⟨ret_bool (by unfold sameWave; rw [he, all2_lineAll, hf]; rfl), hW2⟩

set_option maxHeartbeats 8000000 in
theorem sameWave_calls (x y : Wave) (A B : Option Addr) (c d : Nat) (w : World) (F G : Nat → Prop) (h : Rep.Sl kLine w F A c x.Lines) (k : Rep.Sl kLine w G B d y.Lines) :
    Calls Try.prog 19 #[.agg #[.int .i64 x.End, .slice A x.Lines.length c], .agg #[.int .i64 y.End, .slice B y.Lines.length d]] w fun e w' => e = .returned (.bool (sameWave x y)) ∧ Is w w' := by
  have hu := Try.underlying24
  have hu2 := Try.underlying50
  have hm := h.len
  have hm' := k.len
  have hW : Is w ((w.alloc (.cells #[.int .i64 x.End, .slice A x.Lines.length c] 24)).alloc (.cells #[.int .i64 y.End, .slice B y.Lines.length d] 24)) := ((Is.refl w).alloc _).alloc _
  have hB : ∀ z : Under ((w.alloc (.cells #[.int .i64 x.End, .slice A x.Lines.length c] 24)).alloc (.cells #[.int .i64 y.End, .slice B y.Lines.length d] 24)), w.heap.size < z.val.heap.size ∧ w.heap.size + 1 < z.val.heap.size := fun z => ⟨z.lt _ (by simp; omega), z.lt _ (by simp)⟩
  go_enter Try.func19, Try.ntmps19
  cases he : (x.End == y.End) with
  | false =>
    have he' : (x.End != y.End) = true := by simp [bne, he]
    go_wp2
    go_ret
    exact ⟨ret_bool (by unfold sameWave; rw [he]; rfl), hW⟩
  | true =>
    have he' : (x.End != y.End) = false := by simp [bne, he]
    have heh := Lib.hid he
    clear he
    go_wp2
    · go_ret
      exact ⟨ret_bool (by unfold sameWave; rw [all2_ne (fun e => by simp_all)]; simp), hW⟩
    have hl : Hid (x.Lines.length = y.Lines.length) := Lib.hid (by grind)
    have q1 : ((x.Lines.length : Int) != (y.Lines.length : Int)) = false := by grind
    simp only [q1]
    go_loopg [5, 6, 7, 25] x.Lines.length (fun d' _ _ _ t wr => ∃ (i : Nat) (z : Under ((w.alloc (.cells #[.int .i64 x.End, .slice A x.Lines.length c] 24)).alloc (.cells #[.int .i64 y.End, .slice B y.Lines.length d] 24))), i + d' = x.Lines.length ∧ t = .int .i64 i ∧ wr = z.val ∧ Aside (all2 lineAll (x.Lines.drop i) (y.Lines.drop i) = all2 lineAll x.Lines y.Lines))
    case atStart => exact ⟨0, Under.refl _, by omega, rfl, rfl, rfl⟩
    case round =>
      obtain ⟨i, z, hi1, rfl, rfl, hI⟩ := hrel
      have hi2 := Lib.hid hi1
      have hz1 := (hB z).1
      have hz2 := (hB z).2
      by_cases hlt : i < x.Lines.length
      · obtain ⟨l, hx⟩ := get_ex hlt
        obtain ⟨m, hy⟩ := get_ex (xs := y.Lines) (i := i) (by have := hl.out; omega)
        obtain ⟨b, o, A2, c2, A3, c3, rfl, hb, hc0, hc1, hc2, hc3, hk, h2, h3⟩ := Rep.rowLine h.row hx
        obtain ⟨b', o', B2, d2, B3, d3, rfl, hb', hd0, hd1, hd2, hd3, hk', k2, k3⟩ := Rep.rowLine k.row hy
        have hlt2 : (i : Int) < (y.Lines.length : Int) := by have := hl.out; omega
        obtain ⟨gk, rfl⟩ : ∃ m, gk = m + 1 := ⟨gk - 1, by omega⟩
        rw [drop_cons hx, drop_cons hy, all2] at hI
        have hI2 := Lib.hid hI.out
        have hbw : b ≤ w.heap.size := by omega
        have hbw' : b' ≤ w.heap.size := by omega
        have hbs : b < w.heap.size + 1 + 1 := by omega
        have hbs' : b' < w.heap.size + 1 + 1 := by omega
        have hbz : b < z.val.heap.size := by omega
        have hbz' : b' < z.val.heap.size := by omega
        have hbn : b ≠ z.val.heap.size := by omega
        have hbn' : b' ≠ z.val.heap.size := by omega
        have hbz1 : b' < z.val.heap.size + 1 := by omega
        have hzz : ∀ (A' B' : Obj) (v : Under ((z.val.alloc A').alloc B')), z.val.heap.size < v.val.heap.size ∧ z.val.heap.size + 1 < v.val.heap.size ∧ w.heap.size < v.val.heap.size ∧ w.heap.size + 1 < v.val.heap.size ∧ b < v.val.heap.size ∧ b' < v.val.heap.size := fun A' B' v => ⟨v.lt _ (by simp; omega), v.lt _ (by simp), v.lt _ (by simp; omega), v.lt _ (by simp; omega), v.lt _ (by simp; omega), v.lt _ (by simp; omega)⟩
        have hW2 := fun A' B' => ((hW.step z).alloc A').alloc B'
        have hW3 := fun A' B' => ((Is.val z).alloc A').alloc B'
        clear hI hx hy hi1
        cases hn : (l.Name.toList == m.Name.toList) with
        | false =>
          have hn' : (l.Name.toList != m.Name.toList) = true := by simp [bne, hn]
          go_wp2
          go_ret
          exact ⟨ret_bool (by unfold sameWave; rw [← hI2.out]; unfold lineAll lineFits; rw [hn]; simp), hW2 _ _⟩
        | true =>
        have hn' : (l.Name.toList != m.Name.toList) = false := by simp [bne, hn]
        cases hw : (l.W == m.W) with
        | false =>
          have hw' : (l.W != m.W) = true := by simp [bne, hw]
          go_wp2
          go_ret
          exact ⟨ret_bool (by unfold sameWave; rw [← hI2.out]; unfold lineAll lineFits; rw [hw]; simp), hW2 _ _⟩
        | true =>
        have hw' : (l.W != m.W) = false := by simp [bne, hw]
        have hwh := Lib.hid hw
        have hnh := Lib.hid hn
        clear hw
        cases ha : decide (l.At = m.At) with
        | false =>
          go_wp2_with (go_at_call 55; refine (eqInts_calls A2 B2 c2 d2 l.At m.At _ _ _ (h2.is (hW2 _ _)) (k2.is (hW2 _ _))).mono ?_; rw [ha]; rintro e w1 ⟨rfl, ⟨x1, rfl⟩⟩)
          go_ret
          exact ⟨ret_bool (by unfold sameWave; rw [← hI2.out]; unfold lineAll lineSame; rw [ha]; simp), (hW2 _ _).step x1⟩
        | true =>
        cases hv : decide (l.Val = m.Val) with
        | false =>
          go_wp2_with (first
            | (go_at_call 55; refine (eqInts_calls A2 B2 c2 d2 l.At m.At _ _ _ (h2.is (hW2 _ _)) (k2.is (hW2 _ _))).mono ?_; rw [ha]; rintro e w1 ⟨rfl, ⟨x1, rfl⟩⟩; obtain ⟨z1, z2, z3, z4, z5, z6⟩ := hzz _ _ x1)
            | (go_at_call 56; refine (eqRow_calls A3 B3 c3 d3 l.Val m.Val _ _ _ (h3.is ((hW2 _ _).step x1)) (k3.is ((hW2 _ _).step x1))).mono ?_; rw [hv]; rintro e w2 ⟨rfl, ⟨x2, rfl⟩⟩))
          go_ret
          exact ⟨ret_bool (by unfold sameWave; rw [← hI2.out]; unfold lineAll lineSame; rw [hv]; simp), ((hW2 _ _).step x1).step x2⟩
        | true =>
          go_wp2_with (first
            | (go_at_call 55; refine (eqInts_calls A2 B2 c2 d2 l.At m.At _ _ _ (h2.is (hW2 _ _)) (k2.is (hW2 _ _))).mono ?_; rw [ha]; rintro e w1 ⟨rfl, ⟨x1, rfl⟩⟩; obtain ⟨z1, z2, z3, z4, z5, z6⟩ := hzz _ _ x1)
            | (go_at_call 56; refine (eqRow_calls A3 B3 c3 d3 l.Val m.Val _ _ _ (h3.is ((hW2 _ _).step x1)) (k3.is ((hW2 _ _).step x1))).mono ?_; rw [hv]; rintro e w2 ⟨rfl, ⟨x2, rfl⟩⟩))
          obtain ⟨q, hq⟩ : ∃ q : Under ((w.alloc (.cells #[.int .i64 x.End, .slice (some ⟨b, o, none⟩) x.Lines.length c] 24)).alloc (.cells #[.int .i64 y.End, .slice (some ⟨b', o', none⟩) y.Lines.length d] 24)), x2.val = q.val := ((hW3 _ _).step x1).step x2
          rw [hq]
          go_roundg gk
          case measure => omega
          case rel => exact ⟨i + 1, q, by have := hi2.out; omega, by go_num, rfl, by unfold Aside; rw [← hI2.out]; unfold lineAll lineFits lineSame; rw [hnh.out, hwh.out, ha, hv]; simp⟩
      · obtain rfl : i = x.Lines.length := by omega
        go_wp2
        go_ret
        refine ⟨ret_bool ?_, hW.step z⟩
        have := hI.out
        rw [drop_end, hl.out, drop_end] at this
        unfold sameWave; rw [heh.out, ← this]; rfl
end Go.Proofs.Ytabhafllkhoefaa
