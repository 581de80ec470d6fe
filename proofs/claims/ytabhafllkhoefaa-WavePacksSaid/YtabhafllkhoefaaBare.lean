/- The reference's packed line. -/
import Derived.Test.YtabhafllkhoefaaPackLine
import Derived.Test.YtabhafllkhoefaaSplitT
import Derived.Test.YtabhafllkhoefaaPack3
namespace Go.Proofs.Ytabhafllkhoefaa
open Go.RowKit
set_option maxRecDepth 100000

/-- A variable of one cell. -/
def VarAt (w : World) (g : Nat) (v : Value) (t : TypeId) : Prop := w.heap[g]? = some (.cells #[v] t (0, 0))
theorem VarAt.cell {w : World} {g : Nat} {v : Value} {t : TypeId} (h : VarAt w g v t) : w.cell? ⟨g, 0, none⟩ = some v := by
  rw [cell_of_row w g 0 _ _ _ h]; rfl
theorem VarAt.free {w : World} {g : Nat} {v : Value} {t : TypeId} (h : VarAt w g v t) : w.frozen? ⟨g, 0, none⟩ = false := frozen_of_row _ _ _ _ _ h
theorem VarAt.lt {w : World} {g : Nat} {v : Value} {t : TypeId} (h : VarAt w g v t) : g < w.heap.size := (Array.getElem?_eq_some_iff.1 h).1
theorem VarAt.set {w : World} {g : Nat} {v : Value} {t : TypeId} (h : VarAt w g v t) (u : Value) : VarAt (w.setCell ⟨g, 0, none⟩ u) g u t := by
  have := heap_setCell_same w g 0 _ _ u h
  exact this
theorem VarAt.step {w w1 : World} {g : Nat} {v : Value} {t : TypeId} (h : VarAt w g v t) (hb : w1.heap[g]? = w.heap[g]?) : VarAt w1 g v t := hb.trans h

/-- What flush may change. -/
def FlushG (gO gR : Nat) (v : Value) : Nat → Prop := fun k => k = gO ∨ k = gR ∨ v.ownBlock = some k

set_option maxHeartbeats 4000000 in
theorem flush_calls (gO gR : Nat) (v : Value) (bs : List Int) (r : Int) (w : World) (base : Nat) (hO : VarAt w gO v 25) (hR : VarAt w gR (.int .i64 r) 3) (hne : gO ≠ gR) (ho : Rep.Own kByte 5 w base NoB v bs)
    (h1 : v.ownBlock ≠ some gO) (h2 : v.ownBlock ≠ some gR) (hr0 : 0 ≤ r) (hr1 : r ≤ 20000) (hb : base ≤ w.heap.size) (hl : bs.length ≤ 3000000) :
    Calls Try.prog 77 #[.pointer (some ⟨gR, 0, none⟩), .pointer (some ⟨gO, 0, none⟩)] w fun e w' => e = .returned (.tuple #[]) ∧ ∃ v', VarAt w' gO v' 25 ∧ VarAt w' gR (.int .i64 0) 3 ∧
      Rep.Own kByte 5 w' base NoB v' (bs ++ flushF r) ∧ (v'.ownBlock = v.ownBlock ∨ ∀ k, v'.ownBlock = some k → w.heap.size ≤ k) ∧ ∃ x : But w (FlushG gO gR v), w' = x.val := by
  have cO := hO.cell
  have cR := hR.cell
  have fO := hO.free
  have fR := hR.free
  have lO := hO.lt
  have lR := hR.lt
  have nO : ¬ v.ownBlock = some gO := h1
  have nR : ¬ v.ownBlock = some gR := h2
  have ne1 : ¬ gO = gR := hne
  have ne2 : ¬ gR = gO := fun e => hne e.symm
  by_cases hr : 0 < r
  · go_enter Try.func77, Try.ntmps77
    go_wp2
    refine wp_region_splitT (fun w' => ∃ x : But w (fun k => v.ownBlock = some k), w' = x.val) [true, true, true, true, true, false, false, false] (by kernel_rfl) (by kernel_rfl) (by decide) ⟨(But.refl _ _).drew, rfl⟩ (fun _ _ d _ _ h => by cases d <;> exact h) ?_
    simp only [pickB, dropB]
    repeat (go_big_quiet_step (fail))
    refine wpQuiet_nil ?_
    refine wpListT_step (fun Q' hQ' => ?_)
    have hs7 := seven_len (4 * r + 2)
    go_wp2_with (go_at_call 48; refine (seven_calls _ _ (InK.mku64 (by omega))).mono ?_; rintro e w1 ⟨v1, rfl, ho1, ⟨x1, rfl⟩⟩; obtain ⟨A1, c1, rfl, hs1⟩ := ho1.sl)
    refine ⟨⟨(But.refl w _).drew.under x1, rfl⟩, ?_⟩
    refine wpListT_step (fun Q' hQ' => ?_)
    have hox : Rep.Own kByte 5 x1.val base NoB v bs := ho.step (fun k _ hl => x1.ok.block k hl)
    go_wp2_with (at_builtin; refine wpList_slF (Rep.Flat.int _) rfl (.tmp 4) (.tmp 9) rfl byteT rfl rfl hox hs1 (le_maxLen (by omega)) (by omega) (Nat.le_trans hb x1.size) ?_; intro v2 w2 ho2 hg2)
    have hg2' : Grew x1.val w2 v v2 := hg2
    obtain ⟨A2, c2, rfl, hs2⟩ := ho2.sl
    obtain ⟨y2, rfl⟩ := (((But.refl w (fun k => v.ownBlock = some k)).drew).under x1).grewB hg2' (fun k hk => hk)
    refine ⟨⟨y2, rfl⟩, ?_⟩
    refine wpListT_last (fun Q' hQ' => ?_)
    go_wp2
    go_end0
    have hk2 : ∀ k, (Value.slice A2 (bs ++ seven (4 * r + 2)).length c2).ownBlock = some k → k ≠ gO ∧ k ≠ gR := by
      intro k hk
      rcases hg2'.at_ with h | h
      · exact ⟨fun e => nO (by rw [← h, hk, e]), fun e => nR (by rw [← h, hk, e])⟩
      · have h2 := h k hk
        have h3 := x1.size
        have h4 : w.drew.heap.size = w.heap.size := rfl
        omega
    have hlen : (bs ++ seven (4 * r + 2)).length = bs.length + (seven (4 * r + 2)).length := List.length_append
    rw [← hlen]
    obtain ⟨z1, hz1⟩ := ((But.refl w (FlushG gO gR v)).comp y2 (fun k _ h => .inr (.inr h))).setCell ⟨gO, 0, none⟩ (.inl rfl) (.slice A2 (bs ++ seven (4 * r + 2)).length c2)
    obtain ⟨z2, hz2⟩ := z1.setCell ⟨gR, 0, none⟩ (.inr (.inl rfl)) (.int .i64 0)
    refine ⟨rfl, _, ((hO.step (y2.block gO lO nO)).set _).step (Below.heap_setCell _ ⟨gR, 0, none⟩ _ gO hne), ((hR.step (y2.block gR lR nR)).step (Below.heap_setCell _ ⟨gO, 0, none⟩ _ gR (Ne.symm hne))).set _, ?_, ?_, ?_⟩
    · unfold flushF
      rw [if_pos hr, Int.mul_comm r 4]
      exact ho2.step fun k hk _ => hk.elim (fun h => h.elim) (fun h => (Below.heap_setCell _ ⟨gR, 0, none⟩ _ k (hk2 k h).2).trans (Below.heap_setCell _ ⟨gO, 0, none⟩ _ k (hk2 k h).1))
    · rcases hg2'.at_ with h | h
      · exact .inl h
      · exact .inr fun k hk => Nat.le_trans x1.size (h k hk)
    · exact ⟨z2, by rw [← hz2, ← hz1]; rfl⟩
  · go_enter Try.func77, Try.ntmps77
    go_wp2
    go_end0
    obtain ⟨z2, hz2⟩ := (But.refl w (FlushG gO gR v)).setCell ⟨gR, 0, none⟩ (.inr (.inl rfl)) (.int .i64 0)
    refine ⟨rfl, _, hO.step (Below.heap_setCell _ ⟨gR, 0, none⟩ _ gO hne), hR.set _, ?_, .inl rfl, ⟨z2, hz2⟩⟩
    unfold flushF
    rw [if_neg (by omega), List.append_nil]
    exact ho.step fun k hk _ => hk.elim (fun h => h.elim) (fun h => Below.heap_setCell _ ⟨gR, 0, none⟩ _ k (fun e => nR (by rw [h, e])))
end Go.Proofs.Ytabhafllkhoefaa
