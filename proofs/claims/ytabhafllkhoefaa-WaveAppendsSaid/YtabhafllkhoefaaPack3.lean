/- The reference's numbers in bytes of seven bits. -/
import Derived.Test.YtabhafllkhoefaaPack2
namespace Go.Proofs.Ytabhafllkhoefaa
open Go.RowKit
set_option maxRecDepth 100000

/-- A slice that has just been laid. -/
theorem Rep.Own.fresh {α : Type} {d : Rep α} {e : TypeId} {w : World} {base : Nat} {F : Nat → Prop} {xs : List α} {c : List Value} (h : Rep.All d w F xs c) (hb : base ≤ w.heap.size) (hF : ∀ k, F k → k < w.heap.size) (hm : xs.length ≤ 9223372036854775807) :
    Rep.Own d e (w.alloc (.cells c.toArray e)) base F (.slice (some ⟨w.heap.size, 0, none⟩) xs.length xs.length) xs := by
  refine ⟨c, ⟨h.1, .inr ⟨_, _, _, rfl, hb, heap_alloc_new w _, Nat.le_refl _, le_maxLen hm, by simpa using h.1, by rw [← h.1]; simp⟩⟩, h.step (fun k hk hl => ⟨hk, Below.heap_alloc w _ k hl⟩), ?_⟩
  intro k hk hFk
  have := hF k hFk
  simp [Value.ownBlock] at hk
  omega

theorem sevenF_ok : ∀ (f : Nat) (n : Int), 0 ≤ n → n < 128 ^ f → ∀ x ∈ sevenF f n, InK .u8 x
  | 0, _, _, _, x, hx => by simp [sevenF] at hx
  | f + 1, n, h0, h1, x, hx => by
    rw [sevenF] at hx
    split at hx
    · simp at hx; subst hx; exact InK.mku8 (by omega)
    · rcases List.mem_cons.1 hx with rfl | hx
      · exact InK.mku8 (by omega)
      · exact sevenF_ok f (n / 128) (by omega) (by rw [Int.pow_succ] at h1; omega) x hx
theorem sevenF_len : ∀ (f : Nat) (n : Int), (sevenF f n).length ≤ f
  | 0, _ => by simp [sevenF]
  | f + 1, n => by
    rw [sevenF]
    split
    · simp
    · have := sevenF_len f (n / 128)
      simp; omega

set_option maxHeartbeats 2000000 in
theorem sevenF_calls : ∀ (f : Nat) (n : Int) (w : World), f ≤ 9 → 0 ≤ n → n ≤ 18446744073709551615 → n < 128 ^ (f + 1) →
    Calls Try.prog 48 #[.int .u64 n] w fun e w' => ∃ v, e = .returned v ∧ Rep.Own kByte 5 w' w.heap.size NoB v (sevenF (f + 1) n) ∧ Is w w' := by
  intro f
  induction f with
  | zero =>
    intro n w hf h0 hm h1
    have hlt : n < 128 := by simpa using h1
    have hn : n < 128 ^ (0 + 1) := h1
    have hn2 := Lib.hid hn
    clear hn h1
    go_enter Try.func48, Try.ntmps48
    go_wp2
    go_ret
    refine ⟨_, rfl, ?_, (Is.refl w).alloc _⟩
    rw [sevenF, if_pos hlt]
    exact Rep.Own.fresh (xs := [n]) (c := [.int .u8 n]) (all_ints (xs := [n]) (fun x hx => by simp at hx; subst hx; exact InK.mku8 (by omega))) (Nat.le_refl _) (fun k hk => hk.elim) (by simp)
  | succ f ih =>
    intro n w hf h0 hm h1
    have IH := Lib.hid ih
    clear ih
    have h12 := Lib.hid h1
    clear h1
    by_cases hlt : n < 128
    · go_enter Try.func48, Try.ntmps48
      go_wp2
      go_ret
      refine ⟨_, rfl, ?_, (Is.refl w).alloc _⟩
      rw [sevenF, if_pos hlt]
      exact Rep.Own.fresh (xs := [n]) (c := [.int .u8 n]) (all_ints (xs := [n]) (fun x hx => by simp at hx; subst hx; exact InK.mku8 (by omega))) (Nat.le_refl _) (fun k hk => hk.elim) (by simp)
    · have hd1 : n / 128 < 128 ^ (f + 1) := by have := h12.out; rw [Int.pow_succ] at this; omega
      have hd := Lib.hid hd1
      clear hd1
      have hf2 : f ≤ 9 := by omega
      have hsl := sevenF_len (f + 1) (n / 128)
      have hb1 : ∀ x ∈ [n % 128 + 128], InK .u8 x := fun x hx => by simp at hx; subst hx; exact InK.mku8 (by omega)
      go_enter Try.func48, Try.ntmps48
      go_wp2_with (first
        | (go_at_call 48; refine (IH.out (n / 128) _ hf2 (by omega) (by omega) hd.out).mono ?_; rintro e w' ⟨v1, rfl, ho1, ⟨x, rfl⟩⟩; obtain ⟨A1, c1, rfl, hs1⟩ := ho1.sl)
        | (at_builtin; refine wpList_slF (Rep.Flat.int _) rfl (.tmp 12) (.tmp 15) rfl byteT rfl rfl (((Rep.Own.fresh (xs := [n % 128 + 128]) (c := [.int .u8 (n % 128 + 128)]) (all_ints (xs := [n % 128 + 128]) hb1) (Nat.le_refl _) (fun k hk => hk.elim) (by simp)).below x.ok)) hs1 (le_maxLen (by simp; omega)) (by simp; omega) (Nat.le_trans (by simp) x.size) ?_; intro v' w' ho' hg'))
      go_ret
      refine ⟨v', rfl, ?_, ?_⟩
      · rw [sevenF, if_neg (by omega)]
        exact ho'
      · exact (((Is.refl w).alloc _).step x).grew hg' (fun k hk => by cases hk; exact Nat.le_refl _)
theorem seven_calls (n : Int) (w : World) (hn : InK .u64 n) :
    Calls Try.prog 48 #[.int .u64 n] w fun e w' => ∃ v, e = .returned v ∧ Rep.Own kByte 5 w' w.heap.size NoB v (seven n) ∧ Is w w' :=
  sevenF_calls 9 n w (by omega) hn.u64.1 hn.u64.2 (by have := hn.u64.2; omega)
end Go.Proofs.Ytabhafllkhoefaa
