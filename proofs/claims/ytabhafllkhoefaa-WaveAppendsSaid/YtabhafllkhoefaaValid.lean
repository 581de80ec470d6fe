/- What a valid wave is: it can be packed. -/
import Derived.Test.YtabhafllkhoefaaBox
namespace Go.Proofs.Ytabhafllkhoefaa
open Go.RowKit

theorem lineFrom_ok (l : Line) (e : Int) : ∀ (d i : Nat), lineFrom l e d i = 0 → ∀ j, i ≤ j → j < i + d → orderBad l e j = false
  | 0, i, _, j, h1, h2 => by omega
  | d + 1, i, h, j, h1, h2 => by
    rw [lineFrom] at h
    split at h
    · cases h
    · rename_i hb
      split at h
      · cases h
      · split at h
        · cases h
        · split at h
          · cases h
          · by_cases hij : j = i
            · subst hij; simpa using hb
            · exact lineFrom_ok l e d (i + 1) h j (by omega) (by omega)
theorem times_ok (l : Line) (e : Int) (n : Nat) (h : ∀ j, j < n → orderBad l e j = false) : ∀ i, i < n → 0 ≤ l.At.getD i 0 ∧ l.At.getD i 0 ≤ e
  | 0, hi => by
    have := h 0 hi
    simp only [orderBad, if_true, Bool.or_eq_false_iff, bne_eq_false_iff_eq, decide_eq_false_iff_not] at this
    omega
  | i + 1, hi => by
    have h1 := times_ok l e n h i (by omega)
    have := h (i + 1) hi
    simp only [orderBad, Nat.add_one_ne_zero, if_false, Bool.or_eq_false_iff, decide_eq_false_iff_not, Nat.add_sub_cancel] at this
    omega
theorem chgF_steps (M : Int) : ∀ (ts : List Int) (bs : List Bits) (p : Int) (q : Bits), 0 ≤ p → (∀ j, j < ts.length → (if j = 0 then p else ts.getD (j - 1) 0) ≤ ts.getD j 0 ∧ ts.getD j 0 ≤ M) → ∀ c ∈ chgF ts bs p q, 0 ≤ c.step ∧ c.step ≤ M
  | [], _, _, _, _, _, c, hc => by simp [chgF] at hc
  | t :: ts, [], _, _, _, _, c, hc => by simp [chgF] at hc
  | t :: ts, b :: bs, p, q, hp, h, c, hc => by
    rw [chgF] at hc
    have h0 := h 0 (by simp)
    simp only [if_true, List.getD_cons_zero] at h0
    rcases List.mem_cons.1 hc with rfl | hc
    · show 0 ≤ t - p ∧ t - p ≤ M
      omega
    · refine chgF_steps M ts bs t b (by omega) (fun j hj => ?_) c hc
      have h1 := h (j + 1) (by simpa using hj)
      simp only [Nat.add_one_ne_zero, if_false, Nat.add_sub_cancel, List.getD_cons_succ] at h1
      by_cases hj0 : j = 0
      · subst hj0
        simpa using h1
      · rw [if_neg hj0]
        obtain ⟨m, rfl⟩ : ∃ m, j = m + 1 := ⟨j - 1, by omega⟩
        simpa using h1
theorem line_pk {l : Line} {e : Int} (h0 : lineFault l e = 0) (he : e ≤ 1099511627776) (hn : l.At.length ≤ 20000) : LinePk l := by
  unfold lineFault at h0
  split at h0
  · cases h0
  rename_i hnm
  split at h0
  · cases h0
  rename_i hw
  split at h0
  · cases h0
  rename_i hlen
  have ho := lineFrom_ok l e _ _ h0
  have ho' : ∀ j, j < l.At.length → orderBad l e j = false := fun j hj => ho j (by omega) (by omega)
  have ht := times_ok l e _ ho'
  refine ⟨?_, by omega, by omega, ⟨by omega, hn, ?_⟩, ?_, ?_⟩
  · simp only [named] at hnm
    split at hnm
    · simp at hnm
    · omega
  · intro t htm
    obtain ⟨i, hi, rfl⟩ := List.getElem_of_mem htm
    have := ht i hi
    rw [getD_of (List.getElem?_eq_getElem hi)] at this
    omega
  · refine chgF_steps 1099511627776 l.At l.Val 0 Bits.zero (by omega) (fun j hj => ?_)
    have h1 := ht j hj
    refine ⟨?_, by omega⟩
    split
    · omega
    · have := ho' j hj
      simp only [orderBad, if_neg (by assumption : ¬ j = 0), Bool.or_eq_false_iff, decide_eq_false_iff_not] at this
      omega
  · intro t ht0
    have hi := (List.getElem?_eq_some_iff.1 ht0).1
    have := ho' 0 hi
    simp only [orderBad, if_true, Bool.or_eq_false_iff, bne_eq_false_iff_eq, getD_of ht0] at this
    exact this.1
theorem linesFrom_ok (x : Wave) : ∀ (d i : Nat), linesFrom x d i = 0 → ∀ j l, i ≤ j → j < i + d → x.Lines[j]? = some l → lineFault l x.End = 0
  | 0, i, _, j, l, h1, h2, _ => by omega
  | d + 1, i, h, j, l, h1, h2, hl => by
    cases hx : x.Lines[i]? with
    | none =>
      have := List.getElem?_eq_none_iff.1 hx
      have := (List.getElem?_eq_some_iff.1 hl).1
      omega
    | some m =>
      rw [linesFrom_step hx] at h
      split at h
      · contradiction
      · rename_i hm
        split at h
        · cases h
        · by_cases hij : j = i
          · subst hij
            rw [hx] at hl
            cases hl
            omega
          · exact linesFrom_ok x d (i + 1) h j l (by omega) (by omega) hl
theorem totFrom_ge : ∀ (ls : List Line) (a : Int) (n : Nat), 0 ≤ a → ls.length ≤ n → a + 140737488355328 * n ≤ 9223372036854775807 → (∀ l ∈ ls, l.At.length ≤ 140737488355328) → a ≤ totFrom ls a ∧ ∀ l ∈ ls, (l.At.length : Int) ≤ totFrom ls a
  | [], a, n, h0, _, _, _ => by simp [totFrom]
  | l :: ls, a, n, h0, hn, h1, h => by
    have hl := h l (List.mem_cons_self ..)
    obtain ⟨m, rfl⟩ : ∃ m, n = m + 1 := ⟨n - 1, by simp at hn; omega⟩
    have hw : wrap64 (a + l.At.length) = a + l.At.length := by unfold wrap64; omega
    rw [totFrom, hw]
    have ih := totFrom_ge ls (a + l.At.length) m (by omega) (by simpa using hn) (by omega) (fun k hk => h k (List.mem_cons_of_mem _ hk))
    refine ⟨by omega, fun k hk => ?_⟩
    rcases List.mem_cons.1 hk with rfl | hk
    · omega
    · exact ih.2 k hk
theorem wave_pk {x : Wave} (h : waveFault x = 0) (hs : ∀ l ∈ x.Lines, l.At.length ≤ 140737488355328) : WavePk x := by
  unfold waveFault at h
  split at h
  · cases h
  rename_i he
  split at h
  · cases h
  rename_i hn
  have ht := (totFrom_ge x.Lines 0 160 (by omega) (by omega) (by omega) hs).2
  refine ⟨by omega, by omega, by omega, fun l hl => ?_⟩
  obtain ⟨i, hi, rfl⟩ := List.getElem_of_mem hl
  have h1 := linesFrom_ok x _ _ h i _ (by omega) (by omega) (List.getElem?_eq_getElem hi)
  have h2 := ht _ hl
  exact line_pk h1 (by omega) (by omega)
end Go.Proofs.Ytabhafllkhoefaa
