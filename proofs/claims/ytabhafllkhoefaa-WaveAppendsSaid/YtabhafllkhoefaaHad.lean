/- Plain laws of a valid line: its times rise; binary search finds the value that the reference finds. -/
import Derived.Test.YtabhafllkhoefaaValid
import Derived.Test.YtabhafllkhoefaaCalled
namespace Go.Proofs.Ytabhafllkhoefaa
open Go.RowKit

/-- What a valid line is. -/
structure LV (l : Line) (e : Int) : Prop where
  name : named l.Name = true
  w : 1 ≤ l.W ∧ l.W ≤ 64
  len0 : 0 < l.At.length
  len : l.Val.length = l.At.length
  bad : ∀ i, i < l.At.length → orderBad l e i = false
  bits : ∀ i, i < l.At.length → bitsCheck (l.Val.getD i Bits.zero) = 0 ∧ (l.Val.getD i Bits.zero).W = l.W
  diff : ∀ i, i + 1 < l.At.length → l.Val.getD (i + 1) Bits.zero ≠ l.Val.getD i Bits.zero

theorem lineFrom_ok2 (l : Line) (e : Int) : ∀ (d i : Nat), lineFrom l e d i = 0 → ∀ j, i ≤ j → j < i + d →
    (bitsCheck (l.Val.getD j Bits.zero) = 0 ∧ (l.Val.getD j Bits.zero).W = l.W) ∧ (0 < j → l.Val.getD j Bits.zero ≠ l.Val.getD (j - 1) Bits.zero)
  | 0, i, _, j, h1, h2 => by omega
  | d + 1, i, h, j, h1, h2 => by
    rw [lineFrom] at h
    split at h
    · cases h
    · split at h
      · cases h
      · rename_i hb
        split at h
        · cases h
        · rename_i hw
          split at h
          · cases h
          · rename_i hd
            by_cases hij : j = i
            · subst hij
              refine ⟨⟨by simpa using hb, by simpa using hw⟩, fun hp e => ?_⟩
              rw [e] at hd
              simp [hp, Bits.beq_iff.2] at hd
            · exact lineFrom_ok2 l e d (i + 1) h j (by omega) (by omega)
theorem lv_of {l : Line} {e : Int} (h0 : lineFault l e = 0) : LV l e := by
  unfold lineFault at h0
  split at h0
  · cases h0
  rename_i hnm
  split at h0
  · cases h0
  rename_i hw
  split at h0
  · cases h0
  rename_i hlen
  have ho := lineFrom_ok l e _ _ h0
  have h2 := lineFrom_ok2 l e _ _ h0
  refine ⟨by simpa using hnm, by omega, by omega, by omega, fun i hi => ho i (by omega) (by omega), fun i hi => (h2 i (by omega) (by omega)).1, fun i hi => ?_⟩
  have := (h2 (i + 1) (by omega) (by omega)).2 (by omega)
  simpa using this
theorem LV.first {l : Line} {e : Int} (h : LV l e) : l.At.getD 0 0 = 0 ∧ 0 ≤ e := by
  have := h.bad 0 h.len0
  simp only [orderBad, if_true, Bool.or_eq_false_iff, bne_eq_false_iff_eq, decide_eq_false_iff_not] at this
  omega
theorem LV.step {l : Line} {e : Int} (h : LV l e) {i : Nat} (hi : i + 1 < l.At.length) : l.At.getD i 0 < l.At.getD (i + 1) 0 := by
  have := h.bad (i + 1) hi
  simp only [orderBad, Nat.add_one_ne_zero, if_false, Bool.or_eq_false_iff, decide_eq_false_iff_not, Nat.add_sub_cancel] at this
  omega
theorem LV.le {l : Line} {e : Int} (h : LV l e) {i : Nat} (hi : i < l.At.length) : l.At.getD i 0 ≤ e := by
  have h0 := h.first
  have := h.bad i hi
  unfold orderBad at this
  split at this
  · rename_i hz; subst hz; omega
  · simp only [Bool.or_eq_false_iff, decide_eq_false_iff_not] at this
    omega
/-- The numbers of a row rise. -/
def Rises (xs : List Int) : Prop := ∀ i j, i < j → j < xs.length → xs.getD i 0 < xs.getD j 0
theorem LV.rises {l : Line} {e : Int} (h : LV l e) : Rises l.At := by
  intro i j hij hj
  obtain ⟨d, rfl⟩ : ∃ d, j = i + 1 + d := ⟨j - (i + 1), by omega⟩
  clear hij
  induction d with
  | zero => exact h.step hj
  | succ d ih =>
    have h1 := ih (by omega)
    have h2 := h.step (i := i + 1 + d) (by omega)
    rw [show i + 1 + (d + 1) = i + 1 + d + 1 by omega]
    omega
theorem bsF_spec (xs : List Int) (t : Int) (hs : Rises xs) : ∀ (d lo hi : Nat), hi - lo ≤ d → lo ≤ hi → hi ≤ xs.length → (∀ i, i < lo → xs.getD i 0 < t) → (∀ i, hi ≤ i → i < xs.length → t ≤ xs.getD i 0) →
    (∀ i, i < bsF xs t d lo hi → xs.getD i 0 < t) ∧ (∀ i, bsF xs t d lo hi ≤ i → i < xs.length → t ≤ xs.getD i 0)
  | 0, lo, hi, h0, h1, h2, h3, h4 => by
    rw [bsF]
    exact ⟨h3, fun i hi hl => h4 i (by omega) hl⟩
  | d + 1, lo, hi, h0, h1, h2, h3, h4 => by
    rw [bsF]
    split
    · rename_i hlt
      split
      · rename_i hm
        refine bsF_spec xs t hs d _ _ (by omega) (by omega) h2 (fun i hq => ?_) h4
        by_cases he : i = (lo + hi) / 2
        · subst he; exact hm
        · have := hs i ((lo + hi) / 2) (by omega) (by omega)
          omega
      · rename_i hm
        refine bsF_spec xs t hs d _ _ (by omega) (by omega) (by omega) h3 (fun i hi1 hi2 => ?_)
        by_cases he : i = (lo + hi) / 2
        · subst he; omega
        · have := hs ((lo + hi) / 2) i (by omega) hi2
          omega
    · exact ⟨h3, fun i hi hl => h4 i (by omega) hl⟩
theorem bsearch_spec (xs : List Int) (t : Int) (hs : Rises xs) : (∀ i, i < bsearch xs t → xs.getD i 0 < t) ∧ (∀ i, bsearch xs t ≤ i → i < xs.length → t ≤ xs.getD i 0) :=
  bsF_spec xs t hs _ 0 xs.length (by omega) (by omega) (Nat.le_refl _) (fun i hi => by omega) (fun i h1 h2 => by omega)
theorem bsearch_le (xs : List Int) (t : Int) : bsearch xs t ≤ xs.length := bsF_le xs t xs.length 0 xs.length (by omega) (Nat.le_refl _)
/-- The number that index finds: the last time up to t. -/
theorem index_spec (xs : List Int) (t : Int) (hs : Rises xs) (hp : 0 < xs.length) (h0 : xs.getD 0 0 = 0) (ht : 0 ≤ t) :
    ∃ k : Nat, indexOf xs t = k ∧ k < xs.length ∧ (∀ i, i ≤ k → xs.getD i 0 ≤ t) ∧ (∀ i, k < i → i < xs.length → t < xs.getD i 0) := by
  obtain ⟨h1, h2⟩ := bsearch_spec xs t hs
  have hle := bsearch_le xs t
  unfold indexOf bfound
  by_cases hf : bsearch xs t < xs.length ∧ xs.getD (bsearch xs t) 0 = t
  · rw [if_pos (by simp only [Bool.and_eq_true, decide_eq_true_eq, beq_iff_eq]; exact hf)]
    refine ⟨bsearch xs t, rfl, hf.1, fun i hi => ?_, fun i hi hl => ?_⟩
    · by_cases he : i = bsearch xs t
      · subst he; omega
      · have := h1 i (by omega); omega
    · have := hs _ i hi hl
      omega
  · rw [if_neg (by simp only [Bool.and_eq_true, decide_eq_true_eq, beq_iff_eq]; exact hf)]
    have hb : 0 < bsearch xs t := by
      rcases Nat.eq_zero_or_pos (bsearch xs t) with hz | hz
      · exfalso
        have h3 := h2 0 (by omega) hp
        exact hf ⟨by omega, by rw [hz]; omega⟩
      · exact hz
    refine ⟨bsearch xs t - 1, by omega, by omega, fun i hi => ?_, fun i hi hl => ?_⟩
    · have := h1 i (by omega); omega
    · have h3 := h2 i (by omega) hl
      by_cases he : i = bsearch xs t
      · subst he
        have h4 : ¬ xs.getD (bsearch xs t) 0 = t := fun e => hf ⟨hl, e⟩
        omega
      · have h5 := hs (bsearch xs t) i (by omega) hl
        have h6 := h2 (bsearch xs t) (Nat.le_refl _) (by omega)
        omega
theorem hadFrom_spec (l : Line) (t : Int) (k : Nat) (hk : k < l.At.length) (h1 : ∀ i, i ≤ k → l.At.getD i 0 ≤ t) (h2 : ∀ i, k < i → i < l.At.length → t < l.At.getD i 0) :
    ∀ (d i : Nat) (b : Bits), i + d = l.At.length → hadFrom l t d i b = if i ≤ k then l.Val.getD k Bits.zero else b
  | 0, i, b, h => by rw [hadFrom, if_neg (by omega)]
  | d + 1, i, b, h => by
    rw [hadFrom, hadFrom_spec l t k hk h1 h2 d (i + 1) _ (by omega)]
    by_cases hik : i < k
    · rw [if_pos (by omega), if_pos (by omega)]
    · rw [if_neg (by omega)]
      by_cases he : i = k
      · subst he
        rw [if_pos (h1 i (Nat.le_refl _)), if_pos (Nat.le_refl _)]
      · rw [if_neg (by have := h2 i (by omega) (by omega); omega), if_neg (by omega)]
/-- The value of a valid line at a time. -/
theorem had_index {l : Line} {e t : Int} (h : LV l e) (ht : 0 ≤ t) : ∃ k : Nat, indexOf l.At t = k ∧ k < l.At.length ∧ l.Val[k]? = some (had l t) ∧ (∀ i, i ≤ k → l.At.getD i 0 ≤ t) ∧ (∀ i, k < i → i < l.At.length → t < l.At.getD i 0) := by
  obtain ⟨k, hk, hl, h1, h2⟩ := index_spec l.At t h.rises h.len0 h.first.1 ht
  refine ⟨k, hk, hl, ?_, h1, h2⟩
  unfold had
  rw [hadFrom_spec l t k hl h1 h2 _ 0 _ (by omega), if_pos (by omega)]
  have hlv : k < l.Val.length := by rw [h.len]; exact hl
  rw [List.getElem?_eq_getElem hlv, List.getD, List.getElem?_eq_getElem hlv]
  rfl
/-- A valid wave's lines are valid. -/
theorem wave_lv {x : Wave} (h : waveFault x = 0) : ∀ l ∈ x.Lines, LV l x.End := by
  unfold waveFault at h
  split at h
  · cases h
  split at h
  · cases h
  intro l hl
  obtain ⟨i, hi, rfl⟩ := List.getElem_of_mem hl
  exact lv_of (linesFrom_ok x _ _ h i _ (by omega) (by omega) (List.getElem?_eq_getElem hi))
theorem wave_end {x : Wave} (h : waveFault x = 0) : 0 ≤ x.End ∧ x.End ≤ 1099511627776 := by
  unfold waveFault at h
  split at h
  · cases h
  · omega
end Go.Proofs.Ytabhafllkhoefaa
