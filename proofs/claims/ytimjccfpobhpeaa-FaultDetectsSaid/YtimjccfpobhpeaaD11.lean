/- FaultDetects answers true at every input, and the arguments read behind the call as before. No condition. -/
/- Joined by this session's own program out of its texts: DetLaw Opens OpensN FaultDetects. -/
import Derived.Test.YtimjccfpobhpeaaD7
import Derived.Test.YtimjccfpobhpeaaD10
import Derived.Test.YtimjccfpobhpeaaD1
import Derived.ProofKit
import Derived.OpenShut
import Derived.ShutString
import Derived.ChangeOld
import Derived.Below
import Derived.SizedLaws
import Derived.Test.YtimjccfpobhpeaaRows
namespace Go.Proofs.Ytimjccfpobhpeaa
open Go.RowKit Go.Proofs.YtimjccfpobhpeaaW.PrintWords Go.Proofs.Ytimjccfpobhpeaa.PF
set_option linter.unusedVariables false
set_option maxRecDepth 100000
theorem faultyD : Qm.f 60 = some true := by kernel_rfl
theorem faulty_ge {k : Nat} (h : 60 ≤ k) : Qm.f k = some true := upK Qm.mono h faultyD
theorem rdFa_at {xs : List Kq} {i : Nat} {x : Kq} (h : xs[i]? = some x) : Xc xs (i : Int) = x := by
  unfold Xc
  first
  | exact rdOf_at h
  | (have hi : i < xs.length := (List.getElem?_eq_some_iff.1 h).1
     simp [h])
theorem bne_not (b : Bool) : ¬ (b != b) = true := by cases b <;> decide
theorem bne_notI (b : Int) : ¬ (b != b) = true := by simp
theorem take_min {α : Type} (l : List α) (n : Nat) : l.take (min l.length n) = l.take n := by
  rcases Nat.le_total l.length n with h | h
  · rw [Nat.min_eq_left h, List.take_of_length_le (Nat.le_refl _), List.take_of_length_le h]
  · rw [Nat.min_eq_right h]
def firstErr (ef : Kq → Int) : List Kq → Int
  | [] => 0
  | f :: r => if ef f = 0 then firstErr ef r else ef f
theorem firstErr_zero {ef : Kq → Int} : ∀ {fs : List Kq}, firstErr ef fs = 0 → ∀ f ∈ fs, ef f = 0
  | [], _, f, hf => by cases hf
  | g :: r, h, f, hf => by
    unfold firstErr at h
    split at h
    · rename_i h0
      rcases List.mem_cons.1 hf with rfl | hf
      · exact h0
      · exact firstErr_zero h f hf
    · rename_i h0
      exact absurd h h0
section
variable (l0 l1 : List ByteArray) (l2 : List FlopS) (l3 : List GateS) (l4 : List Int) (l : List PatS)
abbrev rowF (f : Kq) : List Bool := l.map (hitB l0 l2 l3 l4 f.f0 f.f1 f.f2)
variable {l0 l1 l2 l3 l4 l}
theorem table_l0 (fs : List Kq) (hf : fs.length ≤ 20000) (ef : Kq → Int) (Kf : Kq → Nat) (K : Nat) (hK : ∀ f ∈ fs, Kf f ≤ K) (hs : ∀ f, FaultSem l0 l1 l2 l3 l4 l f (Kf f) (ef f)) : ∀ (d i : Nat) (rows : List (List Bool)), i + d = fs.length → rows.length = i → ∀ k, K + d < k →
    Qi.l0 k l rows fs fs.length i l0 l1 l2 l3 l4 = some (if firstErr ef (fs.drop i) = 0 then (rows ++ (fs.drop i).map (rowF l0 l2 l3 l4 l), 0) else ([], firstErr ef (fs.drop i)))
  | 0, i, rows, h, hr, k, hk => by
    obtain ⟨m, rfl⟩ : ∃ m, k = m + 1 := ⟨k - 1, by omega⟩
    rw [Qi.l0, if_neg (by omega), List.drop_eq_nil_of_le (by omega)]
    simp [firstErr]
  | d + 1, i, rows, h, hr, k, hk => by
    obtain ⟨m, rfl⟩ : ∃ m, k = m + 1 := ⟨k - 1, by omega⟩
    obtain ⟨x, hx⟩ := at_ex (xs := fs) (i := i) (by omega)
    have hKx := hK x (List.mem_of_getElem? hx)
    have hw : wrap64 ((i : Int) + 1) = ((i + 1 : Nat) : Int) := by rw [Qj (by omega) (by omega)]; rfl
    rw [Qi.l0, if_pos (by omega), if_pos (by omega), if_pos (by omega), rdFa_at hx, drop_cons hx]
    by_cases he : ef x = 0
    · rw [(hs x).ok he m (by omega), Option.bind_some]
      show (if (0 : Int) = 0 then (if rows.length < 5864062014805 then _ else none) else _) = _
      rw [if_pos rfl, if_pos (by clear hw; omega), hw, table_l0 fs hf ef Kf K hK hs d (i + 1) (rows ++ [rowF l0 l2 l3 l4 l x]) (by clear hw; omega) (by rw [List.length_append, hr]; rfl) m (by clear hw; omega)]
      rw [firstErr, if_pos he, List.map_cons, List.append_assoc]
      rfl
    · rw [(hs x).er he m (by omega), Option.bind_some]
      show (if ef x = 0 then _ else some ([], ef x)) = _
      rw [if_neg he, firstErr, if_neg he, if_neg he]
theorem law_l0 (fs : List Kq) (hf : fs.length ≤ 20000) (ef : Kq → Int) (Kf : Kq → Nat) (K : Nat) (hK : ∀ f ∈ fs, Kf f ≤ K) (hs : ∀ f, FaultSem l0 l1 l2 l3 l4 l f (Kf f) (ef f)) (x7 : List (List Bool)) (x8 : Int) (K4 : Nat) (H : ∀ k, K4 ≤ k → Zd.j4 k fs l x7 x8 (firstErr ef fs) l0 l1 l2 l3 l4 = some true) :
    ∀ (d i : Nat) (g : Int), i + d = fs.length → firstErr ef fs = (if g = 0 then firstErr ef (fs.drop i) else g) → ∀ k, K + K4 + d < k → Zd.l0 k fs l x7 x8 g i l0 l1 l2 l3 l4 = some true
  | 0, i, g, h, hg, k, hk => by
    obtain ⟨m, rfl⟩ : ∃ m, k = m + 1 := ⟨k - 1, by omega⟩
    have hgg : g = firstErr ef fs := by
      rw [hg, List.drop_eq_nil_of_le (by omega)]
      split
      · rename_i h0; rw [h0]; rfl
      · rfl
    rw [Zd.l0, if_neg (by omega), hgg]
    exact H m (by omega)
  | d + 1, i, g, h, hg, k, hk => by
    obtain ⟨m, rfl⟩ : ∃ m, k = m + 1 := ⟨k - 1, by omega⟩
    obtain ⟨x, hx⟩ := at_ex (xs := fs) (i := i) (by omega)
    have hKx := hK x (List.mem_of_getElem? hx)
    have hw : wrap64 ((i : Int) + 1) = ((i + 1 : Nat) : Int) := by rw [Qj (by omega) (by omega)]; rfl
    rw [Zd.l0, if_pos (by clear hw; omega)]
    by_cases h0 : g = 0
    · rw [if_pos h0, if_pos (by clear hw; omega), rdFa_at hx, (hs x).ff m (by clear hw; omega), Option.bind_some, hw]
      clear hw
      refine law_l0 fs hf ef Kf K hK hs x7 x8 K4 H d (i + 1) (ef x) (by omega) ?_ m (by omega)
      rw [hg, if_pos h0, drop_cons hx, firstErr]
    · rw [if_neg h0]
      rw [if_neg h0] at hg
      rw [← hg]
      exact H m (by omega)
theorem hit_eq (ok : FormOk l0 l1 l2 l3 l4) {k : Nat} (hk : 2000 ≤ k) (hL : Xe.f k l0 l1 l2 l3 l4 = some (Qw l0 l2 l3 l4, 0)) (a b : Int) (c : Bool) (hb : -1 ≤ b) (p : PatS) (h0 : p.f0.length = l0.length) (h2 : p.f1.length = l2.length) :
    maskref2_Hit.f k l0 l1 l2 l3 l4 a b c p.f0 p.f1 = some (hitB l0 l2 l3 l4 a b c p) := by
  have b2 := ok.c2
  have b1 := ok.c1
  have b4 := ok.c4
  have hl := showB_len (l2 := l2) (l3 := l3) (l4 := l4) p
  unfold maskref2_Hit.f
  rw [shown_none ok hL p h0 h2, Option.bind_some, shown_one ok hL p h0 h2 a b c hb, Option.bind_some, equalB _ _ (by omega) k (by omega), Option.bind_some, equalB _ _ (by omega) k (by omega), Option.bind_some]
  unfold hitB
  generalize showB (brFlops (nvOf l0 l2 l3 l4 a b c) l2 0) (brGates (nvOf l0 l2 l3 l4 a b c) l3 0) (brOuts (nvOf l0 l2 l3 l4 a b c) l4 0) p = y
  generalize showB l2 l3 l4 p = x
  obtain ⟨x1, x2⟩ := x
  obtain ⟨y1, y2⟩ := y
  by_cases e1 : x1 = y1
  · rw [if_pos (by simpa using e1)]
    by_cases e2 : x2 = y2 <;> simp [e1, e2]
  · rw [if_neg (by simpa using e1)]
    simp [e1]
theorem rdL_at {xs : List (List Bool)} {i : Nat} {x : List Bool} (h : xs[i]? = some x) : rd_L15 xs (i : Int) = x := by
  unfold rd_L15
  first
  | exact rdOf_at h
  | (have hi : i < xs.length := (List.getElem?_eq_some_iff.1 h).1
     simp [h])
theorem law_l2 (C : Nat) (hC : 2000 ≤ C) (ok : FormOk l0 l1 l2 l3 l4) {KL : Nat} (hL : ∀ k, KL ≤ k → Xe.f k l0 l1 l2 l3 l4 = some (Qw l0 l2 l3 l4, 0)) (hp : PatsOk l0 l2 l) (hl : l.length ≤ 256) (x7 : List (List Bool)) (f : Kq) (hb : -1 ≤ f.f1) (ys : List PatS) (hys : ys = l.take 20) (x84 : List Kq) (x85 x86 : Int) (K1 : Nat)
    (H : ∀ k, K1 ≤ k → Zd.l1 k l x7 x84 x85 (wrap64 (x86 + 1)) l0 l1 l2 l3 l4 = some true) :
    ∀ (d i : Nat), i + d = ys.length → ∀ k, KL + K1 + C + d < k → Zd.l2 k l x7 (rowF l0 l2 l3 l4 l f) x84 x85 x86 ys ys.length i l0 l1 l2 l3 l4 f.f0 f.f1 f.f2 = some true
  | 0, i, h, k, hk => by
    obtain ⟨m, rfl⟩ : ∃ m, k = m + 1 := ⟨k - 1, by omega⟩
    rw [Zd.l2, if_neg (by omega)]
    exact H m (by omega)
  | d + 1, i, h, k, hk => by
    obtain ⟨m, rfl⟩ : ∃ m, k = m + 1 := ⟨k - 1, by omega⟩
    obtain ⟨x, hx⟩ := at_ex (xs := ys) (i := i) (by omega)
    have hyl : ys.length ≤ l.length := by rw [hys, List.length_take]; omega
    have hxl : l[i]? = some x := by
      rw [hys, List.getElem?_take] at hx
      split at hx
      · exact hx
      · cases hx
    obtain ⟨p1, p2⟩ := hp x (List.mem_of_getElem? hxl)
    have hrl : (rowF l0 l2 l3 l4 l f).length = l.length := List.length_map _
    have hrd : rdOf false (rowF l0 l2 l3 l4 l f) i = hitB l0 l2 l3 l4 f.f0 f.f1 f.f2 x := by
      rw [rdOf_get _ _ (by omega), List.getD_eq_getElem?_getD, List.getElem?_map, hxl]
      rfl
    have g1 : (i : Int) < (ys.length : Int) := by omega
    have g2 : (0 : Int) ≤ (i : Int) := by omega
    have g3 : (i : Int) < ((rowF l0 l2 l3 l4 l f).length : Int) := by rw [hrl]; omega
    have g4 : 2000 ≤ m := by omega
    have hh := hit_eq ok g4 (hL m (by omega)) f.f0 f.f1 f.f2 hb x p1 p2
    have hw : wrap64 ((i : Int) + 1) = ((i + 1 : Nat) : Int) := by rw [Qj (by omega) (by omega)]; rfl
    rw [Zd.l2, if_pos g1, if_pos g2, if_pos g1, if_pos g3, rdP_at hx, hh, Option.bind_some, hrd, if_neg (bne_not _), hw]
    clear hw
    exact law_l2 C hC ok hL hp hl x7 f hb ys hys x84 x85 x86 K1 H d (i + 1) (by omega) m (by omega)
theorem law_l1 (C : Nat) (hC : 3000 ≤ C) (ok : FormOk l0 l1 l2 l3 l4) {KL : Nat} (hL : ∀ k, KL ≤ k → Xe.f k l0 l1 l2 l3 l4 = some (Qw l0 l2 l3 l4, 0)) (hp : PatsOk l0 l2 l) (hl : l.length ≤ 256) (fs : List Kq) (hfl : fs.length ≤ 20000) (ef : Kq → Int) (Kf : Kq → Nat) (K : Nat) (hK : ∀ f ∈ fs, Kf f ≤ K) (hs : ∀ f, FaultSem l0 l1 l2 l3 l4 l f (Kf f) (ef f)) (h0 : ∀ f ∈ fs, ef f = 0) (gs : List Kq) (hgs : gs = fs.take 60) :
    ∀ (d i : Nat), i + d = gs.length → ∀ k, (K + KL + C) * (d + 1) < k → Zd.l1 k l (fs.map (rowF l0 l2 l3 l4 l)) gs gs.length i l0 l1 l2 l3 l4 = some true
  | 0, i, h, k, hk => by
    obtain ⟨m, rfl⟩ : ∃ m, k = m + 1 := ⟨k - 1, by omega⟩
    rw [Zd.l1, if_neg (by omega)]
  | d + 1, i, h, k, hk => by
    have hkd : (K + KL + C) * (d + 1 + 1) = (K + KL + C) * (d + 1) + (K + KL + C) := by rw [Nat.mul_succ]
    obtain ⟨m, rfl⟩ : ∃ m, k = m + 2 := ⟨k - 2, by omega⟩
    obtain ⟨x, hx⟩ := at_ex (xs := gs) (i := i) (by omega)
    have hgl : gs.length ≤ fs.length := by rw [hgs, List.length_take]; omega
    have hxl : fs[i]? = some x := by
      rw [hgs, List.getElem?_take] at hx
      split at hx
      · exact hx
      · cases hx
    have hmx := List.mem_of_getElem? hxl
    have hKx := hK x hmx
    have hex := h0 x hmx
    have hw : wrap64 ((i : Int) + 1) = ((i + 1 : Nat) : Int) := by rw [Qj (by omega) (by omega)]; rfl
    have hrl : (rowF l0 l2 l3 l4 l x).length = l.length := List.length_map _
    have htl : (fs.map (rowF l0 l2 l3 l4 l)).length = fs.length := List.length_map _
    have hrx : (fs.map (rowF l0 l2 l3 l4 l))[i]? = some (rowF l0 l2 l3 l4 l x) := by rw [List.getElem?_map, hxl]; rfl
    have hmn : mn (l.length : Int) 20 = ((min l.length 20 : Nat) : Int) := by unfold mn; omega
    rw [Zd.l1, if_pos (by clear hw; omega), if_pos (by clear hw; omega), if_pos (by clear hw; omega), rdFa_at hx, (hs x).ok hex (m + 1) (by clear hw; omega), Option.bind_some]
    show (if (0 : Int) = 0 then (if (i : Int) < ((fs.map (rowF l0 l2 l3 l4 l)).length : Int) then ((Zt.f (m + 1) (rowF l0 l2 l3 l4 l x) (rd_L15 (fs.map (rowF l0 l2 l3 l4 l)) i)).bind _) else none) else _) = _
    rw [if_pos rfl, if_pos (by clear hw; omega), rdL_at hrx, equalB _ _ (by omega) (m + 1) (by clear hw; omega), Option.bind_some, if_pos (decide_eq_true rfl)]
    show Zd.j7 (m + 1) l (fs.map (rowF l0 l2 l3 l4 l)) (rowF l0 l2 l3 l4 l x) gs gs.length i (((rowF l0 l2 l3 l4 l x).length : Int) != (l.length : Int)) l0 l1 l2 l3 l4 x.f0 x.f1 x.f2 = some true
    rw [hrl, Zd.j7, if_neg (bne_notI _), hmn, if_pos (by clear hw; omega), if_pos (by clear hw; omega), Option.bind_some, Int.toNat_natCast]
    refine law_l2 2000 (Nat.le_refl _) ok hL hp hl _ x ((hs x).lo hex) _ (take_min l 20) gs gs.length i ((K + KL + C) * (d + 1) + 1) (fun k hk => ?_) _ 0 (Nat.zero_add _) m ?_
    · rw [hw]
      clear hw
      exact law_l1 C hC ok hL hp hl fs hfl ef Kf K hK hs h0 gs hgs d (i + 1) (by omega) k (by omega)
    · rw [List.length_take]
      clear hw
      omega
end
section
variable (l0 l1 : List ByteArray) (l2 : List FlopS) (l3 : List GateS) (l4 : List Int) (fs : List Kq) (l : List PatS)
theorem d_j4_err {e : Int} (he : e ≠ 0) : ∀ k, 61 ≤ k → Zd.j4 k fs l [] e e l0 l1 l2 l3 l4 = some true := by
  intro k hk
  obtain ⟨m, rfl⟩ : ∃ m, k = m + 1 := ⟨k - 1, by omega⟩
  rw [Zd.j4, if_neg he, faulty_ge (by omega), Option.bind_some, if_pos rfl, if_pos rfl]
  rfl
theorem d_j2_err {e : Int} (he : e ≠ 0) : ∀ k, 63 ≤ k → Zd.j2 k fs l [] e e l0 l1 l2 l3 l4 = some true := by
  intro k hk
  obtain ⟨m, rfl⟩ : ∃ m, k = m + 2 := ⟨k - 2, by omega⟩
  rw [Zd.j2, Zd.l0, if_neg he]
  split <;> exact d_j4_err l0 l1 l2 l3 l4 fs l he m (by omega)
theorem d_j1_err {e : Int} (he : e ≠ 0) : ∀ k, 64 ≤ k → Zd.j1 k fs l [] e e l0 l1 l2 l3 l4 = some true := by
  intro k hk
  obtain ⟨m, rfl⟩ : ∃ m, k = m + 1 := ⟨k - 1, by omega⟩
  rw [Zd.j1, if_neg he]
  exact d_j2_err l0 l1 l2 l3 l4 fs l he m (by omega)
theorem detects_true : ∃ k, Zd.f k l0 l1 l2 l3 l4 fs l = some true := by
  obtain ⟨kF, e, hF, hok⟩ := form_ex l0 l1 l2 l3 l4
  have hform : ∀ k, kF ≤ k → Ze.f k l0 l1 l2 l3 l4 = some e := fun k hk => upK (Ze.mono l0 l1 l2 l3 l4) hk hF
  by_cases he : e = 0
  · subst he
    have ok := hok rfl
    have hL : ∀ k, kF ≤ k → Xe.f k l0 l1 l2 l3 l4 = some (Qw l0 l2 l3 l4, 0) := fun k hk => by
      rw [Xe.f, hform k hk, Option.bind_some, if_pos rfl, if_pos ok.fit]
    by_cases hn : (fs.length : Int) > 20000
    · refine ⟨kF + 70, ?_⟩
      rw [Zd.f, Qi.f, hform _ (by omega), Option.bind_some, if_pos rfl, if_pos hn, Option.bind_some, Option.bind_some, if_pos rfl, Zd.j0, if_pos (decide_eq_true hn)]
      exact d_j1_err l0 l1 l2 l3 l4 fs l (by decide) _ (by omega)
    · obtain ⟨e3, hP, hP0⟩ := pats_ex (l0 := l0) (l1 := l1) (l2 := l2) (l3 := l3) (l4 := l4) l
      by_cases h3 : e3 = 0
      · subst h3
        obtain ⟨p1, p2⟩ := hP0 rfl
        obtain ⟨Kf, hKf⟩ := Classical.axiomOfChoice (fault_sem l0 l1 l2 l3 l4 hF l p1 p2)
        obtain ⟨ef, hs⟩ := Classical.axiomOfChoice hKf
        obtain ⟨K, hK⟩ : ∃ K, ∀ f ∈ fs, Kf f ≤ K := by
          clear hn
          induction fs with
          | nil => exact ⟨0, fun f hf => by cases hf⟩
          | cons g r ih =>
            obtain ⟨K, h⟩ := ih
            refine ⟨K + Kf g, fun f hf => ?_⟩
            rcases List.mem_cons.1 hf with rfl | hf
            · omega
            · have := h f hf; omega
        have hfl : fs.length ≤ 20000 := by omega
        obtain ⟨C, hC⟩ : ∃ C, C = 3000 := ⟨_, rfl⟩
        have hT : ∀ k, K + fs.length < k → kF ≤ k → 257 < k → Qi.f k l0 l1 l2 l3 l4 fs l = some (if firstErr ef fs = 0 then (fs.map (rowF l0 l2 l3 l4 l), 0) else ([], firstErr ef fs)) := fun k h1 h2 h3 => by
          rw [Qi.f, hform _ h2, Option.bind_some, if_pos rfl, if_neg hn, (hP k h3).1, Option.bind_some, if_pos rfl]
          have := table_l0 fs hfl ef Kf K hK hs fs.length 0 [] (by omega) rfl k h1
          rw [List.drop_zero, List.nil_append] at this
          exact this
        have fin : ∀ (x7 : List (List Bool)) (x8 : Int) (K4 : Nat), (∀ k, K4 ≤ k → Zd.j4 k fs l x7 x8 (firstErr ef fs) l0 l1 l2 l3 l4 = some true) → ∀ k, K + K4 + fs.length + 300 < k → Zd.j0 k fs l x7 x8 0 false l0 l1 l2 l3 l4 = some true := fun x7 x8 K4 H k hk => by
          obtain ⟨m, rfl⟩ : ∃ m, k = m + 3 := ⟨k - 3, by omega⟩
          rw [Zd.j0, if_neg (by decide), Zd.j1, if_pos rfl, (hP (m + 1) (by omega)).2, Option.bind_some, Zd.j2]
          exact law_l0 fs hfl ef Kf K hK hs x7 x8 K4 H fs.length 0 0 (by omega) (by rw [if_pos rfl, List.drop_zero]) m (by omega)
        by_cases hz : firstErr ef fs = 0
        · have h0 := firstErr_zero hz
          have hj4 : ∀ k, (K + kF + C) * (fs.length + 2) + 70 ≤ k → Zd.j4 k fs l (fs.map (rowF l0 l2 l3 l4 l)) 0 (firstErr ef fs) l0 l1 l2 l3 l4 = some true := fun k hk => by
            obtain ⟨m, rfl⟩ : ∃ m, k = m + 2 := ⟨k - 2, by omega⟩
            have hmn : mn (fs.length : Int) 60 = ((min fs.length 60 : Nat) : Int) := by unfold mn; omega
            rw [hz, Zd.j4, if_pos rfl, faulty_ge (by omega), Option.bind_some, if_pos rfl, if_pos rfl]
            show Zd.j5 (m + 1) fs l (fs.map (rowF l0 l2 l3 l4 l)) (((fs.map (rowF l0 l2 l3 l4 l)).length : Int) != (fs.length : Int)) l0 l1 l2 l3 l4 = some true
            rw [List.length_map, Zd.j5, if_neg (bne_notI _), hmn, if_pos (by omega), if_pos (by omega), Option.bind_some, Int.toNat_natCast]
            have hle : (fs.take (min fs.length 60)).length ≤ fs.length := by rw [List.length_take]; omega
            refine law_l1 C (by omega) ok hL p2 p1 fs hfl ef Kf K hK hs h0 _ (take_min fs 60) (fs.take (min fs.length 60)).length 0 (by omega) m ?_
            have h5 : (K + kF + C) * ((fs.take (min fs.length 60)).length + 1) ≤ (K + kF + C) * (fs.length + 2) := Nat.mul_le_mul_left _ (by omega)
            omega
          refine ⟨K + ((K + kF + C) * (fs.length + 2) + 70) + fs.length + 301 + kF, ?_⟩
          rw [Zd.f, hT _ (by omega) (by omega) (by omega), if_pos hz, Option.bind_some, hform _ (by omega), Option.bind_some, if_pos rfl]
          show Zd.j0 _ fs l (fs.map (rowF l0 l2 l3 l4 l)) 0 0 (decide ((fs.length : Int) > 20000)) l0 l1 l2 l3 l4 = some true
          rw [decide_eq_false hn]
          exact fin _ _ _ hj4 _ (by omega)
        · refine ⟨K + 61 + fs.length + 301 + kF, ?_⟩
          rw [Zd.f, hT _ (by omega) (by omega) (by omega), if_neg hz, Option.bind_some, hform _ (by omega), Option.bind_some, if_pos rfl]
          show Zd.j0 _ fs l [] (firstErr ef fs) 0 (decide ((fs.length : Int) > 20000)) l0 l1 l2 l3 l4 = some true
          rw [decide_eq_false hn]
          exact fin _ _ 61 (d_j4_err l0 l1 l2 l3 l4 fs l hz) _ (by omega)
      · refine ⟨kF + 300, ?_⟩
        rw [Zd.f, Qi.f, hform _ (by omega), Option.bind_some, if_pos rfl, if_neg hn, (hP _ (by omega)).1, Option.bind_some, if_neg h3, Option.bind_some, Option.bind_some, if_pos rfl, Zd.j0, decide_eq_false hn, if_neg (by decide), Zd.j1, if_pos rfl, (hP _ (by omega)).2, Option.bind_some]
        exact d_j2_err l0 l1 l2 l3 l4 fs l h3 _ (by omega)
  · refine ⟨kF + 70, ?_⟩
    rw [Zd.f, Qi.f, hform _ (by omega), Option.bind_some, if_neg he, Option.bind_some, Option.bind_some, if_neg he, Zd.j0, if_neg (by decide)]
    exact d_j1_err l0 l1 l2 l3 l4 fs l he _ (by omega)
end
end Go.Proofs.Ytimjccfpobhpeaa
namespace Go.Proofs.Ytimjccfpobhpeaa
open Go.RowKit Go.ChangeShapes Go.WideShapes Go.ChangeAt
def Light {H : Type} (P : Program) (t : TypeId) (d : DataW H) : Prop := ∀ n ∈ d.weights P t, n ≤ reachBytes
theorem light_each {H : Type} {P : Program} : ∀ {ts : List TypeId} {ds : List (DataW H)}, (∀ n ∈ DataW.weightsEach P ts ds, n ≤ reachBytes) → ∀ {j : Nat} {t : TypeId} {d : DataW H}, ts[j]? = some t → ds[j]? = some d → Light P t d :=
  fun h _ _ _ ht hd n hn => h n (DataW.weights_mem_each ht hd n hn)
theorem light_all {H : Type} {P : Program} {e : TypeId} : ∀ {ds : List (DataW H)}, (∀ n ∈ DataW.weightsAll P e ds, n ≤ reachBytes) → ∀ d ∈ ds, Light P e d
  | [], _, d, hd => by simp at hd
  | d0 :: ds, h, d, hd => by
    simp only [DataW.weightsAll, List.mem_append] at h
    rcases List.mem_cons.1 hd with rfl | hd
    · exact fun n hn => h n (.inl hn)
    · exact light_all (fun n hn => h n (.inr hn)) d hd
structure Opens {α : Type} (P : Program) (d : Rep α) (t : TypeId) (W : α → Prop) : Prop where
  cells : P.cellsOf t = d.sz
  opens : ∀ {H : Type} (enc : TypeId × Value → H) (w : World) (n : Nat) (cs : List Value) (y : DataW H × List MemPlace),
    DataW.trod enc P w 0 (fun _ => true) true n t cs = some y → Light P t y.1 → ∃ x, d.rel w (fun k => k < w.heap.size) x cs ∧ W x
theorem Opens.int {P : Program} {t : TypeId} {k : IntKind} (u : P.underlying t = some (.int k)) (hc : P.cellsOf t = 1) : Opens P (Rep.int k) t (fun _ => True) :=
  ⟨hc, fun enc w n cs y h _ => by
    obtain ⟨m, rfl, rfl, hw⟩ := DataW.trod_int u h
    refine ⟨m, ⟨rfl, ?_⟩, trivial⟩
    simpa [Lit.wf, InK] using hw⟩
theorem Opens.bool {P : Program} {t : TypeId} (u : P.underlying t = some .bool) (hc : P.cellsOf t = 1) : Opens P Rep.bool t (fun _ => True) :=
  ⟨hc, fun enc w n cs y h _ => by
    cases n with
    | zero => simp [DataW.trod] at h
    | succ m =>
      unfold DataW.trod at h
      rw [u] at h
      split at h <;> try (simp at *; done)
      rename_i b _
      exact ⟨b, ⟨rfl, trivial⟩, trivial⟩⟩
theorem Opens.str {P : Program} {t : TypeId} (u : P.underlying t = some .string) (hc : P.cellsOf t = 1) : Opens P Rep.str t (fun x => x.size ≤ reachBytes) :=
  ⟨hc, fun enc w n cs y h hl => by
    cases n with
    | zero => simp [DataW.trod] at h
    | succ m =>
      unfold DataW.trod at h
      rw [u] at h
      split at h <;> try (simp at *; done)
      rename_i s _
      simp only [Option.ite_none_right_eq_some, Option.some.injEq] at h
      obtain ⟨hm, rfl⟩ := h
      refine ⟨s, ⟨rfl, by simpa [maxLen] using hm⟩, ?_⟩
      have := hl s.data.toList.length (by simp [DataW.weights])
      simpa using this⟩
theorem Opens.iso {α β : Type} {P : Program} {d : Rep α} {f : β → α} {t : TypeId} {W : α → Prop} (h : Opens P d t W) (hf : ∀ x, ∃ y, f y = x) : Opens P (Rep.iso d f) t (fun y => W (f y)) :=
  ⟨h.cells, fun enc w n cs y ht hl => by
    obtain ⟨x, hr, hW⟩ := h.opens enc w n cs y ht hl
    obtain ⟨z, rfl⟩ := hf x
    exact ⟨z, hr, hW⟩⟩
def OpensF {α : Type} (P : Program) (d : Rep α) (fs : List Field) (o : Nat) (W : α → Prop) : Prop :=
  ∀ {H : Type} (enc : TypeId × Value → H) (w : World) (n : Nat) (cs : List Value) (ys : List (DataW H × List MemPlace)), ys.length = fs.length →
    (∀ (i : Nat) (f : Field), fs[i]? = some f → DataW.trod enc P w 0 (fun _ => true) true n f.type ((cs.drop f.offset).take (P.cellsOf f.type)) = ys[i]?) →
    (∀ m ∈ DataW.weightsEach P (fs.map (·.type)) (ys.map (·.1)), m ≤ reachBytes) → ∃ x, d.rel w (fun k => k < w.heap.size) x ((cs.drop o).take d.sz) ∧ W x
theorem OpensF.one {α : Type} {P : Program} {d : Rep α} {f : Field} {o : Nat} {W : α → Prop} (h : Opens P d f.type W) (ho : f.offset = o) : OpensF P d [f] o W := by
  intro H enc w n cs ys hl ht hw
  subst ho
  have h0 := ht 0 f rfl
  rw [h.cells] at h0
  have hl0 : 0 < ys.length := by simp [hl]
  have hy : ys[0]? = some ys[0] := List.getElem?_eq_getElem hl0
  rw [hy] at h0
  exact h.opens enc w n _ _ h0 (light_each hw (j := 0) (t := f.type) (d := ys[0].1) rfl (by rw [List.getElem?_map, hy]; rfl))
theorem OpensF.pair {α β : Type} {P : Program} {a : Rep α} {b : Rep β} {f : Field} {fs : List Field} {o : Nat} {W : α → Prop} {V : β → Prop} (h : Opens P a f.type W) (ho : f.offset = o) (hs : OpensF P b fs (o + a.sz) V) :
    OpensF P (Rep.pair a b) (f :: fs) o (fun x => W x.1 ∧ V x.2) := by
  intro H enc w n cs ys hl ht hw
  subst ho
  match ys, hl with
  | y :: ys, hl =>
    have h0 := ht 0 f rfl
    rw [h.cells] at h0
    obtain ⟨x, hx, hW⟩ := h.opens enc w n _ y h0 (light_each hw (j := 0) rfl rfl)
    simp only [List.map_cons, DataW.weightsEach, List.mem_append] at hw
    obtain ⟨z, hz, hV⟩ := hs enc w n cs ys (by simpa using hl) (fun i g hg => by simpa using ht (i + 1) g (by simpa using hg)) (fun m hm => hw m (.inr hm))
    refine ⟨(x, z), ⟨_, _, ?_, hx, hz⟩, hW, hV⟩
    show (cs.drop f.offset).take (a.sz + b.sz) = _
    rw [List.take_add, List.drop_drop]
theorem Opens.struct {α : Type} {P : Program} {d : Rep α} {t : TypeId} {fs : Array Field} {W : α → Prop} (u : P.underlying t = some (.struct fs)) (hc : P.cellsOf t = d.sz) (h : OpensF P d fs.toList 0 W) : Opens P d t W :=
  ⟨hc, fun enc w n cs y ht hl => by
    obtain ⟨xs, m, rfl, rfl, hcl, hxl, hf⟩ := DataW.trod_struct u ht
    obtain ⟨x, hx, hW⟩ := h enc w m cs xs (by simpa using hxl) (fun i f hi => hf i f (by simpa using hi)) (by
      intro k hk
      refine hl k ?_
      simp only [DataW.weights, u]
      exact hk)
    refine ⟨x, ?_, hW⟩
    rw [List.drop_zero, List.take_of_length_le (by omega)] at hx
    exact hx⟩
theorem choose_list {α : Type} (n : Nat) (Q : Nat → α → Prop) (h : ∀ i, i < n → ∃ x, Q i x) : ∃ xs : List α, xs.length = n ∧ ∀ i x, xs[i]? = some x → Q i x := by
  induction n with
  | zero => exact ⟨[], rfl, fun i x h => by simp at h⟩
  | succ n ih =>
    obtain ⟨xs, hl, hq⟩ := ih (fun i hi => h i (by omega))
    obtain ⟨x, hx⟩ := h n (by omega)
    refine ⟨xs ++ [x], by simp [hl], fun i y hy => ?_⟩
    rcases Nat.lt_trichotomy i xs.length with hi | rfl | hi
    · rw [List.getElem?_append_left hi] at hy; exact hq i y hy
    · simp at hy; subst hy; rw [hl]; exact hx
    · rw [List.getElem?_eq_none (by simp; omega)] at hy; simp at hy
theorem Opens.slice {α : Type} {P : Program} {d : Rep α} {t e : TypeId} {W : α → Prop} (h : Opens P d e W) (u : P.underlying t = some (.slice e)) (hc : P.cellsOf t = 1) (hz : 0 < d.sz) (B : Nat) (hB : P.bytesOf e = B) :
    Opens P (Rep.slice d) t (fun xs => xs.length * B ≤ reachBytes ∧ ∀ x ∈ xs, W x) :=
  ⟨hc, fun enc w n cs y ht hl => by
    rcases DataW.trod_slice u ht with ⟨rfl, rfl⟩ | ⟨a, len, cap, elems, rest, m, rfl, rfl, rfl, hb, hlc, hm, hlen, hel, hsp, hns⟩
    · exact ⟨[], ⟨none, 0, rfl, Rep.Sl.empty d w _⟩, by simp, by simp⟩
    have hl2 : ∀ n ∈ DataW.weightsAll P e (elems.map (·.1)), n ≤ reachBytes := fun n hn => hl n (by
      simp only [DataW.weights, u, List.mem_cons, List.mem_append]
      exact .inr (.inl hn))
    have hplain : 0 < len → ∃ b o, a = ⟨b, o, none⟩ := by
      intro h0
      have h1 := hel 0 h0
      have hy : elems[0]? = some (elems[0]'(by omega)) := List.getElem?_eq_getElem (by omega)
      rw [hy, h.cells, Option.bind_eq_some_iff] at h1
      obtain ⟨cs, hcs, h2⟩ := h1
      obtain ⟨_, hcl, hce⟩ := World.cells?_some hcs
      have hc0 := hce 0 hz
      obtain ⟨v, hv⟩ : ∃ v, cs[0]? = some v := ⟨cs[0]'(by omega), List.getElem?_eq_getElem (by omega)⟩
      rw [hv] at hc0
      obtain ⟨b, o, spot⟩ := a
      have h9 := World.cell?_spot hc0
      have hspot : spot = none := by simpa [Addr.add] using h9
      exact ⟨b, o, by rw [hspot]⟩
    have key : ∀ i, i < len → ∃ x, (∃ b o, a = ⟨b, o, none⟩ ∧ b < w.heap.size ∧ ∃ cs, d.rel w (fun k => k < w.heap.size) x cs ∧ CellsAt w b (o + i * d.sz) cs) ∧ W x := by
      intro i hi
      have h1 := hel i hi
      have hy : elems[i]? = some elems[i] := List.getElem?_eq_getElem (by omega)
      rw [hy, h.cells, Option.bind_eq_some_iff] at h1
      obtain ⟨cs, hcs, h2⟩ := h1
      obtain ⟨x, hx, hW⟩ := h.opens enc w m cs _ h2 (light_all hl2 _ (List.mem_map.2 ⟨_, List.mem_of_getElem? hy, rfl⟩))
      obtain ⟨_, hcl, hce⟩ := World.cells?_some hcs
      have hc0 := hce 0 hz
      obtain ⟨b, o, rfl⟩ := hplain (by omega)
      obtain ⟨v, hv⟩ : ∃ v, cs[0]? = some v := ⟨cs[0]'(by omega), List.getElem?_eq_getElem (by omega)⟩
      rw [hv] at hc0
      rw [add_plain] at hc0 hce
      refine ⟨x, ⟨b, o, rfl, ?_, cs, hx, ?_⟩, hW⟩
      · have := block_lt_of_cell hc0
        rw [add_plain] at this
        exact this
      · intro j v hv
        have hj : j < d.sz := by rw [← hcl]; exact (List.getElem?_eq_some_iff.1 hv).1
        rw [← hv, ← hce j hj, add_plain]
    obtain ⟨xs, hxl, hq⟩ := choose_list len _ key
    refine ⟨xs, ⟨some a, cap, by rw [hxl], ⟨by omega, by simpa [maxLen] using hm, by simp, ?_⟩⟩, ?_, ?_⟩
    · intro i x hx
      obtain ⟨⟨b, o, rfl, hbl, cs, hr, hca⟩, _⟩ := hq i x hx
      exact ⟨b, o, cs, rfl, hbl, hbl, hr, hca⟩
    · have := hl ((elems.length + rest.length) * P.bytesOf e) (by simp [DataW.weights, u])
      rw [hB] at this
      rw [hxl, ← hlen]
      exact Nat.le_trans (Nat.mul_le_mul_right _ (by omega)) this
    · intro x hx
      obtain ⟨i, hi⟩ := List.getElem?_of_mem hx
      exact (hq i x hi).2⟩
end Go.Proofs.Ytimjccfpobhpeaa
namespace Go.Proofs.Ytimjccfpobhpeaa
open Go.RowKit Go.ChangeShapes Go.WideShapes Go.ChangeAt
open Go.Proofs.YtimjccfpobhpeaaW.PrintWords (Kd)
open Go.Proofs.Ytimjccfpobhpeaa.PF
set_option maxRecDepth 100000
structure KR {α : Type} (d : Rep α) (k : Kd α) : Prop where
  sz : d.sz = k.sz
  tok : ∀ {w : World} {F : Nat → Prop} {x : α} {cs : List Value}, d.rel w F x cs → k.K w x cs
theorem KR.C {α : Type} {d : Rep α} {k : Kd α} (h : KR d k) {w : World} {F : Nat → Prop} {A : Option Addr} {c : Nat} {xs : List α} (hs : Rep.Sl d w F A c xs) : Kd.C k w A xs.length xs ∧ xs.length ≤ c := by
  refine ⟨⟨rfl, by have := hs.len; omega, fun hn => ?_⟩, hs.le⟩
  obtain ⟨b, o, rfl, _⟩ := hs.row.head hn
  refine ⟨⟨b, o, none⟩, rfl, fun j p hp => ?_⟩
  obtain ⟨b', o', cs, hA, _, _, hr, hc⟩ := hs.row j p hp
  simp only [Option.some.injEq, Addr.mk.injEq, and_true] at hA
  obtain ⟨rfl, rfl⟩ := hA
  refine ⟨cs, by rw [d.len hr, h.sz], h.tok hr, fun i u hu => ?_⟩
  rw [Addr.add_lit, ← h.sz, show o + (j * d.sz + i) = o + j * d.sz + i by omega]
  exact hc i u hu
theorem KR.int (k : IntKind) : KR (Rep.int k) (Kd.int k) := ⟨rfl, fun h => h.1⟩
theorem KR.bool : KR Rep.bool Kd.bool := ⟨rfl, fun h => h.1⟩
theorem KR.str : KR Rep.str Kd.string := ⟨rfl, fun h => h.1⟩
theorem KR.slice {α : Type} {d : Rep α} {k : Kd α} (h : KR d k) (e : Nat) : KR (Rep.slice d) (Kd.slice e k) := ⟨rfl, by
  rintro w F x cs ⟨A, c, rfl, hs⟩
  exact ⟨A, c, rfl, (h.C hs).2, (h.C hs).1⟩⟩
theorem KR.pair {α β : Type} {a : Rep α} {b : Rep β} {ka : Kd α} {kb : Kd β} (h : KR a ka) (h2 : KR b kb) : KR (Rep.pair a b) (Kd.pair ka kb) := ⟨by show a.sz + b.sz = ka.sz + kb.sz; rw [h.sz, h2.sz], by
  rintro w F x cs ⟨c0, c1, rfl, h0, h1⟩
  exact ⟨c0, c1, rfl, h.tok h0, h2.tok h1⟩⟩
theorem KR.iso {α β : Type} {d : Rep α} {k : Kd α} (h : KR d k) (f : β → α) : KR (Rep.iso d f) (Kd.iso k f) := ⟨h.sz, fun hr => h.tok hr⟩
theorem opens_int : Opens Try.prog (Rep.int .i64) 3 (fun _ => True) := Opens.int Try.underlying3 (by kernel_rfl)
theorem opens_u64 : Opens Try.prog (Rep.int .u64) 78 (fun _ => True) := Opens.int Try.underlying78 (by kernel_rfl)
theorem opens_bool : Opens Try.prog Rep.bool 4 (fun _ => True) := Opens.bool Try.underlying4 (by kernel_rfl)
theorem opens_str : Opens Try.prog Rep.str 9 (fun x => x.size ≤ reachBytes) := Opens.str Try.underlying9 (by kernel_rfl)
theorem opens_ints : Opens Try.prog (Rep.slice (Rep.int .i64)) 25 (fun xs => xs.length * 8 ≤ reachBytes ∧ ∀ x ∈ xs, True) := opens_int.slice Try.underlying25 (by kernel_rfl) (by decide) 8 (by kernel_rfl)
theorem opens_strs : Opens Try.prog (Rep.slice Rep.str) 22 (fun xs => xs.length * 16 ≤ reachBytes ∧ ∀ x ∈ xs, x.size ≤ reachBytes) := opens_str.slice Try.underlying22 (by kernel_rfl) (by decide) 16 (by kernel_rfl)
def rFlop : Rep S82 := Rep.iso (Rep.pair Rep.str (Rep.pair (Rep.int .i64) (Rep.pair (Rep.int .i64) (Rep.pair (Rep.int .i64) Rep.bool)))) (fun x : S82 => (x.f0, x.f1, x.f2, x.f3, x.f4))
def rGate : Rep Kr := Rep.iso (Rep.pair (Rep.int .i64) (Rep.pair (Rep.int .u64) (Rep.slice (Rep.int .i64)))) (fun x : Kr => (x.f0, x.f1, x.f2))
theorem kr_flop : KR rFlop k82 := KR.iso (KR.pair KR.str (KR.pair (KR.int .i64) (KR.pair (KR.int .i64) (KR.pair (KR.int .i64) KR.bool)))) _
theorem kr_gate : KR rGate k80 := KR.iso (KR.pair (KR.int .i64) (KR.pair (KR.int .u64) (KR.slice (KR.int .i64) 3))) _
theorem opens_flop : ∃ W, Opens Try.prog rFlop 82 W :=
  ⟨_, (Opens.struct (d := Rep.pair Rep.str (Rep.pair (Rep.int .i64) (Rep.pair (Rep.int .i64) (Rep.pair (Rep.int .i64) Rep.bool)))) Try.underlying82 (by kernel_rfl) (OpensF.pair opens_str rfl (OpensF.pair opens_int rfl (OpensF.pair opens_int rfl (OpensF.pair opens_int rfl (OpensF.one opens_bool rfl)))))).iso (fun x => ⟨⟨x.1, x.2.1, x.2.2.1, x.2.2.2.1, x.2.2.2.2⟩, rfl⟩)⟩
theorem opens_gate : ∃ W, Opens Try.prog rGate 80 W :=
  ⟨_, (Opens.struct (d := Rep.pair (Rep.int .i64) (Rep.pair (Rep.int .u64) (Rep.slice (Rep.int .i64)))) Try.underlying80 (by kernel_rfl) (OpensF.pair opens_int rfl (OpensF.pair opens_u64 rfl (OpensF.one opens_ints rfl)))).iso (fun x => ⟨⟨x.1, x.2.1, x.2.2⟩, rfl⟩)⟩
theorem opens_net : ∃ W, Opens Try.prog (Rep.pair (Rep.slice Rep.str) (Rep.pair (Rep.slice Rep.str) (Rep.pair (Rep.slice rFlop) (Rep.pair (Rep.slice rGate) (Rep.slice (Rep.int .i64)))))) 27 W := by
  obtain ⟨W1, h1⟩ := opens_flop
  obtain ⟨W2, h2⟩ := opens_gate
  have h3 := h1.slice Try.underlying23 (by kernel_rfl) (by decide) 48 (by kernel_rfl)
  have h4 := h2.slice Try.underlying24 (by kernel_rfl) (by decide) 40 (by kernel_rfl)
  exact ⟨_, Opens.struct Try.underlying27 (by kernel_rfl) (OpensF.pair opens_strs rfl (OpensF.pair opens_strs rfl (OpensF.pair h3 rfl (OpensF.pair h4 rfl (OpensF.one opens_ints rfl)))))⟩
theorem arg_net {H : Type} {enc : TypeId × Value → H} {w : World} {r : Reach} {b : Nat} {v : Value} {d : DataW H} {p : List MemPlace} (hv : Value.okWide Try.prog w r b 27 v)
    (h : DataW.Trod enc Try.prog w 0 (fun _ => true) true 27 v d p) (hl : Light Try.prog 27 d) :
    ∃ (A0 A1 A2 A3 A4 : Option Addr) (c0 c1 c2 c3 c4 : Nat) (l0 l1 : List ByteArray) (l2 : List S82) (l3 : List Kr) (l4 : List Int), v = .agg #[.slice A0 l0.length c0, .slice A1 l1.length c1, .slice A2 l2.length c2, .slice A3 l3.length c3, .slice A4 l4.length c4] ∧
      (Kd.C Kd.string w A0 l0.length l0 ∧ l0.length ≤ c0) ∧ (Kd.C Kd.string w A1 l1.length l1 ∧ l1.length ≤ c1) ∧ (Kd.C k82 w A2 l2.length l2 ∧ l2.length ≤ c2) ∧ (Kd.C k80 w A3 l3.length l3 ∧ l3.length ≤ c3) ∧ Kd.C (Kd.int .i64) w A4 l4.length l4 ∧ l4.length ≤ c4 := by
  obtain ⟨cs, rfl, _⟩ := okWide_struct Try.underlying27 hv
  obtain ⟨n, hf⟩ := h
  obtain ⟨W, hO⟩ := opens_net
  obtain ⟨x, hx, _⟩ := hO.opens enc w n _ _ hf hl
  obtain ⟨_, _, hc, ⟨A0, c0, rfl, s0⟩, _, _, rfl, ⟨A1, c1, rfl, s1⟩, _, _, rfl, ⟨A2, c2, rfl, s2⟩, _, _, rfl, ⟨A3, c3, rfl, s3⟩, ⟨A4, c4, rfl, s4⟩⟩ := hx
  refine ⟨A0, A1, A2, A3, A4, c0, c1, c2, c3, c4, _, _, _, _, _, ?_, KR.str.C s0, KR.str.C s1, kr_flop.C s2, kr_gate.C s3, (KR.int .i64).C s4⟩
  obtain ⟨cs⟩ := cs
  simp only [Value.cells] at hc
  rw [hc]
  rfl
theorem opens_bools : Opens Try.prog (Rep.slice Rep.bool) 53 (fun xs => xs.length * 1 ≤ reachBytes ∧ ∀ x ∈ xs, True) := opens_bool.slice Try.underlying53 (by kernel_rfl) (by decide) 1 (by kernel_rfl)
def rPat : Rep S55 := Rep.iso (Rep.pair (Rep.slice Rep.bool) (Rep.slice Rep.bool)) (fun x : S55 => (x.f0, x.f1))
theorem kr_pat : KR rPat k55 := KR.iso (KR.pair (KR.slice KR.bool 4) (KR.slice KR.bool 4)) _
theorem opens_pat : ∃ W, Opens Try.prog rPat 55 W :=
  ⟨_, (Opens.struct (d := Rep.pair (Rep.slice Rep.bool) (Rep.slice Rep.bool)) Try.underlying55 (by kernel_rfl) (OpensF.pair opens_bools rfl (OpensF.one opens_bools rfl))).iso (fun x => ⟨⟨x.1, x.2⟩, rfl⟩)⟩
theorem arg_slice {α H : Type} {k : Kd α} {rp : Rep α} (hk : KR rp k) {e t : TypeId} {W : α → Prop} (hO : Opens Try.prog rp e W) (u : Try.prog.underlying t = some (.slice e)) (hc : Try.prog.cellsOf t = 1) (hz : 0 < rp.sz) {enc : TypeId × Value → H} {w : World} {r : Reach} {b : Nat} {v : Value} {d : DataW H} {p : List MemPlace} (hv : Value.okWide Try.prog w r b t v)
    (h : DataW.Trod enc Try.prog w 0 (fun _ => true) true t v d p) (hl : Light Try.prog t d) : ∃ (A : Option Addr) (c : Nat) (l : List α), v = .slice A l.length c ∧ Kd.C k w A l.length l ∧ l.length ≤ c := by
  obtain ⟨a, len, cap, rfl⟩ := okWide_slice u hv
  obtain ⟨n, hf⟩ := h
  obtain ⟨x, hx, _⟩ := (hO.slice u hc hz _ rfl).opens enc w n _ _ hf hl
  obtain ⟨A, c, hcs, hs⟩ := hx
  have e1 : Value.slice a len cap = .slice A x.length c := by simpa [Value.cells] using hcs
  exact ⟨A, c, x, e1, (hk.C hs).1, (hk.C hs).2⟩
theorem arg_pats {H : Type} {enc : TypeId × Value → H} {w : World} {r : Reach} {b : Nat} {v : Value} {d : DataW H} {p : List MemPlace} (hv : Value.okWide Try.prog w r b 49 v)
    (h : DataW.Trod enc Try.prog w 0 (fun _ => true) true 49 v d p) (hl : Light Try.prog 49 d) : ∃ (A : Option Addr) (c : Nat) (l : List S55), v = .slice A l.length c ∧ Kd.C k55 w A l.length l ∧ l.length ≤ c := by
  obtain ⟨W, hO⟩ := opens_pat
  exact arg_slice kr_pat hO Try.underlying49 (by kernel_rfl) (by decide) hv h hl
def rFault : Rep S29 := Rep.iso (Rep.pair (Rep.int .i64) (Rep.pair (Rep.int .i64) Rep.bool)) (fun x : S29 => (x.f0, x.f1, x.f2))
theorem kr_fault : KR rFault k29 := KR.iso (KR.pair (KR.int .i64) (KR.pair (KR.int .i64) KR.bool)) _
theorem opens_faultS : ∃ W, Opens Try.prog rFault 29 W :=
  ⟨_, (Opens.struct (d := Rep.pair (Rep.int .i64) (Rep.pair (Rep.int .i64) Rep.bool)) Try.underlying29 (by kernel_rfl) (OpensF.pair opens_int rfl (OpensF.pair opens_int rfl (OpensF.one opens_bool rfl)))).iso (fun x => ⟨⟨x.1, x.2.1, x.2.2⟩, rfl⟩)⟩
theorem arg_faults {H : Type} {enc : TypeId × Value → H} {w : World} {r : Reach} {b : Nat} {v : Value} {d : DataW H} {p : List MemPlace} (hv : Value.okWide Try.prog w r b 39 v)
    (h : DataW.Trod enc Try.prog w 0 (fun _ => true) true 39 v d p) (hl : Light Try.prog 39 d) : ∃ (A : Option Addr) (c : Nat) (l : List S29), v = .slice A l.length c ∧ Kd.C k29 w A l.length l ∧ l.length ≤ c := by
  obtain ⟨W, hO⟩ := opens_faultS
  exact arg_slice kr_fault hO Try.underlying39 (by kernel_rfl) (by decide) hv h hl
end Go.Proofs.Ytimjccfpobhpeaa
namespace Go.Proofs.Ytimjccfpobhpeaa.FaultDetects
open Go.ChangeShapes Go.WideShapes Go.ChangeAt Go.RowKit
open Go.Proofs.Ytimjccfpobhpeaa.PF
set_option linter.unusedVariables false
theorem own : ownKnob Try.prog.godebug = none := by kernel_rfl
theorem laidOut : laidOutB Try.prog = true := by kernel_rfl
set_option maxRecDepth 100000 in
theorem lifted (os : Os) (started : os.Started) (H : Type) (enc : TypeId × Value → H) :
    ReturnsInHanded {} Try.checked os 7 .any (Rows.faultDetectsSpec.pre6 enc Try.prog Try.f7 Rows.faultDetectsRow.domain false) (Rows.faultDetectsSpec.post enc Try.prog Try.f7 false true false false) := by
  refine returnsInHanded_of_change_sized (C := Try.checked) own started (by kernel_rfl) Try.func7
    (ChangeSpec.witness6 (enc := enc) (C := Try.checked) false ⟨#[], #[.agg #[.slice none 0 0, .slice none 0 0, .slice none 0 0, .slice none 0 0, .slice none 0 0], .slice none 0 0, .slice none 0 0], []⟩ 8 (by kernel_rfl) (by kernel_rfl) (by kernel_rfl) (by kernel_rfl)) ?_
  intro W base args ds gs before hval0 hW hcnd hsz0 _
  have hsz : (DataW.weightsEach Try.prog (Try.f7.params.toList ++ Rows.faultDetectsSpec.plain.varTypes Try.prog) (ds ++ gs)).all (· ≤ reachBytes) = true := hsz0
  have hval : ∀ (j : Nat) t v, Try.f7.params[j]? = some t → args[j]? = some v → Value.okWide Try.prog W .any base t v := hval0
  have hW' := hW
  obtain ⟨p, q, hA0, hV, rfl, hfz, hnd⟩ := hW
  have hA : DataW.TrodAll enc Try.prog W 0 (fun _ => true) true Try.f7.params.toList args.toList ds p := hA0
  rw [Try.params7] at hA hval hsz
  obtain ⟨v0, vs0, d0, ds0, p0, q0, hargs, rfl, rfl, h0, r0⟩ := trodAll_cons hA
  obtain ⟨v1, vs1, d1, ds1, p1, q1, rfl, rfl, rfl, h1, r1⟩ := trodAll_cons r0
  obtain ⟨v2, vs2, d2, ds2, p2, q2, rfl, rfl, rfl, h2, r2⟩ := trodAll_cons r1
  obtain ⟨rfl, rfl, rfl⟩ := trodAll_nil r2
  obtain rfl : args = #[v0, v1, v2] := by cases args; simp_all
  obtain ⟨rfl, rfl⟩ := trodVars_none hV
  have hall : ∀ n ∈ DataW.weightsEach Try.prog (#[27, 39, 49].toList ++ Rows.faultDetectsSpec.plain.varTypes Try.prog) ([d0, d1, d2] ++ []), n ≤ reachBytes := by
    intro n hn
    simpa using List.all_eq_true.1 hsz n hn
  obtain ⟨A0_0, A0_1, A0_2, A0_3, A0_4, c0_0, c0_1, c0_2, c0_3, c0_4, l0_0, l0_1, l0_2, l0_3, l0_4, rfl, hr0_0, hr0_1, hr0_2, hr0_3, hr0_4a, hr0_4b⟩ := arg_net (hval 0 27 v0 rfl rfl) h0 (light_each hall (j := 0) rfl rfl)
  obtain ⟨A1, c1, l1, rfl, hr1, hc1⟩ := arg_faults (hval 1 39 v1 rfl rfl) h1 (light_each hall (j := 1) rfl rfl)
  obtain ⟨A2, c2, l2, rfl, hr2, hc2⟩ := arg_pats (hval 2 49 v2 rfl rfl) h2 (light_each hall (j := 2) rfl rfl)
  have ll0 : ∀ x ∈ p0, x.block < W.heap.size := by obtain ⟨m, hm⟩ := h0; exact DataW.trod_lt m _ _ _ hm
  have ll1 : ∀ x ∈ p1, x.block < W.heap.size := by obtain ⟨m, hm⟩ := h1; exact DataW.trod_lt m _ _ _ hm
  have ll2 : ∀ x ∈ p2, x.block < W.heap.size := by obtain ⟨m, hm⟩ := h2; exact DataW.trod_lt m _ _ _ hm
  clear hA0 hval0 hsz0 hsz hall
  refine Calls.mono (Exists.elim (detects_true l0_0 l0_1 l0_2 l0_3 l0_4 l1 l2) fun k hk => Zd.calls k A0_0 c0_0 l0_0 A0_1 c0_1 l0_1 A0_2 c0_2 l0_2 A0_3 c0_3 l0_3 A0_4 c0_4 l0_4 A1 c1 l1 A2 c2 l2 true W hr0_0.1 hr0_0.2 hr0_1.1 hr0_1.2 hr0_2.1 hr0_2.2 hr0_3.1 hr0_3.2 hr0_4a hr0_4b hr1 hc1 hr2 hc2 hk) fun e W' ⟨he, bel⟩ => ?_
  subst he
  exact ⟨_, rfl, _, _, _, [], _, [], hW', trodAll_mk1 (shut_bool Try.underlying4 _),
    (trodAll_cons_mk (Below.trod laidOut (by kernel_rfl) (of_decide_eq_true (by kernel_rfl)) h0 bel ll0) (trodAll_cons_mk (Below.trod laidOut (by kernel_rfl) (of_decide_eq_true (by kernel_rfl)) h1 bel ll1) (trodAll_cons_mk (Below.trod laidOut (by kernel_rfl) (of_decide_eq_true (by kernel_rfl)) h2 bel ll2) trodAll_mk0))), rfl, bel.frame _, fun h => by cases h⟩
theorem over : Rows.faultDetectsRow.holds Try.pinned (OpenSpec.ofChange Rows.faultDetectsSpec) :=
  OpenClaim.holds_of_wide 7 Try.f7 rfl rfl rfl rfl rfl rfl rfl ⟨rfl, rfl, rfl, rfl, rfl⟩ rfl rfl rfl rfl rfl (by kernel_rfl) Try.func7 (by kernel_rfl)
    (of_decide_eq_true (by kernel_rfl)) (by unfold Func.isWrapper; first | (rw [if_pos (by decide +kernel)]; kernel_rfl) | (rw [if_neg (by decide +kernel)]; exact ⟨rfl, rfl⟩))
    (fun os started H enc _ => lifted os started H enc)
end Go.Proofs.Ytimjccfpobhpeaa.FaultDetects
namespace Go.Proofs.Ytimjccfpobhpeaa
theorem faultDetects_holds : Rows.FaultDetectsSaid := FaultDetects.over
#print axioms faultDetects_holds
end Go.Proofs.Ytimjccfpobhpeaa
