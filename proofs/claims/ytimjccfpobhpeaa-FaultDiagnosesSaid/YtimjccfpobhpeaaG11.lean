/- FaultDiagnoses answers true at every input, and the arguments read behind the call as before. No condition. -/
/- Joined by this session's own program out of its texts: DiagLaw Opens OpensN FaultDiagnoses. -/
import Derived.Test.YtimjccfpobhpeaaG8
import Derived.Test.YtimjccfpobhpeaaG9
import Derived.Test.YtimjccfpobhpeaaG10
import Derived.Test.YtimjccfpobhpeaaG1
import Derived.ProofKit
import Derived.OpenShut
import Derived.ShutString
import Derived.ChangeOld
import Derived.Below
import Derived.SizedLaws
import Derived.Test.YtimjccfpobhpeaaRows
namespace Go.Proofs.Ytimjccfpobhpeaa
open Go.RowKit Go.Proofs.YtimjccfpobhpeaaW.PrintWords Go.Proofs.Ytimjccfpobhpeaa.PF
set_option linter.unusedVariables false
set_option maxRecDepth 100000
abbrev RespS := S60
theorem rdR_at {xs : List RespS} {i : Nat} {x : RespS} (h : xs[i]? = some x) : rd_T60 xs (i : Int) = x := by
  unfold rd_T60
  first
  | exact rdOf_at h
  | (have hi : i < xs.length := (List.getElem?_eq_some_iff.1 h).1
     simp [h])
section
variable (l0 l1 : List ByteArray) (l2 : List FlopS) (l3 : List GateS) (l4 : List Int)
def flagF (f : Qr) : List PatS → List RespS → Bool → Bool
  | p :: ps, r :: rs, fl => flagF f ps rs (fl && (decide ((showF l0 l2 l3 l4 f p).1 = r.f0) && decide ((showF l0 l2 l3 l4 f p).2 = r.f1)))
  | _, _, fl => fl
def picks (l : List PatS) (rs : List RespS) : List Qr → Nat → List Int
  | [], _ => []
  | f :: r, i => (if flagF l0 l2 l3 l4 f l rs true = true then [(i : Int)] else []) ++ picks l rs r (i + 1)
variable {l0 l1 l2 l3 l4}
variable {l : List PatS} {rs : List RespS}
set_option maxHeartbeats 800000 in
theorem diag_l2 (ok : FormOk l0 l1 l2 l3 l4) (hlr : rs.length = l.length) (hl : l.length ≤ 256) (f : Qr) (KE : Nat)
    (hE : ∀ p ∈ l, ∀ k, KE ≤ k → Qh.f k l0 l1 (Ko (nvOf l0 l2 l3 l4 f.f0 f.f1 f.f2) l2 0) (Kv (nvOf l0 l2 l3 l4 f.f0 f.f1 f.f2) l3 0) (brOuts (nvOf l0 l2 l3 l4 f.f0 f.f1 f.f2) l4 0) p.f0 p.f1 = some ((showF l0 l2 l3 l4 f p).1, (showF l0 l2 l3 l4 f p).2, 0))
    (x17 : List Int) (hx17 : x17.length < 17592186044416) (x18 : Int) (x65 : List Qr) (x66 x67 : Int) (F : Bool) (K1 : Nat) (R : List Int × Int)
    (H : ∀ k, K1 ≤ k → Zu.l1 k l rs (x17 ++ (if F = true then [x18] else [])) x65 x66 (wrap64 (x67 + 1)) l0 l1 l2 l3 l4 = some R) :
    ∀ (d i : Nat) (fl : Bool), i + d = l.length → flagF l0 l2 l3 l4 f (l.drop i) (rs.drop i) fl = F → ∀ k, KE + K1 + 2000 + d < k → Zu.l2 k l rs x17 x18 fl x65 x66 x67 l l.length i l0 l1 l2 l3 l4 l0 l1 (Ko (nvOf l0 l2 l3 l4 f.f0 f.f1 f.f2) l2 0) (Kv (nvOf l0 l2 l3 l4 f.f0 f.f1 f.f2) l3 0) (brOuts (nvOf l0 l2 l3 l4 f.f0 f.f1 f.f2) l4 0) = some R
  | 0, i, fl, h, hfl, k, hk => by
    obtain ⟨m, rfl⟩ : ∃ m, k = m + 1 := ⟨k - 1, by omega⟩
    rw [List.drop_eq_nil_of_le (show l.length ≤ i by omega)] at hfl
    have hF : fl = F := hfl
    subst hF
    have hm := H m (by omega)
    rw [Zu.l2, if_neg (by omega)]
    cases fl
    · rw [if_neg (by decide)]
      rw [if_neg (by decide), List.append_nil] at hm
      exact hm
    · rw [if_pos rfl, if_pos hx17]
      rw [if_pos rfl] at hm
      exact hm
  | d + 1, i, fl, h, hfl, k, hk => by
    obtain ⟨m, rfl⟩ : ∃ m, k = m + 1 := ⟨k - 1, by omega⟩
    have b2 := ok.c2
    have b1 := ok.c1
    have b4 := ok.c4
    obtain ⟨x, hx⟩ := at_ex (xs := l) (i := i) (by omega)
    obtain ⟨r, hr⟩ := at_ex (xs := rs) (i := i) (by omega)
    obtain ⟨s1, s2⟩ := showF_len l0 l2 l3 l4 f x
    rw [drop_cons hx, drop_cons hr, flagF] at hfl
    have g1 : (i : Int) < (l.length : Int) := by omega
    have g2 : (0 : Int) ≤ (i : Int) := by omega
    have g3 : (i : Int) < (rs.length : Int) := by omega
    have hw : wrap64 ((i : Int) + 1) = ((i + 1 : Nat) : Int) := by rw [Ql (by omega) (by omega)]; rfl
    have ih := fun fl' => diag_l2 ok hlr hl f KE hE x17 hx17 x18 x65 x66 x67 F K1 R H d (i + 1) fl' (by clear hw; omega)
    have e1 := equalB (showF l0 l2 l3 l4 f x).1 r.f0 (by clear hw; omega) m (by clear hw; omega)
    have e2 := equalB (showF l0 l2 l3 l4 f x).2 r.f1 (by clear hw; omega) m (by clear hw; omega)
    have hkm : KE + K1 + 2000 + d < m := by clear hw; omega
    rw [Zu.l2, if_pos g1, if_pos g2, if_pos g1, rdP_at hx, hE x (List.mem_of_getElem? hx) m (by clear hw; omega), Option.bind_some]
    generalize hy1 : (showF l0 l2 l3 l4 f x).1 = y1 at hfl e1
    generalize hy2 : (showF l0 l2 l3 l4 f x).2 = y2 at hfl e2
    show (if (0 : Int) = 0 then (if fl = true then (if (i : Int) < (rs.length : Int) then ((Zt.f m y1 ((rd_T60 rs i).f0)).bind _) else none) else _) else _) = _
    rw [if_pos rfl]
    cases fl
    · rw [if_neg (by decide), hw]
      exact ih false hfl m hkm
    · rw [if_pos rfl, if_pos g3, rdR_at hr, e1, Option.bind_some]
      by_cases c1 : y1 = r.f0
      · rw [if_pos (decide_eq_true c1)]
        show ((Zt.f m y2 (r.f1)).bind _) = _
        rw [e2, Option.bind_some, hw]
        refine ih _ ?_ m hkm
        rw [decide_eq_true c1, Bool.true_and, Bool.true_and] at hfl
        exact hfl
      · rw [if_neg (by simpa using c1), hw]
        refine ih _ ?_ m hkm
        rw [decide_eq_false c1, Bool.false_and, Bool.and_false] at hfl
        exact hfl
theorem diag_l1 (ok : FormOk l0 l1 l2 l3 l4) (hlr : rs.length = l.length) (hl : l.length ≤ 256) (fs : List Qr) (hfl : fs.length ≤ 20000) (ef : Qr → Int) (Kf : Qr → Nat) (K : Nat) (hK : ∀ f ∈ fs, Kf f ≤ K) (hs : ∀ f, FaultSem l0 l1 l2 l3 l4 l f (Kf f) (ef f)) (h0 : ∀ f ∈ fs, ef f = 0) (KE : Nat)
    (hE : ∀ f ∈ fs, ∀ p ∈ l, ∀ k, KE ≤ k → Qh.f k l0 l1 (Ko (nvOf l0 l2 l3 l4 f.f0 f.f1 f.f2) l2 0) (Kv (nvOf l0 l2 l3 l4 f.f0 f.f1 f.f2) l3 0) (brOuts (nvOf l0 l2 l3 l4 f.f0 f.f1 f.f2) l4 0) p.f0 p.f1 = some ((showF l0 l2 l3 l4 f p).1, (showF l0 l2 l3 l4 f p).2, 0)) (C : Nat) (hC : 2600 ≤ C) :
    ∀ (d i : Nat) (x17 : List Int), i + d = fs.length → x17.length ≤ i → ∀ k, (K + KE + C) * (d + 1) < k → Zu.l1 k l rs x17 fs fs.length i l0 l1 l2 l3 l4 = some (x17 ++ picks l0 l2 l3 l4 l rs (fs.drop i) i, 0)
  | 0, i, x17, h, h17, k, hk => by
    obtain ⟨m, rfl⟩ : ∃ m, k = m + 1 := ⟨k - 1, by omega⟩
    rw [Zu.l1, if_neg (by omega), List.drop_eq_nil_of_le (show fs.length ≤ i by omega), picks, List.append_nil]
  | d + 1, i, x17, h, h17, k, hk => by
    have hkd : (K + KE + C) * (d + 1 + 1) = (K + KE + C) * (d + 1) + (K + KE + C) := by rw [Nat.mul_succ]
    obtain ⟨m, rfl⟩ : ∃ m, k = m + 1 := ⟨k - 1, by omega⟩
    obtain ⟨x, hx⟩ := at_ex (xs := fs) (i := i) (by omega)
    have hmx := List.mem_of_getElem? hx
    have hKx := hK x hmx
    have hex := h0 x hmx
    have hw : wrap64 ((i : Int) + 1) = ((i + 1 : Nat) : Int) := by rw [Ql (by omega) (by omega)]; rfl
    rw [Zu.l1, if_pos (by clear hw; omega), if_pos (by clear hw; omega), if_pos (by clear hw; omega), rdFa_at hx, (hs x).inj hex m (by clear hw; omega), Option.bind_some]
    show (if (0 : Int) = 0 then (Zu.l2 m l rs x17 i true fs fs.length i l l.length 0 l0 l1 l2 l3 l4 l0 l1 (Ko (nvOf l0 l2 l3 l4 x.f0 x.f1 x.f2) l2 0) (Kv (nvOf l0 l2 l3 l4 x.f0 x.f1 x.f2) l3 0) (brOuts (nvOf l0 l2 l3 l4 x.f0 x.f1 x.f2) l4 0)) else _) = _
    rw [if_pos rfl, drop_cons hx, picks]
    refine diag_l2 ok hlr hl x KE (hE x hmx) x17 (by clear hw; omega) i fs fs.length i (flagF l0 l2 l3 l4 x l rs true) ((K + KE + C) * (d + 1) + 1) _ (fun k hk => ?_) l.length 0 true (Nat.zero_add _) rfl m (by clear hw; omega)
    rw [hw]
    have hlen : (if flagF l0 l2 l3 l4 x l rs true = true then [(i : Int)] else []).length ≤ 1 := by split <;> simp
    have := diag_l1 ok hlr hl fs hfl ef Kf K hK hs h0 KE hE C hC d (i + 1) (x17 ++ (if flagF l0 l2 l3 l4 x l rs true = true then [(i : Int)] else [])) (by clear hw; omega) (by rw [List.length_append]; clear hw; omega) k (by clear hw; omega)
    rw [List.append_assoc] at this
    exact this
theorem diag_l0 (fs : List Qr) (hf : fs.length ≤ 20000) (ef : Qr → Int) (Kf : Qr → Nat) (K : Nat) (hK : ∀ f ∈ fs, Kf f ≤ K) (hs : ∀ f, FaultSem l0 l1 l2 l3 l4 l f (Kf f) (ef f)) (R : List Int × Int) (K1 : Nat)
    (H : Kt ef fs = 0 → ∀ k, K1 ≤ k → (if (rs.length : Int) = (l.length : Int) then (Zu.l1 k l rs ([] : List Int) fs (fs.length : Int) 0 l0 l1 l2 l3 l4) else (some (([] : List Int), 11))) = some R) :
    ∀ (d i : Nat), i + d = fs.length → Kt ef fs = Kt ef (fs.drop i) → ∀ k, K + K1 + d < k → Zu.l0 k fs l rs (Qy l0 l2 l3 l4) fs fs.length i l0 l1 l2 l3 l4 = some (if Kt ef fs = 0 then R else ([], Kt ef fs))
  | 0, i, h, he, k, hk => by
    obtain ⟨m, rfl⟩ : ∃ m, k = m + 1 := ⟨k - 1, by omega⟩
    rw [List.drop_eq_nil_of_le (show fs.length ≤ i by omega)] at he
    have hz : Kt ef fs = 0 := he
    rw [Zu.l0, if_neg (by omega), if_pos hz]
    exact H hz m (by omega)
  | d + 1, i, h, he, k, hk => by
    obtain ⟨m, rfl⟩ : ∃ m, k = m + 1 := ⟨k - 1, by omega⟩
    obtain ⟨x, hx⟩ := at_ex (xs := fs) (i := i) (by omega)
    have hKx := hK x (List.mem_of_getElem? hx)
    have hw : wrap64 ((i : Int) + 1) = ((i + 1 : Nat) : Int) := by rw [Ql (by omega) (by omega)]; rfl
    rw [drop_cons hx, Kt] at he
    rw [Zu.l0, if_pos (by clear hw; omega), if_pos (by clear hw; omega), if_pos (by clear hw; omega), rdFa_at hx, (hs x).ck m (by clear hw; omega), Option.bind_some]
    by_cases h0 : ef x = 0
    · rw [if_pos h0] at he
      rw [if_pos h0, hw]
      exact diag_l0 fs hf ef Kf K hK hs R K1 H d (i + 1) (by clear hw; omega) he m (by clear hw; omega)
    · rw [if_neg h0] at he
      rw [if_neg h0, he, if_neg h0]
set_option maxHeartbeats 800000 in
theorem dlaw_l2 (ok : FormOk l0 l1 l2 l3 l4) {KL : Nat} (hL : ∀ k, KL ≤ k → Xj.f k l0 l1 l2 l3 l4 = some (Qy l0 l2 l3 l4, 0)) (hp : PatsOk l0 l2 l) (hlr : rs.length = l.length) (hl : l.length ≤ 256) (f : Qr) (hb : -1 ≤ f.f1)
    (x9 : List Int) (x17 : List Int) (hx17 : x17.length < 17592186044416) (x18 : Int) (x65 : List Qr) (x66 x67 : Int) (F : Bool) (K1 : Nat)
    (H : ∀ k, K1 ≤ k → Zd.l1 k l rs x9 0 (x17 ++ (if F = true then [x18] else [])) x65 x66 (wrap64 (x67 + 1)) l0 l1 l2 l3 l4 = some true) :
    ∀ (d i : Nat) (fl : Bool), i + d = l.length → flagF l0 l2 l3 l4 f (l.drop i) (rs.drop i) fl = F → ∀ k, KL + K1 + 2000 + d < k → Zd.l2 k l rs x9 0 x17 x18 fl x65 x66 x67 l l.length i l0 l1 l2 l3 l4 f.f0 f.f1 f.f2 = some true
  | 0, i, fl, h, hfl, k, hk => by
    obtain ⟨m, rfl⟩ : ∃ m, k = m + 1 := ⟨k - 1, by omega⟩
    rw [List.drop_eq_nil_of_le (show l.length ≤ i by omega)] at hfl
    have hF : fl = F := hfl
    subst hF
    have hm := H m (by omega)
    rw [Zd.l2, if_neg (by omega)]
    cases fl
    · rw [if_neg (by decide)]
      rw [if_neg (by decide), List.append_nil] at hm
      exact hm
    · rw [if_pos rfl, if_pos hx17]
      rw [if_pos rfl] at hm
      exact hm
  | d + 1, i, fl, h, hfl, k, hk => by
    obtain ⟨m, rfl⟩ : ∃ m, k = m + 1 := ⟨k - 1, by omega⟩
    have b2 := ok.c2
    have b1 := ok.c1
    have b4 := ok.c4
    obtain ⟨x, hx⟩ := at_ex (xs := l) (i := i) (by omega)
    obtain ⟨r, hr⟩ := at_ex (xs := rs) (i := i) (by omega)
    obtain ⟨p1, p2⟩ := hp x (List.mem_of_getElem? hx)
    obtain ⟨s1, s2⟩ := showF_len l0 l2 l3 l4 f x
    rw [drop_cons hx, drop_cons hr, flagF] at hfl
    have g1 : (i : Int) < (l.length : Int) := by omega
    have g2 : (0 : Int) ≤ (i : Int) := by omega
    have g3 : (i : Int) < (rs.length : Int) := by omega
    have hw : wrap64 ((i : Int) + 1) = ((i + 1 : Nat) : Int) := by rw [Ql (by omega) (by omega)]; rfl
    have ih := fun fl' => dlaw_l2 ok hL hp hlr hl f hb x9 x17 hx17 x18 x65 x66 x67 F K1 H d (i + 1) fl' (by clear hw; omega)
    have e1 := equalB (showF l0 l2 l3 l4 f x).1 r.f0 (by clear hw; omega) m (by clear hw; omega)
    have e2 := equalB (showF l0 l2 l3 l4 f x).2 r.f1 (by clear hw; omega) m (by clear hw; omega)
    have hkm : KL + K1 + 2000 + d < m := by clear hw; omega
    have hsh := shown_one ok (hL m (by clear hw; omega)) x p1 p2 f.f0 f.f1 f.f2 hb
    rw [Zd.l2, if_pos g1, if_pos g2, if_pos g1, rdP_at hx, hsh, Option.bind_some]
    cases fl
    · rw [if_neg (by decide), hw]
      exact ih false hfl m hkm
    · rw [if_pos rfl, if_pos g3, rdR_at hr, e1, Option.bind_some]
      by_cases c1 : (showF l0 l2 l3 l4 f x).1 = r.f0
      · rw [if_pos (decide_eq_true c1), e2, Option.bind_some, hw]
        refine ih _ ?_ m hkm
        rw [decide_eq_true c1, Bool.true_and, Bool.true_and] at hfl
        exact hfl
      · rw [if_neg (by simpa using c1), hw]
        refine ih _ ?_ m hkm
        rw [decide_eq_false c1, Bool.false_and, Bool.and_false] at hfl
        exact hfl
theorem dlaw_l1 (ok : FormOk l0 l1 l2 l3 l4) {KL : Nat} (hL : ∀ k, KL ≤ k → Xj.f k l0 l1 l2 l3 l4 = some (Qy l0 l2 l3 l4, 0)) (hp : PatsOk l0 l2 l) (hlr : rs.length = l.length) (hl : l.length ≤ 256) (fs : List Qr) (hfl : fs.length ≤ 20000) (hlo : ∀ f ∈ fs, -1 ≤ f.f1) (x9 : List Int) (C : Nat) (hC : 2600 ≤ C) :
    ∀ (d i : Nat) (x17 : List Int), i + d = fs.length → x17.length ≤ i → x17 ++ picks l0 l2 l3 l4 l rs (fs.drop i) i = x9 → ∀ k, 20100 + (KL + C) * (d + 1) < k → Zd.l1 k l rs x9 0 x17 fs fs.length i l0 l1 l2 l3 l4 = some true
  | 0, i, x17, h, h17, h9, k, hk => by
    obtain ⟨m, rfl⟩ : ∃ m, k = m + 1 := ⟨k - 1, by omega⟩
    rw [List.drop_eq_nil_of_le (show fs.length ≤ i by omega), picks, List.append_nil] at h9
    subst h9
    rw [Zd.l1, if_neg (by omega), faulty_ge (by omega), Option.bind_some, if_pos rfl, if_pos rfl, equalI x17 (by omega) m (by omega), Option.bind_some]
  | d + 1, i, x17, h, h17, h9, k, hk => by
    have hkd : (KL + C) * (d + 1 + 1) = (KL + C) * (d + 1) + (KL + C) := by rw [Nat.mul_succ]
    obtain ⟨m, rfl⟩ : ∃ m, k = m + 1 := ⟨k - 1, by omega⟩
    obtain ⟨x, hx⟩ := at_ex (xs := fs) (i := i) (by omega)
    have hmx := List.mem_of_getElem? hx
    have hw : wrap64 ((i : Int) + 1) = ((i + 1 : Nat) : Int) := by rw [Ql (by omega) (by omega)]; rfl
    rw [drop_cons hx, picks] at h9
    rw [Zd.l1, if_pos (by clear hw; omega), if_pos (by clear hw; omega), if_pos (by clear hw; omega), rdFa_at hx]
    refine dlaw_l2 ok hL hp hlr hl x (hlo x hmx) x9 x17 (by clear hw; omega) i fs fs.length i (flagF l0 l2 l3 l4 x l rs true) (20100 + (KL + C) * (d + 1) + 1) (fun k hk => ?_) l.length 0 true (Nat.zero_add _) rfl m (by clear hw; omega)
    rw [hw]
    have hlen : (if flagF l0 l2 l3 l4 x l rs true = true then [(i : Int)] else []).length ≤ 1 := by split <;> simp
    exact dlaw_l1 ok hL hp hlr hl fs hfl hlo x9 C hC d (i + 1) (x17 ++ (if flagF l0 l2 l3 l4 x l rs true = true then [(i : Int)] else [])) (by clear hw; omega) (by rw [List.length_append]; clear hw; omega) (by rw [List.append_assoc]; exact h9) k (by clear hw; omega)
theorem dlaw_l0 (fs : List Qr) (hf : fs.length ≤ 20000) (ef : Qr → Int) (Kf : Qr → Nat) (K : Nat) (hK : ∀ f ∈ fs, Kf f ≤ K) (hs : ∀ f, FaultSem l0 l1 l2 l3 l4 l f (Kf f) (ef f)) (x7 : List Int) (x8 : Int) (K4 : Nat) (H : ∀ k, K4 ≤ k → Zd.j4 k fs l rs x7 x8 (Kt ef fs) l0 l1 l2 l3 l4 = some true) :
    ∀ (d i : Nat) (g : Int), i + d = fs.length → Kt ef fs = (if g = 0 then Kt ef (fs.drop i) else g) → ∀ k, K + K4 + d < k → Zd.l0 k fs l rs x7 x8 g i l0 l1 l2 l3 l4 = some true
  | 0, i, g, h, hg, k, hk => by
    obtain ⟨m, rfl⟩ : ∃ m, k = m + 1 := ⟨k - 1, by omega⟩
    have hgg : g = Kt ef fs := by
      rw [hg, List.drop_eq_nil_of_le (by omega)]
      split
      · rename_i h0; rw [h0]; rfl
      · rfl
    rw [Zd.l0, if_neg (by omega), hgg]
    exact H m (by omega)
  | d + 1, i, g, h, hg, k, hk => by
    obtain ⟨m, rfl⟩ : ∃ m, k = m + 1 := ⟨k - 1, by omega⟩
    obtain ⟨x, hx⟩ := at_ex (xs := fs) (i := i) (by omega)
    have hKx := hK x (List.mem_of_getElem? hx)
    have hw : wrap64 ((i : Int) + 1) = ((i + 1 : Nat) : Int) := by rw [Ql (by omega) (by omega)]; rfl
    rw [Zd.l0, if_pos (by clear hw; omega)]
    by_cases h0 : g = 0
    · rw [if_pos h0, if_pos (by clear hw; omega), rdFa_at hx, (hs x).ff m (by clear hw; omega), Option.bind_some, hw]
      clear hw
      refine dlaw_l0 fs hf ef Kf K hK hs x7 x8 K4 H d (i + 1) (ef x) (by omega) ?_ m (by omega)
      rw [hg, if_pos h0, drop_cons hx, Kt]
    · rw [if_neg h0]
      rw [if_neg h0] at hg
      rw [← hg]
      exact H m (by omega)
end
section
variable (l0 l1 : List ByteArray) (l2 : List FlopS) (l3 : List GateS) (l4 : List Int) (fs : List Qr) (l : List PatS) (rs : List RespS)
theorem g_j6_err {e : Int} (he : e ≠ 0) : ∀ k, 61 ≤ k → Zd.j6 k fs l rs [] e e l0 l1 l2 l3 l4 = some true := by
  intro k hk
  obtain ⟨m, rfl⟩ : ∃ m, k = m + 1 := ⟨k - 1, by omega⟩
  rw [Zd.j6, if_neg he, faulty_ge (by omega), Option.bind_some, if_pos rfl, if_pos rfl]
  rfl
theorem g_j4_err {e : Int} (he : e ≠ 0) : ∀ k, 63 ≤ k → Zd.j4 k fs l rs [] e e l0 l1 l2 l3 l4 = some true := by
  intro k hk
  obtain ⟨m, rfl⟩ : ∃ m, k = m + 2 := ⟨k - 2, by omega⟩
  rw [Zd.j4, if_neg he, Zd.j5, if_neg (by decide)]
  exact g_j6_err l0 l1 l2 l3 l4 fs l rs he m (by omega)
theorem g_j2_err {e : Int} (he : e ≠ 0) : ∀ k, 65 ≤ k → Zd.j2 k fs l rs [] e e l0 l1 l2 l3 l4 = some true := by
  intro k hk
  obtain ⟨m, rfl⟩ : ∃ m, k = m + 2 := ⟨k - 2, by omega⟩
  rw [Zd.j2, Zd.l0, if_neg he]
  split <;> exact g_j4_err l0 l1 l2 l3 l4 fs l rs he m (by omega)
theorem g_j1_err {e : Int} (he : e ≠ 0) : ∀ k, 66 ≤ k → Zd.j1 k fs l rs [] e e l0 l1 l2 l3 l4 = some true := by
  intro k hk
  obtain ⟨m, rfl⟩ : ∃ m, k = m + 1 := ⟨k - 1, by omega⟩
  rw [Zd.j1, if_neg he]
  exact g_j2_err l0 l1 l2 l3 l4 fs l rs he m (by omega)
theorem diagnoses_true : ∃ k, Zd.f k l0 l1 l2 l3 l4 fs l rs = some true := by
  obtain ⟨kF, e, hF, hok⟩ := form_ex l0 l1 l2 l3 l4
  have hform : ∀ k, kF ≤ k → Ze.f k l0 l1 l2 l3 l4 = some e := fun k hk => upK (Ze.mono l0 l1 l2 l3 l4) hk hF
  by_cases he : e = 0
  · subst he
    have ok := hok rfl
    have hL : ∀ k, kF ≤ k → Xj.f k l0 l1 l2 l3 l4 = some (Qy l0 l2 l3 l4, 0) := fun k hk => by
      rw [Xj.f, hform k hk, Option.bind_some, if_pos rfl, if_pos ok.fit]
    by_cases hn : (fs.length : Int) > 20000
    · refine ⟨kF + 70, ?_⟩
      rw [Zd.f, Zu.f, hform _ (by omega), Option.bind_some, if_pos rfl, if_pos hn, Option.bind_some, Option.bind_some, if_pos rfl, Zd.j0, if_pos (decide_eq_true hn)]
      exact g_j1_err l0 l1 l2 l3 l4 fs l rs (by decide) _ (by omega)
    · obtain ⟨e3, hP, hP0⟩ := pats_ex (l0 := l0) (l1 := l1) (l2 := l2) (l3 := l3) (l4 := l4) l
      by_cases h3 : e3 = 0
      · subst h3
        obtain ⟨p1, p2⟩ := hP0 rfl
        obtain ⟨Kf, hKf⟩ := Classical.axiomOfChoice (fault_sem l0 l1 l2 l3 l4 hF l p1 p2)
        obtain ⟨ef, hs⟩ := Classical.axiomOfChoice hKf
        obtain ⟨K, hK⟩ := bound_ex Kf fs
        have hfl : fs.length ≤ 20000 := by omega
        obtain ⟨C, hC⟩ : ∃ C, C = 3000 := ⟨_, rfl⟩
        obtain ⟨KE, hE⟩ : ∃ KE, ∀ f ∈ fs, ∀ p ∈ l, ∀ k, KE ≤ k → Qh.f k l0 l1 (Ko (nvOf l0 l2 l3 l4 f.f0 f.f1 f.f2) l2 0) (Kv (nvOf l0 l2 l3 l4 f.f0 f.f1 f.f2) l3 0) (brOuts (nvOf l0 l2 l3 l4 f.f0 f.f1 f.f2) l4 0) p.f0 p.f1 = some ((showF l0 l2 l3 l4 f p).1, (showF l0 l2 l3 l4 f p).2, 0) := by
          have h1 : ∀ f : Qr, ∃ KE, ∀ p ∈ l, ∀ k, KE ≤ k → Qh.f k l0 l1 (Ko (nvOf l0 l2 l3 l4 f.f0 f.f1 f.f2) l2 0) (Kv (nvOf l0 l2 l3 l4 f.f0 f.f1 f.f2) l3 0) (brOuts (nvOf l0 l2 l3 l4 f.f0 f.f1 f.f2) l4 0) p.f0 p.f1 = some ((showF l0 l2 l3 l4 f p).1, (showF l0 l2 l3 l4 f p).2, 0) := by
            intro f
            have h2 : ∀ p : PatS, ∃ K, p ∈ l → ∀ k, K ≤ k → Qh.f k l0 l1 (Ko (nvOf l0 l2 l3 l4 f.f0 f.f1 f.f2) l2 0) (Kv (nvOf l0 l2 l3 l4 f.f0 f.f1 f.f2) l3 0) (brOuts (nvOf l0 l2 l3 l4 f.f0 f.f1 f.f2) l4 0) p.f0 p.f1 = some ((showF l0 l2 l3 l4 f p).1, (showF l0 l2 l3 l4 f p).2, 0) := by
              intro p
              by_cases hp : p ∈ l
              · obtain ⟨q1, q2⟩ := p2 p hp
                obtain ⟨K, hK⟩ := evalF_ex ok hF f p q1 q2
                exact ⟨K, fun _ => hK⟩
              · exact ⟨0, fun h => absurd h hp⟩
            obtain ⟨Kp, hKp⟩ := Classical.axiomOfChoice h2
            obtain ⟨K, hK⟩ := bound_ex Kp l
            exact ⟨K, fun p hp k hk => hKp p hp k (Nat.le_trans (hK p hp) hk)⟩
          obtain ⟨Kg, hKg⟩ := Classical.axiomOfChoice h1
          obtain ⟨K, hK⟩ := bound_ex Kg fs
          exact ⟨K, fun f hf p hp k hk => hKg f p hp k (Nat.le_trans (hK f hf) hk)⟩
        obtain ⟨R, KD, hR, hD⟩ : ∃ (R : List Int × Int) (KD : Nat), ((Kt ef fs ≠ 0 ∧ R = ([], Kt ef fs)) ∨ (Kt ef fs = 0 ∧ rs.length ≠ l.length ∧ R = ([], 11)) ∨ (Kt ef fs = 0 ∧ rs.length = l.length ∧ R = (picks l0 l2 l3 l4 l rs fs 0, 0))) ∧ ∀ k, KD < k → kF ≤ k → 257 < k → Zu.f k l0 l1 l2 l3 l4 fs l rs = some R := by
          have hf : ∀ (R : List Int × Int) (K1 : Nat), (Kt ef fs = 0 → ∀ k, K1 ≤ k → (if (rs.length : Int) = (l.length : Int) then (Zu.l1 k l rs ([] : List Int) fs (fs.length : Int) 0 l0 l1 l2 l3 l4) else (some (([] : List Int), 11))) = some R) → ∀ k, K + K1 + fs.length < k → kF ≤ k → 257 < k → Zu.f k l0 l1 l2 l3 l4 fs l rs = some (if Kt ef fs = 0 then R else ([], Kt ef fs)) := fun R K1 H k h1 h2 h3 => by
            rw [Zu.f, hform _ h2, Option.bind_some, if_pos rfl, if_neg hn, (hP k h3).1, Option.bind_some, if_pos rfl, hL k h2, Option.bind_some]
            exact diag_l0 fs hfl ef Kf K hK hs R K1 H fs.length 0 (Nat.zero_add _) (by rw [List.drop_zero]) k h1
          by_cases hz : Kt ef fs = 0
          · by_cases hlr : rs.length = l.length
            · refine ⟨(picks l0 l2 l3 l4 l rs fs 0, 0), K + ((K + KE + C) * (fs.length + 1) + 1) + fs.length, Or.inr (Or.inr ⟨hz, hlr, rfl⟩), fun k h1 h2 h3 => ?_⟩
              have := hf (picks l0 l2 l3 l4 l rs fs 0, 0) ((K + KE + C) * (fs.length + 1) + 1) (fun _ k hk => by
                rw [if_pos (by omega)]
                have := diag_l1 ok hlr p1 fs hfl ef Kf K hK hs (firstErr_zero hz) KE hE C (by omega) fs.length 0 [] (Nat.zero_add _) (Nat.le_refl _) k (by omega)
                rw [List.drop_zero, List.nil_append] at this
                exact this) k h1 h2 h3
              rw [if_pos hz] at this
              exact this
            · refine ⟨([], 11), K + 0 + fs.length, Or.inr (Or.inl ⟨hz, hlr, rfl⟩), fun k h1 h2 h3 => ?_⟩
              have := hf ([], 11) 0 (fun _ k hk => if_neg (by omega)) k h1 h2 h3
              rw [if_pos hz] at this
              exact this
          · refine ⟨([], Kt ef fs), K + 0 + fs.length, Or.inl ⟨hz, rfl⟩, fun k h1 h2 h3 => ?_⟩
            have := hf ([], 11) 0 (fun h => absurd h hz) k h1 h2 h3
            rw [if_neg hz] at this
            exact this
        have fin : ∀ (K4 : Nat), (∀ k, K4 ≤ k → Zd.j4 k fs l rs R.1 R.2 (Kt ef fs) l0 l1 l2 l3 l4 = some true) → ∃ k, Zd.f k l0 l1 l2 l3 l4 fs l rs = some true := fun K4 H => by
          refine ⟨KD + K + K4 + fs.length + 303 + kF, ?_⟩
          rw [Zd.f, hD _ (by omega) (by omega) (by omega), Option.bind_some, hform _ (by omega), Option.bind_some, if_pos rfl, decide_eq_false hn]
          obtain ⟨m, hm⟩ : ∃ m, KD + K + K4 + fs.length + 303 + kF = m + 3 := ⟨KD + K + K4 + fs.length + 300 + kF, by omega⟩
          rw [hm, Zd.j0, if_neg (by decide), Zd.j1, if_pos rfl, (hP (m + 1) (by omega)).2, Option.bind_some, Zd.j2]
          exact dlaw_l0 fs hfl ef Kf K hK hs R.1 R.2 K4 H fs.length 0 0 (Nat.zero_add _) (by rw [if_pos rfl, List.drop_zero]) m (by omega)
        rcases hR with ⟨hz, rfl⟩ | ⟨hz, hlr, rfl⟩ | ⟨hz, hlr, rfl⟩
        · exact fin 63 (g_j4_err l0 l1 l2 l3 l4 fs l rs hz)
        · refine fin 70 fun k hk => ?_
          obtain ⟨m, rfl⟩ : ∃ m, k = m + 2 := ⟨k - 2, by omega⟩
          rw [hz, Zd.j4, if_pos rfl, Zd.j5, if_pos (by simp only [bne_iff_ne, ne_eq]; omega)]
          exact g_j6_err l0 l1 l2 l3 l4 fs l rs (by decide) m (by omega)
        · refine fin (20100 + (kF + C) * (fs.length + 1) + 70) fun k hk => ?_
          obtain ⟨m, rfl⟩ : ∃ m, k = m + 3 := ⟨k - 3, by omega⟩
          rw [hz, Zd.j4, if_pos rfl, hlr, Zd.j5, if_neg (bne_notI _), Zd.j6, if_pos rfl]
          split
          · rw [faulty_ge (by omega), Option.bind_some]
          · exact dlaw_l1 ok hL p2 hlr p1 fs hfl (fun f hf => (hs f).lo (firstErr_zero hz f hf)) _ C (by omega) fs.length 0 [] (Nat.zero_add _) (Nat.le_refl _) (by rw [List.drop_zero, List.nil_append]) m (by omega)
      · refine ⟨kF + 300, ?_⟩
        rw [Zd.f, Zu.f, hform _ (by omega), Option.bind_some, if_pos rfl, if_neg hn, (hP _ (by omega)).1, Option.bind_some, if_neg h3, Option.bind_some, Option.bind_some, if_pos rfl, Zd.j0, decide_eq_false hn, if_neg (by decide), Zd.j1, if_pos rfl, (hP _ (by omega)).2, Option.bind_some]
        exact g_j2_err l0 l1 l2 l3 l4 fs l rs h3 _ (by omega)
  · refine ⟨kF + 70, ?_⟩
    rw [Zd.f, Zu.f, hform _ (by omega), Option.bind_some, if_neg he, Option.bind_some, Option.bind_some, if_neg he, Zd.j0, if_neg (by decide)]
    exact g_j1_err l0 l1 l2 l3 l4 fs l rs he _ (by omega)
end
end Go.Proofs.Ytimjccfpobhpeaa
namespace Go.Proofs.Ytimjccfpobhpeaa
open Go.RowKit Go.ChangeShapes Go.WideShapes Go.ChangeAt
def Light {H : Type} (P : Program) (t : TypeId) (d : DataW H) : Prop := ∀ n ∈ d.weights P t, n ≤ reachBytes
theorem light_each {H : Type} {P : Program} : ∀ {ts : List TypeId} {ds : List (DataW H)}, (∀ n ∈ DataW.weightsEach P ts ds, n ≤ reachBytes) → ∀ {j : Nat} {t : TypeId} {d : DataW H}, ts[j]? = some t → ds[j]? = some d → Light P t d :=
  fun h _ _ _ ht hd n hn => h n (DataW.weights_mem_each ht hd n hn)
theorem light_all {H : Type} {P : Program} {e : TypeId} : ∀ {ds : List (DataW H)}, (∀ n ∈ DataW.weightsAll P e ds, n ≤ reachBytes) → ∀ d ∈ ds, Light P e d
  | [], _, d, hd => by simp at hd
  | d0 :: ds, h, d, hd => by
    simp only [DataW.weightsAll, List.mem_append] at h
    rcases List.mem_cons.1 hd with rfl | hd
    · exact fun n hn => h n (.inl hn)
    · exact light_all (fun n hn => h n (.inr hn)) d hd
structure Opens {α : Type} (P : Program) (d : Rep α) (t : TypeId) (W : α → Prop) : Prop where
  cells : P.cellsOf t = d.sz
  opens : ∀ {H : Type} (enc : TypeId × Value → H) (w : World) (n : Nat) (cs : List Value) (y : DataW H × List MemPlace),
    DataW.trod enc P w 0 (fun _ => true) true n t cs = some y → Light P t y.1 → ∃ x, d.rel w (fun k => k < w.heap.size) x cs ∧ W x
theorem Opens.int {P : Program} {t : TypeId} {k : IntKind} (u : P.underlying t = some (.int k)) (hc : P.cellsOf t = 1) : Opens P (Rep.int k) t (fun _ => True) :=
  ⟨hc, fun enc w n cs y h _ => by
    obtain ⟨m, rfl, rfl, hw⟩ := DataW.trod_int u h
    refine ⟨m, ⟨rfl, ?_⟩, trivial⟩
    simpa [Lit.wf, InK] using hw⟩
theorem Opens.bool {P : Program} {t : TypeId} (u : P.underlying t = some .bool) (hc : P.cellsOf t = 1) : Opens P Rep.bool t (fun _ => True) :=
  ⟨hc, fun enc w n cs y h _ => by
    cases n with
    | zero => simp [DataW.trod] at h
    | succ m =>
      unfold DataW.trod at h
      rw [u] at h
      split at h <;> try (simp at *; done)
      rename_i b _
      exact ⟨b, ⟨rfl, trivial⟩, trivial⟩⟩
theorem Opens.str {P : Program} {t : TypeId} (u : P.underlying t = some .string) (hc : P.cellsOf t = 1) : Opens P Rep.str t (fun x => x.size ≤ reachBytes) :=
  ⟨hc, fun enc w n cs y h hl => by
    cases n with
    | zero => simp [DataW.trod] at h
    | succ m =>
      unfold DataW.trod at h
      rw [u] at h
      split at h <;> try (simp at *; done)
      rename_i s _
      simp only [Option.ite_none_right_eq_some, Option.some.injEq] at h
      obtain ⟨hm, rfl⟩ := h
      refine ⟨s, ⟨rfl, by simpa [maxLen] using hm⟩, ?_⟩
      have := hl s.data.toList.length (by simp [DataW.weights])
      simpa using this⟩
theorem Opens.iso {α β : Type} {P : Program} {d : Rep α} {f : β → α} {t : TypeId} {W : α → Prop} (h : Opens P d t W) (hf : ∀ x, ∃ y, f y = x) : Opens P (Rep.iso d f) t (fun y => W (f y)) :=
  ⟨h.cells, fun enc w n cs y ht hl => by
    obtain ⟨x, hr, hW⟩ := h.opens enc w n cs y ht hl
    obtain ⟨z, rfl⟩ := hf x
    exact ⟨z, hr, hW⟩⟩
def OpensF {α : Type} (P : Program) (d : Rep α) (fs : List Field) (o : Nat) (W : α → Prop) : Prop :=
  ∀ {H : Type} (enc : TypeId × Value → H) (w : World) (n : Nat) (cs : List Value) (ys : List (DataW H × List MemPlace)), ys.length = fs.length →
    (∀ (i : Nat) (f : Field), fs[i]? = some f → DataW.trod enc P w 0 (fun _ => true) true n f.type ((cs.drop f.offset).take (P.cellsOf f.type)) = ys[i]?) →
    (∀ m ∈ DataW.weightsEach P (fs.map (·.type)) (ys.map (·.1)), m ≤ reachBytes) → ∃ x, d.rel w (fun k => k < w.heap.size) x ((cs.drop o).take d.sz) ∧ W x
theorem OpensF.one {α : Type} {P : Program} {d : Rep α} {f : Field} {o : Nat} {W : α → Prop} (h : Opens P d f.type W) (ho : f.offset = o) : OpensF P d [f] o W := by
  intro H enc w n cs ys hl ht hw
  subst ho
  have h0 := ht 0 f rfl
  rw [h.cells] at h0
  have hl0 : 0 < ys.length := by simp [hl]
  have hy : ys[0]? = some ys[0] := List.getElem?_eq_getElem hl0
  rw [hy] at h0
  exact h.opens enc w n _ _ h0 (light_each hw (j := 0) (t := f.type) (d := ys[0].1) rfl (by rw [List.getElem?_map, hy]; rfl))
theorem OpensF.pair {α β : Type} {P : Program} {a : Rep α} {b : Rep β} {f : Field} {fs : List Field} {o : Nat} {W : α → Prop} {V : β → Prop} (h : Opens P a f.type W) (ho : f.offset = o) (hs : OpensF P b fs (o + a.sz) V) :
    OpensF P (Rep.pair a b) (f :: fs) o (fun x => W x.1 ∧ V x.2) := by
  intro H enc w n cs ys hl ht hw
  subst ho
  match ys, hl with
  | y :: ys, hl =>
    have h0 := ht 0 f rfl
    rw [h.cells] at h0
    obtain ⟨x, hx, hW⟩ := h.opens enc w n _ y h0 (light_each hw (j := 0) rfl rfl)
    simp only [List.map_cons, DataW.weightsEach, List.mem_append] at hw
    obtain ⟨z, hz, hV⟩ := hs enc w n cs ys (by simpa using hl) (fun i g hg => by simpa using ht (i + 1) g (by simpa using hg)) (fun m hm => hw m (.inr hm))
    refine ⟨(x, z), ⟨_, _, ?_, hx, hz⟩, hW, hV⟩
    show (cs.drop f.offset).take (a.sz + b.sz) = _
    rw [List.take_add, List.drop_drop]
theorem Opens.struct {α : Type} {P : Program} {d : Rep α} {t : TypeId} {fs : Array Field} {W : α → Prop} (u : P.underlying t = some (.struct fs)) (hc : P.cellsOf t = d.sz) (h : OpensF P d fs.toList 0 W) : Opens P d t W :=
  ⟨hc, fun enc w n cs y ht hl => by
    obtain ⟨xs, m, rfl, rfl, hcl, hxl, hf⟩ := DataW.trod_struct u ht
    obtain ⟨x, hx, hW⟩ := h enc w m cs xs (by simpa using hxl) (fun i f hi => hf i f (by simpa using hi)) (by
      intro k hk
      refine hl k ?_
      simp only [DataW.weights, u]
      exact hk)
    refine ⟨x, ?_, hW⟩
    rw [List.drop_zero, List.take_of_length_le (by omega)] at hx
    exact hx⟩
theorem choose_list {α : Type} (n : Nat) (Q : Nat → α → Prop) (h : ∀ i, i < n → ∃ x, Q i x) : ∃ xs : List α, xs.length = n ∧ ∀ i x, xs[i]? = some x → Q i x := by
  induction n with
  | zero => exact ⟨[], rfl, fun i x h => by simp at h⟩
  | succ n ih =>
    obtain ⟨xs, hl, hq⟩ := ih (fun i hi => h i (by omega))
    obtain ⟨x, hx⟩ := h n (by omega)
    refine ⟨xs ++ [x], by simp [hl], fun i y hy => ?_⟩
    rcases Nat.lt_trichotomy i xs.length with hi | rfl | hi
    · rw [List.getElem?_append_left hi] at hy; exact hq i y hy
    · simp at hy; subst hy; rw [hl]; exact hx
    · rw [List.getElem?_eq_none (by simp; omega)] at hy; simp at hy
theorem Opens.slice {α : Type} {P : Program} {d : Rep α} {t e : TypeId} {W : α → Prop} (h : Opens P d e W) (u : P.underlying t = some (.slice e)) (hc : P.cellsOf t = 1) (hz : 0 < d.sz) (B : Nat) (hB : P.bytesOf e = B) :
    Opens P (Rep.slice d) t (fun xs => xs.length * B ≤ reachBytes ∧ ∀ x ∈ xs, W x) :=
  ⟨hc, fun enc w n cs y ht hl => by
    rcases DataW.trod_slice u ht with ⟨rfl, rfl⟩ | ⟨a, len, cap, elems, rest, m, rfl, rfl, rfl, hb, hlc, hm, hlen, hel, hsp, hns⟩
    · exact ⟨[], ⟨none, 0, rfl, Rep.Sl.empty d w _⟩, by simp, by simp⟩
    have hl2 : ∀ n ∈ DataW.weightsAll P e (elems.map (·.1)), n ≤ reachBytes := fun n hn => hl n (by
      simp only [DataW.weights, u, List.mem_cons, List.mem_append]
      exact .inr (.inl hn))
    have hplain : 0 < len → ∃ b o, a = ⟨b, o, none⟩ := by
      intro h0
      have h1 := hel 0 h0
      have hy : elems[0]? = some (elems[0]'(by omega)) := List.getElem?_eq_getElem (by omega)
      rw [hy, h.cells, Option.bind_eq_some_iff] at h1
      obtain ⟨cs, hcs, h2⟩ := h1
      obtain ⟨_, hcl, hce⟩ := World.cells?_some hcs
      have hc0 := hce 0 hz
      obtain ⟨v, hv⟩ : ∃ v, cs[0]? = some v := ⟨cs[0]'(by omega), List.getElem?_eq_getElem (by omega)⟩
      rw [hv] at hc0
      obtain ⟨b, o, spot⟩ := a
      have h9 := World.cell?_spot hc0
      have hspot : spot = none := by simpa [Addr.add] using h9
      exact ⟨b, o, by rw [hspot]⟩
    have key : ∀ i, i < len → ∃ x, (∃ b o, a = ⟨b, o, none⟩ ∧ b < w.heap.size ∧ ∃ cs, d.rel w (fun k => k < w.heap.size) x cs ∧ CellsAt w b (o + i * d.sz) cs) ∧ W x := by
      intro i hi
      have h1 := hel i hi
      have hy : elems[i]? = some elems[i] := List.getElem?_eq_getElem (by omega)
      rw [hy, h.cells, Option.bind_eq_some_iff] at h1
      obtain ⟨cs, hcs, h2⟩ := h1
      obtain ⟨x, hx, hW⟩ := h.opens enc w m cs _ h2 (light_all hl2 _ (List.mem_map.2 ⟨_, List.mem_of_getElem? hy, rfl⟩))
      obtain ⟨_, hcl, hce⟩ := World.cells?_some hcs
      have hc0 := hce 0 hz
      obtain ⟨b, o, rfl⟩ := hplain (by omega)
      obtain ⟨v, hv⟩ : ∃ v, cs[0]? = some v := ⟨cs[0]'(by omega), List.getElem?_eq_getElem (by omega)⟩
      rw [hv] at hc0
      rw [add_plain] at hc0 hce
      refine ⟨x, ⟨b, o, rfl, ?_, cs, hx, ?_⟩, hW⟩
      · have := block_lt_of_cell hc0
        rw [add_plain] at this
        exact this
      · intro j v hv
        have hj : j < d.sz := by rw [← hcl]; exact (List.getElem?_eq_some_iff.1 hv).1
        rw [← hv, ← hce j hj, add_plain]
    obtain ⟨xs, hxl, hq⟩ := choose_list len _ key
    refine ⟨xs, ⟨some a, cap, by rw [hxl], ⟨by omega, by simpa [maxLen] using hm, by simp, ?_⟩⟩, ?_, ?_⟩
    · intro i x hx
      obtain ⟨⟨b, o, rfl, hbl, cs, hr, hca⟩, _⟩ := hq i x hx
      exact ⟨b, o, cs, rfl, hbl, hbl, hr, hca⟩
    · have := hl ((elems.length + rest.length) * P.bytesOf e) (by simp [DataW.weights, u])
      rw [hB] at this
      rw [hxl, ← hlen]
      exact Nat.le_trans (Nat.mul_le_mul_right _ (by omega)) this
    · intro x hx
      obtain ⟨i, hi⟩ := List.getElem?_of_mem hx
      exact (hq i x hi).2⟩
end Go.Proofs.Ytimjccfpobhpeaa
namespace Go.Proofs.Ytimjccfpobhpeaa
open Go.RowKit Go.ChangeShapes Go.WideShapes Go.ChangeAt
open Go.Proofs.YtimjccfpobhpeaaW.PrintWords (Kd)
open Go.Proofs.Ytimjccfpobhpeaa.PF
set_option maxRecDepth 100000
structure KR {α : Type} (d : Rep α) (k : Kd α) : Prop where
  sz : d.sz = k.sz
  tok : ∀ {w : World} {F : Nat → Prop} {x : α} {cs : List Value}, d.rel w F x cs → k.K w x cs
theorem KR.C {α : Type} {d : Rep α} {k : Kd α} (h : KR d k) {w : World} {F : Nat → Prop} {A : Option Addr} {c : Nat} {xs : List α} (hs : Rep.Sl d w F A c xs) : Kd.C k w A xs.length xs ∧ xs.length ≤ c := by
  refine ⟨⟨rfl, by have := hs.len; omega, fun hn => ?_⟩, hs.le⟩
  obtain ⟨b, o, rfl, _⟩ := hs.row.head hn
  refine ⟨⟨b, o, none⟩, rfl, fun j p hp => ?_⟩
  obtain ⟨b', o', cs, hA, _, _, hr, hc⟩ := hs.row j p hp
  simp only [Option.some.injEq, Addr.mk.injEq, and_true] at hA
  obtain ⟨rfl, rfl⟩ := hA
  refine ⟨cs, by rw [d.len hr, h.sz], h.tok hr, fun i u hu => ?_⟩
  rw [Addr.add_lit, ← h.sz, show o + (j * d.sz + i) = o + j * d.sz + i by omega]
  exact hc i u hu
theorem KR.int (k : IntKind) : KR (Rep.int k) (Kd.int k) := ⟨rfl, fun h => h.1⟩
theorem KR.bool : KR Rep.bool Kd.bool := ⟨rfl, fun h => h.1⟩
theorem KR.str : KR Rep.str Kd.string := ⟨rfl, fun h => h.1⟩
theorem KR.slice {α : Type} {d : Rep α} {k : Kd α} (h : KR d k) (e : Nat) : KR (Rep.slice d) (Kd.slice e k) := ⟨rfl, by
  rintro w F x cs ⟨A, c, rfl, hs⟩
  exact ⟨A, c, rfl, (h.C hs).2, (h.C hs).1⟩⟩
theorem KR.pair {α β : Type} {a : Rep α} {b : Rep β} {ka : Kd α} {kb : Kd β} (h : KR a ka) (h2 : KR b kb) : KR (Rep.pair a b) (Kd.pair ka kb) := ⟨by show a.sz + b.sz = ka.sz + kb.sz; rw [h.sz, h2.sz], by
  rintro w F x cs ⟨c0, c1, rfl, h0, h1⟩
  exact ⟨c0, c1, rfl, h.tok h0, h2.tok h1⟩⟩
theorem KR.iso {α β : Type} {d : Rep α} {k : Kd α} (h : KR d k) (f : β → α) : KR (Rep.iso d f) (Kd.iso k f) := ⟨h.sz, fun hr => h.tok hr⟩
theorem opens_int : Opens Try.prog (Rep.int .i64) 3 (fun _ => True) := Opens.int Try.underlying3 (by kernel_rfl)
theorem opens_u64 : Opens Try.prog (Rep.int .u64) 78 (fun _ => True) := Opens.int Try.underlying78 (by kernel_rfl)
theorem opens_bool : Opens Try.prog Rep.bool 4 (fun _ => True) := Opens.bool Try.underlying4 (by kernel_rfl)
theorem opens_str : Opens Try.prog Rep.str 9 (fun x => x.size ≤ reachBytes) := Opens.str Try.underlying9 (by kernel_rfl)
theorem opens_ints : Opens Try.prog (Rep.slice (Rep.int .i64)) 25 (fun xs => xs.length * 8 ≤ reachBytes ∧ ∀ x ∈ xs, True) := opens_int.slice Try.underlying25 (by kernel_rfl) (by decide) 8 (by kernel_rfl)
theorem opens_strs : Opens Try.prog (Rep.slice Rep.str) 22 (fun xs => xs.length * 16 ≤ reachBytes ∧ ∀ x ∈ xs, x.size ≤ reachBytes) := opens_str.slice Try.underlying22 (by kernel_rfl) (by decide) 16 (by kernel_rfl)
def rFlop : Rep S82 := Rep.iso (Rep.pair Rep.str (Rep.pair (Rep.int .i64) (Rep.pair (Rep.int .i64) (Rep.pair (Rep.int .i64) Rep.bool)))) (fun x : S82 => (x.f0, x.f1, x.f2, x.f3, x.f4))
def rGate : Rep Ky := Rep.iso (Rep.pair (Rep.int .i64) (Rep.pair (Rep.int .u64) (Rep.slice (Rep.int .i64)))) (fun x : Ky => (x.f0, x.f1, x.f2))
theorem kr_flop : KR rFlop k82 := KR.iso (KR.pair KR.str (KR.pair (KR.int .i64) (KR.pair (KR.int .i64) (KR.pair (KR.int .i64) KR.bool)))) _
theorem kr_gate : KR rGate k80 := KR.iso (KR.pair (KR.int .i64) (KR.pair (KR.int .u64) (KR.slice (KR.int .i64) 3))) _
theorem opens_flop : ∃ W, Opens Try.prog rFlop 82 W :=
  ⟨_, (Opens.struct (d := Rep.pair Rep.str (Rep.pair (Rep.int .i64) (Rep.pair (Rep.int .i64) (Rep.pair (Rep.int .i64) Rep.bool)))) Try.underlying82 (by kernel_rfl) (OpensF.pair opens_str rfl (OpensF.pair opens_int rfl (OpensF.pair opens_int rfl (OpensF.pair opens_int rfl (OpensF.one opens_bool rfl)))))).iso (fun x => ⟨⟨x.1, x.2.1, x.2.2.1, x.2.2.2.1, x.2.2.2.2⟩, rfl⟩)⟩
theorem opens_gate : ∃ W, Opens Try.prog rGate 80 W :=
  ⟨_, (Opens.struct (d := Rep.pair (Rep.int .i64) (Rep.pair (Rep.int .u64) (Rep.slice (Rep.int .i64)))) Try.underlying80 (by kernel_rfl) (OpensF.pair opens_int rfl (OpensF.pair opens_u64 rfl (OpensF.one opens_ints rfl)))).iso (fun x => ⟨⟨x.1, x.2.1, x.2.2⟩, rfl⟩)⟩
theorem opens_net : ∃ W, Opens Try.prog (Rep.pair (Rep.slice Rep.str) (Rep.pair (Rep.slice Rep.str) (Rep.pair (Rep.slice rFlop) (Rep.pair (Rep.slice rGate) (Rep.slice (Rep.int .i64)))))) 27 W := by
  obtain ⟨W1, h1⟩ := opens_flop
  obtain ⟨W2, h2⟩ := opens_gate
  have h3 := h1.slice Try.underlying23 (by kernel_rfl) (by decide) 48 (by kernel_rfl)
  have h4 := h2.slice Try.underlying24 (by kernel_rfl) (by decide) 40 (by kernel_rfl)
  exact ⟨_, Opens.struct Try.underlying27 (by kernel_rfl) (OpensF.pair opens_strs rfl (OpensF.pair opens_strs rfl (OpensF.pair h3 rfl (OpensF.pair h4 rfl (OpensF.one opens_ints rfl)))))⟩
theorem arg_net {H : Type} {enc : TypeId × Value → H} {w : World} {r : Reach} {b : Nat} {v : Value} {d : DataW H} {p : List MemPlace} (hv : Value.okWide Try.prog w r b 27 v)
    (h : DataW.Trod enc Try.prog w 0 (fun _ => true) true 27 v d p) (hl : Light Try.prog 27 d) :
    ∃ (A0 A1 A2 A3 A4 : Option Addr) (c0 c1 c2 c3 c4 : Nat) (l0 l1 : List ByteArray) (l2 : List S82) (l3 : List Ky) (l4 : List Int), v = .agg #[.slice A0 l0.length c0, .slice A1 l1.length c1, .slice A2 l2.length c2, .slice A3 l3.length c3, .slice A4 l4.length c4] ∧
      (Kd.C Kd.string w A0 l0.length l0 ∧ l0.length ≤ c0) ∧ (Kd.C Kd.string w A1 l1.length l1 ∧ l1.length ≤ c1) ∧ (Kd.C k82 w A2 l2.length l2 ∧ l2.length ≤ c2) ∧ (Kd.C k80 w A3 l3.length l3 ∧ l3.length ≤ c3) ∧ Kd.C (Kd.int .i64) w A4 l4.length l4 ∧ l4.length ≤ c4 := by
  obtain ⟨cs, rfl, _⟩ := okWide_struct Try.underlying27 hv
  obtain ⟨n, hf⟩ := h
  obtain ⟨W, hO⟩ := opens_net
  obtain ⟨x, hx, _⟩ := hO.opens enc w n _ _ hf hl
  obtain ⟨_, _, hc, ⟨A0, c0, rfl, s0⟩, _, _, rfl, ⟨A1, c1, rfl, s1⟩, _, _, rfl, ⟨A2, c2, rfl, s2⟩, _, _, rfl, ⟨A3, c3, rfl, s3⟩, ⟨A4, c4, rfl, s4⟩⟩ := hx
  refine ⟨A0, A1, A2, A3, A4, c0, c1, c2, c3, c4, _, _, _, _, _, ?_, KR.str.C s0, KR.str.C s1, kr_flop.C s2, kr_gate.C s3, (KR.int .i64).C s4⟩
  obtain ⟨cs⟩ := cs
  simp only [Value.cells] at hc
  rw [hc]
  rfl
theorem opens_bools : Opens Try.prog (Rep.slice Rep.bool) 53 (fun xs => xs.length * 1 ≤ reachBytes ∧ ∀ x ∈ xs, True) := opens_bool.slice Try.underlying53 (by kernel_rfl) (by decide) 1 (by kernel_rfl)
def rPat : Rep S55 := Rep.iso (Rep.pair (Rep.slice Rep.bool) (Rep.slice Rep.bool)) (fun x : S55 => (x.f0, x.f1))
theorem kr_pat : KR rPat k55 := KR.iso (KR.pair (KR.slice KR.bool 4) (KR.slice KR.bool 4)) _
theorem opens_pat : ∃ W, Opens Try.prog rPat 55 W :=
  ⟨_, (Opens.struct (d := Rep.pair (Rep.slice Rep.bool) (Rep.slice Rep.bool)) Try.underlying55 (by kernel_rfl) (OpensF.pair opens_bools rfl (OpensF.one opens_bools rfl))).iso (fun x => ⟨⟨x.1, x.2⟩, rfl⟩)⟩
theorem arg_slice {α H : Type} {k : Kd α} {rp : Rep α} (hk : KR rp k) {e t : TypeId} {W : α → Prop} (hO : Opens Try.prog rp e W) (u : Try.prog.underlying t = some (.slice e)) (hc : Try.prog.cellsOf t = 1) (hz : 0 < rp.sz) {enc : TypeId × Value → H} {w : World} {r : Reach} {b : Nat} {v : Value} {d : DataW H} {p : List MemPlace} (hv : Value.okWide Try.prog w r b t v)
    (h : DataW.Trod enc Try.prog w 0 (fun _ => true) true t v d p) (hl : Light Try.prog t d) : ∃ (A : Option Addr) (c : Nat) (l : List α), v = .slice A l.length c ∧ Kd.C k w A l.length l ∧ l.length ≤ c := by
  obtain ⟨a, len, cap, rfl⟩ := okWide_slice u hv
  obtain ⟨n, hf⟩ := h
  obtain ⟨x, hx, _⟩ := (hO.slice u hc hz _ rfl).opens enc w n _ _ hf hl
  obtain ⟨A, c, hcs, hs⟩ := hx
  have e1 : Value.slice a len cap = .slice A x.length c := by simpa [Value.cells] using hcs
  exact ⟨A, c, x, e1, (hk.C hs).1, (hk.C hs).2⟩
theorem arg_pats {H : Type} {enc : TypeId × Value → H} {w : World} {r : Reach} {b : Nat} {v : Value} {d : DataW H} {p : List MemPlace} (hv : Value.okWide Try.prog w r b 49 v)
    (h : DataW.Trod enc Try.prog w 0 (fun _ => true) true 49 v d p) (hl : Light Try.prog 49 d) : ∃ (A : Option Addr) (c : Nat) (l : List S55), v = .slice A l.length c ∧ Kd.C k55 w A l.length l ∧ l.length ≤ c := by
  obtain ⟨W, hO⟩ := opens_pat
  exact arg_slice kr_pat hO Try.underlying49 (by kernel_rfl) (by decide) hv h hl
def rFault : Rep S29 := Rep.iso (Rep.pair (Rep.int .i64) (Rep.pair (Rep.int .i64) Rep.bool)) (fun x : S29 => (x.f0, x.f1, x.f2))
theorem kr_fault : KR rFault k29 := KR.iso (KR.pair (KR.int .i64) (KR.pair (KR.int .i64) KR.bool)) _
theorem opens_faultS : ∃ W, Opens Try.prog rFault 29 W :=
  ⟨_, (Opens.struct (d := Rep.pair (Rep.int .i64) (Rep.pair (Rep.int .i64) Rep.bool)) Try.underlying29 (by kernel_rfl) (OpensF.pair opens_int rfl (OpensF.pair opens_int rfl (OpensF.one opens_bool rfl)))).iso (fun x => ⟨⟨x.1, x.2.1, x.2.2⟩, rfl⟩)⟩
theorem arg_faults {H : Type} {enc : TypeId × Value → H} {w : World} {r : Reach} {b : Nat} {v : Value} {d : DataW H} {p : List MemPlace} (hv : Value.okWide Try.prog w r b 39 v)
    (h : DataW.Trod enc Try.prog w 0 (fun _ => true) true 39 v d p) (hl : Light Try.prog 39 d) : ∃ (A : Option Addr) (c : Nat) (l : List S29), v = .slice A l.length c ∧ Kd.C k29 w A l.length l ∧ l.length ≤ c := by
  obtain ⟨W, hO⟩ := opens_faultS
  exact arg_slice kr_fault hO Try.underlying39 (by kernel_rfl) (by decide) hv h hl
def rResp : Rep S60 := Rep.iso (Rep.pair (Rep.slice Rep.bool) (Rep.slice Rep.bool)) (fun x : S60 => (x.f0, x.f1))
theorem kr_resp : KR rResp k60 := KR.iso (KR.pair (KR.slice KR.bool 4) (KR.slice KR.bool 4)) _
theorem opens_resp : ∃ W, Opens Try.prog rResp 60 W :=
  ⟨_, (Opens.struct (d := Rep.pair (Rep.slice Rep.bool) (Rep.slice Rep.bool)) Try.underlying60 (by kernel_rfl) (OpensF.pair opens_bools rfl (OpensF.one opens_bools rfl))).iso (fun x => ⟨⟨x.1, x.2⟩, rfl⟩)⟩
theorem arg_resps {H : Type} {enc : TypeId × Value → H} {w : World} {r : Reach} {b : Nat} {v : Value} {d : DataW H} {p : List MemPlace} (hv : Value.okWide Try.prog w r b 50 v)
    (h : DataW.Trod enc Try.prog w 0 (fun _ => true) true 50 v d p) (hl : Light Try.prog 50 d) : ∃ (A : Option Addr) (c : Nat) (l : List S60), v = .slice A l.length c ∧ Kd.C k60 w A l.length l ∧ l.length ≤ c := by
  obtain ⟨W, hO⟩ := opens_resp
  exact arg_slice kr_resp hO Try.underlying50 (by kernel_rfl) (by decide) hv h hl
end Go.Proofs.Ytimjccfpobhpeaa
namespace Go.Proofs.Ytimjccfpobhpeaa.FaultDiagnoses
open Go.ChangeShapes Go.WideShapes Go.ChangeAt Go.RowKit
open Go.Proofs.Ytimjccfpobhpeaa.PF
set_option linter.unusedVariables false
theorem own : ownKnob Try.prog.godebug = none := by kernel_rfl
theorem laidOut : laidOutB Try.prog = true := by kernel_rfl
set_option maxRecDepth 100000 in
theorem lifted (os : Os) (started : os.Started) (H : Type) (enc : TypeId × Value → H) :
    ReturnsInHanded {} Try.checked os 5 .any (Rows.faultDiagnosesSpec.pre6 enc Try.prog Try.f5 Rows.faultDiagnosesRow.domain false) (Rows.faultDiagnosesSpec.post enc Try.prog Try.f5 false true false false) := by
  refine returnsInHanded_of_change_sized (C := Try.checked) own started (by kernel_rfl) Try.func5
    (ChangeSpec.witness6 (enc := enc) (C := Try.checked) false ⟨#[], #[.agg #[.slice none 0 0, .slice none 0 0, .slice none 0 0, .slice none 0 0, .slice none 0 0], .slice none 0 0, .slice none 0 0, .slice none 0 0], []⟩ 8 (by kernel_rfl) (by kernel_rfl) (by kernel_rfl) (by kernel_rfl)) ?_
  intro W base args ds gs before hval0 hW hcnd hsz0 _
  have hsz : (DataW.weightsEach Try.prog (Try.f5.params.toList ++ Rows.faultDiagnosesSpec.plain.varTypes Try.prog) (ds ++ gs)).all (· ≤ reachBytes) = true := hsz0
  have hval : ∀ (j : Nat) t v, Try.f5.params[j]? = some t → args[j]? = some v → Value.okWide Try.prog W .any base t v := hval0
  have hW' := hW
  obtain ⟨p, q, hA0, hV, rfl, hfz, hnd⟩ := hW
  have hA : DataW.TrodAll enc Try.prog W 0 (fun _ => true) true Try.f5.params.toList args.toList ds p := hA0
  rw [Try.params5] at hA hval hsz
  obtain ⟨v0, vs0, d0, ds0, p0, q0, hargs, rfl, rfl, h0, r0⟩ := trodAll_cons hA
  obtain ⟨v1, vs1, d1, ds1, p1, q1, rfl, rfl, rfl, h1, r1⟩ := trodAll_cons r0
  obtain ⟨v2, vs2, d2, ds2, p2, q2, rfl, rfl, rfl, h2, r2⟩ := trodAll_cons r1
  obtain ⟨v3, vs3, d3, ds3, p3, q3, rfl, rfl, rfl, h3, r3⟩ := trodAll_cons r2
  obtain ⟨rfl, rfl, rfl⟩ := trodAll_nil r3
  obtain rfl : args = #[v0, v1, v2, v3] := by cases args; simp_all
  obtain ⟨rfl, rfl⟩ := trodVars_none hV
  have hall : ∀ n ∈ DataW.weightsEach Try.prog (#[27, 39, 49, 50].toList ++ Rows.faultDiagnosesSpec.plain.varTypes Try.prog) ([d0, d1, d2, d3] ++ []), n ≤ reachBytes := by
    intro n hn
    simpa using List.all_eq_true.1 hsz n hn
  obtain ⟨A0_0, A0_1, A0_2, A0_3, A0_4, c0_0, c0_1, c0_2, c0_3, c0_4, l0_0, l0_1, l0_2, l0_3, l0_4, rfl, hr0_0, hr0_1, hr0_2, hr0_3, hr0_4a, hr0_4b⟩ := arg_net (hval 0 27 v0 rfl rfl) h0 (light_each hall (j := 0) rfl rfl)
  obtain ⟨A1, c1, l1, rfl, hr1, hc1⟩ := arg_faults (hval 1 39 v1 rfl rfl) h1 (light_each hall (j := 1) rfl rfl)
  obtain ⟨A2, c2, l2, rfl, hr2, hc2⟩ := arg_pats (hval 2 49 v2 rfl rfl) h2 (light_each hall (j := 2) rfl rfl)
  obtain ⟨A3, c3, l3, rfl, hr3, hc3⟩ := arg_resps (hval 3 50 v3 rfl rfl) h3 (light_each hall (j := 3) rfl rfl)
  have ll0 : ∀ x ∈ p0, x.block < W.heap.size := by obtain ⟨m, hm⟩ := h0; exact DataW.trod_lt m _ _ _ hm
  have ll1 : ∀ x ∈ p1, x.block < W.heap.size := by obtain ⟨m, hm⟩ := h1; exact DataW.trod_lt m _ _ _ hm
  have ll2 : ∀ x ∈ p2, x.block < W.heap.size := by obtain ⟨m, hm⟩ := h2; exact DataW.trod_lt m _ _ _ hm
  have ll3 : ∀ x ∈ p3, x.block < W.heap.size := by obtain ⟨m, hm⟩ := h3; exact DataW.trod_lt m _ _ _ hm
  clear hA0 hval0 hsz0 hsz hall
  refine Calls.mono ((Exists.elim (diagnoses_true l0_0 l0_1 l0_2 l0_3 l0_4 l1 l2 l3) fun k hk => Zd.calls k A0_0 c0_0 l0_0 A0_1 c0_1 l0_1 A0_2 c0_2 l0_2 A0_3 c0_3 l0_3 A0_4 c0_4 l0_4 A1 c1 l1 A2 c2 l2 A3 c3 l3 true W hr0_0.1 hr0_0.2 hr0_1.1 hr0_1.2 hr0_2.1 hr0_2.2 hr0_3.1 hr0_3.2 hr0_4a hr0_4b hr1 hc1 hr2 hc2 hr3 hc3 hk)) fun e W' ⟨he, bel⟩ => ?_
  subst he
  exact ⟨_, rfl, _, _, _, [], _, [], hW', trodAll_mk1 (shut_bool Try.underlying4 _),
    (trodAll_cons_mk (Below.trod laidOut (by kernel_rfl) (of_decide_eq_true (by kernel_rfl)) h0 bel ll0) (trodAll_cons_mk (Below.trod laidOut (by kernel_rfl) (of_decide_eq_true (by kernel_rfl)) h1 bel ll1) (trodAll_cons_mk (Below.trod laidOut (by kernel_rfl) (of_decide_eq_true (by kernel_rfl)) h2 bel ll2) (trodAll_cons_mk (Below.trod laidOut (by kernel_rfl) (of_decide_eq_true (by kernel_rfl)) h3 bel ll3) trodAll_mk0)))), rfl, bel.frame _, fun h => by cases h⟩
theorem over : Rows.faultDiagnosesRow.holds Try.pinned (OpenSpec.ofChange Rows.faultDiagnosesSpec) :=
  OpenClaim.holds_of_wide 5 Try.f5 rfl rfl rfl rfl rfl rfl rfl ⟨rfl, rfl, rfl, rfl, rfl⟩ rfl rfl rfl rfl rfl (by kernel_rfl) Try.func5 (by kernel_rfl)
    (of_decide_eq_true (by kernel_rfl)) (by unfold Func.isWrapper; first | (rw [if_pos (by decide +kernel)]; kernel_rfl) | (rw [if_neg (by decide +kernel)]; exact ⟨rfl, rfl⟩))
    (fun os started H enc _ => lifted os started H enc)
end Go.Proofs.Ytimjccfpobhpeaa.FaultDiagnoses
namespace Go.Proofs.Ytimjccfpobhpeaa
theorem faultDiagnoses_holds : Rows.FaultDiagnosesSaid := FaultDiagnoses.over
#print axioms faultDiagnoses_holds
end Go.Proofs.Ytimjccfpobhpeaa
