/- Joined by this session's own program out of its texts: Lane Key Split SplitT Loads SplitA Copy Loads2 Put Places. -/
import Derived.Test.YtimjccfpobhpeaaD2
import Derived.Test.YtimjccfpobhpeaaD3
import Derived.Test.YtimjccfpobhpeaaProg
import Derived.Test.YtimjccfpobhpeaaD1
import Derived.DeepKeys4
import Derived.KernelRfl
import Derived.OrdersHeld
import Derived.Test.YtimjccfpobhpeaaD0
namespace Go.Proofs.Ytimjccfpobhpeaa
open Go.RowKit Go.Proofs.YtimjccfpobhpeaaW.PrintWords Go.Proofs.Ytimjccfpobhpeaa.PF
set_option linter.unusedVariables false
def tT (a : Int) (i : Nat) : Bool := !decide (Go.bits .and .u64 (shr .u64 a (i : Int)) 1 = 0)
def idxB : List Bool → Nat
  | [] => 0
  | b :: r => b.toNat + 2 * idxB r
theorem idxB_bit : ∀ (bs : List Bool) (m : Nat), (idxB bs).testBit m = bs.getD m false
  | [], m => by simp [idxB]
  | b :: r, 0 => by
    unfold idxB
    rw [Nat.testBit_zero]
    cases b <;> simp <;> omega
  | b :: r, m + 1 => by
    unfold idxB
    rw [Nat.testBit_succ, show (b.toNat + 2 * idxB r) / 2 = idxB r by cases b <;> simp <;> omega, idxB_bit r m]
    rfl
theorem idxB_lt : ∀ bs : List Bool, idxB bs < 2 ^ bs.length
  | [] => by simp [idxB]
  | b :: r => by
    have := idxB_lt r
    unfold idxB
    rw [List.length_cons, Nat.pow_succ]
    cases b <;> simp <;> omega
def mt (x : Nat) (bs : List Bool) : Bool := (List.range bs.length).all fun m => x.testBit m == bs.getD m false
theorem mt_iff {x : Nat} {bs : List Bool} (hx : x < 2 ^ bs.length) : mt x bs = true ↔ x = idxB bs := by
  unfold mt
  constructor
  · intro h
    refine Nat.eq_of_testBit_eq fun m => ?_
    rw [idxB_bit]
    by_cases hm : m < bs.length
    · have := List.all_eq_true.1 h m (List.mem_range.2 hm)
      simpa using this
    · rw [Nat.testBit_lt_two_pow (Nat.lt_of_lt_of_le hx (Nat.pow_le_pow_right (by decide) (by omega)))]
      simp [List.getD, List.getElem?_eq_none (show bs.length ≤ m by omega)]
  · rintro rfl
    refine List.all_eq_true.2 fun m hm => ?_
    rw [idxB_bit]
    simp
def lane (ws : List Int) (j : Nat) : List Bool := ws.map (tb · j)
theorem lane_len (ws : List Int) (j : Nat) : (lane ws j).length = ws.length := List.length_map _
theorem lane_get (ws : List Int) (j m : Nat) (h : m < ws.length) : (lane ws j).getD m false = tb (rd ws m) j := by
  rw [rd_at (List.getElem?_eq_getElem h)]
  simp [lane, List.getD, List.getElem?_eq_getElem h]
theorem look1 (a x5 x12 x13 : Int) (l : List Int) (hl : l.length ≤ 64) (hu : ∀ y ∈ l, U64 y) (x : Nat) (hx : x ≤ 64) (R : Int → Prop)
    (H : ∀ y, U64 y → (∀ j, j < 64 → tb y j = mt x (lane l j)) → ∃ k r, Xa.l0 k a l (Go.bits .or .u64 x5 y) x12 (wrap64 (x13 + 1)) = some r ∧ R r) :
    ∀ (d i : Nat) (x7 : Int), i + d = l.length → U64 x7 → (∀ j, j < 64 → tb x7 j = (List.range i).all fun m => x.testBit m == (lane l j).getD m false) → ∃ k r, Xa.l1 k a l x5 x x7 x12 x13 l l.length i = some r ∧ R r
  | 0, i, x7, h, h7, hb => by
    obtain ⟨k, r, h1, h2⟩ := H x7 h7 (fun j hj => by rw [hb j hj]; unfold mt; rw [lane_len, show i = l.length by omega])
    exact ⟨k + 1, r, by rw [Xa.l1, if_neg (by omega)]; exact h1, h2⟩
  | d + 1, i, x7, h, h7, hb => by
    have hw : wrap64 ((i : Int) + 1) = ((i + 1 : Nat) : Int) := by rw [Qj (by omega) (by omega)]; rfl
    have hri : U64 (rd l i) := by
      rw [rd_at (List.getElem?_eq_getElem (show i < l.length by omega))]
      exact hu _ (List.getElem_mem _)
    have ht := tb_test_i64 hx i (by omega)
    have hstep : ∀ (y : Int), (∀ j, j < 64 → tb y j = (tb x7 j && (x.testBit i == tb (rd l i) j))) → ∀ j, j < 64 → tb y j = (List.range (i + 1)).all fun m => x.testBit m == (lane l j).getD m false := by
      intro y hy j hj
      rw [hy j hj, hb j hj, List.range_succ, List.all_append, List.all_cons, List.all_nil, Bool.and_true, lane_get l j i (by omega)]
    by_cases c : x.testBit i = true
    · rw [if_pos c] at ht
      obtain ⟨k, r, h1, h2⟩ := look1 a x5 x12 x13 l hl hu x hx R H d (i + 1) (Go.bits .and .u64 x7 (rd l i)) (by omega) (tb_and h7 hri).1 (hstep _ fun j hj => by rw [(tb_and h7 hri).2, c]; simp)
      exact ⟨k + 1, r, by rw [Xa.l1, if_pos (by omega), if_pos (by omega), if_pos (by omega), if_pos ht, hw]; exact h1, h2⟩
    · rw [if_neg c] at ht
      obtain ⟨k, r, h1, h2⟩ := look1 a x5 x12 x13 l hl hu x hx R H d (i + 1) (Go.bits .andNot .u64 x7 (rd l i)) (by omega) (tb_andNot h7 hri).1 (hstep _ fun j hj => by rw [(tb_andNot h7 hri).2, Bool.eq_false_iff.2 c]; simp)
      exact ⟨k + 1, r, by rw [Xa.l1, if_pos (by omega), if_pos (by omega), if_pos (by omega), if_neg (by rw [ht]; decide), hw]; exact h1, h2⟩
theorem look0 (a : Int) (l : List Int) (hl : l.length ≤ 64) (hu : ∀ y ∈ l, U64 y) (n : Nat) (hn : n ≤ 64) : ∀ (d i : Nat) (x5 : Int), i + d = n → U64 x5 → (∀ j, j < 64 → tb x5 j = (List.range i).any fun x => tT a x && mt x (lane l j)) →
    ∃ k r, Xa.l0 k a l x5 n i = some r ∧ U64 r ∧ ∀ j, j < 64 → tb r j = (List.range n).any fun x => tT a x && mt x (lane l j)
  | 0, i, x5, h, h5, hb => ⟨1, x5, by rw [Xa.l0, if_neg (by omega)], h5, by rw [show n = i by omega]; exact hb⟩
  | d + 1, i, x5, h, h5, hb => by
    have ih := fun x5' => look0 a l hl hu n hn d (i + 1) x5' (by omega)
    have hw : wrap64 ((i : Int) + 1) = ((i + 1 : Nat) : Int) := by rw [Qj (by omega) (by omega)]; rfl
    by_cases c : tT a i = true
    · have ht : ¬ Go.bits .and .u64 (shr .u64 a (i : Int)) 1 = 0 := by simpa [tT] using c
      obtain ⟨k, r, h1, h2⟩ := look1 a x5 n i l hl hu i (by omega) (fun r => U64 r ∧ ∀ j, j < 64 → tb r j = (List.range n).any fun x => tT a x && mt x (lane l j))
        (fun y hy hyb => by
          rw [hw]
          exact ih _ (tb_or h5 hy).1 (fun j hj => by rw [(tb_or h5 hy).2, hb j hj, hyb j hj, List.range_succ, List.any_append, List.any_cons, List.any_nil, Bool.or_false, c, Bool.true_and]))
        l.length 0 18446744073709551615 (by omega) u64_ones (fun j hj => by rw [tb_ones hj]; rfl)
      exact ⟨k + 1, r, by rw [Xa.l0, if_pos (by omega), if_pos (by omega), if_neg ht]; exact h1, h2⟩
    · have ht : Go.bits .and .u64 (shr .u64 a (i : Int)) 1 = 0 := by simpa [tT] using c
      obtain ⟨k, r, h1, h2⟩ := ih x5 h5 (fun j hj => by rw [hb j hj, List.range_succ, List.any_append, List.any_cons, List.any_nil, Bool.or_false, Bool.eq_false_iff.2 c, Bool.false_and, Bool.or_false])
      exact ⟨k + 1, r, by rw [Xa.l0, if_pos (by omega), if_pos (by omega), if_pos ht, hw]; exact h1, h2⟩
theorem shl_one2 (n : Nat) (h : n ≤ 6) : shl .i64 1 (n : Int) = ((2 ^ n : Nat) : Int) := by
  have hc : n = 0 ∨ n = 1 ∨ n = 2 ∨ n = 3 ∨ n = 4 ∨ n = 5 ∨ n = 6 := by omega
  rcases hc with rfl | rfl | rfl | rfl | rfl | rfl | rfl <;> decide
theorem look_lane (a : Int) (l : List Int) (hl : l.length ≤ 6) (hu : ∀ y ∈ l, U64 y) : ∃ k r, Xa.f k a l = some r ∧ U64 r ∧ ∀ j, j < 64 → tb r j = tT a (idxB (lane l j)) := by
  have hn : 2 ^ l.length ≤ 64 := by
    have : 2 ^ l.length ≤ 2 ^ 6 := Nat.pow_le_pow_right (by decide) hl
    omega
  obtain ⟨k, r, h1, h2, h3⟩ := look0 a l (by omega) hu (2 ^ l.length) hn (2 ^ l.length) 0 0 (by omega) u64_zero (fun j _ => by rw [tb_zero]; rfl)
  refine ⟨k, r, by unfold Xa.f; rw [shl_one2 _ hl]; exact h1, h2, fun j hj => ?_⟩
  rw [h3 j hj, Bool.eq_iff_iff, List.any_eq_true]
  have hlt : idxB (lane l j) < 2 ^ l.length := by have := idxB_lt (lane l j); rwa [lane_len] at this
  constructor
  · rintro ⟨x, hx, hb⟩
    rw [Bool.and_eq_true] at hb
    rw [← (mt_iff (by rw [lane_len]; exact List.mem_range.1 hx)).1 hb.2]
    exact hb.1
  · intro hb
    exact ⟨idxB (lane l j), List.mem_range.2 hlt, by rw [hb, (mt_iff (by rw [lane_len]; exact hlt)).2 rfl]; rfl⟩
def rdB (v : List Bool) (i : Int) : Bool := v.getD i.toNat false
def gateB (v : List Bool) (g : Kr) : Bool := tT g.f1 (idxB (g.f2.map (rdB v)))
def gatesB : List Kr → List Bool → List Bool
  | [], v => v
  | g :: r, v => gatesB r (v ++ [gateB v g])
theorem gatesB_snoc : ∀ (gs : List Kr) (g : Kr) (v : List Bool), gatesB (gs ++ [g]) v = gatesB gs v ++ [gateB (gatesB gs v) g]
  | [], _, _ => rfl
  | h :: gs, g, v => gatesB_snoc gs g (v ++ [gateB v h])
def outB (v : List Bool) (l4 : List Int) : List Bool := l4.map (rdB v)
theorem lane_rd (v : List Int) (y : Int) (h0 : 0 ≤ y) (h1 : y < v.length) (j : Nat) : tb (rd v y) j = rdB (lane v j) y := by
  obtain ⟨m, rfl⟩ := Int.eq_ofNat_of_zero_le h0
  unfold rdB
  rw [Int.toNat_natCast, lane_get v j m (by omega)]
section
variable {l0 l1 : List ByteArray} {l2 : List S82} {l3 : List Kr} {l4 : List Int}
theorem lvalues1 (R : List Int → Prop) (x7 : List Int) (hu7 : ∀ y ∈ x7, U64 y) (x20 : List Kr) (x21 x22 : Int) (g : Kr) (hx : g.f2.length ≤ 6) (hp : ∀ y ∈ g.f2, 0 ≤ y ∧ y < x7.length) (h7 : x7.length ≤ 1048576)
    (H : ∀ r, U64 r → (∀ j, j < 64 → tb r j = gateB (lane x7 j) g) → ∃ k v, Zu.l0 k (x7 ++ [r]) x20 x21 (wrap64 (x22 + 1)) = some v ∧ R v) :
    ∀ (d i : Nat), i + d = g.f2.length → ∃ k v, Zu.l1 k x7 ((g.f2.take i).map (rd x7)) x20 x21 x22 g.f2 g.f2.length i g.f0 g.f1 g.f2 = some v ∧ R v
  | 0, i, h => by
    have ht : g.f2.take i = g.f2 := List.take_of_length_le (by omega)
    rw [ht]
    have hin : ∀ y ∈ g.f2.map (rd x7), U64 y := by
      intro y hy
      obtain ⟨p, hp1, rfl⟩ := List.mem_map.1 hy
      obtain ⟨q1, q2⟩ := hp p hp1
      obtain ⟨m, rfl⟩ := Int.eq_ofNat_of_zero_le q1
      rw [rd_at (List.getElem?_eq_getElem (show m < x7.length by omega))]
      exact hu7 _ (List.getElem_mem _)
    obtain ⟨k1, r, h1, h2, h3⟩ := look_lane g.f1 (g.f2.map (rd x7)) (by simpa using hx) hin
    obtain ⟨k2, v, h4, h5⟩ := H r h2 (fun j hj => by
      rw [h3 j hj]
      unfold gateB
      congr 2
      unfold lane
      rw [List.map_map]
      exact List.map_congr_left fun y hy => lane_rd x7 y (hp y hy).1 (hp y hy).2 j)
    refine ⟨k1 + k2 + 1, v, ?_, h5⟩
    rw [Zu.l1, if_neg (by omega), upK (Xa.mono g.f1 (g.f2.map (rd x7))) (show k1 ≤ k1 + k2 by omega) h1, Option.bind_some, if_pos (by omega)]
    exact upK (f := fun k => Zu.l0 k (x7 ++ [r]) x20 x21 (wrap64 (x22 + 1))) (fun k => (Zu.mono_l k).1 _ _ _ _) (show k2 ≤ k1 + k2 by omega) h4
  | d + 1, i, h => by
    have hw : wrap64 ((i : Int) + 1) = ((i + 1 : Nat) : Int) := by rw [Qj (by omega) (by omega)]; rfl
    obtain ⟨y, hy⟩ := at_ex (xs := g.f2) (i := i) (by omega)
    obtain ⟨q1, q2⟩ := hp y (List.mem_of_getElem? hy)
    obtain ⟨k, v, h1, h2⟩ := lvalues1 R x7 hu7 x20 x21 x22 g hx hp h7 H d (i + 1) (by omega)
    refine ⟨k + 1, v, ?_, h2⟩
    rw [Zu.l1, if_pos (by omega), if_pos (by omega), if_pos (by omega), rd_at hy, if_pos q1, if_pos q2, if_pos (by rw [List.length_map, List.length_take]; omega), hw]
    have e : (g.f2.take i).map (rd x7) ++ [rd x7 y] = (g.f2.take (i + 1)).map (rd x7) := by
      rw [List.take_add_one, hy, List.map_append]
      rfl
    rw [e]
    exact h1
theorem lane_snoc (v : List Int) (r : Int) (j : Nat) : lane (v ++ [r]) j = lane v j ++ [tb r j] := by simp [lane]
theorem lvalues0 (ok : FormOk l0 l1 l2 l3 l4) (b0 : Nat → List Bool) : ∀ (d i : Nat) (x7 : List Int), i + d = l3.length → x7.length = 2 + l0.length + l2.length + i → (∀ y ∈ x7, U64 y) → (∀ j, j < 64 → lane x7 j = gatesB (l3.take i) (b0 j)) →
    ∃ k v, Zu.l0 k x7 l3 l3.length i = some v ∧ v.length = 2 + l0.length + l2.length + l3.length ∧ (∀ y ∈ v, U64 y) ∧ ∀ j, j < 64 → lane v j = gatesB l3 (b0 j)
  | 0, i, x7, h, h7, hu, hb => ⟨1, x7, by rw [Zu.l0, if_neg (by omega)], by omega, hu, fun j hj => by rw [hb j hj, List.take_of_length_le (by omega)]⟩
  | d + 1, i, x7, h, h7, hu, hb => by
    have c0 := ok.c0
    have c2 := ok.c2
    have c3 := ok.c3
    obtain ⟨x, hx⟩ := at_ex (show i < l3.length by omega)
    obtain ⟨hp1, hp2⟩ := ok.pins i x hx
    have hw : wrap64 ((i : Int) + 1) = ((i + 1 : Nat) : Int) := by rw [Qj (by omega) (by omega)]; rfl
    obtain ⟨k, v, h1, h2⟩ := lvalues1 (fun v => v.length = 2 + l0.length + l2.length + l3.length ∧ (∀ y ∈ v, U64 y) ∧ ∀ j, j < 64 → lane v j = gatesB l3 (b0 j)) x7 hu l3 l3.length i x hp1 (fun y hy => by have := hp2 y hy; omega) (by omega)
      (fun r hr hrb => by
        rw [hw]
        refine lvalues0 ok b0 d (i + 1) (x7 ++ [r]) (by omega) (by rw [List.length_append, h7]; rfl) (fun y hy => ?_) (fun j hj => ?_)
        · rcases List.mem_append.1 hy with hy | hy
          · exact hu y hy
          · rw [List.mem_singleton.1 hy]; exact hr
        · rw [lane_snoc, hrb j hj, hb j hj, List.take_add_one, hx]
          exact (gatesB_snoc _ _ _).symm) x.f2.length 0 (by omega)
    refine ⟨k + 1, v, ?_, h2⟩
    rw [Zu.l0, if_pos (by omega), if_pos (by omega), if_pos (by omega), rdG_at hx]
    exact h1
theorem lvalues_ex (ok : FormOk l0 l1 l2 l3 l4) (a b : List Int) (ha : a.length = l0.length) (hb : b.length = l2.length) (hua : ∀ y ∈ a, U64 y) (hub : ∀ y ∈ b, U64 y) :
    ∃ k v, Zu.f k l0 l1 l2 l3 l4 a b = some v ∧ v.length = 2 + l0.length + l2.length + l3.length ∧ (∀ y ∈ v, U64 y) ∧ ∀ j, j < 64 → lane v j = gatesB l3 ([false, true] ++ lane a j ++ lane b j) := by
  have b0 := ok.c0
  have b2 := ok.c2
  obtain ⟨k, v, h1, h2⟩ := lvalues0 ok (fun j => [false, true] ++ lane a j ++ lane b j) l3.length 0 ([0, 18446744073709551615] ++ a ++ b) (by omega) (by simp only [List.length_append, List.length_cons, List.length_nil]; omega)
    (fun y hy => by
      rcases List.mem_append.1 hy with hy | hy
      · rcases List.mem_append.1 hy with hy | hy
        · simp only [List.mem_cons, List.not_mem_nil, or_false] at hy
          rcases hy with rfl | rfl
          · exact u64_zero
          · exact u64_ones
        · exact hua y hy
      · exact hub y hy)
    (fun j hj => by simp [lane, tb_zero, tb_ones hj, gatesB])
  refine ⟨k, v, ?_, h2⟩
  unfold Zu.f
  show (if ([0, 18446744073709551615] : List Int).length + a.length < 17592186044416 then ((some ([0, 18446744073709551615] ++ a)).bind fun y310 => (if y310.length + b.length < 17592186044416 then (Zu.l0 k (y310 ++ b) l3 l3.length 0) else none)) else none) = some v
  rw [if_pos (by simp only [List.length_cons, List.length_nil]; omega), Option.bind_some, if_pos (by simp only [List.length_append, List.length_cons, List.length_nil]; omega)]
  exact h1
theorem gatesB_get : ∀ (gs : List Kr) (v : List Bool) (m : Nat), m < v.length → (gatesB gs v).getD m false = v.getD m false
  | [], _, _, _ => rfl
  | g :: gs, v, m, h => by
    rw [gatesB, gatesB_get gs _ m (by rw [List.length_append]; omega)]
    simp only [List.getD]
    rw [List.getElem?_append_left h]
theorem lresults_step (v x4 x5 : List Int) (i : Nat) (x : S82) (hx : l2[i]? = some x) (q1 : (i : Int) < (l2.length : Int)) (q2 : (0 : Int) ≤ i) (hw2 : wrap64 (wrap64 (2 + (l0.length : Int)) + i) = 2 + (l0.length : Int) + i) (q3 : 0 ≤ 2 + (l0.length : Int) + i) (q4 : 2 + (l0.length : Int) + i < (v.length : Int))
    (f3 : 0 ≤ x.f3) (q5 : x.f3 < (v.length : Int)) (f1 : 0 ≤ x.f2) (q6 : x.f2 < (v.length : Int)) (q7 : x5.length < 17592186044416) (ua : U64 (rd v x.f3)) (ub : U64 (rd v x.f2)) (uc : U64 (rd v (2 + (l0.length : Int) + i))) :
    ∃ e, (∀ k, Zp.l1 (k + 1) v x4 x5 l2 l2.length i l0 l1 l2 l3 l4 = Zp.l1 k v x4 (x5 ++ [e]) l2 l2.length (wrap64 ((i : Int) + 1)) l0 l1 l2 l3 l4) ∧ U64 e ∧ ∀ j, j < 64 → tb e j = if tb (rd v x.f3) j then tb (rd v x.f2) j else tb (rd v (2 + (l0.length : Int) + i)) j :=
  ⟨_, fun k => by rw [Zp.l1, if_pos q1, if_pos q2, if_pos q1, hw2, if_pos q3, if_pos q4, rdF_at hx, if_pos f3, if_pos q5, if_pos f1, if_pos q6, if_pos q7], (tb_or (tb_and ua ub).1 (tb_and (tb_xor u64_ones ua).1 uc).1).1, fun j hj => by
    rw [(tb_or (tb_and ua ub).1 (tb_and (tb_xor u64_ones ua).1 uc).1).2, (tb_and ua ub).2, (tb_and (tb_xor u64_ones ua).1 uc).2, (tb_xor u64_ones ua).2, tb_ones hj]
    cases tb (rd v x.f3) j <;> cases tb (rd v x.f2) j <;> cases tb (rd v (2 + (l0.length : Int) + i)) j <;> rfl⟩
theorem rd_u {v : List Int} (hu : ∀ y ∈ v, U64 y) {y : Int} (h0 : 0 ≤ y) (h1 : y < v.length) : U64 (rd v y) := by
  obtain ⟨m, rfl⟩ := Int.eq_ofNat_of_zero_le h0
  rw [rd_at (List.getElem?_eq_getElem (show m < v.length by omega))]
  exact hu _ (List.getElem_mem _)
def flopB (v st : List Bool) (i : Nat) (f : S82) : Bool := if rdB v f.f3 then rdB v f.f2 else st.getD i false
def nextF (v st : List Bool) : List S82 → Nat → List Bool
  | [], _ => []
  | f :: r, i => flopB v st i f :: nextF v st r (i + 1)
theorem nextF_snoc (v st : List Bool) : ∀ (fs : List S82) (f : S82) (i : Nat), nextF v st (fs ++ [f]) i = nextF v st fs i ++ [flopB v st (i + fs.length) f]
  | [], _, _ => rfl
  | g :: fs, f, i => by
    rw [List.cons_append, nextF, nextF_snoc v st fs f (i + 1), nextF, List.cons_append, List.length_cons, show i + 1 + fs.length = i + (fs.length + 1) by omega]
theorem nextF_len (v st : List Bool) : ∀ (fs : List S82) (i : Nat), (nextF v st fs i).length = fs.length
  | [], _ => rfl
  | f :: fs, i => by rw [nextF, List.length_cons, nextF_len v st fs, List.length_cons]
theorem lresults1 (ok : FormOk l0 l1 l2 l3 l4) (v x4 : List Int) (hv : v.length = 2 + l0.length + l2.length + l3.length) (hu : ∀ y ∈ v, U64 y) (st : Nat → List Bool) (hst : ∀ i, i < l2.length → ∀ j, j < 64 → tb (rd v (2 + (l0.length : Int) + i)) j = (st j).getD i false) :
    ∀ (d i : Nat) (x5 : List Int), i + d = l2.length → x5.length = i → (∀ y ∈ x5, U64 y) → (∀ j, j < 64 → lane x5 j = nextF (lane v j) (st j) (l2.take i) 0) → ∃ k n, Zp.l1 k v x4 x5 l2 l2.length i l0 l1 l2 l3 l4 = some (x4, n) ∧ n.length = l2.length ∧ (∀ y ∈ n, U64 y) ∧ ∀ j, j < 64 → lane n j = nextF (lane v j) (st j) l2 0
  | 0, i, x5, h, h5, h6, h7 => ⟨1, x5, by rw [Zp.l1, if_neg (by omega)], by omega, h6, fun j hj => by rw [h7 j hj, List.take_of_length_le (by omega)]⟩
  | d + 1, i, x5, h, h5, h6, h7 => by
    have b0 := ok.c0
    have b2 := ok.c2
    have b3 := ok.c3
    obtain ⟨x, hx⟩ := at_ex (show i < l2.length by omega)
    obtain ⟨f1, f2, f3, f4⟩ := ok.flops x (List.mem_of_getElem? hx)
    have hw2 : wrap64 (wrap64 (2 + (l0.length : Int)) + i) = 2 + (l0.length : Int) + i := by rw [Qj (x := 2 + (l0.length : Int)) (by omega) (by omega), Qj (by omega) (by omega)]
    obtain ⟨e, he, ue, be⟩ := lresults_step (l0 := l0) (l1 := l1) (l2 := l2) (l3 := l3) (l4 := l4) v x4 x5 i x hx (by clear hw2; omega) (by clear hw2; omega) hw2 (by clear hw2; omega) (by clear hw2; omega) f3 (by clear hw2; omega) f1 (by clear hw2; omega) (Nat.lt_of_le_of_lt (show x5.length ≤ 288 by clear hw2; omega) (by decide))
      (rd_u hu f3 (by clear hw2; omega)) (rd_u hu f1 (by clear hw2; omega)) (rd_u hu (by clear hw2; omega) (by clear hw2; omega))
    clear hw2
    obtain ⟨k, n, h1, h2⟩ := lresults1 ok v x4 hv hu st hst d (i + 1) (x5 ++ [e]) (by omega) (by rw [List.length_append, h5]; rfl)
      (fun y hy => by
        rcases List.mem_append.1 hy with hy | hy
        · exact h6 y hy
        · rw [List.mem_singleton.1 hy]; exact ue)
      (fun j hj => by
        rw [lane_snoc, h7 j hj, be j hj, List.take_add_one, hx]
        show _ = nextF _ _ (l2.take i ++ [x]) 0
        rw [nextF_snoc, List.length_take, Nat.min_eq_left (by omega), Nat.zero_add]
        unfold flopB
        rw [lane_rd v x.f3 f3 (by omega), lane_rd v x.f2 f1 (by omega), hst i (by omega) j hj])
    refine ⟨k + 1, n, ?_, h2⟩
    rw [he, Qj (by omega) (by omega)]
    exact h1
theorem lresults0 (ok : FormOk l0 l1 l2 l3 l4) (v : List Int) (hv : v.length = 2 + l0.length + l2.length + l3.length) (hu : ∀ y ∈ v, U64 y) (st : Nat → List Bool) (hst : ∀ i, i < l2.length → ∀ j, j < 64 → tb (rd v (2 + (l0.length : Int) + i)) j = (st j).getD i false) :
    ∀ (d i : Nat), i + d = l4.length → ∃ k n, Zp.l0 k v ((l4.take i).map (rd v)) l4 l4.length i l0 l1 l2 l3 l4 = some (l4.map (rd v), n) ∧ n.length = l2.length ∧ (∀ y ∈ n, U64 y) ∧ ∀ j, j < 64 → lane n j = nextF (lane v j) (st j) l2 0
  | 0, i, h => by
    obtain ⟨k, n, h1, h2⟩ := lresults1 ok v (l4.map (rd v)) hv hu st hst l2.length 0 [] (by omega) rfl (fun y hy => by cases hy) (fun j _ => rfl)
    have ht : l4.take i = l4 := List.take_of_length_le (by omega)
    have hlt : ¬ (i : Int) < (l4.length : Int) := by omega
    rw [ht]
    refine ⟨k + 1, n, ?_, h2⟩
    rw [Zp.l0, if_neg hlt]
    exact h1
  | d + 1, i, h => by
    have b0 := ok.c0
    have b1 := ok.c1
    have b2 := ok.c2
    have b3 := ok.c3
    have b4 := ok.c4
    obtain ⟨x, hx⟩ := at_ex (show i < l4.length by omega)
    obtain ⟨f1, f2⟩ := ok.outs x (List.mem_of_getElem? hx)
    obtain ⟨k, n, h1, h2⟩ := lresults0 ok v hv hu st hst d (i + 1) (by omega)
    have e : (l4.take i).map (rd v) ++ [rd v x] = (l4.take (i + 1)).map (rd v) := by
      rw [List.take_add_one, hx, List.map_append]
      rfl
    have q8 : ((l4.take i).map (rd v)).length ≤ 128 := by rw [List.length_map, List.length_take]; omega
    have q7 : ((l4.take i).map (rd v)).length < 17592186044416 := by clear h1 h2 hst; omega
    have g1 : (i : Int) < (l4.length : Int) := by omega
    have g2 : (0 : Int) ≤ (i : Int) := by omega
    have g3 : x < (v.length : Int) := by omega
    have hw : wrap64 ((i : Int) + 1) = ((i + 1 : Nat) : Int) := by rw [Qj (by omega) (by omega)]; rfl
    refine ⟨k + 1, n, ?_, h2⟩
    rw [Zp.l0, if_pos g1, if_pos g2, if_pos g1, rd_at hx, if_pos f1, if_pos g3, if_pos q7, hw, e]
    exact h1
def valB (l3 : List Kr) (a b : List Bool) : List Bool := gatesB l3 ([false, true] ++ a ++ b)
theorem lwords_ex (ok : FormOk l0 l1 l2 l3 l4) {kF : Nat} (hF : Ze.f kF l0 l1 l2 l3 l4 = some 0) (a b : List Int) (ha : a.length = l0.length) (hb : b.length = l2.length) (hua : ∀ y ∈ a, U64 y) (hub : ∀ y ∈ b, U64 y) :
    ∃ k o n, Qg.f k l0 l1 l2 l3 l4 a b = some (o, n, 0) ∧ o.length = l4.length ∧ n.length = l2.length ∧ (∀ y ∈ o, U64 y) ∧ (∀ y ∈ n, U64 y) ∧
      ∀ j, j < 64 → lane o j = outB (valB l3 (lane a j) (lane b j)) l4 ∧ lane n j = nextF (valB l3 (lane a j) (lane b j)) (lane b j) l2 0 := by
  obtain ⟨k1, v, h1, hv, hu, hlv⟩ := lvalues_ex ok a b ha hb hua hub
  have hst : ∀ i, i < l2.length → ∀ j, j < 64 → tb (rd v (2 + (l0.length : Int) + i)) j = (lane b j).getD i false := by
    intro i hi j hj
    rw [lane_rd v _ (by omega) (by omega), hlv j hj]
    unfold rdB
    rw [show (2 + (l0.length : Int) + i).toNat = 2 + l0.length + i by omega, gatesB_get _ _ _ (by simp only [List.length_append, lane_len, List.length_cons, List.length_nil]; omega)]
    simp only [List.getD]
    rw [List.getElem?_append_right (by simp only [List.length_append, lane_len, List.length_cons, List.length_nil]; omega)]
    congr 2
    simp only [List.length_append, lane_len, List.length_cons, List.length_nil]
    omega
  obtain ⟨k2, n, h2, hn, un, bn⟩ := lresults0 ok v hv hu (fun j => lane b j) hst l4.length 0 (by omega)
  refine ⟨kF + k1 + k2, l4.map (rd v), n, ?_, List.length_map _, hn, ?_, un, fun j hj => ⟨?_, ?_⟩⟩
  · have e1 := upK (Ze.mono l0 l1 l2 l3 l4) (show kF ≤ kF + k1 + k2 by omega) hF
    have e2 := upK (Zu.mono l0 l1 l2 l3 l4 a b) (show k1 ≤ kF + k1 + k2 by omega) h1
    have e3 := upK (f := fun k => Zp.f k l0 l1 l2 l3 l4 v) (Zp.mono l0 l1 l2 l3 l4 v) (show k2 ≤ kF + k1 + k2 by omega) h2
    unfold Qg.f Qv.f
    rw [e1, Option.bind_some, if_pos rfl, if_pos (by omega), if_pos (by omega), e2, Option.bind_some]
    show (if (0 : Int) = 0 then ((Zp.f (kF + k1 + k2) l0 l1 l2 l3 l4 v).bind fun bt352 => some (bt352.1, bt352.2, (0 : Int))) else some ([], [], 0)) = some (l4.map (rd v), n, 0)
    rw [if_pos rfl, e3, Option.bind_some]
  · intro y hy
    obtain ⟨p, hp, rfl⟩ := List.mem_map.1 hy
    obtain ⟨q1, q2⟩ := ok.outs p hp
    exact rd_u hu q1 (by omega)
  · unfold outB lane valB
    rw [List.map_map]
    refine List.map_congr_left fun y hy => ?_
    obtain ⟨q1, q2⟩ := ok.outs y hy
    show tb (rd v y) j = _
    rw [lane_rd v y q1 (by omega), hlv j hj]
    rfl
  · rw [bn j hj, hlv j hj]
    rfl
end
end Go.Proofs.Ytimjccfpobhpeaa
namespace Go.Proofs.Ytimjccfpobhpeaa
open Go.RowKit
set_option maxRecDepth 100000
theorem keyLits3 {P : Program} {k e : TypeId} (hu : P.underlying k = some (.array 3 e)) (he : P.underlying e = some (.int .i64)) (h1 : P.cellsOf k = 3) (h2 : P.cellsOf e = 1) (d : Nat) (a b c : Int) (ha : (Lit.int IntKind.i64 a).wf = true) (hb : (Lit.int IntKind.i64 b).wf = true) (hc : (Lit.int IntKind.i64 c).wf = true) :
    P.keyLits (d + 2) k [.int .i64 a, .int .i64 b, .int .i64 c] = some [.int .i64 a, .int .i64 b, .int .i64 c] := by
  have one : ∀ x, (Lit.int IntKind.i64 x).wf = true → P.keyLits (d + 1) e [.int .i64 x] = some [.int .i64 x] := fun x hx => by
    simp [Program.keyLits, he, hx]
  have hr : List.range 3 = [0, 1, 2] := by decide
  unfold Program.keyLits
  simp [hu, h1, h2, hr, one a ha, one b hb, one c hc]
theorem keyOf3 {P : Program} {k e : TypeId} (hu : P.underlying k = some (.array 3 e)) (he : P.underlying e = some (.int .i64)) (h1 : P.cellsOf k = 3) (h2 : P.cellsOf e = 1) (hk : P.keyType k = true) (hs : 1 ≤ P.types.size) (a b c : Int) (ha : (Lit.int IntKind.i64 a).wf = true) (hb : (Lit.int IntKind.i64 b).wf = true) (hc : (Lit.int IntKind.i64 c).wf = true) :
    ∃ l, keyOf P k (.agg #[.int .i64 a, .int .i64 b, .int .i64 c]) = some l := by
  obtain ⟨d, hd⟩ : ∃ d, P.types.size + 1 = d + 2 := ⟨P.types.size - 1, by omega⟩
  unfold keyOf
  rw [hu]
  simp [hk, Value.formed, hu, h1, Value.cells, hd, keyLits3 hu he h1 h2 d a b c ha hb hc]
theorem key3_of (a b c : Int) (ha : InK .i64 a) (hb : InK .i64 b) (hc : InK .i64 c) : ∃ l, keyOf Try.prog 95 (.agg #[.int .i64 a, .int .i64 b, .int .i64 c]) = some l :=
  keyOf3 Try.underlying95 Try.underlying3 (by kernel_rfl) (by kernel_rfl) (by kernel_rfl) (of_decide_eq_true (by kernel_rfl)) a b c (by simp only [Lit.wf, Bool.and_eq_true, decide_eq_true_eq]; exact ha) (by simp only [Lit.wf, Bool.and_eq_true, decide_eq_true_eq]; exact hb) (by simp only [Lit.wf, Bool.and_eq_true, decide_eq_true_eq]; exact hc)
theorem law3 : Maps.Keyed Try.prog 95 := Maps.Keyed.of_law (deep_law_laid (by kernel_rfl) (m := 2) (by omega) (of_decide_eq_true (by kernel_rfl)) (by kernel_rfl) (by kernel_rfl))
def key3 : KeyEnc Try.prog 95 (Int × Int × Int) where
  enc := fun k => .agg #[.int .i64 k.1, .int .i64 k.2.1, .int .i64 k.2.2]
  ok := fun k => InK .i64 k.1 ∧ InK .i64 k.2.1 ∧ InK .i64 k.2.2
  law := law3
  key := fun k h => key3_of _ _ _ h.1 h.2.1 h.2.2
  inj := fun a b h => by
    obtain ⟨a1, a2, a3⟩ := a
    obtain ⟨b1, b2, b3⟩ := b
    simpa using h
end Go.Proofs.Ytimjccfpobhpeaa
namespace Go.Proofs.Ytimjccfpobhpeaa
open Go.RowKit
def rdr (o : Oper) : Bool :=
  match o.op with
  | .move _ | .assign _ | .pick _ _ _ | .load _ _ | .binOp _ _ _ _ _ | .unOp _ _ _ | .convert _ _ _ | .slice _ _ _ _ _ | .fieldAddr _ _ _ | .field _ _ _ | .indexAddr _ _ _ | .index _ _ _
  | .lookup _ _ _ _ | .extract _ _ | .build _ _ | .makeFunc _ _ _ | .makeInterface _ _ => true
  | .call c => (match c.callee with | .builtin .len => true | _ => false)
  | _ => false
def pickB : List Bool → List Oper → List Oper
  | true :: m, o :: l => o :: pickB m l
  | false :: m, _ :: l => pickB m l
  | _, _ => []
def dropB : List Bool → List Oper → List Oper
  | true :: m, _ :: l => dropB m l
  | false :: m, o :: l => o :: dropB m l
  | _, _ => []
def readersB (md : Region.Mode) (ops : Array Oper) : List Bool → Nat → Array Bool → Bool
  | [], _, _ => true
  | true :: m, k, listed => (Region.ready md ops listed).contains k && Region.free md ops listed k && ((ops[k]?).map rdr).getD false && readersB md ops m (k + 1) (listed.setIfInBounds k true)
  | false :: m, k, listed => readersB md ops m (k + 1) listed
def listedB : List Bool → Nat → Array Bool → Array Bool
  | [], _, listed => listed
  | true :: m, k, listed => listedB m (k + 1) (listed.setIfInBounds k true)
  | false :: m, k, listed => listedB m (k + 1) listed
def effectsB (md : Region.Mode) (ops : Array Oper) : List Bool → Nat → Array Bool → Bool
  | [], _, listed => (Region.ready md ops listed).isEmpty
  | false :: m, k, listed => (Region.ready md ops listed == [k]) && effectsB md ops m (k + 1) (listed.setIfInBounds k true)
  | true :: m, k, listed => effectsB md ops m (k + 1) listed
def splitB (md : Region.Mode) (ops : Array Oper) (m : List Bool) : Bool :=
  Region.noSelect ops && (m.length == ops.size) && readersB md ops m 0 (Array.replicate ops.size false) && effectsB md ops m 0 (listedB m 0 (Array.replicate ops.size false))
section
variable {P : Program} {ops : Array Oper} {S : World → Prop} {Q : Exit → Act → World → Prop} {md : Region.Mode}
def wpListS (P : Program) (ops : Array Oper) (S : World → Prop) (Q : Exit → Act → World → Prop) : List Oper → Act → World → Prop
  | [], a, w => Q .normal a w
  | o :: rest, a, w => if Region.wanted o (yielded ops a.tmps) then o.wp P a w (fun a' w' => S w' ∧ wpListS P ops S Q rest a' w') Q ∨ (o.asks P a w ∧ LetsOut Q) else wpListS P ops S Q rest (a.put o.dst undef) w
theorem quiet_reads {o : Oper} {a : Act} {w : World} {v : Value} (hr : rdr o = true) (h : o.quietAt P a S w v) : (execOp a.eval o).run P w = .ok (.value v) w := by
  have vform : ∀ (s : Sem Value), Oper.quietUpon P S w v ((do pure (Next.value (← s))).run P w) → ((do pure (Next.value (← s))).run P w) = .ok (.value v) w := by
    intro s hs
    simp only [Sem.run_bind, Sem.run_pure] at hs ⊢
    cases hsr : s.run P w with
    | ok u w' =>
      rw [hsr] at hs
      simp only [Result.andThen_ok, Oper.quietUpon] at hs ⊢
      rw [hs.1, hs.2]
    | halt x w' =>
      rw [hsr] at hs
      simp [Result.andThen, Oper.quietUpon] at hs
  unfold Oper.quietAt at h
  unfold rdr at hr
  unfold execOp at h ⊢
  cases hop : o.op
  all_goals rw [hop] at hr
  all_goals simp only [hop] at h ⊢
  all_goals first | (simp at hr; done) | exact vform _ h | skip
  case move x => simpa [Oper.quietUpon, eq_comm] using h
  case assign x => simpa [Oper.quietUpon, eq_comm] using h
  case pick c x y =>
    simp only [Sem.run_bind, Sem.run_pure] at h ⊢
    cases hsr : (asBool (a.eval c)).run P w with
    | ok u w' =>
      rw [hsr] at h
      simp only [Result.andThen_ok, Oper.quietUpon] at h ⊢
      rw [h.1, h.2]
    | halt x w' =>
      rw [hsr] at h
      simp [Result.andThen, Oper.quietUpon] at h
  case call c =>
    obtain ⟨callee, args, tys⟩ := c
    cases callee with
    | value f => simp at hr
    | invoke r m => simp at hr
    | builtin b =>
      cases b
      all_goals first | (simp at hr; done) | skip
      simp only [resolve, Sem.run_bind, Sem.run_pure, Result.andThen_ok, invoke, builtin] at h ⊢
      have hv := vform (Builtin.len_ tys o.type (args.map a.eval)) (by simp only [Sem.run_bind, Sem.run_pure]; exact h)
      simpa only [Sem.run_bind, Sem.run_pure] using hv
theorem mix_readers {w : World} (hs : Region.noSelect ops = true) (hS : S w) (hQ : ∀ c a d v w, Q (.panic c) (Act.put a d v) w → Q (.panic c) a w) {G : Act → Prop} {n : Nat} :
    ∀ (m : List Bool) (l : List Oper) (k : Nat) (listed : Array Bool) (a : Act), (∀ j, l[j]? = ops[k + j]?) → readersB md ops m k listed = true →
      (∀ a', G a' → wpAnyH P md ops Q S n (listedB m k listed) a' w) → wpQuiet P ops S G (pickB m l) a → wpAnyH P md ops Q S ((m.filter id).length + n) listed a w
  | [], l, k, listed, a, _, _, hG, h => by
    simp only [pickB] at h
    simpa [listedB] using hG a h
  | true :: m, [], k, listed, a, hl, hB, _, _ => by
    simp only [readersB, Bool.and_eq_true] at hB
    have := hl 0
    simp only [List.getElem?_nil, Nat.add_zero] at this
    rw [← this] at hB
    simp at hB
  | true :: m, o :: l, k, listed, a, hl, hB, hG, h => by
    have h0 : ops[k]? = some o := by simpa using (hl 0).symm
    simp only [readersB, Bool.and_eq_true, h0, Option.map_some, Option.getD_some] at hB
    obtain ⟨⟨⟨hr, hf⟩, hrd⟩, hB'⟩ := hB
    have hl' : ∀ j, l[j]? = ops[k + 1 + j]? := fun j => by have := hl (j + 1); simpa [Nat.add_assoc, Nat.add_comm 1 j] using this
    simp only [pickB, wpQuiet] at h
    rw [show ((true :: m).filter id).length + n = ((m.filter id).length + n) + 1 by simp; omega]
    by_cases hw : Region.wanted o (yielded ops a.tmps) = true
    · rw [if_pos hw] at h
      obtain ⟨v, hv, hn⟩ := h
      refine wpAnyH_take (v := v) h0 hs hf (by simpa using hr) (fun c a w => hQ c a _ _ w) (.inl ⟨hw, fun w' hw' => quiet_reads hrd (hv w' hw')⟩) hS ?_
      exact mix_readers hs hS hQ m l (k + 1) _ _ hl' hB' hG hn
    · rw [if_neg hw] at h
      refine wpAnyH_take (v := undef) h0 hs hf (by simpa using hr) (fun c a w => hQ c a _ _ w) (.inr ⟨by simpa using hw, rfl⟩) hS ?_
      exact mix_readers hs hS hQ m l (k + 1) _ _ hl' hB' hG h
  | false :: m, [], k, listed, a, hl, hB, hG, h => by
    have hp : pickB (false :: m) [] = pickB m [] := by cases m with | nil => rfl | cons b m => cases b <;> rfl
    rw [hp] at h
    have := mix_readers (w := w) hs hS hQ m [] (k + 1) listed a (fun j => by
      have hsz := hl 0
      simp only [List.getElem?_nil, Nat.add_zero] at hsz
      have : ops.size ≤ k := by rcases Nat.lt_or_ge k ops.size with hlt | hge
                                · rw [Array.getElem?_eq_getElem hlt] at hsz; cases hsz
                                · exact hge
      rw [Array.getElem?_eq_none (by omega)]; rfl) hB hG h
    simpa using this
  | false :: m, o :: l, k, listed, a, hl, hB, hG, h => by
    have := mix_readers hs hS hQ m l (k + 1) listed a (fun j => by have := hl (j + 1); simpa [Nat.add_assoc, Nat.add_comm 1 j] using this) hB hG h
    simpa using this
theorem mix_effects : ∀ (m : List Bool) (l : List Oper) (k : Nat) (listed : Array Bool) (a : Act) (w : World), m.length = l.length → (∀ j, l[j]? = ops[k + j]?) → S w → effectsB md ops m k listed = true →
      wpListS P ops S Q (dropB m l) a w → wpAnyH P md ops Q S ((m.filter (!·)).length) listed a w
  | [], [], k, listed, a, w, _, _, _, hB, h => by
    simp only [effectsB, List.isEmpty_iff] at hB
    exact wpAnyH_done hB h _
  | [], _ :: _, _, _, _, _, hm, _, _, _, _ => by simp at hm
  | _ :: _, [], _, _, _, _, hm, _, _, _, _ => by simp at hm
  | true :: m, o :: l, k, listed, a, w, hm, hl, hS, hB, h => by
    have := mix_effects m l (k + 1) listed a w (by simpa using hm) (fun j => by have := hl (j + 1); simpa [Nat.add_assoc, Nat.add_comm 1 j] using this) hS hB h
    simpa using this
  | false :: m, o :: l, k, listed, a, w, hm, hl, hS, hB, h => by
    have h0 : ops[k]? = some o := by simpa using (hl 0).symm
    simp only [effectsB, Bool.and_eq_true, beq_iff_eq] at hB
    have hl' : ∀ j, l[j]? = ops[k + 1 + j]? := fun j => by have := hl (j + 1); simpa [Nat.add_assoc, Nat.add_comm 1 j] using this
    simp only [dropB, wpListS] at h
    rw [show ((false :: m).filter (!·)).length = (m.filter (!·)).length + 1 by simp]
    refine wpAnyH_all hB.1 (by simp) fun i hi => ?_
    simp only [List.mem_singleton] at hi
    subst hi
    unfold wpOp
    simp only [h0]
    by_cases hw : Region.wanted o (yielded ops a.tmps) = true
    · rw [if_pos hw] at h
      rw [if_pos hw]
      rcases h with h | h
      case inr => exact .inr h
      refine .inl (Oper.wp_mono (fun a' w' h' => ⟨h'.1, ?_⟩) h)
      exact mix_effects m l _ _ a' w' (by simpa using hm) hl' h'.1 hB.2 h'.2
    · rw [if_neg hw] at h
      rw [if_neg hw]
      exact ⟨hS, mix_effects m l _ _ _ w (by simpa using hm) hl' hS hB.2 h⟩
theorem filter_both (m : List Bool) : (m.filter id).length + (m.filter (!·)).length = m.length := by
  induction m with
  | nil => rfl
  | cons b m ih => cases b <;> simp only [List.filter_cons, id, Bool.not_true, Bool.not_false, if_true, Bool.false_eq_true, if_false, List.length_cons] <;> omega
end
end Go.Proofs.Ytimjccfpobhpeaa
namespace Go.Proofs.Ytimjccfpobhpeaa
open Go.RowKit
section
variable {P : Program} {ops : Array Oper} {S : World → Prop} {Q : Exit → Act → World → Prop} {md : Region.Mode} {last : Nat}
def wpAnyT (P : Program) (md : Region.Mode) (ops : Array Oper) (Q : Exit → Act → World → Prop) (S : World → Prop) (last : Nat) : Nat → Array Bool → Act → World → Prop
  | 0, listed, a, w => Region.ready md ops listed = [] ∧ Q .normal a w
  | fuel + 1, listed, a, w =>
    (Region.ready md ops listed = [] → Q .normal a w) ∧
    ∀ i ∈ Region.ready md ops listed, wpOp P ops Q i (fun a' w' => (i = last ∨ S w') ∧ wpAnyT P md ops Q S last fuel (listed.setIfInBounds i true) a' w') a w
theorem anyT : ∀ (fuel : Nat) (listed : Array Bool) (a : Act) (w : World), wpAnyT P md ops Q S last fuel listed a w → wpAny P md ops Q fuel listed a w
  | 0, _, _, _, h => h
  | fuel + 1, _, _, _, h => ⟨h.1, fun i hi => wpOp_mono (fun a' w' h' => anyT fuel _ a' w' h'.2) (h.2 i hi)⟩
def waitsFor (md : Region.Mode) (ops : Array Oper) (last i : Nat) : Bool := match ops[last]? with
  | none => false
  | some o => o.after.any fun e => Region.binds md e && e.on == i
theorem anyT_first {i : Nat} {oi : Oper} {v : Value} (hi : ops[i]? = some oi) (hs : Region.noSelect ops = true) (hw : waitsFor md ops last i = true) (hQ : ∀ c a w, Q (.panic c) (a.put oi.dst v) w → Q (.panic c) a w) :
    ∀ (fuel : Nat) (listed : Array Bool) (a : Act) (w : World),
      (∀ j oj, ops[j]? = some oj → j ≠ i → listed.getD j true = false → (∀ e ∈ oj.after, Region.binds md e = true → e.on ≠ i) → oi.apart ops oj = true) →
      i ∈ Region.ready md ops listed → YieldsIf P ops S oi v a → S w → wpAnyT P md ops Q S last fuel (listed.setIfInBounds i true) (a.put oi.dst v) w → wpAnyT P md ops Q S last (fuel + 1) listed a w := by
  have hsel := Region.noSelect_spec hs
  have hnl : ∀ listed : Array Bool, i ∈ Region.ready md ops listed → last ∈ Region.ready md ops listed → False := by
    intro listed hir hlr
    obtain ⟨hun, _⟩ := mem_ready.1 hir
    obtain ⟨_, ol, hol, hall⟩ := mem_ready.1 hlr
    simp only [waitsFor, hol, Array.any_eq_true] at hw
    obtain ⟨k, hk, hbk⟩ := hw
    simp only [Bool.and_eq_true, beq_iff_eq] at hbk
    have h1 := hall _ (Array.getElem_mem hk) hbk.1
    rw [hbk.2] at h1
    rcases Nat.lt_or_ge i listed.size with hlt | hge
    · simp only [Array.getD_eq_getD_getElem?, Array.getElem?_eq_getElem hlt, Option.getD_some] at h1 hun
      rw [hun] at h1; cases h1
    · simp [Array.getElem?_eq_none hge] at h1
  intro fuel
  induction fuel with
  | zero =>
    intro listed a w _ hr hy hS H
    refine ⟨fun h0 => (by rw [h0] at hr; cases hr), fun j hj => ?_⟩
    by_cases hji : j = i
    · subst hji
      exact hy.wpOp hi hS ⟨.inr hS, H⟩
    · have h0 := ready_mono hj hji
      rw [H.1] at h0
      cases h0
  | succ fuel ih =>
    intro listed a w hfree hr hy hS H
    refine ⟨fun h0 => (by rw [h0] at hr; cases hr), fun j hj => ?_⟩
    by_cases hji : j = i
    · subst hji
      exact hy.wpOp hi hS ⟨.inr hS, H⟩
    · have hjl : j ≠ last := fun e => hnl listed hr (e ▸ hj)
      obtain ⟨hjun, oj, hoj, hall⟩ := mem_ready.1 hj
      have hnot : ∀ e ∈ oj.after, Region.binds md e = true → e.on ≠ i := fun e he hb heq => by
        have h1 := hall e he hb
        have h0 := (mem_ready.1 hr).1
        rw [heq] at h1
        rcases Nat.lt_or_ge i listed.size with hlt | hge
        · simp only [Array.getD_eq_getD_getElem?, Array.getElem?_eq_getElem hlt, Option.getD_some] at h1 h0
          rw [h0] at h1; cases h1
        · simp [Array.getElem?_eq_none hge] at h1
      have h2 := wpOp_putIf hoj (hfree j oj hoj hji hjun hnot) (fun cs b => hsel i oi cs b hi) (fun cs b => hsel j oj cs b hoj) hQ hy (H.2 j (ready_mono hj hji))
      refine wpOp_mono (fun a' w' h3 => ?_) h2
      have hSw : S w' := h3.2.1.resolve_left hjl
      refine ⟨.inr hSw, ih (listed.setIfInBounds j true) a' w' ?_ (ready_mono hr (Ne.symm hji)) h3.1 hSw ?_⟩
      · intro k ok hk hki hun hno
        refine hfree k ok hk hki ?_ hno
        by_cases hjk : j = k
        · exact hjk ▸ hjun
        · rwa [getD_set_ne true hjk] at hun
      · rw [Array.setIfInBounds_comm _ _ hji]
        exact h3.2.2
def readersT (md : Region.Mode) (ops : Array Oper) (last : Nat) : List Bool → Nat → Array Bool → Bool
  | [], _, _ => true
  | true :: m, k, listed => (Region.ready md ops listed).contains k && Region.free md ops listed k && ((ops[k]?).map rdr).getD false && waitsFor md ops last k && readersT md ops last m (k + 1) (listed.setIfInBounds k true)
  | false :: m, k, listed => readersT md ops last m (k + 1) listed
def splitT (md : Region.Mode) (ops : Array Oper) (m : List Bool) : Bool :=
  Region.noSelect ops && (m.length == ops.size) && readersT md ops (ops.size - 1) m 0 (Array.replicate ops.size false) && effectsB md ops m 0 (listedB m 0 (Array.replicate ops.size false))
def wpListT (P : Program) (ops : Array Oper) (S : World → Prop) (Q : Exit → Act → World → Prop) : List Oper → Act → World → Prop
  | [], a, w => Q .normal a w
  | o :: rest, a, w => if Region.wanted o (yielded ops a.tmps) then o.wp P a w (fun a' w' => (rest = [] ∨ S w') ∧ wpListT P ops S Q rest a' w') Q ∨ (o.asks P a w ∧ LetsOut Q) else (rest = [] ∨ S w) ∧ wpListT P ops S Q rest (a.put o.dst undef) w
theorem mixT_readers {w : World} (hs : Region.noSelect ops = true) (hS : S w) (hQ : ∀ c a d v w, Q (.panic c) (Act.put a d v) w → Q (.panic c) a w) {G : Act → Prop} {n : Nat} :
    ∀ (m : List Bool) (l : List Oper) (k : Nat) (listed : Array Bool) (a : Act), (∀ j, l[j]? = ops[k + j]?) → m.length = l.length → readersT md ops last m k listed = true →
      (∀ a', G a' → wpAnyT P md ops Q S last n (listedB m k listed) a' w) → wpQuiet P ops S G (pickB m l) a → wpAnyT P md ops Q S last ((m.filter id).length + n) listed a w
  | [], l, k, listed, a, _, _, _, hG, h => by
    simp only [pickB] at h
    simpa [listedB] using hG a h
  | _ :: _, [], _, _, _, _, hm, _, _, _ => by simp at hm
  | true :: m, o :: l, k, listed, a, hl, hm, hB, hG, h => by
    have h0 : ops[k]? = some o := by simpa using (hl 0).symm
    simp only [readersT, Bool.and_eq_true, h0, Option.map_some, Option.getD_some] at hB
    obtain ⟨⟨⟨⟨hr, hf⟩, hrd⟩, hwt⟩, hB'⟩ := hB
    have hl' : ∀ j, l[j]? = ops[k + 1 + j]? := fun j => by have := hl (j + 1); simpa [Nat.add_assoc, Nat.add_comm 1 j] using this
    simp only [pickB, wpQuiet] at h
    rw [show ((true :: m).filter id).length + n = ((m.filter id).length + n) + 1 by simp; omega]
    by_cases hw : Region.wanted o (yielded ops a.tmps) = true
    · rw [if_pos hw] at h
      obtain ⟨v, hv, hn⟩ := h
      refine anyT_first (v := v) h0 hs hwt (fun c a w => hQ c a _ _ w) _ _ _ _ (Region.free_spec h0 hf) (by simpa using hr) (.inl ⟨hw, fun w' hw' => quiet_reads hrd (hv w' hw')⟩) hS ?_
      exact mixT_readers hs hS hQ m l (k + 1) _ _ hl' (by simpa using hm) hB' hG hn
    · rw [if_neg hw] at h
      refine anyT_first (v := undef) h0 hs hwt (fun c a w => hQ c a _ _ w) _ _ _ _ (Region.free_spec h0 hf) (by simpa using hr) (.inr ⟨by simpa using hw, rfl⟩) hS ?_
      exact mixT_readers hs hS hQ m l (k + 1) _ _ hl' (by simpa using hm) hB' hG h
  | false :: m, o :: l, k, listed, a, hl, hm, hB, hG, h => by
    have := mixT_readers hs hS hQ m l (k + 1) listed a (fun j => by have := hl (j + 1); simpa [Nat.add_assoc, Nat.add_comm 1 j] using this) (by simpa using hm) hB hG h
    simpa using this
theorem dropB_nil : ∀ (m : List Bool) (l : List Oper) (_k : Nat), m.length = l.length → dropB m l = [] → (m.filter (!·)) = []
  | [], _, _, _, _ => rfl
  | _ :: _, [], _, hm, _ => by simp at hm
  | true :: m, o :: l, k, hm, h => by simpa using dropB_nil m l k (by simpa using hm) h
  | false :: m, o :: l, k, hm, h => by simp [dropB] at h
theorem mixT_effects : ∀ (m : List Bool) (l : List Oper) (k : Nat) (listed : Array Bool) (a : Act) (w : World), m.length = l.length → (∀ j, l[j]? = ops[k + j]?) → k + l.length = ops.size → effectsB md ops m k listed = true →
      m.getLast? ≠ some true → (dropB m l = [] ∨ S w) → wpListT P ops S Q (dropB m l) a w → wpAnyT P md ops Q S (ops.size - 1) ((m.filter (!·)).length) listed a w
  | [], [], k, listed, a, w, _, _, _, hB, _, _, h => by
    simp only [effectsB, List.isEmpty_iff] at hB
    exact ⟨hB, h⟩
  | [], _ :: _, _, _, _, _, hm, _, _, _, _, _, _ => by simp at hm
  | _ :: _, [], _, _, _, _, hm, _, _, _, _, _, _ => by simp at hm
  | true :: m, o :: l, k, listed, a, w, hm, hl, hk, hB, hla, hS, h => by
    have := mixT_effects m l (k + 1) listed a w (by simpa using hm) (fun j => by have := hl (j + 1); simpa [Nat.add_assoc, Nat.add_comm 1 j] using this) (by simp at hk; omega) hB (by
      cases m with
      | nil => simp
      | cons b m => simpa using hla) hS h
    simpa using this
  | false :: m, o :: l, k, listed, a, w, hm, hl, hk, hB, hla, _, h => by
    have h0 : ops[k]? = some o := by simpa using (hl 0).symm
    simp only [effectsB, Bool.and_eq_true, beq_iff_eq] at hB
    have hl' : ∀ j, l[j]? = ops[k + 1 + j]? := fun j => by have := hl (j + 1); simpa [Nat.add_assoc, Nat.add_comm 1 j] using this
    have hm' : m.length = l.length := by simpa using hm
    have hk' : k + 1 + l.length = ops.size := by simp at hk; omega
    have hla' : m.getLast? ≠ some true := by
      cases m with
      | nil => simp
      | cons b m => simpa using hla
    have hend : dropB m l = [] → k = ops.size - 1 := by
      intro hd
      have hf := dropB_nil m l k hm' hd
      cases m with
      | nil => simp only [List.length_nil] at hm'; omega
      | cons b m =>
        exfalso
        obtain ⟨x, hx⟩ : ∃ x, (b :: m).getLast? = some x := ⟨_, List.getLast?_eq_some_getLast (List.cons_ne_nil b m)⟩
        have hxm : x ∈ b :: m := List.mem_of_getLast? hx
        have hxt : x = true := by
          cases x with
          | true => rfl
          | false => exact absurd (List.mem_filter.2 ⟨hxm, rfl⟩) (by rw [hf]; simp)
        exact hla' (hxt ▸ hx)
    simp only [dropB, wpListT] at h
    rw [show ((false :: m).filter (!·)).length = (m.filter (!·)).length + 1 by simp]
    refine ⟨fun h' => absurd (hB.1 ▸ h') (by simp), fun i hi => ?_⟩
    rw [hB.1, List.mem_singleton] at hi
    subst hi
    unfold wpOp
    simp only [h0]
    by_cases hw : Region.wanted o (yielded ops a.tmps) = true
    · rw [if_pos hw] at h
      rw [if_pos hw]
      rcases h with h | h
      case inr => exact .inr h
      refine .inl (Oper.wp_mono (fun a' w' h' => ⟨h'.1.imp hend id, ?_⟩) h)
      exact mixT_effects m l _ _ a' w' hm' hl' hk' hB.2 hla' h'.1 h'.2
    · rw [if_neg hw] at h
      rw [if_neg hw]
      exact ⟨h.1.imp hend id, mixT_effects m l _ _ _ w hm' hl' hk' hB.2 hla' h.1 h.2⟩
theorem wp_region_splitT {id : Nat} {a : Act} {w : World} {l : List Oper} (S : World → Prop) (m : List Bool) (hm : P.follows .mixedOrders = true) (hB : splitT .any l.toArray m = true) (hla : m.getLast? ≠ some true) (hS : S w.drew)
    (hQ : ∀ c a d v w, Q (.panic c) (Act.put a d v) w → Q (.panic c) a w)
    (h : wpQuiet P l.toArray S (fun a' => wpListT P l.toArray S Q (dropB m l) a' w.drew) (pickB m l) a) : (Code.region id l.toArray true).wp P Q a w := by
  simp only [splitT, Bool.and_eq_true, beq_iff_eq] at hB
  obtain ⟨⟨⟨hs, hlen⟩, hR⟩, hE⟩ := hB
  have hlen' : m.length = l.length := by simpa using hlen
  refine wp_region_any hm (anyT (S := S) (last := l.toArray.size - 1) _ _ _ _ ?_)
  have key := mixT_readers (P := P) (Q := Q) (md := .any) (last := l.toArray.size - 1) (w := w.drew) (n := (m.filter (!·)).length) hs hS hQ m l 0 (Array.replicate l.toArray.size false) a (fun j => by simp) hlen' hR
    (fun a' ha' => mixT_effects m l 0 _ a' w.drew hlen' (fun j => by simp) (by simp) hE hla (.inr hS) ha') h
  rw [filter_both, hlen] at key
  exact key
def oneByT (S : Prop → World → Prop) (N : Act → World → Prop) (Q : Exit → Act → World → Prop) (E : Prop) : Exit → Act → World → Prop
  | .normal, a, w => S E w ∧ N a w
  | .exit i, a, w => Q (.exit i) a w
  | .goto l, a, w => Q (.goto l) a w
  | .ret, a, w => Q .ret a w
  | .panic c, a, w => Q (.panic c) a w
  | .outgrown, a, w => Q .outgrown a w
theorem upon_oneByT {S' : Prop → World → Prop} {E : Prop} {N : Act → World → Prop} {o : Oper} {a : Act} {K : Act → World → Prop} {r : Result Next} : o.upon P a K (oneByT S' N Q E) r = o.upon P a K Q r := by
  cases r with
  | ok n w' => cases n <;> rfl
  | halt x w' => cases x <;> rfl
theorem wpListT_step {o o2 : Oper} {rest : List Oper} {a : Act} {w : World} (h : ∀ Q', (∀ a' w', S w' ∧ wpListT P ops S Q (o2 :: rest) a' w' → Q' .normal a' w') → wpList P ops Q' [o] a w) : wpListT P ops S Q (o :: o2 :: rest) a w := by
  have h1 := h (oneByT (fun _ w => S w) (wpListT P ops S Q (o2 :: rest)) Q True) (fun _ _ h => h)
  rw [wpListT]
  rw [wpList] at h1
  split
  · rename_i hw
    rw [if_pos hw] at h1
    rcases h1 with h1 | h1
    · refine .inl ?_
      unfold Oper.wp at h1 ⊢
      rw [upon_oneByT] at h1
      have : (wpList P ops (oneByT (fun _ w => S w) (wpListT P ops S Q (o2 :: rest)) Q True) []) = fun a' w' => S w' ∧ wpListT P ops S Q (o2 :: rest) a' w' := rfl
      rw [this] at h1
      exact Oper.wp_mono (fun a' w' h' => ⟨.inr h'.1, h'.2⟩) h1
    · exact .inr h1
  · rename_i hw
    rw [if_neg hw] at h1
    exact ⟨.inr h1.1, h1.2⟩
theorem wpListT_last {o : Oper} {a : Act} {w : World} (h : ∀ Q', (∀ a' w', Q .normal a' w' → Q' .normal a' w') → wpList P ops Q' [o] a w) : wpListT P ops S Q [o] a w := by
  have h1 := h (oneByT (fun _ _ => True) (Q .normal) Q True) (fun _ _ h => ⟨trivial, h⟩)
  rw [wpListT]
  rw [wpList] at h1
  split
  · rename_i hw
    rw [if_pos hw] at h1
    rcases h1 with h1 | h1
    · refine .inl ?_
      unfold Oper.wp at h1 ⊢
      rw [upon_oneByT] at h1
      have : (wpList P ops (oneByT (fun _ _ => True) (Q .normal) Q True) []) = fun a' w' => True ∧ Q .normal a' w' := rfl
      rw [this] at h1
      exact Oper.wp_mono (fun a' w' h' => ⟨.inl rfl, h'.2⟩) h1
    · exact .inr h1
  · rename_i hw
    rw [if_neg hw] at h1
    exact ⟨.inl rfl, h1.2⟩
end
end Go.Proofs.Ytimjccfpobhpeaa
namespace Go.Proofs.Ytimjccfpobhpeaa
open Go.RowKit Go.Proofs.YtimjccfpobhpeaaW.PrintWords Go.Proofs.Ytimjccfpobhpeaa.PF
set_option maxRecDepth 100000
abbrev kLoad := k77
abbrev Load := S77
theorem info_load : (Try.prog.info? 77).map (fun i => (i.zero, i.size, i.bytes)) = some (some (.agg #[.int .i64 0, .int .i64 0, .int .i64 0]), 3, 24) := by kernel_rfl
instance (w : World) (G : Nat → Prop) : Nonempty (But w G) := ⟨But.refl w G⟩
def useF (rows : List (List Load)) (net : Int) (l : Load) : List (List Load) := rows.set net.toNat (rows.getD net.toNat [] ++ [l])
set_option maxHeartbeats 4000000 in
theorem use_calls (g base : Nat) (w0 w : World) (v : Value) (rows : List (List Load)) (net : Int) (l : Load) (hb : w.heap[g]? = some (.cells #[v] 70 (0, 0)))
    (hS : Kd.S (Kd.slice 77 kLoad) 75 w base (fun _ => True) v rows) (h0 : 0 ≤ net) (h1 : net < rows.length) (hl : ((rows.getD net.toNat []).length + 1) * 24 ≤ 140737488355328) (hbase : base ≤ w.heap.size) (hB : Below base w0 w) :
    Calls Try.prog 53 #[.int .i64 net, .agg #[.int .i64 l.f0, .int .i64 l.f1, .int .i64 l.f2], .pointer (some ⟨g, 0, none⟩)] w fun e w' => e = .returned (.tuple #[]) ∧
      w'.heap[g]? = some (.cells #[v] 70 (0, 0)) ∧ Kd.S (Kd.slice 77 kLoad) 75 w' base (fun _ => True) v (useF rows net l) ∧ Below base w0 w' ∧ w.heap.size ≤ w'.heap.size ∧
      ∀ (k : Nat) (t : TypeId) (cs : Array Value), w.heap[k]? = some (.cells cs t (0, 0)) → t ≠ 75 → t ≠ 77 → w'.heap[k]? = w.heap[k]? := by
  have hu := Try.underlying77
  have hg : g < w.heap.size := (Array.getElem?_eq_some_iff.1 hb).1
  have hc0 := cell_of_row w g 0 _ _ _ hb
  simp at hc0
  have hpos : 0 < rows.length := by omega
  obtain ⟨gv, cap, rfl, hgv, hgvl, cells, hgvb⟩ := Kd.S_form hS hpos
  have hne : g ≠ gv := by
    rintro rfl
    rw [hb] at hgvb
    injection hgvb with hgvb
    injection hgvb with _ hgvb
    exact absurd hgvb (by decide)
  have hS1 := Kd.S_drew (Kd.S_alloc hS (.cells #[.int .i64 l.f0, .int .i64 l.f1, .int .i64 l.f2] 77))
  have hgvl2 : gv ≤ w.heap.size := by omega
  have hgvn : gv ≠ w.heap.size := by omega
  have hgn : g ≠ w.heap.size := by omega
  unfold useF
  obtain ⟨ri, hri⟩ : ∃ ri, rows.getD net.toNat [] = ri := ⟨_, rfl⟩
  rw [hri] at hl ⊢
  have hrih := Lib.hid hri
  obtain ⟨oki, c, hcl, hM, hcc, hfr, hoki, hH⟩ := Kd.S_elem hS [] net h0 h1
  rw [hri] at hM
  clear hri
  obtain ⟨vi, rfl, hR⟩ := hM
  have hci := hcc 0 vi rfl
  simp only [Kd.slice, Nat.mul_one, Nat.add_zero] at hci
  obtain ⟨oi, hoi⟩ : ∃ oi, vi.ownBlock = oi := ⟨_, rfl⟩
  have hoil : ∀ k, oi = some k → k < w.heap.size ∧ k ≠ gv ∧ k ≠ g := by
    intro k hk
    have h1 := hoki k (hR.1 k (hoi.trans hk))
    obtain ⟨cells, ht⟩ := Kd.R_typed hR k (hoi.trans hk)
    have hk0 := Kd.R_lt hR k (hoi.trans hk)
    refine ⟨hk0, h1.2, ?_⟩
    rintro rfl
    rw [hb] at ht
    injection ht with ht
    injection ht with _ ht
    exact absurd ht (by decide)
  have n1 : ¬ oi = some gv := fun e => (hoil _ e).2.1 rfl
  have n2 : ¬ oi = some g := fun e => (hoil _ e).2.2 rfl
  have n3 : ¬ oi = some w.heap.size := fun e => by have := (hoil _ e).1; omega
  obtain ⟨Ai, ci, rfl⟩ := Kd.Xd hR
  have hRh := Lib.hid hR
  have hoih := Lib.hid hoi
  clear hR hoi
  go_enter Try.func53, Try.ntmps53
  go_wp2
  refine wp_region_splitT (fun w' => ∃ x : But (w.alloc (.cells #[.int .i64 l.f0, .int .i64 l.f1, .int .i64 l.f2] 77)) (fun k => oi = some k), w' = x.val) [true, true, true, true, true, true, true, false, false, false, false] (by kernel_rfl) (by kernel_rfl) (by decide) ⟨(But.refl _ _).drew, rfl⟩ (fun _ _ d _ _ h => by cases d <;> exact h) ?_
  simp only [pickB, dropB]
  repeat (go_big_quiet_step (fail))
  refine wpQuiet_nil ?_
  refine wpListT_step (fun Q' hQ' => ?_)
  go_wp2_with fail
  refine ⟨⟨((But.refl _ _).drew).alloc _, rfl⟩, ?_⟩
  refine wpListT_step (fun Q' hQ' => ?_)
  have hW : Is w (w.alloc (.cells #[.int .i64 l.f0, .int .i64 l.f1, .int .i64 l.f2] 77)).drew := ((Is.refl w).alloc _).drew
  have hR2 := Kd.Zr hRh.out hW.below
  have hp : kLoad.M (w.alloc (.cells #[.int .i64 l.f0, .int .i64 l.f1, .int .i64 l.f2] 77)).drew base (fun _ => False) l [.int .i64 l.f0, .int .i64 l.f1, .int .i64 l.f2] := k77_mkM _ _ _ l
  rw [show ((w.alloc (.cells #[.int .i64 l.f0, .int .i64 l.f1, .int .i64 l.f2] 77)).alloc (.cells #[.int .i64 l.f0, .int .i64 l.f1, .int .i64 l.f2] 77)).drew = ((w.alloc (.cells #[.int .i64 l.f0, .int .i64 l.f1, .int .i64 l.f2] 77)).drew).alloc (.cells #[.int .i64 l.f0, .int .i64 l.f1, .int .i64 l.f2] 77) from rfl]
  have hwid := Kd.H_widen hH
  have hsz : (w.alloc (.cells #[.int .i64 l.f0, .int .i64 l.f1, .int .i64 l.f2] 77)).drew.heap.size = w.heap.size + 1 := by simp
  have hR2' := Kd.Xj (ok' := fun k => oki k ∨ True ∧ w.heap.size ≤ k) hR2 (fun k hk => .inl hk)
  refine Kd.R_append kLoad (w0 := w0) base rfl (.tmp 10) (.tmp 12) 75 77 _ 24 rfl Try.underlying75 info_load rfl (by decide) (by decide) _ _ l _ (fun k => oki k ∨ True ∧ w.heap.size ≤ k) (fun _ => False) rfl (by rw [hsz]; rfl) hp (fun k h => h.elim) (fun k hk => .inr ⟨trivial, by omega⟩) hR2' ((hB.alloc hbase _).drew) (by omega) hl ?_
  intro v1 w1 hR3 hB3 hg3 hat3
  refine wpList_nil ?_
  refine hQ' _ _ ⟨?_, ?_⟩
  · refine ⟨⟨w1, hg3.os.trans rfl, hg3.tape.trans rfl, hg3.output.trans rfl, Nat.le_trans (by simp) hg3.size, fun k hk hG => (hg3.block k hk (fun e => hG (hoih.out ▸ e.symm))).trans rfl⟩, rfl⟩
  have hH3 := Kd.H_grown (Kd.H_below hwid hW.below) hg3 (fun k hk => .inl ((hRh.out.1 k hk)))
  obtain ⟨A3, c3, rfl⟩ := Kd.Xd hR3
  rw [show (ri ++ [l]).length = ri.length + 1 by simp] at hR3
  have hgv3 : gv < w1.heap.size := Nat.lt_of_lt_of_le hgvl (Nat.le_trans (by simp) hg3.size)
  refine wpListT_step (fun Q' hQ' => ?_)
  go_wp2_with fail
  refine ⟨⟨⟨w1, hg3.os.trans rfl, hg3.tape.trans rfl, hg3.output.trans rfl, Nat.le_trans (by simp) hg3.size, fun k hk hG => (hg3.block k hk (fun e => hG (hoih.out ▸ e.symm))).trans rfl⟩, rfl⟩, ?_⟩
  refine wpListT_last (fun Q' hQ' => ?_)
  refine Kd.H_store (Kd.slice 77 kLoad) (w0 := w0) base rfl rfl 75 (.tmp 14) (.tmp 13) rfl 75 net 0 rows (ri ++ [l]) (.slice A3 (ri.length + 1) c3) [.slice A3 (ri.length + 1) c3] _ (fun _ => True) _ _ rfl (by simp [Kd.slice]) rfl rfl (by kernel_rfl) (by simp [Value.oneCell']) hH3 h0 h1 (by simp [Kd.slice]) ⟨_, rfl, hR3⟩ (fun k hk => hk) hB3 ?_
  intro w2 hS2 hB2 hg2
  refine wpList_nil ?_
  refine hQ' _ _ ?_
  go_end0
  refine ⟨rfl, ?_, hS2, hB2, Nat.le_trans (Nat.le_trans (by simp) hg3.size) hg2.size, fun k t cs hk ht1 ht2 => ?_⟩
  rotate_left
  · have hkl := (Array.getElem?_eq_some_iff.1 hk).1
    have e1 := hg2.block k (Nat.lt_of_lt_of_le hkl (Nat.le_trans (by simp) hg3.size)) (fun e => by
      injection e with e
      subst e
      rw [hgvb] at hk
      injection hk with hk
      injection hk with _ hk
      exact ht1 hk.symm)
    have e2 := hg3.block k (by rw [hsz]; omega) (fun e => by
      obtain ⟨_, ht⟩ := Kd.R_typed hRh.out k e.symm
      rw [hk] at ht
      injection ht with ht
      injection ht with _ ht
      exact ht2 ht)
    exact e1.trans (e2.trans (Below.heap_alloc w _ k hkl))
  have e1 := hg2.block g (Nat.lt_of_lt_of_le hg (Nat.le_trans (by simp) hg3.size)) (fun e => hne (by injection e))
  have e2 := hg3.block g (by rw [hsz]; omega) (fun e => n2 (hoih.out ▸ e.symm))
  exact e1.trans (e2.trans ((Below.heap_alloc w _ g hg).trans hb))
end Go.Proofs.Ytimjccfpobhpeaa
namespace Go.Proofs.Ytimjccfpobhpeaa
open Go.RowKit
section
variable {P : Program} {ops : Array Oper} {S : World → Prop} {Q : Exit → Act → World → Prop} {md : Region.Mode} {last : Nat}
theorem wpOp_of_list {o : Oper} {i : Nat} {a : Act} {w : World} {N : Act → World → Prop} (hi : ops[i]? = some o) (h : ∀ Q', (∀ a' w', N a' w' → Q' .normal a' w') → wpList P ops Q' [o] a w) : wpOp P ops Q i N a w := by
  have h1 := h (oneByT (fun _ _ => True) N Q True) (fun _ _ h => ⟨trivial, h⟩)
  unfold wpOp
  simp only [hi]
  rw [wpList] at h1
  split
  · rename_i hw
    rw [if_pos hw] at h1
    rcases h1 with h1 | h1
    · refine .inl ?_
      unfold Oper.wp at h1 ⊢
      rw [upon_oneByT] at h1
      have : (wpList P ops (oneByT (fun _ _ => True) N Q True) []) = fun a' w' => True ∧ N a' w' := rfl
      rw [this] at h1
      exact Oper.wp_mono (fun a' w' h' => h'.2) h1
    · exact .inr h1
  · rename_i hw
    rw [if_neg hw] at h1
    exact h1.2
theorem anyT_end {a : Act} {w : World} {L : Array Bool} (hr : Region.ready md ops L = []) (h : Q .normal a w) : wpAnyT P md ops Q S last 0 L a w := ⟨hr, h⟩
theorem Qr {i : Nat} {o : Oper} {fuel : Nat} {a : Act} {w : World} {L : Array Bool} (L' : Array Bool) (hr : Region.ready md ops L = [i]) (hi : ops.toList[i]? = some o) (hL : L.setIfInBounds i true = L')
    (h : ∀ Q', (∀ a' w', (i = last ∨ S w') ∧ wpAnyT P md ops Q S last fuel L' a' w' → Q' .normal a' w') → wpList P ops Q' [o] a w) : wpAnyT P md ops Q S last (fuel + 1) L a w := by
  refine ⟨fun h0 => absurd (hr ▸ h0) (by simp), fun k hk => ?_⟩
  rw [hr, List.mem_singleton] at hk
  subst hk
  rw [hL]
  exact wpOp_of_list (by simpa using hi) h
theorem anyT_two {i j : Nat} {o1 o2 : Oper} {fuel : Nat} {a : Act} {w : World} {L : Array Bool} (L1 L2 : Array Bool) (hr : Region.ready md ops L = [i, j]) (hi : ops.toList[i]? = some o1) (hj : ops.toList[j]? = some o2) (hL1 : L.setIfInBounds i true = L1) (hL2 : L.setIfInBounds j true = L2)
    (h1 : ∀ Q', (∀ a' w', (i = last ∨ S w') ∧ wpAnyT P md ops Q S last fuel L1 a' w' → Q' .normal a' w') → wpList P ops Q' [o1] a w)
    (h2 : ∀ Q', (∀ a' w', (j = last ∨ S w') ∧ wpAnyT P md ops Q S last fuel L2 a' w' → Q' .normal a' w') → wpList P ops Q' [o2] a w) : wpAnyT P md ops Q S last (fuel + 1) L a w := by
  refine ⟨fun h0 => absurd (hr ▸ h0) (by simp), fun k hk => ?_⟩
  rw [hr] at hk
  rcases List.mem_cons.1 hk with rfl | hk
  · rw [hL1]
    exact wpOp_of_list (by simpa using hi) h1
  · rw [List.mem_singleton] at hk
    subst hk
    rw [hL2]
    exact wpOp_of_list (by simpa using hj) h2
def splitA (md : Region.Mode) (ops : Array Oper) (m : List Bool) : Bool :=
  Region.noSelect ops && (m.length == ops.size) && readersT md ops (ops.size - 1) m 0 (Array.replicate ops.size false)
theorem wp_region_splitA {id : Nat} {a : Act} {w : World} {l : List Oper} (S : World → Prop) (m : List Bool) (n : Nat) (L : Array Bool) (hm : P.follows .mixedOrders = true) (hB : splitA .any l.toArray m = true)
    (hn : (m.filter (!·)).length = n) (hL : listedB m 0 (Array.replicate l.toArray.size false) = L) (hS : S w.drew)
    (hQ : ∀ c a d v w, Q (.panic c) (Act.put a d v) w → Q (.panic c) a w)
    (h : wpQuiet P l.toArray S (fun a' => wpAnyT P .any l.toArray Q S (l.length - 1) n L a' w.drew) (pickB m l) a) : (Code.region id l.toArray true).wp P Q a w := by
  simp only [splitA, Bool.and_eq_true, beq_iff_eq] at hB
  obtain ⟨⟨hs, hlen⟩, hR⟩ := hB
  have hlen' : m.length = l.length := by simpa using hlen
  refine wp_region_any hm (anyT (S := S) (last := l.toArray.size - 1) _ _ _ _ ?_)
  have key := mixT_readers (P := P) (Q := Q) (md := .any) (last := l.toArray.size - 1) (w := w.drew) (n := (m.filter (!·)).length) hs hS hQ m l 0 (Array.replicate l.toArray.size false) a (fun j => by simp) hlen' hR
    (G := fun a' => wpAnyT P .any l.toArray Q S (l.length - 1) n L a' w.drew) (fun a' ha' => by rw [hn, hL]; simpa using ha') h
  rw [filter_both, hlen] at key
  exact key
end
end Go.Proofs.Ytimjccfpobhpeaa
namespace Go.Proofs.Ytimjccfpobhpeaa
open Go.RowKit Go.Proofs.YtimjccfpobhpeaaW.PrintWords Go.Proofs.Ytimjccfpobhpeaa.PF
set_option maxRecDepth 100000
theorem heap_alloc2_new (w : World) (A B : Obj) : ((w.alloc A).alloc B).heap[w.heap.size + 1]? = some B := by
  have := heap_alloc_new (w.alloc A) B
  simpa using this
abbrev Gate := Kr
abbrev Flop := S82
abbrev kGate := k80
abbrev kFlop := k82
def Under.setCell {w : World} (x : Under w) (p : Addr) (hp : w.heap.size ≤ p.block) (u : Value) : Under w := ⟨x.val.setCell p u, x.ok.setCell hp u⟩
theorem set5 {w : World} {g : Nat} {t : TypeId} {a0 a1 a2 a3 a4 : Value} (u0 u1 u2 u3 u4 : Value) (hb : w.heap[g]? = some (.cells #[a0, a1, a2, a3, a4] t (0, 0))) :
    (((((w.setCell ⟨g, 0, none⟩ u0).setCell ⟨g, 1, none⟩ u1).setCell ⟨g, 2, none⟩ u2).setCell ⟨g, 3, none⟩ u3).setCell ⟨g, 4, none⟩ u4).heap[g]? = some (.cells #[u0, u1, u2, u3, u4] t (0, 0)) ∧
    ∀ k, k ≠ g → (((((w.setCell ⟨g, 0, none⟩ u0).setCell ⟨g, 1, none⟩ u1).setCell ⟨g, 2, none⟩ u2).setCell ⟨g, 3, none⟩ u3).setCell ⟨g, 4, none⟩ u4).heap[k]? = w.heap[k]? := by
  constructor
  · have h0 := heap_setCell_same w g 0 _ _ u0 hb
    have h1 := heap_setCell_same _ g 1 _ _ u1 h0
    have h2 := heap_setCell_same _ g 2 _ _ u2 h1
    have h3 := heap_setCell_same _ g 3 _ _ u3 h2
    have h4 := heap_setCell_same _ g 4 _ _ u4 h3
    simpa using h4
  · intro k hk
    exact ((((Below.heap_setCell _ ⟨g, 4, none⟩ u4 k hk).trans (Below.heap_setCell _ ⟨g, 3, none⟩ u3 k hk)).trans (Below.heap_setCell _ ⟨g, 2, none⟩ u2 k hk)).trans (Below.heap_setCell _ ⟨g, 1, none⟩ u1 k hk)).trans (Below.heap_setCell w ⟨g, 0, none⟩ u0 k hk)
def flagK (w0 : World) : Kd (List Int × Bool) where
  sz := 1
  E := [3]
  K := fun w x cs => (x.2 = true → (Kd.slice 3 (Kd.int .i64)).K w x.1 cs) ∧ (x.2 = false → (Kd.slice 3 (Kd.int .i64)).K w0 x.1 cs)
  M := fun w base ok x cs => (x.2 = true → (Kd.slice 3 (Kd.int .i64)).M w base ok x.1 cs) ∧ (x.2 = false → (Kd.slice 3 (Kd.int .i64)).K w0 x.1 cs)
  K_len := fun {w x cs} h => by
    cases hx : x.2 with
    | true => exact (Kd.slice 3 (Kd.int .i64)).K_len (h.1 hx)
    | false => exact (Kd.slice 3 (Kd.int .i64)).K_len (h.2 hx)
  K_one := fun {w x cs} h => by
    cases hx : x.2 with
    | true => exact (Kd.slice 3 (Kd.int .i64)).K_one (h.1 hx)
    | false => exact (Kd.slice 3 (Kd.int .i64)).K_one (h.2 hx)
  K_below := fun hb h => ⟨fun hx => (Kd.slice 3 (Kd.int .i64)).K_below hb (h.1 hx), h.2⟩
  K_of_M := fun h => ⟨fun hx => (Kd.slice 3 (Kd.int .i64)).K_of_M (h.1 hx), h.2⟩
  M_mono := fun hok h => ⟨fun hx => (Kd.slice 3 (Kd.int .i64)).M_mono hok (h.1 hx), h.2⟩
  M_bound := fun h => ⟨fun hx => (Kd.slice 3 (Kd.int .i64)).M_bound (h.1 hx), h.2⟩
  M_move := fun hm h => ⟨fun hx => (Kd.slice 3 (Kd.int .i64)).M_move hm (h.1 hx), h.2⟩
  M_lower := fun hb h => ⟨fun hx => (Kd.slice 3 (Kd.int .i64)).M_lower hb (h.1 hx), h.2⟩
def kGateM (w0 : World) : Kd (Gate × Bool) := Kd.iso (Kd.pair (Kd.int .i64) (Kd.pair (Kd.int .u64) (flagK w0))) (fun x : Gate × Bool => (x.1.f0, x.1.f1, (x.1.f2, x.2)))
theorem kGateM_old {w0 w : World} {base : Nat} {ok : Nat → Prop} {x : Gate} {cs : List Value} (h : (kGateM w0).M w base ok (x, false) cs) : ∃ A2 c2, cs = [.int .i64 x.f0, .int .u64 x.f1, .slice A2 x.f2.length c2] ∧ (Kd.int .i64).C w0 A2 x.f2.length x.f2 := by
  obtain ⟨_, _, rfl, rfl, ⟨_, _, rfl, rfl, h2⟩⟩ := h
  obtain ⟨A2, c2, rfl, _, hc⟩ := h2.2 rfl
  exact ⟨A2, c2, rfl, hc⟩
theorem kGateM_new {w0 w : World} {base : Nat} {ok : Nat → Prop} {x : Gate} {v : Value} (h : (Kd.int .i64).R 3 w base ok v x.f2) : (kGateM w0).M w base ok (x, true) [.int .i64 x.f0, .int .u64 x.f1, v] :=
  ⟨[_], [_, _], rfl, rfl, [_], [_], rfl, rfl, fun _ => ⟨v, rfl, h⟩, fun h => absurd h (by simp)⟩
theorem kGateM_done {w0 w : World} {base : Nat} {ok : Nat → Prop} {x : Gate} {cs : List Value} (h : (kGateM w0).M w base ok (x, true) cs) : kGate.M w base ok x cs := by
  obtain ⟨_, _, rfl, rfl, ⟨_, _, rfl, rfl, h2⟩⟩ := h
  exact ⟨[_], _, rfl, rfl, [_], _, rfl, rfl, h2.1 rfl⟩
theorem zip_map {α β : Type} (g : α → β) (xs : List α) (j : Nat) {p : β × Nat} (h : (xs.map g).zipIdx[j]? = some p) : ∃ x, xs[j]? = some x ∧ p = (g x, j) := by
  rw [List.getElem?_zipIdx, Nat.zero_add, List.getElem?_map] at h
  cases hx : xs[j]? with
  | none => rw [hx] at h; simp at h
  | some x => rw [hx] at h; simp at h; exact ⟨x, rfl, h.symm⟩
theorem gates_start {w0 w : World} {B : Nat} {ok : Nat → Prop} {v : Value} {xs : List Gate} (h : Kd.R (kGateF w0) 80 w B (fun _ => True) v xs) (hv : ∀ k, v.ownBlock = some k → ok k) :
    Kd.S (kGateM w0) 80 w B ok v (xs.map fun x => (x, false)) := by
  obtain ⟨_, inner, ho, hr⟩ := h
  refine ⟨fun _ => 0, hv, inner, by rw [List.length_zipIdx, List.length_map]; exact ho, ⟨by rw [List.length_zipIdx, List.length_map]; exact hr.1, fun j p hp => ?_⟩⟩
  obtain ⟨x, hx, rfl⟩ := zip_map _ _ _ hp
  obtain ⟨_, _, e1, h1, ⟨_, _, e2, h2, h3⟩⟩ := hr.2 j x hx
  exact ⟨_, _, e1, h1, _, _, e2, h2, fun h => absurd h (by simp), fun _ => h3⟩
theorem gates_end {w0 w : World} {B : Nat} {ok : Nat → Prop} {v : Value} {xs : List Gate} (h : Kd.S (kGateM w0) 80 w B ok v (xs.map fun x => (x, true))) : Kd.S kGate 80 w B ok v xs := by
  obtain ⟨f, hv, inner, ho, hr⟩ := h
  have hl : (List.map (fun x => (x, true)) xs).zipIdx.length = xs.zipIdx.length := by simp
  refine ⟨f, hv, inner, by rw [← hl]; exact ho, ⟨by rw [← hl]; exact hr.1, fun j p hp => ?_⟩⟩
  have hp' : (xs.map id).zipIdx[j]? = some p := by rw [List.map_id]; exact hp
  obtain ⟨x, hx, rfl⟩ := zip_map id xs j hp'
  have := hr.2 j ((x, true), j) (by rw [List.getElem?_zipIdx, List.getElem?_map, hx]; simp)
  exact kGateM_done this
theorem flags_set {l : List Gate} {i : Nat} {x : Gate} (h : l[i]? = some x) : ((l.take i).map (fun x => (x, true)) ++ (l.drop i).map (fun x => (x, false))).set i (x, true) = (l.take (i + 1)).map (fun x => (x, true)) ++ (l.drop (i + 1)).map (fun x => (x, false)) := by
  have hi : i < l.length := (List.getElem?_eq_some_iff.1 h).1
  have hl : ((l.take i).map (fun x => (x, true))).length = i := by rw [List.length_map, List.length_take]; omega
  rw [drop_cons h, List.take_add_one, h, Option.toList_some, List.map_append, List.map_cons]
  generalize hA : (l.take i).map (fun x => (x, true)) = A at *
  subst hl
  rw [List.set_append_right A.length (x, true) (Nat.le_refl _), Nat.sub_self, List.set_cons_zero]
  simp
structure NetV (B : Nat) (w : World) (g : Nat) (v0 v1 v2 v3 v4 : Value) (l0 l1 : List ByteArray) (l2 : List Flop) (l4 : List Int) : Prop where
  blk : w.heap[g]? = some (.cells #[v0, v1, v2, v3, v4] 27 (0, 0))
  gB : B ≤ g
  r0 : Kd.R Kd.string 9 w B (fun _ => True) v0 l0
  r1 : Kd.R Kd.string 9 w B (fun _ => True) v1 l1
  r2 : Kd.R kFlop 82 w B (fun _ => True) v2 l2
  r4 : Kd.R (Kd.int .i64) 3 w B (fun _ => True) v4 l4
  n01 : ∀ k, v0.ownBlock = some k → v1.ownBlock ≠ some k
theorem NetV.below {B : Nat} {w w1 : World} {g : Nat} {v0 v1 v2 v3 v4 : Value} {l0 l1 : List ByteArray} {l2 : List Flop} {l4 : List Int} (h : NetV B w g v0 v1 v2 v3 v4 l0 l1 l2 l4) (hb : Below w.heap.size w w1) : NetV B w1 g v0 v1 v2 v3 v4 l0 l1 l2 l4 :=
  ⟨(hb.block g (Array.getElem?_eq_some_iff.1 h.blk).1).trans h.blk, h.gB, Kd.Zr h.r0 hb, Kd.Zr h.r1 hb, Kd.Zr h.r2 hb, Kd.Zr h.r4 hb, h.n01⟩
theorem NetV.gates {B : Nat} {w w1 : World} {g gg : Nat} {v0 v1 v2 v3 v4 : Value} {l0 l1 : List ByteArray} {l2 : List Flop} {l4 : List Int} (h : NetV B w g v0 v1 v2 v3 v4 l0 l1 l2 l4) {cells : Array Value} (hc : w.heap[gg]? = some (.cells cells 80 (0, 0))) (hg : w.grownBy w1 (some gg)) : NetV B w1 g v0 v1 v2 v3 v4 l0 l1 l2 l4 := by
  have mv : ∀ {α : Type} {d : Kd α} {e : Nat} {v : Value} {xs : List α}, Kd.R d e w B (fun _ => True) v xs → (∀ q, q ∈ e :: d.E → q ≠ 80) → Kd.R d e w1 B (fun _ => True) v xs := fun h ht =>
    Kd.Xj (Kd.R_step (Kd.Qz h hc ht) (fun k hk hl => hg.block k hl (fun e => hk.2 (by injection e)))) (fun _ _ => trivial)
  have hne : g ≠ gg := by
    rintro rfl
    have := h.blk
    rw [hc] at this
    injection this with this
    injection this with _ this
    exact absurd this (by decide)
  exact ⟨(hg.block g (Array.getElem?_eq_some_iff.1 h.blk).1 (fun e => hne (by injection e))).trans h.blk, h.gB, mv h.r0 (by decide), mv h.r1 (by decide), mv h.r2 (by decide), mv h.r4 (by decide), h.n01⟩
structure CopyV (w0 : World) (B : Nat) (w : World) (g : Nat) (v0 v1 v2 v3 v4 : Value) (l0 l1 : List ByteArray) (l2 : List Flop) (l3 : List Gate) (l4 : List Int) : Prop where
  blk : w.heap[g]? = some (.cells #[v0, v1, v2, v3, v4] 27 (0, 0))
  gB : B ≤ g
  r0 : Kd.R Kd.string 9 w B (fun _ => True) v0 l0
  r1 : Kd.R Kd.string 9 w B (fun _ => True) v1 l1
  r2 : Kd.R kFlop 82 w B (fun _ => True) v2 l2
  r3 : Kd.R (kGateF w0) 80 w B (fun _ => True) v3 l3
  r4 : Kd.R (Kd.int .i64) 3 w B (fun _ => True) v4 l4
  n01 : ∀ k, v0.ownBlock = some k → v1.ownBlock ≠ some k
theorem CopyV.set {w0 : World} {B : Nat} {w : World} {g : Nat} {v0 v1 v2 v3 v4 a0 a1 a2 a3 a4 : Value} {l0 l1 : List ByteArray} {l2 : List Flop} {l3 : List Gate} {l4 : List Int}
    (hb : w.heap[g]? = some (.cells #[a0, a1, a2, a3, a4] 27 (0, 0))) (gB : B ≤ g) (r0 : Kd.R Kd.string 9 w B (fun _ => True) v0 l0) (r1 : Kd.R Kd.string 9 w B (fun _ => True) v1 l1)
    (r2 : Kd.R kFlop 82 w B (fun _ => True) v2 l2) (r3 : Kd.R (kGateF w0) 80 w B (fun _ => True) v3 l3) (r4 : Kd.R (Kd.int .i64) 3 w B (fun _ => True) v4 l4)
    (n01 : ∀ k, v0.ownBlock = some k → v1.ownBlock ≠ some k) :
    CopyV w0 B (((((w.setCell ⟨g, 0, none⟩ v0).setCell ⟨g, 1, none⟩ v1).setCell ⟨g, 2, none⟩ v2).setCell ⟨g, 3, none⟩ v3).setCell ⟨g, 4, none⟩ v4) g v0 v1 v2 v3 v4 l0 l1 l2 l3 l4 := by
  obtain ⟨hs, ho⟩ := set5 v0 v1 v2 v3 v4 hb
  have mv : ∀ {α : Type} {d : Kd α} {e : Nat} {v : Value} {xs : List α}, Kd.R d e w B (fun _ => True) v xs → (∀ q, q ∈ e :: d.E → q ≠ 27) → Kd.R d e _ B (fun _ => True) v xs := fun h ht =>
    Kd.Xj (Kd.R_step (Kd.Qz h hb ht) (fun k hk _ => ho k hk.2)) (fun _ _ => trivial)
  exact ⟨hs, gB, mv r0 (by decide), mv r1 (by decide), mv r2 (by decide), mv r3 (fun q hq => by have h1 : q ∈ ([80] : List Nat) := hq; clear hq; revert q; decide), mv r4 (by decide), n01⟩
set_option maxHeartbeats 16000000 in
theorem copy_calls (A0 A1 A2 A3 A4 : Option Addr) (c0 c1 c2 c3 c4 : Nat) (l0 l1 : List ByteArray) (l2 : List Flop) (l3 : List Gate) (l4 : List Int) (w : World)
    (h0 : Kd.C Kd.string w A0 l0.length l0) (h1 : Kd.C Kd.string w A1 l1.length l1) (h2 : Kd.C kFlop w A2 l2.length l2) (h3 : Kd.C kGate w A3 l3.length l3) (h4 : Kd.C (Kd.int .i64) w A4 l4.length l4)
    (m0 : l0.length * 16 ≤ 140737488355328) (m1 : l1.length * 16 ≤ 140737488355328) (m2 : l2.length * 48 ≤ 140737488355328) (m3 : l3.length * 40 ≤ 140737488355328) (m4 : l4.length * 8 ≤ 140737488355328) (m5 : ∀ x ∈ l3, x.f2.length * 8 ≤ 140737488355328) :
    Calls Try.prog 29 #[.agg #[.slice A0 l0.length c0, .slice A1 l1.length c1, .slice A2 l2.length c2, .slice A3 l3.length c3, .slice A4 l4.length c4]] w fun e w' => ∃ v0 v1 v2 v3 v4 : Value, e = .returned (.agg #[v0, v1, v2, v3, v4]) ∧
      Kd.R Kd.string 9 w' w.heap.size (fun k => some k ≠ v1.ownBlock) v0 l0 ∧ Kd.R Kd.string 9 w' w.heap.size (fun k => some k ≠ v0.ownBlock) v1 l1 ∧ Kd.R kFlop 82 w' w.heap.size (fun _ => True) v2 l2 ∧
      Kd.S kGate 80 w' w.heap.size (fun k => some k ≠ v4.ownBlock) v3 l3 ∧ Kd.R (Kd.int .i64) 3 w' w.heap.size (fun _ => True) v4 l4 ∧ Below w.heap.size w w' := by
  have hu := Try.underlying27
  have hu0 := Try.underlying22
  have hu2 := Try.underlying23
  have hu3 := Try.underlying24
  have hu4 := Try.underlying25
  have bel : ∀ x : Under ((w.alloc (.cells #[.slice A0 l0.length c0, .slice A1 l1.length c1, .slice A2 l2.length c2, .slice A3 l3.length c3, .slice A4 l4.length c4] 27)).alloc (.cells #[.slice none 0 0, .slice none 0 0, .slice none 0 0, .slice none 0 0, .slice none 0 0] 27)), Below w.heap.size w x.val := fun x => (((Below.refl _ _).alloc (Nat.le_refl _) _).alloc (by simp) _).trans (x.ok.mono (by simp; omega))
  have hsz : ∀ x : Under ((w.alloc (.cells #[.slice A0 l0.length c0, .slice A1 l1.length c1, .slice A2 l2.length c2, .slice A3 l3.length c3, .slice A4 l4.length c4] 27)).alloc (.cells #[.slice none 0 0, .slice none 0 0, .slice none 0 0, .slice none 0 0, .slice none 0 0] 27)), w.heap.size + 2 ≤ x.val.heap.size := fun x => Nat.le_trans (by simp) x.size
  go_enter Try.func29, Try.ntmps29
  go_upto_region 1 with (fail)
  go_cut [3] (fun s wc => ∃ (g : Nat) (v0 v1 v2 v3 v4 : Value) (x : Under ((w.alloc (.cells #[.slice A0 l0.length c0, .slice A1 l1.length c1, .slice A2 l2.length c2, .slice A3 l3.length c3, .slice A4 l4.length c4] 27)).alloc (.cells #[.slice none 0 0, .slice none 0 0, .slice none 0 0, .slice none 0 0, .slice none 0 0] 27))), s = .pointer (some ⟨g, 0, none⟩) ∧ wc = x.val ∧ CopyV w (w.heap.size + 2) x.val g v0 v1 v2 v3 v4 l0 l1 l2 l3 l4)
  case first =>
    refine wp_region_splitA (fun w' => ∃ y : Under ((w.alloc (.cells #[.slice A0 l0.length c0, .slice A1 l1.length c1, .slice A2 l2.length c2, .slice A3 l3.length c3, .slice A4 l4.length c4] 27)).alloc (.cells #[.slice none 0 0, .slice none 0 0, .slice none 0 0, .slice none 0 0, .slice none 0 0] 27)), w' = y.val) [true, true, false, true, true, false, true, true, false, true, true, false, true, true, false, false, false, false] 8 #[true, true, false, true, true, false, true, true, false, true, true, false, true, true, false, false, false, false] (by kernel_rfl) (by kernel_rfl) (by decide) (by decide) ⟨(Under.refl _).drew, rfl⟩ (fun _ _ d _ _ h => by cases d <;> exact h) ?_
    simp only [pickB]
    repeat (go_big_quiet_step (fail))
    refine wpQuiet_nil ?_
    obtain ⟨x0, hx0⟩ : ∃ x : Under ((w.alloc (.cells #[.slice A0 l0.length c0, .slice A1 l1.length c1, .slice A2 l2.length c2, .slice A3 l3.length c3, .slice A4 l4.length c4] 27)).alloc (.cells #[.slice none 0 0, .slice none 0 0, .slice none 0 0, .slice none 0 0, .slice none 0 0] 27)), ((w.alloc (.cells #[.slice A0 l0.length c0, .slice A1 l1.length c1, .slice A2 l2.length c2, .slice A3 l3.length c3, .slice A4 l4.length c4] 27)).alloc (.cells #[.slice none 0 0, .slice none 0 0, .slice none 0 0, .slice none 0 0, .slice none 0 0] 27)).drew = x.val := ⟨(Under.refl _).drew, rfl⟩
    rw [hx0]
    clear hx0
    refine anyT_two (i := 2) (j := 16) #[true, true, true, true, true, false, true, true, false, true, true, false, true, true, false, false, false, false] #[true, true, false, true, true, false, true, true, false, true, true, false, true, true, false, false, true, false] (by kernel_rfl) rfl rfl (by decide) (by decide) (fun Q' hQ' => ?_) (fun Q' hQ' => ?_)
    · skip
      go_wp2_with (go_at_call 30; refine (clone_strs A0 c0 l0 _ (Kd.Zf h0 (bel x0)) m0).mono ?_; rintro e w' ⟨v0, rfl, hv0, hB0⟩; obtain ⟨x1, rfl⟩ : ∃ x : Under ((w.alloc (.cells #[.slice A0 l0.length c0, .slice A1 l1.length c1, .slice A2 l2.length c2, .slice A3 l3.length c3, .slice A4 l4.length c4] 27)).alloc (.cells #[.slice none 0 0, .slice none 0 0, .slice none 0 0, .slice none 0 0, .slice none 0 0] 27)), w' = x.val := ⟨⟨_, x0.ok.trans (hB0.mono x0.size)⟩, rfl⟩; have hlo0 := Kd.Xu hv0; replace hv0 := Kd.Xn hv0 (hsz x0); clear hB0 hlo0)
      refine ⟨(by first | exact .inr ⟨x1, rfl⟩ | exact ⟨x1, rfl⟩), ?_⟩
      refine anyT_two (i := 5) (j := 16) #[true, true, true, true, true, true, true, true, false, true, true, false, true, true, false, false, false, false] #[true, true, true, true, true, false, true, true, false, true, true, false, true, true, false, false, true, false] (by kernel_rfl) rfl rfl (by decide) (by decide) (fun Q' hQ' => ?_) (fun Q' hQ' => ?_)
      · skip
        have hlt0 := Kd.R_lt hv0
        go_wp2_with (go_at_call 30; refine (clone_strs A1 c1 l1 _ (Kd.Zf h1 (bel x1)) m1).mono ?_; rintro e w' ⟨v1, rfl, hv1, hB1⟩; obtain ⟨x2, rfl⟩ : ∃ x : Under ((w.alloc (.cells #[.slice A0 l0.length c0, .slice A1 l1.length c1, .slice A2 l2.length c2, .slice A3 l3.length c3, .slice A4 l4.length c4] 27)).alloc (.cells #[.slice none 0 0, .slice none 0 0, .slice none 0 0, .slice none 0 0, .slice none 0 0] 27)), w' = x.val := ⟨⟨_, x1.ok.trans (hB1.mono x1.size)⟩, rfl⟩; replace hv0 := Kd.Zr hv0 hB1; have hlo1 := Kd.Xu hv1; replace hv1 := Kd.Xn hv1 (hsz x1); have n01 : ∀ k, v0.ownBlock = some k → v1.ownBlock ≠ some k := fun k hk e => (by have h5 := hlt0 k hk; have h6 := hlo1 k e; omega); clear hB1 hlo1)
        clear hlt0
        refine ⟨(by first | exact .inr ⟨x2, rfl⟩ | exact ⟨x2, rfl⟩), ?_⟩
        refine anyT_two (i := 8) (j := 16) #[true, true, true, true, true, true, true, true, true, true, true, false, true, true, false, false, false, false] #[true, true, true, true, true, true, true, true, false, true, true, false, true, true, false, false, true, false] (by kernel_rfl) rfl rfl (by decide) (by decide) (fun Q' hQ' => ?_) (fun Q' hQ' => ?_)
        · skip
          go_wp2_with (go_at_call 54; refine (clone_flops A2 c2 l2 _ (Kd.Zf h2 (bel x2)) m2).mono ?_; rintro e w' ⟨v2, rfl, hv2, hB2⟩; obtain ⟨x3, rfl⟩ : ∃ x : Under ((w.alloc (.cells #[.slice A0 l0.length c0, .slice A1 l1.length c1, .slice A2 l2.length c2, .slice A3 l3.length c3, .slice A4 l4.length c4] 27)).alloc (.cells #[.slice none 0 0, .slice none 0 0, .slice none 0 0, .slice none 0 0, .slice none 0 0] 27)), w' = x.val := ⟨⟨_, x2.ok.trans (hB2.mono x2.size)⟩, rfl⟩; replace hv0 := Kd.Zr hv0 hB2; replace hv1 := Kd.Zr hv1 hB2; have hlo2 := Kd.Xu hv2; replace hv2 := Kd.Xn hv2 (hsz x2); clear hB2 hlo2)
          refine ⟨(by first | exact .inr ⟨x3, rfl⟩ | exact ⟨x3, rfl⟩), ?_⟩
          refine anyT_two (i := 11) (j := 16) #[true, true, true, true, true, true, true, true, true, true, true, true, true, true, false, false, false, false] #[true, true, true, true, true, true, true, true, true, true, true, false, true, true, false, false, true, false] (by kernel_rfl) rfl rfl (by decide) (by decide) (fun Q' hQ' => ?_) (fun Q' hQ' => ?_)
          · skip
            go_wp2_with (go_at_call 55; refine (clone_gates A3 c3 l3 w _ (bel x3) h3 m3).mono ?_; rintro e w' ⟨v3, rfl, hv3, hB3⟩; obtain ⟨x4, rfl⟩ : ∃ x : Under ((w.alloc (.cells #[.slice A0 l0.length c0, .slice A1 l1.length c1, .slice A2 l2.length c2, .slice A3 l3.length c3, .slice A4 l4.length c4] 27)).alloc (.cells #[.slice none 0 0, .slice none 0 0, .slice none 0 0, .slice none 0 0, .slice none 0 0] 27)), w' = x.val := ⟨⟨_, x3.ok.trans (hB3.mono x3.size)⟩, rfl⟩; replace hv0 := Kd.Zr hv0 hB3; replace hv1 := Kd.Zr hv1 hB3; replace hv2 := Kd.Zr hv2 hB3; have hlo3 := Kd.Xu hv3; replace hv3 := Kd.Xn hv3 (hsz x3); clear hB3 hlo3)
            refine ⟨(by first | exact .inr ⟨x4, rfl⟩ | exact ⟨x4, rfl⟩), ?_⟩
            refine anyT_two (i := 14) (j := 16) #[true, true, true, true, true, true, true, true, true, true, true, true, true, true, true, false, false, false] #[true, true, true, true, true, true, true, true, true, true, true, true, true, true, false, false, true, false] (by kernel_rfl) rfl rfl (by decide) (by decide) (fun Q' hQ' => ?_) (fun Q' hQ' => ?_)
            · skip
              go_wp2_with (go_at_call 56; refine (clone_ints A4 c4 l4 _ (Kd.Zf h4 (bel x4)) m4).mono ?_; rintro e w' ⟨v4, rfl, hv4, hB4⟩; obtain ⟨x5, rfl⟩ : ∃ x : Under ((w.alloc (.cells #[.slice A0 l0.length c0, .slice A1 l1.length c1, .slice A2 l2.length c2, .slice A3 l3.length c3, .slice A4 l4.length c4] 27)).alloc (.cells #[.slice none 0 0, .slice none 0 0, .slice none 0 0, .slice none 0 0, .slice none 0 0] 27)), w' = x.val := ⟨⟨_, x4.ok.trans (hB4.mono x4.size)⟩, rfl⟩; replace hv0 := Kd.Zr hv0 hB4; replace hv1 := Kd.Zr hv1 hB4; replace hv2 := Kd.Zr hv2 hB4; replace hv3 := Kd.Zr hv3 hB4; have hlo4 := Kd.Xu hv4; replace hv4 := Kd.Xn hv4 (hsz x4); clear hB4 hlo4)
              refine ⟨(by first | exact .inr ⟨x5, rfl⟩ | exact ⟨x5, rfl⟩), ?_⟩
              refine anyT_two (i := 15) (j := 16) #[true, true, true, true, true, true, true, true, true, true, true, true, true, true, true, true, false, false] #[true, true, true, true, true, true, true, true, true, true, true, true, true, true, true, false, true, false] (by kernel_rfl) rfl rfl (by decide) (by decide) (fun Q' hQ' => ?_) (fun Q' hQ' => ?_)
              · skip
                obtain ⟨B0, d0, rfl⟩ := Kd.Xd hv0
                obtain ⟨B1, d1, rfl⟩ := Kd.Xd hv1
                obtain ⟨B2, d2, rfl⟩ := Kd.Xd hv2
                obtain ⟨B3, d3, rfl⟩ := Kd.Xd hv3
                obtain ⟨B4, d4, rfl⟩ := Kd.Xd hv4
                go_wp2_with fail
                refine ⟨(by first | exact .inr ⟨x5, rfl⟩ | exact ⟨x5, rfl⟩), ?_⟩
                refine Qr (i := 16) #[true, true, true, true, true, true, true, true, true, true, true, true, true, true, true, true, true, false] (by kernel_rfl) rfl (by decide) (fun Q' hQ' => ?_)
                go_wp2_with fail
                have hg := heap_alloc_new x5.val (.cells #[.slice none 0 0, .slice none 0 0, .slice none 0 0, .slice none 0 0, .slice none 0 0] 27)
                have hBa := Zn (Below.refl x5.val.heap.size x5.val) (.cells #[.slice none 0 0, .slice none 0 0, .slice none 0 0, .slice none 0 0, .slice none 0 0] 27)
                have hgB := hsz x5
                have hgl : x5.val.heap.size < (x5.val.alloc (.cells #[.slice none 0 0, .slice none 0 0, .slice none 0 0, .slice none 0 0, .slice none 0 0] 27)).heap.size := by simp
                replace hv0 := Kd.Zr hv0 hBa
                replace hv1 := Kd.Zr hv1 hBa
                replace hv2 := Kd.Zr hv2 hBa
                replace hv3 := Kd.Zr hv3 hBa
                replace hv4 := Kd.Zr hv4 hBa
                obtain ⟨x5a, hx5a⟩ : ∃ x : Under ((w.alloc (.cells #[.slice A0 l0.length c0, .slice A1 l1.length c1, .slice A2 l2.length c2, .slice A3 l3.length c3, .slice A4 l4.length c4] 27)).alloc (.cells #[.slice none 0 0, .slice none 0 0, .slice none 0 0, .slice none 0 0, .slice none 0 0] 27)), x5.val.alloc (.cells #[.slice none 0 0, .slice none 0 0, .slice none 0 0, .slice none 0 0, .slice none 0 0] 27) = x.val := ⟨x5.alloc _, rfl⟩
                rw [hx5a] at hg hgl hv0 hv1 hv2 hv3 hv4 ⊢
                clear hx5a hBa
                generalize x5.val.heap.size = g at *
                refine ⟨(by first | exact .inr ⟨x5a, rfl⟩ | exact ⟨x5a, rfl⟩), ?_⟩
                refine Qr (i := 17) #[true, true, true, true, true, true, true, true, true, true, true, true, true, true, true, true, true, true] (by kernel_rfl) rfl (by decide) (fun Q' hQ' => ?_)
                have hgW : (((w.alloc (.cells #[.slice A0 l0.length c0, .slice A1 l1.length c1, .slice A2 l2.length c2, .slice A3 l3.length c3, .slice A4 l4.length c4] 27)).alloc (.cells #[.slice none 0 0, .slice none 0 0, .slice none 0 0, .slice none 0 0, .slice none 0 0] 27)).heap.size) ≤ g := by simp; omega
                have hgc0 : x5a.val.cell? ⟨g, 0, none⟩ = some (.slice none 0 0) := (cell_of_row x5a.val g 0 _ _ _ hg).trans rfl
                have hgc1 : x5a.val.cell? ⟨g, 1, none⟩ = some (.slice none 0 0) := (cell_of_row x5a.val g 1 _ _ _ hg).trans rfl
                have hgc2 : x5a.val.cell? ⟨g, 2, none⟩ = some (.slice none 0 0) := (cell_of_row x5a.val g 2 _ _ _ hg).trans rfl
                have hgc3 : x5a.val.cell? ⟨g, 3, none⟩ = some (.slice none 0 0) := (cell_of_row x5a.val g 3 _ _ _ hg).trans rfl
                have hgc4 : x5a.val.cell? ⟨g, 4, none⟩ = some (.slice none 0 0) := (cell_of_row x5a.val g 4 _ _ _ hg).trans rfl
                have hfz : ∀ j, x5a.val.frozen? ⟨g, j, none⟩ = false := fun j => frozen_of_row _ _ _ _ _ hg
                go_wp2_with fail
                refine ⟨(by first | exact .inl rfl | exact by kernel_rfl), ?_⟩
                refine anyT_end (by kernel_rfl) ?_
                go_wp2
                have hcv := CopyV.set hg hgB hv0 hv1 hv2 hv3 hv4 n01
                go_meet
                case rel => exact ⟨g, _, _, _, _, _, ((((x5a.setCell ⟨g, 0, none⟩ hgW _).setCell ⟨g, 1, none⟩ hgW _).setCell ⟨g, 2, none⟩ hgW _).setCell ⟨g, 3, none⟩ hgW _).setCell ⟨g, 4, none⟩ hgW _, rfl, rfl, hcv⟩
              · skip
                go_wp2_with fail
                have hg := heap_alloc_new x5.val (.cells #[.slice none 0 0, .slice none 0 0, .slice none 0 0, .slice none 0 0, .slice none 0 0] 27)
                have hBa := Zn (Below.refl x5.val.heap.size x5.val) (.cells #[.slice none 0 0, .slice none 0 0, .slice none 0 0, .slice none 0 0, .slice none 0 0] 27)
                have hgB := hsz x5
                have hgl : x5.val.heap.size < (x5.val.alloc (.cells #[.slice none 0 0, .slice none 0 0, .slice none 0 0, .slice none 0 0, .slice none 0 0] 27)).heap.size := by simp
                replace hv0 := Kd.Zr hv0 hBa
                replace hv1 := Kd.Zr hv1 hBa
                replace hv2 := Kd.Zr hv2 hBa
                replace hv3 := Kd.Zr hv3 hBa
                replace hv4 := Kd.Zr hv4 hBa
                obtain ⟨x5a, hx5a⟩ : ∃ x : Under ((w.alloc (.cells #[.slice A0 l0.length c0, .slice A1 l1.length c1, .slice A2 l2.length c2, .slice A3 l3.length c3, .slice A4 l4.length c4] 27)).alloc (.cells #[.slice none 0 0, .slice none 0 0, .slice none 0 0, .slice none 0 0, .slice none 0 0] 27)), x5.val.alloc (.cells #[.slice none 0 0, .slice none 0 0, .slice none 0 0, .slice none 0 0, .slice none 0 0] 27) = x.val := ⟨x5.alloc _, rfl⟩
                rw [hx5a] at hg hgl hv0 hv1 hv2 hv3 hv4 ⊢
                clear hx5a hBa
                generalize x5.val.heap.size = g at *
                refine ⟨(by first | exact .inr ⟨x5a, rfl⟩ | exact ⟨x5a, rfl⟩), ?_⟩
                refine Qr (i := 15) #[true, true, true, true, true, true, true, true, true, true, true, true, true, true, true, true, true, false] (by kernel_rfl) rfl (by decide) (fun Q' hQ' => ?_)
                obtain ⟨B0, d0, rfl⟩ := Kd.Xd hv0
                obtain ⟨B1, d1, rfl⟩ := Kd.Xd hv1
                obtain ⟨B2, d2, rfl⟩ := Kd.Xd hv2
                obtain ⟨B3, d3, rfl⟩ := Kd.Xd hv3
                obtain ⟨B4, d4, rfl⟩ := Kd.Xd hv4
                go_wp2_with fail
                refine ⟨(by first | exact .inr ⟨x5a, rfl⟩ | exact ⟨x5a, rfl⟩), ?_⟩
                refine Qr (i := 17) #[true, true, true, true, true, true, true, true, true, true, true, true, true, true, true, true, true, true] (by kernel_rfl) rfl (by decide) (fun Q' hQ' => ?_)
                have hgW : (((w.alloc (.cells #[.slice A0 l0.length c0, .slice A1 l1.length c1, .slice A2 l2.length c2, .slice A3 l3.length c3, .slice A4 l4.length c4] 27)).alloc (.cells #[.slice none 0 0, .slice none 0 0, .slice none 0 0, .slice none 0 0, .slice none 0 0] 27)).heap.size) ≤ g := by simp; omega
                have hgc0 : x5a.val.cell? ⟨g, 0, none⟩ = some (.slice none 0 0) := (cell_of_row x5a.val g 0 _ _ _ hg).trans rfl
                have hgc1 : x5a.val.cell? ⟨g, 1, none⟩ = some (.slice none 0 0) := (cell_of_row x5a.val g 1 _ _ _ hg).trans rfl
                have hgc2 : x5a.val.cell? ⟨g, 2, none⟩ = some (.slice none 0 0) := (cell_of_row x5a.val g 2 _ _ _ hg).trans rfl
                have hgc3 : x5a.val.cell? ⟨g, 3, none⟩ = some (.slice none 0 0) := (cell_of_row x5a.val g 3 _ _ _ hg).trans rfl
                have hgc4 : x5a.val.cell? ⟨g, 4, none⟩ = some (.slice none 0 0) := (cell_of_row x5a.val g 4 _ _ _ hg).trans rfl
                have hfz : ∀ j, x5a.val.frozen? ⟨g, j, none⟩ = false := fun j => frozen_of_row _ _ _ _ _ hg
                go_wp2_with fail
                refine ⟨(by first | exact .inl rfl | exact by kernel_rfl), ?_⟩
                refine anyT_end (by kernel_rfl) ?_
                go_wp2
                have hcv := CopyV.set hg hgB hv0 hv1 hv2 hv3 hv4 n01
                go_meet
                case rel => exact ⟨g, _, _, _, _, _, ((((x5a.setCell ⟨g, 0, none⟩ hgW _).setCell ⟨g, 1, none⟩ hgW _).setCell ⟨g, 2, none⟩ hgW _).setCell ⟨g, 3, none⟩ hgW _).setCell ⟨g, 4, none⟩ hgW _, rfl, rfl, hcv⟩
            · skip
              go_wp2_with fail
              have hg := heap_alloc_new x4.val (.cells #[.slice none 0 0, .slice none 0 0, .slice none 0 0, .slice none 0 0, .slice none 0 0] 27)
              have hBa := Zn (Below.refl x4.val.heap.size x4.val) (.cells #[.slice none 0 0, .slice none 0 0, .slice none 0 0, .slice none 0 0, .slice none 0 0] 27)
              have hgB := hsz x4
              have hgl : x4.val.heap.size < (x4.val.alloc (.cells #[.slice none 0 0, .slice none 0 0, .slice none 0 0, .slice none 0 0, .slice none 0 0] 27)).heap.size := by simp
              replace hv0 := Kd.Zr hv0 hBa
              replace hv1 := Kd.Zr hv1 hBa
              replace hv2 := Kd.Zr hv2 hBa
              replace hv3 := Kd.Zr hv3 hBa
              obtain ⟨x4a, hx4a⟩ : ∃ x : Under ((w.alloc (.cells #[.slice A0 l0.length c0, .slice A1 l1.length c1, .slice A2 l2.length c2, .slice A3 l3.length c3, .slice A4 l4.length c4] 27)).alloc (.cells #[.slice none 0 0, .slice none 0 0, .slice none 0 0, .slice none 0 0, .slice none 0 0] 27)), x4.val.alloc (.cells #[.slice none 0 0, .slice none 0 0, .slice none 0 0, .slice none 0 0, .slice none 0 0] 27) = x.val := ⟨x4.alloc _, rfl⟩
              rw [hx4a] at hg hgl hv0 hv1 hv2 hv3 ⊢
              clear hx4a hBa
              generalize x4.val.heap.size = g at *
              refine ⟨(by first | exact .inr ⟨x4a, rfl⟩ | exact ⟨x4a, rfl⟩), ?_⟩
              refine Qr (i := 14) #[true, true, true, true, true, true, true, true, true, true, true, true, true, true, true, false, true, false] (by kernel_rfl) rfl (by decide) (fun Q' hQ' => ?_)
              go_wp2_with (go_at_call 56; refine (clone_ints A4 c4 l4 _ (Kd.Zf h4 (bel x4a)) m4).mono ?_; rintro e w' ⟨v4, rfl, hv4, hB4⟩; obtain ⟨x5a, rfl⟩ : ∃ x : Under ((w.alloc (.cells #[.slice A0 l0.length c0, .slice A1 l1.length c1, .slice A2 l2.length c2, .slice A3 l3.length c3, .slice A4 l4.length c4] 27)).alloc (.cells #[.slice none 0 0, .slice none 0 0, .slice none 0 0, .slice none 0 0, .slice none 0 0] 27)), w' = x.val := ⟨⟨_, x4a.ok.trans (hB4.mono x4a.size)⟩, rfl⟩; replace hv0 := Kd.Zr hv0 hB4; replace hv1 := Kd.Zr hv1 hB4; replace hv2 := Kd.Zr hv2 hB4; replace hv3 := Kd.Zr hv3 hB4; replace hg := (hB4.block g hgl).trans hg; replace hgl := Nat.lt_of_lt_of_le hgl hB4.size; have hlo4 := Kd.Xu hv4; replace hv4 := Kd.Xn hv4 (hsz x4a); clear hB4 hlo4)
              refine ⟨(by first | exact .inr ⟨x5a, rfl⟩ | exact ⟨x5a, rfl⟩), ?_⟩
              refine Qr (i := 15) #[true, true, true, true, true, true, true, true, true, true, true, true, true, true, true, true, true, false] (by kernel_rfl) rfl (by decide) (fun Q' hQ' => ?_)
              obtain ⟨B0, d0, rfl⟩ := Kd.Xd hv0
              obtain ⟨B1, d1, rfl⟩ := Kd.Xd hv1
              obtain ⟨B2, d2, rfl⟩ := Kd.Xd hv2
              obtain ⟨B3, d3, rfl⟩ := Kd.Xd hv3
              obtain ⟨B4, d4, rfl⟩ := Kd.Xd hv4
              go_wp2_with fail
              refine ⟨(by first | exact .inr ⟨x5a, rfl⟩ | exact ⟨x5a, rfl⟩), ?_⟩
              refine Qr (i := 17) #[true, true, true, true, true, true, true, true, true, true, true, true, true, true, true, true, true, true] (by kernel_rfl) rfl (by decide) (fun Q' hQ' => ?_)
              have hgW : (((w.alloc (.cells #[.slice A0 l0.length c0, .slice A1 l1.length c1, .slice A2 l2.length c2, .slice A3 l3.length c3, .slice A4 l4.length c4] 27)).alloc (.cells #[.slice none 0 0, .slice none 0 0, .slice none 0 0, .slice none 0 0, .slice none 0 0] 27)).heap.size) ≤ g := by simp; omega
              have hgc0 : x5a.val.cell? ⟨g, 0, none⟩ = some (.slice none 0 0) := (cell_of_row x5a.val g 0 _ _ _ hg).trans rfl
              have hgc1 : x5a.val.cell? ⟨g, 1, none⟩ = some (.slice none 0 0) := (cell_of_row x5a.val g 1 _ _ _ hg).trans rfl
              have hgc2 : x5a.val.cell? ⟨g, 2, none⟩ = some (.slice none 0 0) := (cell_of_row x5a.val g 2 _ _ _ hg).trans rfl
              have hgc3 : x5a.val.cell? ⟨g, 3, none⟩ = some (.slice none 0 0) := (cell_of_row x5a.val g 3 _ _ _ hg).trans rfl
              have hgc4 : x5a.val.cell? ⟨g, 4, none⟩ = some (.slice none 0 0) := (cell_of_row x5a.val g 4 _ _ _ hg).trans rfl
              have hfz : ∀ j, x5a.val.frozen? ⟨g, j, none⟩ = false := fun j => frozen_of_row _ _ _ _ _ hg
              go_wp2_with fail
              refine ⟨(by first | exact .inl rfl | exact by kernel_rfl), ?_⟩
              refine anyT_end (by kernel_rfl) ?_
              go_wp2
              have hcv := CopyV.set hg hgB hv0 hv1 hv2 hv3 hv4 n01
              go_meet
              case rel => exact ⟨g, _, _, _, _, _, ((((x5a.setCell ⟨g, 0, none⟩ hgW _).setCell ⟨g, 1, none⟩ hgW _).setCell ⟨g, 2, none⟩ hgW _).setCell ⟨g, 3, none⟩ hgW _).setCell ⟨g, 4, none⟩ hgW _, rfl, rfl, hcv⟩
          · skip
            go_wp2_with fail
            have hg := heap_alloc_new x3.val (.cells #[.slice none 0 0, .slice none 0 0, .slice none 0 0, .slice none 0 0, .slice none 0 0] 27)
            have hBa := Zn (Below.refl x3.val.heap.size x3.val) (.cells #[.slice none 0 0, .slice none 0 0, .slice none 0 0, .slice none 0 0, .slice none 0 0] 27)
            have hgB := hsz x3
            have hgl : x3.val.heap.size < (x3.val.alloc (.cells #[.slice none 0 0, .slice none 0 0, .slice none 0 0, .slice none 0 0, .slice none 0 0] 27)).heap.size := by simp
            replace hv0 := Kd.Zr hv0 hBa
            replace hv1 := Kd.Zr hv1 hBa
            replace hv2 := Kd.Zr hv2 hBa
            obtain ⟨x3a, hx3a⟩ : ∃ x : Under ((w.alloc (.cells #[.slice A0 l0.length c0, .slice A1 l1.length c1, .slice A2 l2.length c2, .slice A3 l3.length c3, .slice A4 l4.length c4] 27)).alloc (.cells #[.slice none 0 0, .slice none 0 0, .slice none 0 0, .slice none 0 0, .slice none 0 0] 27)), x3.val.alloc (.cells #[.slice none 0 0, .slice none 0 0, .slice none 0 0, .slice none 0 0, .slice none 0 0] 27) = x.val := ⟨x3.alloc _, rfl⟩
            rw [hx3a] at hg hgl hv0 hv1 hv2 ⊢
            clear hx3a hBa
            generalize x3.val.heap.size = g at *
            refine ⟨(by first | exact .inr ⟨x3a, rfl⟩ | exact ⟨x3a, rfl⟩), ?_⟩
            refine Qr (i := 11) #[true, true, true, true, true, true, true, true, true, true, true, true, true, true, false, false, true, false] (by kernel_rfl) rfl (by decide) (fun Q' hQ' => ?_)
            go_wp2_with (go_at_call 55; refine (clone_gates A3 c3 l3 w _ (bel x3a) h3 m3).mono ?_; rintro e w' ⟨v3, rfl, hv3, hB3⟩; obtain ⟨x4a, rfl⟩ : ∃ x : Under ((w.alloc (.cells #[.slice A0 l0.length c0, .slice A1 l1.length c1, .slice A2 l2.length c2, .slice A3 l3.length c3, .slice A4 l4.length c4] 27)).alloc (.cells #[.slice none 0 0, .slice none 0 0, .slice none 0 0, .slice none 0 0, .slice none 0 0] 27)), w' = x.val := ⟨⟨_, x3a.ok.trans (hB3.mono x3a.size)⟩, rfl⟩; replace hv0 := Kd.Zr hv0 hB3; replace hv1 := Kd.Zr hv1 hB3; replace hv2 := Kd.Zr hv2 hB3; replace hg := (hB3.block g hgl).trans hg; replace hgl := Nat.lt_of_lt_of_le hgl hB3.size; have hlo3 := Kd.Xu hv3; replace hv3 := Kd.Xn hv3 (hsz x3a); clear hB3 hlo3)
            refine ⟨(by first | exact .inr ⟨x4a, rfl⟩ | exact ⟨x4a, rfl⟩), ?_⟩
            refine Qr (i := 14) #[true, true, true, true, true, true, true, true, true, true, true, true, true, true, true, false, true, false] (by kernel_rfl) rfl (by decide) (fun Q' hQ' => ?_)
            go_wp2_with (go_at_call 56; refine (clone_ints A4 c4 l4 _ (Kd.Zf h4 (bel x4a)) m4).mono ?_; rintro e w' ⟨v4, rfl, hv4, hB4⟩; obtain ⟨x5a, rfl⟩ : ∃ x : Under ((w.alloc (.cells #[.slice A0 l0.length c0, .slice A1 l1.length c1, .slice A2 l2.length c2, .slice A3 l3.length c3, .slice A4 l4.length c4] 27)).alloc (.cells #[.slice none 0 0, .slice none 0 0, .slice none 0 0, .slice none 0 0, .slice none 0 0] 27)), w' = x.val := ⟨⟨_, x4a.ok.trans (hB4.mono x4a.size)⟩, rfl⟩; replace hv0 := Kd.Zr hv0 hB4; replace hv1 := Kd.Zr hv1 hB4; replace hv2 := Kd.Zr hv2 hB4; replace hv3 := Kd.Zr hv3 hB4; replace hg := (hB4.block g hgl).trans hg; replace hgl := Nat.lt_of_lt_of_le hgl hB4.size; have hlo4 := Kd.Xu hv4; replace hv4 := Kd.Xn hv4 (hsz x4a); clear hB4 hlo4)
            refine ⟨(by first | exact .inr ⟨x5a, rfl⟩ | exact ⟨x5a, rfl⟩), ?_⟩
            refine Qr (i := 15) #[true, true, true, true, true, true, true, true, true, true, true, true, true, true, true, true, true, false] (by kernel_rfl) rfl (by decide) (fun Q' hQ' => ?_)
            obtain ⟨B0, d0, rfl⟩ := Kd.Xd hv0
            obtain ⟨B1, d1, rfl⟩ := Kd.Xd hv1
            obtain ⟨B2, d2, rfl⟩ := Kd.Xd hv2
            obtain ⟨B3, d3, rfl⟩ := Kd.Xd hv3
            obtain ⟨B4, d4, rfl⟩ := Kd.Xd hv4
            go_wp2_with fail
            refine ⟨(by first | exact .inr ⟨x5a, rfl⟩ | exact ⟨x5a, rfl⟩), ?_⟩
            refine Qr (i := 17) #[true, true, true, true, true, true, true, true, true, true, true, true, true, true, true, true, true, true] (by kernel_rfl) rfl (by decide) (fun Q' hQ' => ?_)
            have hgW : (((w.alloc (.cells #[.slice A0 l0.length c0, .slice A1 l1.length c1, .slice A2 l2.length c2, .slice A3 l3.length c3, .slice A4 l4.length c4] 27)).alloc (.cells #[.slice none 0 0, .slice none 0 0, .slice none 0 0, .slice none 0 0, .slice none 0 0] 27)).heap.size) ≤ g := by simp; omega
            have hgc0 : x5a.val.cell? ⟨g, 0, none⟩ = some (.slice none 0 0) := (cell_of_row x5a.val g 0 _ _ _ hg).trans rfl
            have hgc1 : x5a.val.cell? ⟨g, 1, none⟩ = some (.slice none 0 0) := (cell_of_row x5a.val g 1 _ _ _ hg).trans rfl
            have hgc2 : x5a.val.cell? ⟨g, 2, none⟩ = some (.slice none 0 0) := (cell_of_row x5a.val g 2 _ _ _ hg).trans rfl
            have hgc3 : x5a.val.cell? ⟨g, 3, none⟩ = some (.slice none 0 0) := (cell_of_row x5a.val g 3 _ _ _ hg).trans rfl
            have hgc4 : x5a.val.cell? ⟨g, 4, none⟩ = some (.slice none 0 0) := (cell_of_row x5a.val g 4 _ _ _ hg).trans rfl
            have hfz : ∀ j, x5a.val.frozen? ⟨g, j, none⟩ = false := fun j => frozen_of_row _ _ _ _ _ hg
            go_wp2_with fail
            refine ⟨(by first | exact .inl rfl | exact by kernel_rfl), ?_⟩
            refine anyT_end (by kernel_rfl) ?_
            go_wp2
            have hcv := CopyV.set hg hgB hv0 hv1 hv2 hv3 hv4 n01
            go_meet
            case rel => exact ⟨g, _, _, _, _, _, ((((x5a.setCell ⟨g, 0, none⟩ hgW _).setCell ⟨g, 1, none⟩ hgW _).setCell ⟨g, 2, none⟩ hgW _).setCell ⟨g, 3, none⟩ hgW _).setCell ⟨g, 4, none⟩ hgW _, rfl, rfl, hcv⟩
        · skip
          go_wp2_with fail
          have hg := heap_alloc_new x2.val (.cells #[.slice none 0 0, .slice none 0 0, .slice none 0 0, .slice none 0 0, .slice none 0 0] 27)
          have hBa := Zn (Below.refl x2.val.heap.size x2.val) (.cells #[.slice none 0 0, .slice none 0 0, .slice none 0 0, .slice none 0 0, .slice none 0 0] 27)
          have hgB := hsz x2
          have hgl : x2.val.heap.size < (x2.val.alloc (.cells #[.slice none 0 0, .slice none 0 0, .slice none 0 0, .slice none 0 0, .slice none 0 0] 27)).heap.size := by simp
          replace hv0 := Kd.Zr hv0 hBa
          replace hv1 := Kd.Zr hv1 hBa
          obtain ⟨x2a, hx2a⟩ : ∃ x : Under ((w.alloc (.cells #[.slice A0 l0.length c0, .slice A1 l1.length c1, .slice A2 l2.length c2, .slice A3 l3.length c3, .slice A4 l4.length c4] 27)).alloc (.cells #[.slice none 0 0, .slice none 0 0, .slice none 0 0, .slice none 0 0, .slice none 0 0] 27)), x2.val.alloc (.cells #[.slice none 0 0, .slice none 0 0, .slice none 0 0, .slice none 0 0, .slice none 0 0] 27) = x.val := ⟨x2.alloc _, rfl⟩
          rw [hx2a] at hg hgl hv0 hv1 ⊢
          clear hx2a hBa
          generalize x2.val.heap.size = g at *
          refine ⟨(by first | exact .inr ⟨x2a, rfl⟩ | exact ⟨x2a, rfl⟩), ?_⟩
          refine Qr (i := 8) #[true, true, true, true, true, true, true, true, true, true, true, false, true, true, false, false, true, false] (by kernel_rfl) rfl (by decide) (fun Q' hQ' => ?_)
          go_wp2_with (go_at_call 54; refine (clone_flops A2 c2 l2 _ (Kd.Zf h2 (bel x2a)) m2).mono ?_; rintro e w' ⟨v2, rfl, hv2, hB2⟩; obtain ⟨x3a, rfl⟩ : ∃ x : Under ((w.alloc (.cells #[.slice A0 l0.length c0, .slice A1 l1.length c1, .slice A2 l2.length c2, .slice A3 l3.length c3, .slice A4 l4.length c4] 27)).alloc (.cells #[.slice none 0 0, .slice none 0 0, .slice none 0 0, .slice none 0 0, .slice none 0 0] 27)), w' = x.val := ⟨⟨_, x2a.ok.trans (hB2.mono x2a.size)⟩, rfl⟩; replace hv0 := Kd.Zr hv0 hB2; replace hv1 := Kd.Zr hv1 hB2; replace hg := (hB2.block g hgl).trans hg; replace hgl := Nat.lt_of_lt_of_le hgl hB2.size; have hlo2 := Kd.Xu hv2; replace hv2 := Kd.Xn hv2 (hsz x2a); clear hB2 hlo2)
          refine ⟨(by first | exact .inr ⟨x3a, rfl⟩ | exact ⟨x3a, rfl⟩), ?_⟩
          refine Qr (i := 11) #[true, true, true, true, true, true, true, true, true, true, true, true, true, true, false, false, true, false] (by kernel_rfl) rfl (by decide) (fun Q' hQ' => ?_)
          go_wp2_with (go_at_call 55; refine (clone_gates A3 c3 l3 w _ (bel x3a) h3 m3).mono ?_; rintro e w' ⟨v3, rfl, hv3, hB3⟩; obtain ⟨x4a, rfl⟩ : ∃ x : Under ((w.alloc (.cells #[.slice A0 l0.length c0, .slice A1 l1.length c1, .slice A2 l2.length c2, .slice A3 l3.length c3, .slice A4 l4.length c4] 27)).alloc (.cells #[.slice none 0 0, .slice none 0 0, .slice none 0 0, .slice none 0 0, .slice none 0 0] 27)), w' = x.val := ⟨⟨_, x3a.ok.trans (hB3.mono x3a.size)⟩, rfl⟩; replace hv0 := Kd.Zr hv0 hB3; replace hv1 := Kd.Zr hv1 hB3; replace hv2 := Kd.Zr hv2 hB3; replace hg := (hB3.block g hgl).trans hg; replace hgl := Nat.lt_of_lt_of_le hgl hB3.size; have hlo3 := Kd.Xu hv3; replace hv3 := Kd.Xn hv3 (hsz x3a); clear hB3 hlo3)
          refine ⟨(by first | exact .inr ⟨x4a, rfl⟩ | exact ⟨x4a, rfl⟩), ?_⟩
          refine Qr (i := 14) #[true, true, true, true, true, true, true, true, true, true, true, true, true, true, true, false, true, false] (by kernel_rfl) rfl (by decide) (fun Q' hQ' => ?_)
          go_wp2_with (go_at_call 56; refine (clone_ints A4 c4 l4 _ (Kd.Zf h4 (bel x4a)) m4).mono ?_; rintro e w' ⟨v4, rfl, hv4, hB4⟩; obtain ⟨x5a, rfl⟩ : ∃ x : Under ((w.alloc (.cells #[.slice A0 l0.length c0, .slice A1 l1.length c1, .slice A2 l2.length c2, .slice A3 l3.length c3, .slice A4 l4.length c4] 27)).alloc (.cells #[.slice none 0 0, .slice none 0 0, .slice none 0 0, .slice none 0 0, .slice none 0 0] 27)), w' = x.val := ⟨⟨_, x4a.ok.trans (hB4.mono x4a.size)⟩, rfl⟩; replace hv0 := Kd.Zr hv0 hB4; replace hv1 := Kd.Zr hv1 hB4; replace hv2 := Kd.Zr hv2 hB4; replace hv3 := Kd.Zr hv3 hB4; replace hg := (hB4.block g hgl).trans hg; replace hgl := Nat.lt_of_lt_of_le hgl hB4.size; have hlo4 := Kd.Xu hv4; replace hv4 := Kd.Xn hv4 (hsz x4a); clear hB4 hlo4)
          refine ⟨(by first | exact .inr ⟨x5a, rfl⟩ | exact ⟨x5a, rfl⟩), ?_⟩
          refine Qr (i := 15) #[true, true, true, true, true, true, true, true, true, true, true, true, true, true, true, true, true, false] (by kernel_rfl) rfl (by decide) (fun Q' hQ' => ?_)
          obtain ⟨B0, d0, rfl⟩ := Kd.Xd hv0
          obtain ⟨B1, d1, rfl⟩ := Kd.Xd hv1
          obtain ⟨B2, d2, rfl⟩ := Kd.Xd hv2
          obtain ⟨B3, d3, rfl⟩ := Kd.Xd hv3
          obtain ⟨B4, d4, rfl⟩ := Kd.Xd hv4
          go_wp2_with fail
          refine ⟨(by first | exact .inr ⟨x5a, rfl⟩ | exact ⟨x5a, rfl⟩), ?_⟩
          refine Qr (i := 17) #[true, true, true, true, true, true, true, true, true, true, true, true, true, true, true, true, true, true] (by kernel_rfl) rfl (by decide) (fun Q' hQ' => ?_)
          have hgW : (((w.alloc (.cells #[.slice A0 l0.length c0, .slice A1 l1.length c1, .slice A2 l2.length c2, .slice A3 l3.length c3, .slice A4 l4.length c4] 27)).alloc (.cells #[.slice none 0 0, .slice none 0 0, .slice none 0 0, .slice none 0 0, .slice none 0 0] 27)).heap.size) ≤ g := by simp; omega
          have hgc0 : x5a.val.cell? ⟨g, 0, none⟩ = some (.slice none 0 0) := (cell_of_row x5a.val g 0 _ _ _ hg).trans rfl
          have hgc1 : x5a.val.cell? ⟨g, 1, none⟩ = some (.slice none 0 0) := (cell_of_row x5a.val g 1 _ _ _ hg).trans rfl
          have hgc2 : x5a.val.cell? ⟨g, 2, none⟩ = some (.slice none 0 0) := (cell_of_row x5a.val g 2 _ _ _ hg).trans rfl
          have hgc3 : x5a.val.cell? ⟨g, 3, none⟩ = some (.slice none 0 0) := (cell_of_row x5a.val g 3 _ _ _ hg).trans rfl
          have hgc4 : x5a.val.cell? ⟨g, 4, none⟩ = some (.slice none 0 0) := (cell_of_row x5a.val g 4 _ _ _ hg).trans rfl
          have hfz : ∀ j, x5a.val.frozen? ⟨g, j, none⟩ = false := fun j => frozen_of_row _ _ _ _ _ hg
          go_wp2_with fail
          refine ⟨(by first | exact .inl rfl | exact by kernel_rfl), ?_⟩
          refine anyT_end (by kernel_rfl) ?_
          go_wp2
          have hcv := CopyV.set hg hgB hv0 hv1 hv2 hv3 hv4 n01
          go_meet
          case rel => exact ⟨g, _, _, _, _, _, ((((x5a.setCell ⟨g, 0, none⟩ hgW _).setCell ⟨g, 1, none⟩ hgW _).setCell ⟨g, 2, none⟩ hgW _).setCell ⟨g, 3, none⟩ hgW _).setCell ⟨g, 4, none⟩ hgW _, rfl, rfl, hcv⟩
      · skip
        go_wp2_with fail
        have hg := heap_alloc_new x1.val (.cells #[.slice none 0 0, .slice none 0 0, .slice none 0 0, .slice none 0 0, .slice none 0 0] 27)
        have hBa := Zn (Below.refl x1.val.heap.size x1.val) (.cells #[.slice none 0 0, .slice none 0 0, .slice none 0 0, .slice none 0 0, .slice none 0 0] 27)
        have hgB := hsz x1
        have hgl : x1.val.heap.size < (x1.val.alloc (.cells #[.slice none 0 0, .slice none 0 0, .slice none 0 0, .slice none 0 0, .slice none 0 0] 27)).heap.size := by simp
        replace hv0 := Kd.Zr hv0 hBa
        obtain ⟨x1a, hx1a⟩ : ∃ x : Under ((w.alloc (.cells #[.slice A0 l0.length c0, .slice A1 l1.length c1, .slice A2 l2.length c2, .slice A3 l3.length c3, .slice A4 l4.length c4] 27)).alloc (.cells #[.slice none 0 0, .slice none 0 0, .slice none 0 0, .slice none 0 0, .slice none 0 0] 27)), x1.val.alloc (.cells #[.slice none 0 0, .slice none 0 0, .slice none 0 0, .slice none 0 0, .slice none 0 0] 27) = x.val := ⟨x1.alloc _, rfl⟩
        rw [hx1a] at hg hgl hv0 ⊢
        clear hx1a hBa
        generalize x1.val.heap.size = g at *
        refine ⟨(by first | exact .inr ⟨x1a, rfl⟩ | exact ⟨x1a, rfl⟩), ?_⟩
        refine Qr (i := 5) #[true, true, true, true, true, true, true, true, false, true, true, false, true, true, false, false, true, false] (by kernel_rfl) rfl (by decide) (fun Q' hQ' => ?_)
        have hlt0 := Kd.R_lt hv0
        go_wp2_with (go_at_call 30; refine (clone_strs A1 c1 l1 _ (Kd.Zf h1 (bel x1a)) m1).mono ?_; rintro e w' ⟨v1, rfl, hv1, hB1⟩; obtain ⟨x2a, rfl⟩ : ∃ x : Under ((w.alloc (.cells #[.slice A0 l0.length c0, .slice A1 l1.length c1, .slice A2 l2.length c2, .slice A3 l3.length c3, .slice A4 l4.length c4] 27)).alloc (.cells #[.slice none 0 0, .slice none 0 0, .slice none 0 0, .slice none 0 0, .slice none 0 0] 27)), w' = x.val := ⟨⟨_, x1a.ok.trans (hB1.mono x1a.size)⟩, rfl⟩; replace hv0 := Kd.Zr hv0 hB1; replace hg := (hB1.block g hgl).trans hg; replace hgl := Nat.lt_of_lt_of_le hgl hB1.size; have hlo1 := Kd.Xu hv1; replace hv1 := Kd.Xn hv1 (hsz x1a); have n01 : ∀ k, v0.ownBlock = some k → v1.ownBlock ≠ some k := fun k hk e => (by have h5 := hlt0 k hk; have h6 := hlo1 k e; omega); clear hB1 hlo1)
        clear hlt0
        refine ⟨(by first | exact .inr ⟨x2a, rfl⟩ | exact ⟨x2a, rfl⟩), ?_⟩
        refine Qr (i := 8) #[true, true, true, true, true, true, true, true, true, true, true, false, true, true, false, false, true, false] (by kernel_rfl) rfl (by decide) (fun Q' hQ' => ?_)
        go_wp2_with (go_at_call 54; refine (clone_flops A2 c2 l2 _ (Kd.Zf h2 (bel x2a)) m2).mono ?_; rintro e w' ⟨v2, rfl, hv2, hB2⟩; obtain ⟨x3a, rfl⟩ : ∃ x : Under ((w.alloc (.cells #[.slice A0 l0.length c0, .slice A1 l1.length c1, .slice A2 l2.length c2, .slice A3 l3.length c3, .slice A4 l4.length c4] 27)).alloc (.cells #[.slice none 0 0, .slice none 0 0, .slice none 0 0, .slice none 0 0, .slice none 0 0] 27)), w' = x.val := ⟨⟨_, x2a.ok.trans (hB2.mono x2a.size)⟩, rfl⟩; replace hv0 := Kd.Zr hv0 hB2; replace hv1 := Kd.Zr hv1 hB2; replace hg := (hB2.block g hgl).trans hg; replace hgl := Nat.lt_of_lt_of_le hgl hB2.size; have hlo2 := Kd.Xu hv2; replace hv2 := Kd.Xn hv2 (hsz x2a); clear hB2 hlo2)
        refine ⟨(by first | exact .inr ⟨x3a, rfl⟩ | exact ⟨x3a, rfl⟩), ?_⟩
        refine Qr (i := 11) #[true, true, true, true, true, true, true, true, true, true, true, true, true, true, false, false, true, false] (by kernel_rfl) rfl (by decide) (fun Q' hQ' => ?_)
        go_wp2_with (go_at_call 55; refine (clone_gates A3 c3 l3 w _ (bel x3a) h3 m3).mono ?_; rintro e w' ⟨v3, rfl, hv3, hB3⟩; obtain ⟨x4a, rfl⟩ : ∃ x : Under ((w.alloc (.cells #[.slice A0 l0.length c0, .slice A1 l1.length c1, .slice A2 l2.length c2, .slice A3 l3.length c3, .slice A4 l4.length c4] 27)).alloc (.cells #[.slice none 0 0, .slice none 0 0, .slice none 0 0, .slice none 0 0, .slice none 0 0] 27)), w' = x.val := ⟨⟨_, x3a.ok.trans (hB3.mono x3a.size)⟩, rfl⟩; replace hv0 := Kd.Zr hv0 hB3; replace hv1 := Kd.Zr hv1 hB3; replace hv2 := Kd.Zr hv2 hB3; replace hg := (hB3.block g hgl).trans hg; replace hgl := Nat.lt_of_lt_of_le hgl hB3.size; have hlo3 := Kd.Xu hv3; replace hv3 := Kd.Xn hv3 (hsz x3a); clear hB3 hlo3)
        refine ⟨(by first | exact .inr ⟨x4a, rfl⟩ | exact ⟨x4a, rfl⟩), ?_⟩
        refine Qr (i := 14) #[true, true, true, true, true, true, true, true, true, true, true, true, true, true, true, false, true, false] (by kernel_rfl) rfl (by decide) (fun Q' hQ' => ?_)
        go_wp2_with (go_at_call 56; refine (clone_ints A4 c4 l4 _ (Kd.Zf h4 (bel x4a)) m4).mono ?_; rintro e w' ⟨v4, rfl, hv4, hB4⟩; obtain ⟨x5a, rfl⟩ : ∃ x : Under ((w.alloc (.cells #[.slice A0 l0.length c0, .slice A1 l1.length c1, .slice A2 l2.length c2, .slice A3 l3.length c3, .slice A4 l4.length c4] 27)).alloc (.cells #[.slice none 0 0, .slice none 0 0, .slice none 0 0, .slice none 0 0, .slice none 0 0] 27)), w' = x.val := ⟨⟨_, x4a.ok.trans (hB4.mono x4a.size)⟩, rfl⟩; replace hv0 := Kd.Zr hv0 hB4; replace hv1 := Kd.Zr hv1 hB4; replace hv2 := Kd.Zr hv2 hB4; replace hv3 := Kd.Zr hv3 hB4; replace hg := (hB4.block g hgl).trans hg; replace hgl := Nat.lt_of_lt_of_le hgl hB4.size; have hlo4 := Kd.Xu hv4; replace hv4 := Kd.Xn hv4 (hsz x4a); clear hB4 hlo4)
        refine ⟨(by first | exact .inr ⟨x5a, rfl⟩ | exact ⟨x5a, rfl⟩), ?_⟩
        refine Qr (i := 15) #[true, true, true, true, true, true, true, true, true, true, true, true, true, true, true, true, true, false] (by kernel_rfl) rfl (by decide) (fun Q' hQ' => ?_)
        obtain ⟨B0, d0, rfl⟩ := Kd.Xd hv0
        obtain ⟨B1, d1, rfl⟩ := Kd.Xd hv1
        obtain ⟨B2, d2, rfl⟩ := Kd.Xd hv2
        obtain ⟨B3, d3, rfl⟩ := Kd.Xd hv3
        obtain ⟨B4, d4, rfl⟩ := Kd.Xd hv4
        go_wp2_with fail
        refine ⟨(by first | exact .inr ⟨x5a, rfl⟩ | exact ⟨x5a, rfl⟩), ?_⟩
        refine Qr (i := 17) #[true, true, true, true, true, true, true, true, true, true, true, true, true, true, true, true, true, true] (by kernel_rfl) rfl (by decide) (fun Q' hQ' => ?_)
        have hgW : (((w.alloc (.cells #[.slice A0 l0.length c0, .slice A1 l1.length c1, .slice A2 l2.length c2, .slice A3 l3.length c3, .slice A4 l4.length c4] 27)).alloc (.cells #[.slice none 0 0, .slice none 0 0, .slice none 0 0, .slice none 0 0, .slice none 0 0] 27)).heap.size) ≤ g := by simp; omega
        have hgc0 : x5a.val.cell? ⟨g, 0, none⟩ = some (.slice none 0 0) := (cell_of_row x5a.val g 0 _ _ _ hg).trans rfl
        have hgc1 : x5a.val.cell? ⟨g, 1, none⟩ = some (.slice none 0 0) := (cell_of_row x5a.val g 1 _ _ _ hg).trans rfl
        have hgc2 : x5a.val.cell? ⟨g, 2, none⟩ = some (.slice none 0 0) := (cell_of_row x5a.val g 2 _ _ _ hg).trans rfl
        have hgc3 : x5a.val.cell? ⟨g, 3, none⟩ = some (.slice none 0 0) := (cell_of_row x5a.val g 3 _ _ _ hg).trans rfl
        have hgc4 : x5a.val.cell? ⟨g, 4, none⟩ = some (.slice none 0 0) := (cell_of_row x5a.val g 4 _ _ _ hg).trans rfl
        have hfz : ∀ j, x5a.val.frozen? ⟨g, j, none⟩ = false := fun j => frozen_of_row _ _ _ _ _ hg
        go_wp2_with fail
        refine ⟨(by first | exact .inl rfl | exact by kernel_rfl), ?_⟩
        refine anyT_end (by kernel_rfl) ?_
        go_wp2
        have hcv := CopyV.set hg hgB hv0 hv1 hv2 hv3 hv4 n01
        go_meet
        case rel => exact ⟨g, _, _, _, _, _, ((((x5a.setCell ⟨g, 0, none⟩ hgW _).setCell ⟨g, 1, none⟩ hgW _).setCell ⟨g, 2, none⟩ hgW _).setCell ⟨g, 3, none⟩ hgW _).setCell ⟨g, 4, none⟩ hgW _, rfl, rfl, hcv⟩
    · skip
      go_wp2_with fail
      have hg := heap_alloc_new x0.val (.cells #[.slice none 0 0, .slice none 0 0, .slice none 0 0, .slice none 0 0, .slice none 0 0] 27)
      have hBa := Zn (Below.refl x0.val.heap.size x0.val) (.cells #[.slice none 0 0, .slice none 0 0, .slice none 0 0, .slice none 0 0, .slice none 0 0] 27)
      have hgB := hsz x0
      have hgl : x0.val.heap.size < (x0.val.alloc (.cells #[.slice none 0 0, .slice none 0 0, .slice none 0 0, .slice none 0 0, .slice none 0 0] 27)).heap.size := by simp
      obtain ⟨x0a, hx0a⟩ : ∃ x : Under ((w.alloc (.cells #[.slice A0 l0.length c0, .slice A1 l1.length c1, .slice A2 l2.length c2, .slice A3 l3.length c3, .slice A4 l4.length c4] 27)).alloc (.cells #[.slice none 0 0, .slice none 0 0, .slice none 0 0, .slice none 0 0, .slice none 0 0] 27)), x0.val.alloc (.cells #[.slice none 0 0, .slice none 0 0, .slice none 0 0, .slice none 0 0, .slice none 0 0] 27) = x.val := ⟨x0.alloc _, rfl⟩
      rw [hx0a] at hg hgl ⊢
      clear hx0a hBa
      generalize x0.val.heap.size = g at *
      refine ⟨(by first | exact .inr ⟨x0a, rfl⟩ | exact ⟨x0a, rfl⟩), ?_⟩
      refine Qr (i := 2) #[true, true, true, true, true, false, true, true, false, true, true, false, true, true, false, false, true, false] (by kernel_rfl) rfl (by decide) (fun Q' hQ' => ?_)
      go_wp2_with (go_at_call 30; refine (clone_strs A0 c0 l0 _ (Kd.Zf h0 (bel x0a)) m0).mono ?_; rintro e w' ⟨v0, rfl, hv0, hB0⟩; obtain ⟨x1a, rfl⟩ : ∃ x : Under ((w.alloc (.cells #[.slice A0 l0.length c0, .slice A1 l1.length c1, .slice A2 l2.length c2, .slice A3 l3.length c3, .slice A4 l4.length c4] 27)).alloc (.cells #[.slice none 0 0, .slice none 0 0, .slice none 0 0, .slice none 0 0, .slice none 0 0] 27)), w' = x.val := ⟨⟨_, x0a.ok.trans (hB0.mono x0a.size)⟩, rfl⟩; replace hg := (hB0.block g hgl).trans hg; replace hgl := Nat.lt_of_lt_of_le hgl hB0.size; have hlo0 := Kd.Xu hv0; replace hv0 := Kd.Xn hv0 (hsz x0a); clear hB0 hlo0)
      refine ⟨(by first | exact .inr ⟨x1a, rfl⟩ | exact ⟨x1a, rfl⟩), ?_⟩
      refine Qr (i := 5) #[true, true, true, true, true, true, true, true, false, true, true, false, true, true, false, false, true, false] (by kernel_rfl) rfl (by decide) (fun Q' hQ' => ?_)
      have hlt0 := Kd.R_lt hv0
      go_wp2_with (go_at_call 30; refine (clone_strs A1 c1 l1 _ (Kd.Zf h1 (bel x1a)) m1).mono ?_; rintro e w' ⟨v1, rfl, hv1, hB1⟩; obtain ⟨x2a, rfl⟩ : ∃ x : Under ((w.alloc (.cells #[.slice A0 l0.length c0, .slice A1 l1.length c1, .slice A2 l2.length c2, .slice A3 l3.length c3, .slice A4 l4.length c4] 27)).alloc (.cells #[.slice none 0 0, .slice none 0 0, .slice none 0 0, .slice none 0 0, .slice none 0 0] 27)), w' = x.val := ⟨⟨_, x1a.ok.trans (hB1.mono x1a.size)⟩, rfl⟩; replace hv0 := Kd.Zr hv0 hB1; replace hg := (hB1.block g hgl).trans hg; replace hgl := Nat.lt_of_lt_of_le hgl hB1.size; have hlo1 := Kd.Xu hv1; replace hv1 := Kd.Xn hv1 (hsz x1a); have n01 : ∀ k, v0.ownBlock = some k → v1.ownBlock ≠ some k := fun k hk e => (by have h5 := hlt0 k hk; have h6 := hlo1 k e; omega); clear hB1 hlo1)
      clear hlt0
      refine ⟨(by first | exact .inr ⟨x2a, rfl⟩ | exact ⟨x2a, rfl⟩), ?_⟩
      refine Qr (i := 8) #[true, true, true, true, true, true, true, true, true, true, true, false, true, true, false, false, true, false] (by kernel_rfl) rfl (by decide) (fun Q' hQ' => ?_)
      go_wp2_with (go_at_call 54; refine (clone_flops A2 c2 l2 _ (Kd.Zf h2 (bel x2a)) m2).mono ?_; rintro e w' ⟨v2, rfl, hv2, hB2⟩; obtain ⟨x3a, rfl⟩ : ∃ x : Under ((w.alloc (.cells #[.slice A0 l0.length c0, .slice A1 l1.length c1, .slice A2 l2.length c2, .slice A3 l3.length c3, .slice A4 l4.length c4] 27)).alloc (.cells #[.slice none 0 0, .slice none 0 0, .slice none 0 0, .slice none 0 0, .slice none 0 0] 27)), w' = x.val := ⟨⟨_, x2a.ok.trans (hB2.mono x2a.size)⟩, rfl⟩; replace hv0 := Kd.Zr hv0 hB2; replace hv1 := Kd.Zr hv1 hB2; replace hg := (hB2.block g hgl).trans hg; replace hgl := Nat.lt_of_lt_of_le hgl hB2.size; have hlo2 := Kd.Xu hv2; replace hv2 := Kd.Xn hv2 (hsz x2a); clear hB2 hlo2)
      refine ⟨(by first | exact .inr ⟨x3a, rfl⟩ | exact ⟨x3a, rfl⟩), ?_⟩
      refine Qr (i := 11) #[true, true, true, true, true, true, true, true, true, true, true, true, true, true, false, false, true, false] (by kernel_rfl) rfl (by decide) (fun Q' hQ' => ?_)
      go_wp2_with (go_at_call 55; refine (clone_gates A3 c3 l3 w _ (bel x3a) h3 m3).mono ?_; rintro e w' ⟨v3, rfl, hv3, hB3⟩; obtain ⟨x4a, rfl⟩ : ∃ x : Under ((w.alloc (.cells #[.slice A0 l0.length c0, .slice A1 l1.length c1, .slice A2 l2.length c2, .slice A3 l3.length c3, .slice A4 l4.length c4] 27)).alloc (.cells #[.slice none 0 0, .slice none 0 0, .slice none 0 0, .slice none 0 0, .slice none 0 0] 27)), w' = x.val := ⟨⟨_, x3a.ok.trans (hB3.mono x3a.size)⟩, rfl⟩; replace hv0 := Kd.Zr hv0 hB3; replace hv1 := Kd.Zr hv1 hB3; replace hv2 := Kd.Zr hv2 hB3; replace hg := (hB3.block g hgl).trans hg; replace hgl := Nat.lt_of_lt_of_le hgl hB3.size; have hlo3 := Kd.Xu hv3; replace hv3 := Kd.Xn hv3 (hsz x3a); clear hB3 hlo3)
      refine ⟨(by first | exact .inr ⟨x4a, rfl⟩ | exact ⟨x4a, rfl⟩), ?_⟩
      refine Qr (i := 14) #[true, true, true, true, true, true, true, true, true, true, true, true, true, true, true, false, true, false] (by kernel_rfl) rfl (by decide) (fun Q' hQ' => ?_)
      go_wp2_with (go_at_call 56; refine (clone_ints A4 c4 l4 _ (Kd.Zf h4 (bel x4a)) m4).mono ?_; rintro e w' ⟨v4, rfl, hv4, hB4⟩; obtain ⟨x5a, rfl⟩ : ∃ x : Under ((w.alloc (.cells #[.slice A0 l0.length c0, .slice A1 l1.length c1, .slice A2 l2.length c2, .slice A3 l3.length c3, .slice A4 l4.length c4] 27)).alloc (.cells #[.slice none 0 0, .slice none 0 0, .slice none 0 0, .slice none 0 0, .slice none 0 0] 27)), w' = x.val := ⟨⟨_, x4a.ok.trans (hB4.mono x4a.size)⟩, rfl⟩; replace hv0 := Kd.Zr hv0 hB4; replace hv1 := Kd.Zr hv1 hB4; replace hv2 := Kd.Zr hv2 hB4; replace hv3 := Kd.Zr hv3 hB4; replace hg := (hB4.block g hgl).trans hg; replace hgl := Nat.lt_of_lt_of_le hgl hB4.size; have hlo4 := Kd.Xu hv4; replace hv4 := Kd.Xn hv4 (hsz x4a); clear hB4 hlo4)
      refine ⟨(by first | exact .inr ⟨x5a, rfl⟩ | exact ⟨x5a, rfl⟩), ?_⟩
      refine Qr (i := 15) #[true, true, true, true, true, true, true, true, true, true, true, true, true, true, true, true, true, false] (by kernel_rfl) rfl (by decide) (fun Q' hQ' => ?_)
      obtain ⟨B0, d0, rfl⟩ := Kd.Xd hv0
      obtain ⟨B1, d1, rfl⟩ := Kd.Xd hv1
      obtain ⟨B2, d2, rfl⟩ := Kd.Xd hv2
      obtain ⟨B3, d3, rfl⟩ := Kd.Xd hv3
      obtain ⟨B4, d4, rfl⟩ := Kd.Xd hv4
      go_wp2_with fail
      refine ⟨(by first | exact .inr ⟨x5a, rfl⟩ | exact ⟨x5a, rfl⟩), ?_⟩
      refine Qr (i := 17) #[true, true, true, true, true, true, true, true, true, true, true, true, true, true, true, true, true, true] (by kernel_rfl) rfl (by decide) (fun Q' hQ' => ?_)
      have hgW : (((w.alloc (.cells #[.slice A0 l0.length c0, .slice A1 l1.length c1, .slice A2 l2.length c2, .slice A3 l3.length c3, .slice A4 l4.length c4] 27)).alloc (.cells #[.slice none 0 0, .slice none 0 0, .slice none 0 0, .slice none 0 0, .slice none 0 0] 27)).heap.size) ≤ g := by simp; omega
      have hgc0 : x5a.val.cell? ⟨g, 0, none⟩ = some (.slice none 0 0) := (cell_of_row x5a.val g 0 _ _ _ hg).trans rfl
      have hgc1 : x5a.val.cell? ⟨g, 1, none⟩ = some (.slice none 0 0) := (cell_of_row x5a.val g 1 _ _ _ hg).trans rfl
      have hgc2 : x5a.val.cell? ⟨g, 2, none⟩ = some (.slice none 0 0) := (cell_of_row x5a.val g 2 _ _ _ hg).trans rfl
      have hgc3 : x5a.val.cell? ⟨g, 3, none⟩ = some (.slice none 0 0) := (cell_of_row x5a.val g 3 _ _ _ hg).trans rfl
      have hgc4 : x5a.val.cell? ⟨g, 4, none⟩ = some (.slice none 0 0) := (cell_of_row x5a.val g 4 _ _ _ hg).trans rfl
      have hfz : ∀ j, x5a.val.frozen? ⟨g, j, none⟩ = false := fun j => frozen_of_row _ _ _ _ _ hg
      go_wp2_with fail
      refine ⟨(by first | exact .inl rfl | exact by kernel_rfl), ?_⟩
      refine anyT_end (by kernel_rfl) ?_
      go_wp2
      have hcv := CopyV.set hg hgB hv0 hv1 hv2 hv3 hv4 n01
      go_meet
      case rel => exact ⟨g, _, _, _, _, _, ((((x5a.setCell ⟨g, 0, none⟩ hgW _).setCell ⟨g, 1, none⟩ hgW _).setCell ⟨g, 2, none⟩ hgW _).setCell ⟨g, 3, none⟩ hgW _).setCell ⟨g, 4, none⟩ hgW _, rfl, rfl, hcv⟩
  case rest =>
    obtain ⟨g, v0, v1, v2, v3, v4, x, rfl, rfl, hV⟩ := hcut
    obtain ⟨B0, d0, rfl⟩ := Kd.Xd hV.r0
    obtain ⟨B1, d1, rfl⟩ := Kd.Xd hV.r1
    obtain ⟨B2, d2, rfl⟩ := Kd.Xd hV.r2
    obtain ⟨B3, d3, rfl⟩ := Kd.Xd hV.r3
    obtain ⟨B4, d4, rfl⟩ := Kd.Xd hV.r4
    have n34 : ∀ k, (Value.slice B3 l3.length d3).ownBlock = some k → some k ≠ (Value.slice B4 l4.length d4).ownBlock := by
      intro k hk e
      obtain ⟨_, t3⟩ := Kd.R_typed hV.r3 k hk
      obtain ⟨_, t4⟩ := Kd.R_typed hV.r4 k e.symm
      rw [t3] at t4
      injection t4 with t4
      injection t4 with _ t4
      exact absurd t4 (by decide)
    have hN : NetV (w.heap.size + 2) x.val g (.slice B0 l0.length d0) (.slice B1 l1.length d1) (.slice B2 l2.length d2) (.slice B3 l3.length d3) (.slice B4 l4.length d4) l0 l1 l2 l4 := ⟨hV.blk, hV.gB, hV.r0, hV.r1, hV.r2, hV.r4, hV.n01⟩
    have hG := gates_start (ok := fun k => some k ≠ (Value.slice B4 l4.length d4).ownBlock) hV.r3 n34
    have hm3 : (l3.length : Int) ≤ 9223372036854775807 := by omega
    have hgl := (Array.getElem?_eq_some_iff.1 hV.blk).1
    have hgc3 : x.val.cell? ⟨g, 3, none⟩ = some (.slice B3 l3.length d3) := (cell_of_row x.val g 3 _ _ _ hV.blk).trans rfl
    have hlt4 := Kd.R_lt hV.r4
    have hgB := hV.gB
    clear hV
    go_wp2
    have hgc3h := Lib.hid hgc3
    clear hgc3 hgl
    go_loopg [4, 24] l3.length (fun d _ t wr => ∃ (i : Nat) (y : Under ((w.alloc (.cells #[.slice A0 l0.length c0, .slice A1 l1.length c1, .slice A2 l2.length c2, .slice A3 l3.length c3, .slice A4 l4.length c4] 27)).alloc (.cells #[.slice none 0 0, .slice none 0 0, .slice none 0 0, .slice none 0 0, .slice none 0 0] 27))), t = .int .i64 i ∧ wr = y.val ∧ Aside (i + d = l3.length) ∧
      NetV (w.heap.size + 2) y.val g (.slice B0 l0.length d0) (.slice B1 l1.length d1) (.slice B2 l2.length d2) (.slice B3 l3.length d3) (.slice B4 l4.length d4) l0 l1 l2 l4 ∧
      Kd.S (kGateM w) 80 y.val (w.heap.size + 2) (fun k => some k ≠ (Value.slice B4 l4.length d4).ownBlock) (.slice B3 l3.length d3) ((l3.take i).map (fun x => (x, true)) ++ (l3.drop i).map (fun x => (x, false))) ∧ x.val.heap.size ≤ y.val.heap.size)
    case atStart => exact ⟨0, x, rfl, rfl, by show 0 + l3.length = l3.length; omega, hN, by simpa using hG, Nat.le_refl _⟩
    case round =>
      clear hN hG
      obtain ⟨i, y, rfl, rfl, hi, hN, hG, hxy⟩ := hrel
      have hgl := (Array.getElem?_eq_some_iff.1 hN.blk).1
      have hgc3 : y.val.cell? ⟨g, 3, none⟩ = some (.slice B3 l3.length d3) := (cell_of_row y.val g 3 _ _ _ hN.blk).trans rfl
      by_cases hlt : i < l3.length
      · obtain ⟨gi, hgi⟩ := get_ex hlt
        obtain ⟨gk, rfl⟩ : ∃ m, gk = m + 1 := ⟨gk - 1, by have := hi.out; omega⟩
        have hm5 := m5 gi (List.mem_of_getElem? hgi)
        have hxs : ((l3.take i).map (fun x => (x, true)) ++ (l3.drop i).map (fun x => (x, false)))[i]? = some (gi, false) := by
          rw [List.getElem?_append_right (by simp; omega)]
          simp [hgi, Nat.min_eq_left (Nat.le_of_lt hlt)]
        have hxl : ((l3.take i).map (fun x => (x, true)) ++ (l3.drop i).map (fun x => (x, false))).length = l3.length := by simp; omega
        have hxset := flags_set hgi
        generalize hX : ((l3.take i).map (fun x => (x, true)) ++ (l3.drop i).map (fun x => (x, false))) = X at *
        obtain ⟨g3, cap3, he3, hg3, hg3l, cells3, hg3b⟩ := Kd.S_form hG (by omega)
        simp only [Value.slice.injEq] at he3
        obtain ⟨rfl, -, rfl⟩ := he3
        obtain ⟨oki, c, hcl, hM, hcc, hfr, hoki, hH⟩ := Kd.S_elem hG (gi, false) (i : Int) (by omega) (by omega)
        rw [show X.getD (i : Int).toNat (gi, false) = (gi, false) by simp [List.getD, hxs]] at hM
        obtain ⟨A5, c5, rfl, hC⟩ := kGateM_old hM
        have hci : y.val.cell? ⟨g3, i * 3 + 2, none⟩ = some (.slice A5 gi.f2.length c5) := by
          have := hcc 2 _ rfl
          simpa [kGateM, Kd.iso, Kd.pair, flagK, Kd.int, Kd.scalar] using this
        have hn3 : g ≠ g3 := by
          rintro rfl
          have h5 := hN.blk
          rw [hg3b] at h5
          injection h5 with h5
          injection h5 with _ h5
          exact absurd h5 (by decide)
        have hwid := Kd.H_widen hH
        have hgih := Lib.hid hgi
        have hih := Lib.hid hi.out
        have hxlh := Lib.hid hxl
        have hxseth := Lib.hid hxset
        have hXh := Lib.hid hX
        have hxsh := Lib.hid hxs
        clear hgi hi hxl hxset hX hM hH hcc hxs
        go_wp2
        refine wp_region_splitT (fun w' => ∃ z : Under y.val, w' = z.val) [true, true, true, true, true, true, true, true, true, false, false, false, false] (by kernel_rfl) (by kernel_rfl) (by decide) ⟨(Under.refl _).drew, rfl⟩ (fun _ _ d _ _ h => by cases d <;> exact h) ?_
        simp only [pickB, dropB]
        repeat (go_big_quiet_step (fail))
        refine wpQuiet_nil ?_
        refine wpListT_step (fun Q' hQ' => ?_)
        have hyd : Below y.val.heap.size y.val y.val.drew := below_drew (Below.refl _ _)
        go_wp2_with (go_at_call 56; refine (clone_ints A5 c5 gi.f2 _ (Kd.Zf hC ((bel y).trans (hyd.mono (by have := hsz y; omega)))) hm5).mono ?_; rintro e w' ⟨v5, rfl, hv5, hB5⟩; obtain ⟨z, rfl⟩ : ∃ z : Under y.val, w' = z.val := ⟨⟨_, hyd.trans hB5⟩, rfl⟩)
        refine ⟨⟨z, rfl⟩, ?_⟩
        refine wpListT_step (fun Q' hQ' => ?_)
        go_wp2_with fail
        refine ⟨⟨z, rfl⟩, ?_⟩
        refine wpListT_step (fun Q' hQ' => ?_)
        go_wp2_with fail
        refine ⟨⟨z, rfl⟩, ?_⟩
        refine wpListT_last (fun Q' hQ' => ?_)
        obtain ⟨A6, c6, rfl⟩ := Kd.Xd hv5
        have hv6 := Kd.R_tight rfl (Kd.Xn hv5 (show w.heap.size + 2 ≤ y.val.drew.heap.size from hsz y))
        have hB0 : Below (w.heap.size + 2) ((w.alloc (.cells #[.slice A0 l0.length c0, .slice A1 l1.length c1, .slice A2 l2.length c2, .slice A3 l3.length c3, .slice A4 l4.length c4] 27)).alloc (.cells #[.slice none 0 0, .slice none 0 0, .slice none 0 0, .slice none 0 0, .slice none 0 0] 27)) z.val := by
          have h7 : ((w.alloc (.cells #[.slice A0 l0.length c0, .slice A1 l1.length c1, .slice A2 l2.length c2, .slice A3 l3.length c3, .slice A4 l4.length c4] 27)).alloc (.cells #[.slice none 0 0, .slice none 0 0, .slice none 0 0, .slice none 0 0, .slice none 0 0] 27)).heap.size = w.heap.size + 2 := by simp
          have h8 : Below ((w.alloc (.cells #[.slice A0 l0.length c0, .slice A1 l1.length c1, .slice A2 l2.length c2, .slice A3 l3.length c3, .slice A4 l4.length c4] 27)).alloc (.cells #[.slice none 0 0, .slice none 0 0, .slice none 0 0, .slice none 0 0, .slice none 0 0] 27)).heap.size ((w.alloc (.cells #[.slice A0 l0.length c0, .slice A1 l1.length c1, .slice A2 l2.length c2, .slice A3 l3.length c3, .slice A4 l4.length c4] 27)).alloc (.cells #[.slice none 0 0, .slice none 0 0, .slice none 0 0, .slice none 0 0, .slice none 0 0] 27)) z.val := (y.trans z).ok
          rw [h7] at h8
          exact h8
        refine Kd.H_store (kGateM w) (w0 := (w.alloc (.cells #[.slice A0 l0.length c0, .slice A1 l1.length c1, .slice A2 l2.length c2, .slice A3 l3.length c3, .slice A4 l4.length c4] 27)).alloc (.cells #[.slice none 0 0, .slice none 0 0, .slice none 0 0, .slice none 0 0, .slice none 0 0] 27)) (w.heap.size + 2) rfl rfl 25 (.tmp 38) (.tmp 36) rfl 80 (i : Int) 2 X (gi, true) (.slice A6 gi.f2.length c6) [.slice A6 gi.f2.length c6] _ (fun k => some k ≠ (Value.slice B4 l4.length d4).ownBlock) _ _ rfl (by simp [kGateM, Kd.iso, Kd.pair, flagK, Kd.int, Kd.scalar]) rfl rfl (by kernel_rfl) (by simp [Value.oneCell']) (Kd.H_below hwid z.ok) (by omega) (by omega) (by simp [kGateM, Kd.iso, Kd.pair, flagK, Kd.int, Kd.scalar]) (kGateM_new hv6) ?hokp hB0 ?_
        case hokp =>
          intro k hk
          have h7 := Kd.Xu hv5 k hk.symm
          refine .inr ⟨fun e => ?_, h7⟩
          have h8 := hlt4 k e.symm
          have h9 : y.val.drew.heap.size = y.val.heap.size := rfl
          omega
        intro w2 hS2 hB2 hg2
        refine wpList_nil ?_
        refine hQ' _ _ ?_
        go_wp2
        obtain ⟨y2, rfl⟩ : ∃ y2 : Under ((w.alloc (.cells #[.slice A0 l0.length c0, .slice A1 l1.length c1, .slice A2 l2.length c2, .slice A3 l3.length c3, .slice A4 l4.length c4] 27)).alloc (.cells #[.slice none 0 0, .slice none 0 0, .slice none 0 0, .slice none 0 0, .slice none 0 0] 27)), w2 = y2.val := ⟨⟨w2, by rw [show ((w.alloc (.cells #[.slice A0 l0.length c0, .slice A1 l1.length c1, .slice A2 l2.length c2, .slice A3 l3.length c3, .slice A4 l4.length c4] 27)).alloc (.cells #[.slice none 0 0, .slice none 0 0, .slice none 0 0, .slice none 0 0, .slice none 0 0] 27)).heap.size = w.heap.size + 2 by simp]; exact hB2⟩, rfl⟩
        go_roundg gk
        case measure => have := hih.out; omega
        case rel =>
          refine ⟨i + 1, y2, by go_num, rfl, by show i + 1 + gk = l3.length; have := hih.out; omega, NetV.gates (hN.below z.ok) ((z.ok.block g3 hg3l).trans hg3b) hg2, ?_, Nat.le_trans hxy (Nat.le_trans z.size hg2.size)⟩
          rw [← hxseth.out]
          exact hS2
      · obtain rfl : i = l3.length := by have := hi.out; omega
        rw [List.take_length, List.drop_length, List.map_nil, List.append_nil] at hG
        have hGe := gates_end hG
        have hgc0 : y.val.cell? ⟨g, 0, none⟩ = some (.slice B0 l0.length d0) := (cell_of_row y.val g 0 _ _ _ hN.blk).trans rfl
        have hgc1 : y.val.cell? ⟨g, 1, none⟩ = some (.slice B1 l1.length d1) := (cell_of_row y.val g 1 _ _ _ hN.blk).trans rfl
        have hgc2 : y.val.cell? ⟨g, 2, none⟩ = some (.slice B2 l2.length d2) := (cell_of_row y.val g 2 _ _ _ hN.blk).trans rfl
        have hgc4 : y.val.cell? ⟨g, 4, none⟩ = some (.slice B4 l4.length d4) := (cell_of_row y.val g 4 _ _ _ hN.blk).trans rfl
        have hyB : w.heap.size + 1 < y.val.heap.size := by have := hsz y; omega
        have hrb : y.val.heap[w.heap.size + 1]? = some (.cells #[.slice none 0 0, .slice none 0 0, .slice none 0 0, .slice none 0 0, .slice none 0 0] 27 (0, 0)) := (y.ok.block (w.heap.size + 1) (by simp)).trans (heap_alloc2_new w _ _)
        obtain ⟨hrow, hother⟩ := set5 (.slice B0 l0.length d0) (.slice B1 l1.length d1) (.slice B2 l2.length d2) (.slice B3 l3.length d3) (.slice B4 l4.length d4) hrb
        go_wp2
        ((try simp only [Exit.inBlock, Exit.then]); refine bodyPost_ret (results_cell_row rfl _ _ (w.heap.size + 1) _ _ _ _ rfl hrow Try.underlying27 rfl (by kernel_rfl)) rfl ?_)
        have mv : ∀ {α : Type} {d : Kd α} {e : Nat} {v : Value} {xs : List α} {ok : Nat → Prop}, Kd.R d e y.val (w.heap.size + 2) ok v xs → Kd.R d e _ w.heap.size ok v xs := fun h =>
          Kd.Xn (Kd.Xj (Kd.R_step (Kd.R_bound h) (fun k hk _ => hother k (by have := hk.2.1; omega))) (fun _ hk => hk.1)) (by omega)
        refine ⟨_, _, _, _, _, rfl, mv (Kd.Xj (Kd.R_tight rfl hN.r0) (fun k hk e => hN.n01 k hk.symm e.symm)), mv (Kd.Xj (Kd.R_tight rfl hN.r1) (fun k hk e => hN.n01 k e.symm hk.symm)), mv hN.r2, ?_, mv hN.r4, ?_⟩
        · exact Kd.S_lower (Kd.S_mono (Kd.S_step (Kd.S_bound hGe) (fun k hk _ => hother k (by have := hk.2.1; omega))) (fun _ hk => hk.1)) (by omega)
        · exact (((((bel y).setCell (p := ⟨w.heap.size + 1, 0, none⟩) (by simp) _).setCell (p := ⟨w.heap.size + 1, 1, none⟩) (by simp) _).setCell (p := ⟨w.heap.size + 1, 2, none⟩) (by simp) _).setCell (p := ⟨w.heap.size + 1, 3, none⟩) (by simp) _).setCell (p := ⟨w.heap.size + 1, 4, none⟩) (by simp) _
end Go.Proofs.Ytimjccfpobhpeaa
namespace Go.Proofs.Ytimjccfpobhpeaa
open Go.RowKit Go.Proofs.YtimjccfpobhpeaaW.PrintWords Go.Proofs.Ytimjccfpobhpeaa.PF
set_option maxRecDepth 100000
def pinPlaces (i : Nat) : List Int → Nat → List (Int × Load)
  | [], _ => []
  | net :: r, k => (net, ⟨0, i, k⟩) :: pinPlaces i r (k + 1)
def Ko : List Kr → Nat → List (Int × Load)
  | [], _ => []
  | g :: r, i => pinPlaces i g.f2 0 ++ Ko r (i + 1)
def Qs : List S82 → Nat → List (Int × Load)
  | [], _ => []
  | f :: r, i => (f.f2, ⟨1, i, 0⟩) :: (f.f3, ⟨2, i, 0⟩) :: Qs r (i + 1)
def Qx : List Int → Nat → List (Int × Load)
  | [], _ => []
  | net :: r, i => (net, ⟨3, i, 0⟩) :: Qx r (i + 1)
def placesOf (l2 : List S82) (l3 : List Kr) (l4 : List Int) : List (Int × Load) := Ko l3 0 ++ (Qs l2 0 ++ Qx l4 0)
def loadsFrom (rows : List (List Load)) (ps : List (Int × Load)) : List (List Load) := ps.foldl (fun r p => useF r p.1 p.2) rows
structure GoodP (n : Nat) (rows : List (List Load)) (ps : List (Int × Load)) : Prop where
  len : rows.length = n
  rng : ∀ p ∈ ps, 0 ≤ p.1 ∧ p.1 < n
  few : ∀ j, (rows.getD j []).length + ps.length ≤ 1000000000
theorem GoodP.head {n : Nat} {rows : List (List Load)} {p : Int × Load} {ps : List (Int × Load)} (h : GoodP n rows (p :: ps)) : 0 ≤ p.1 ∧ p.1 < rows.length ∧ ((rows.getD p.1.toNat []).length + 1) * 24 ≤ 140737488355328 := by
  have h1 := h.rng p List.mem_cons_self
  have h2 := h.few p.1.toNat
  have h3 := h.len
  rw [List.length_cons] at h2
  exact ⟨h1.1, by omega, by omega⟩
theorem GoodP.tail {n : Nat} {rows : List (List Load)} {p : Int × Load} {ps : List (Int × Load)} (h : GoodP n rows (p :: ps)) : GoodP n (useF rows p.1 p.2) ps := by
  refine ⟨by unfold useF; rw [List.length_set]; exact h.len, fun q hq => h.rng q (List.mem_cons_of_mem _ hq), fun j => ?_⟩
  have h2 := h.few j
  rw [List.length_cons] at h2
  unfold useF
  rw [List.getD_eq_getElem?_getD, List.getElem?_set]
  split
  · rename_i hj
    subst hj
    split
    · simp only [Option.getD_some, List.length_append, List.length_singleton]
      omega
    · simp
      omega
  · rw [← List.getD_eq_getElem?_getD]
    omega
structure Rows70 (W0 : World) (w : World) (g : Nat) (v : Value) (rows : List (List Load)) : Prop where
  blk : w.heap[g]? = some (.cells #[v] 70 (0, 0))
  s : Kd.S (Kd.slice 77 kLoad) 75 w W0.heap.size (fun _ => True) v rows
theorem Rows70.below {W0 w w1 : World} {g : Nat} {v : Value} {rows : List (List Load)} (h : Rows70 W0 w g v rows) (hb : Below w.heap.size w w1) : Rows70 W0 w1 g v rows :=
  ⟨(hb.block g (Array.getElem?_eq_some_iff.1 h.blk).1).trans h.blk, Kd.S_below h.s hb⟩
theorem use_step {W0 : World} (y : Under W0) {n g : Nat} {v : Value} {rows : List (List Load)} {net : Int} {l : Load} {ps : List (Int × Load)} (h : Rows70 W0 y.val g v rows) (hg : GoodP n rows ((net, l) :: ps)) :
    Calls Try.prog 53 #[.int .i64 net, .agg #[.int .i64 l.f0, .int .i64 l.f1, .int .i64 l.f2], .pointer (some ⟨g, 0, none⟩)] y.val fun e w' => e = .returned (.tuple #[]) ∧
      ∃ z : Under W0, w' = z.val ∧ Rows70 W0 z.val g v (useF rows net l) ∧ GoodP n (useF rows net l) ps ∧ y.val.heap.size ≤ z.val.heap.size ∧
      ∀ (k : Nat) (t : TypeId) (cs : Array Value), y.val.heap[k]? = some (.cells cs t (0, 0)) → t ≠ 75 → t ≠ 77 → z.val.heap[k]? = y.val.heap[k]? :=
  (use_calls g W0.heap.size W0 y.val v rows net l h.blk h.s hg.head.1 hg.head.2.1 hg.head.2.2 y.size y.ok).mono fun _ w' ⟨he, hb, hS, hB, hz, hk⟩ => ⟨he, ⟨w', hB⟩, rfl, ⟨hb, hS⟩, hg.tail, hz, hk⟩
theorem kd_gate {w : World} {A : Option Addr} {n : Nat} {xs : List Kr} (h : Kd.C k80 w A n xs) {i : Nat} {x : Kr} (hx : xs[i]? = some x) :
    ∃ b o A2 c2, A = some ⟨b, o, none⟩ ∧ b < w.heap.size ∧ w.cell? ⟨b, o + i * 3, none⟩ = some (.int .i64 x.f0) ∧ w.cell? ⟨b, o + i * 3 + 1, none⟩ = some (.int .u64 x.f1) ∧ w.cell? ⟨b, o + i * 3 + 2, none⟩ = some (.slice A2 x.f2.length c2) ∧ Kd.C (Kd.int .i64) w A2 x.f2.length x.f2 := by
  obtain ⟨b, o, cs, rfl, hb, _, hK, hc⟩ := kd_at h (by exact Nat.succ_pos _) hx
  obtain ⟨A2, c2, rfl, _, hC⟩ := k80_open hK
  exact ⟨b, o, A2, c2, rfl, hb, hc 0 _ rfl, by have := hc 1 _ rfl; rwa [← Nat.add_assoc] at this, by have := hc 2 _ rfl; rwa [← Nat.add_assoc] at this, hC⟩
theorem kd_flop {w : World} {A : Option Addr} {n : Nat} {xs : List S82} (h : Kd.C k82 w A n xs) {i : Nat} {x : S82} (hx : xs[i]? = some x) :
    ∃ b o, A = some ⟨b, o, none⟩ ∧ b < w.heap.size ∧ w.cell? ⟨b, o + i * 5, none⟩ = some (.string x.f0) ∧ w.cell? ⟨b, o + i * 5 + 1, none⟩ = some (.int .i64 x.f1) ∧ w.cell? ⟨b, o + i * 5 + 2, none⟩ = some (.int .i64 x.f2) ∧ w.cell? ⟨b, o + i * 5 + 3, none⟩ = some (.int .i64 x.f3) ∧ w.cell? ⟨b, o + i * 5 + 4, none⟩ = some (.bool x.f4) := by
  obtain ⟨b, o, cs, rfl, hb, _, hK, hc⟩ := kd_at h (by exact Nat.succ_pos _) hx
  obtain rfl := k82_open hK
  exact ⟨b, o, rfl, hb, hc 0 _ rfl, by have := hc 1 _ rfl; rwa [← Nat.add_assoc] at this, by have := hc 2 _ rfl; rwa [← Nat.add_assoc] at this, by have := hc 3 _ rfl; rwa [← Nat.add_assoc] at this, by have := hc 4 _ rfl; rwa [← Nat.add_assoc] at this⟩
set_option maxHeartbeats 16000000 in
theorem loads_ok (A0 A1 A2 A3 A4 : Option Addr) (n0 n1 c0 c1 c2 c3 c4 : Nat) (l2 : List S82) (l3 : List Kr) (l4 : List Int) (w : World) (nets : Nat)
    (h2 : Kd.C k82 w A2 l2.length l2) (h3 : Kd.C k80 w A3 l3.length l3) (h4 : Kd.C (Kd.int .i64) w A4 l4.length l4)
    (HF : ∀ W, Below w.heap.size w W → Calls Try.prog 9 #[.agg #[.slice A0 n0 c0, .slice A1 n1 c1, .slice A2 l2.length c2, .slice A3 l3.length c3, .slice A4 l4.length c4]] W fun e w' => e = .returned (.int .i64 0) ∧ Below W.heap.size W w')
    (HN : ∀ W, Below w.heap.size w W → Calls Try.prog 52 #[.agg #[.slice A0 n0 c0, .slice A1 n1 c1, .slice A2 l2.length c2, .slice A3 l3.length c3, .slice A4 l4.length c4]] W fun e w' => e = .returned (.int .i64 nets) ∧ Below W.heap.size W w')
    (hgood : GoodP nets (List.replicate nets []) (placesOf l2 l3 l4)) (hn : nets ≤ 1000000000) :
    Calls Try.prog 27 #[.agg #[.slice A0 n0 c0, .slice A1 n1 c1, .slice A2 l2.length c2, .slice A3 l3.length c3, .slice A4 l4.length c4]] w fun e w' => ∃ v, e = .returned (.tuple #[v, .int .i64 0]) ∧
      Kd.S (Kd.slice 77 kLoad) 75 w' w.heap.size (fun _ => True) v (loadsFrom (List.replicate nets []) (placesOf l2 l3 l4)) ∧ Below w.heap.size w w' := by
  have hu := Try.underlying27
  have hu2 := Try.underlying23
  have hu3 := Try.underlying24
  have hu4 := Try.underlying25
  have hu5 := Try.underlying77
  have hu6 := Try.underlying80
  have hu7 := Try.underlying82
  have hW0 : Below w.heap.size w (w.alloc (.cells #[.slice A0 n0 c0, .slice A1 n1 c1, .slice A2 l2.length c2, .slice A3 l3.length c3, .slice A4 l4.length c4] 27)) := (Below.refl _ _).alloc (Nat.le_refl _) _
  have bel : ∀ x : Under (w.alloc (.cells #[.slice A0 n0 c0, .slice A1 n1 c1, .slice A2 l2.length c2, .slice A3 l3.length c3, .slice A4 l4.length c4] 27)), Below w.heap.size w x.val := fun x => hW0.trans (x.ok.mono (by simp))
  have hsz : ∀ x : Under (w.alloc (.cells #[.slice A0 n0 c0, .slice A1 n1 c1, .slice A2 l2.length c2, .slice A3 l3.length c3, .slice A4 l4.length c4] 27)), w.heap.size < x.val.heap.size := fun x => Nat.lt_of_lt_of_le (by simp) x.size
  have hm2 := (kd_len h2).2
  have hm3 := (kd_len h3).2
  have hm4 := (kd_len h4).2
  go_enter Try.func27, Try.ntmps27
  go_wp2_with (first
    | (go_at_call 9; refine (HF _ hW0).mono ?_; rintro e w1 ⟨rfl, hB1⟩; obtain ⟨x1, rfl⟩ : ∃ x : Under (w.alloc (.cells #[.slice A0 n0 c0, .slice A1 n1 c1, .slice A2 l2.length c2, .slice A3 l3.length c3, .slice A4 l4.length c4] 27)), w1 = x.val := ⟨⟨w1, hB1⟩, rfl⟩; clear hB1)
    | (go_at_call 52; refine (HN _ (bel x1)).mono ?_; rintro e w2 ⟨rfl, hB2⟩; obtain ⟨x2, rfl⟩ : ∃ x : Under (w.alloc (.cells #[.slice A0 n0 c0, .slice A1 n1 c1, .slice A2 l2.length c2, .slice A3 l3.length c3, .slice A4 l4.length c4] 27)), w2 = x.val := ⟨⟨w2, x1.ok.trans (hB2.mono x1.size)⟩, rfl⟩; clear hB2)
    | ((with_reducible refine Xg (N := 22) rfl ?_); refine Kd.S_make (Kd.slice 77 kLoad) (w0 := w.alloc (.cells #[.slice A0 n0 c0, .slice A1 n1 c1, .slice A2 l2.length c2, .slice A3 l3.length c3, .slice A4 l4.length c4] 27)) (w.alloc (.cells #[.slice A0 n0 c0, .slice A1 n1 c1, .slice A2 l2.length c2, .slice A3 l3.length c3, .slice A4 l4.length c4] 27)).heap.size 75 rfl (N := 22) rfl 70 (.tmp 21) (.tmp 21) rfl (nets : Int) rfl rfl Try.underlying70 (.slice none 0 0) 24 (by kernel_rfl) rfl (by exact Nat.succ_pos _) (by decide) [] (ok := fun _ => True) (okp := fun _ => False) ⟨_, rfl, Kd.R_nil _ _ _ _ _⟩ (fun _ h => h.elim) trivial (by omega) (by simp; omega) x2.ok x2.size ?_; intro v3 w3 hS3 hB3 hg3 _; obtain ⟨x3, rfl⟩ : ∃ x : Under (w.alloc (.cells #[.slice A0 n0 c0, .slice A1 n1 c1, .slice A2 l2.length c2, .slice A3 l3.length c3, .slice A4 l4.length c4] 27)), w3 = x.val := ⟨⟨w3, hB3⟩, rfl⟩; rw [Int.toNat_natCast] at hS3; obtain ⟨B3, d3, rfl⟩ := Kd.S_slice hS3; rw [List.length_replicate] at hS3))
  have hg5l : x3.val.heap.size < (x3.val.alloc (.cells #[.slice B3 nets d3] 70)).heap.size := by simp
  have hg5s := hsz x3
  have hg5b := x3.size
  generalize hg5 : x3.val.heap.size = g5 at *
  have hR0 : Rows70 (w.alloc (.cells #[.slice A0 n0 c0, .slice A1 n1 c1, .slice A2 l2.length c2, .slice A3 l3.length c3, .slice A4 l4.length c4] 27)) (x3.val.alloc (.cells #[.slice B3 nets d3] 70)) g5 (.slice B3 nets d3) (List.replicate nets []) := ⟨by rw [← hg5]; exact heap_alloc_new _ _, Kd.S_alloc hS3 _⟩
  have hgoodh := Lib.hid hgood
  have hg5h := Lib.hid hg5
  clear hS3 hB3 hg3 hg5 hgood
  go_loopg [7, 8, 9, 10, 27] l3.length (fun d _ _ _ _ t wr => ∃ (i : Nat) (y : Under (w.alloc (.cells #[.slice A0 n0 c0, .slice A1 n1 c1, .slice A2 l2.length c2, .slice A3 l3.length c3, .slice A4 l4.length c4] 27))) (rows : List (List Load)), t = .int .i64 i ∧ wr = y.val ∧ Aside (i + d = l3.length) ∧ Rows70 (w.alloc (.cells #[.slice A0 n0 c0, .slice A1 n1 c1, .slice A2 l2.length c2, .slice A3 l3.length c3, .slice A4 l4.length c4] 27)) y.val g5 (.slice B3 nets d3) rows ∧
    GoodP nets rows (Ko (l3.drop i) i ++ (Qs l2 0 ++ Qx l4 0)) ∧ Aside (loadsFrom rows (Ko (l3.drop i) i ++ (Qs l2 0 ++ Qx l4 0)) = loadsFrom (List.replicate nets []) (placesOf l2 l3 l4)))
  case atStart => exact ⟨0, x3.alloc _, _, rfl, rfl, by show 0 + l3.length = l3.length; omega, hR0, hgoodh.out, rfl⟩
  case round =>
    clear hR0
    obtain ⟨i, y, rows, rfl, rfl, hi, hR, hG, hL⟩ := hrel
    have hyl := hsz y
    have hgy := Array.getElem?_eq_some_iff.1 hR.blk |>.1
    by_cases hlt : i < l3.length
    · obtain ⟨gi, hgi⟩ := get_ex hlt
      obtain ⟨b, ob, A5, c5, rfl, hb, hk0, hk1, hk2, hC⟩ := kd_gate h3 hgi
      obtain ⟨gO, rfl⟩ : ∃ m, gk = m + 1 := ⟨gk - 1, by have := hi.out; omega⟩
      have hbl : b ≤ w.heap.size := by omega
      have hbn : b ≠ w.heap.size := by omega
      have hby : b < y.val.heap.size := by omega
      have hm5 := (kd_len hC).2
      rw [drop_cons hgi, Ko, List.append_assoc] at hG hL
      have hih := Lib.hid hi.out
      have hLh := Lib.hid hL.out
      have hgih := Lib.hid hgi
      clear hi hL hgi
      go_wp2
      go_loopg [9, 10, 35] gi.f2.length (fun d _ _ t wr => ∃ (k : Nat) (y : Under (w.alloc (.cells #[.slice A0 n0 c0, .slice A1 n1 c1, .slice A2 l2.length c2, .slice (some ⟨b, ob, none⟩) l3.length c3, .slice A4 l4.length c4] 27))) (rows : List (List Load)), t = .int .i64 k ∧ wr = y.val ∧ Aside (k + d = gi.f2.length) ∧ Rows70 (w.alloc (.cells #[.slice A0 n0 c0, .slice A1 n1 c1, .slice A2 l2.length c2, .slice (some ⟨b, ob, none⟩) l3.length c3, .slice A4 l4.length c4] 27)) y.val g5 (.slice B3 nets d3) rows ∧
        GoodP nets rows (pinPlaces i (gi.f2.drop k) k ++ (Ko (l3.drop (i + 1)) (i + 1) ++ (Qs l2 0 ++ Qx l4 0))) ∧ Aside (loadsFrom rows (pinPlaces i (gi.f2.drop k) k ++ (Ko (l3.drop (i + 1)) (i + 1) ++ (Qs l2 0 ++ Qx l4 0))) = loadsFrom (List.replicate nets []) (placesOf l2 l3 l4)))
      case atStart => exact ⟨0, y.alloc _, rows, rfl, rfl, by show 0 + gi.f2.length = gi.f2.length; omega, hR.below (Zn (Below.refl _ _) _), hG, hLh.out⟩
      case round =>
        clear hR hG hLh hyl hgy hby
        obtain ⟨k, y, rows, rfl, rfl, hk, hR, hG, hL⟩ := hrel
        have hyl := hsz y
        by_cases hlk : k < gi.f2.length
        · obtain ⟨net, hnet⟩ := get_ex hlk
          obtain ⟨b2, o2, rfl, hb2, hkn⟩ := kd_int hC hnet
          obtain ⟨gI, rfl⟩ : ∃ m, gk = m + 1 := ⟨gk - 1, by have := hk.out; omega⟩
          have hbl2 : b2 ≤ w.heap.size := by omega
          have hbn2 : b2 ≠ w.heap.size := by omega
          have hby2 : b2 < y.val.heap.size := by omega
          rw [drop_cons hnet, pinPlaces, List.cons_append] at hG hL
          have hkh := Lib.hid hk.out
          have hLh := Lib.hid hL.out
          clear hk hL hnet
          go_wp2_with (go_at_call 53; refine (use_step y hR hG).mono ?_; rintro e w' ⟨rfl, z, rfl, hRz, hGz, -, -⟩)
          go_roundg gI
          case measure => have := hkh.out; omega
          case rel => exact ⟨k + 1, z, _, by go_num, rfl, by show k + 1 + gI = gi.f2.length; have := hkh.out; omega, hRz, hGz, hLh.out⟩
        · obtain rfl : k = gi.f2.length := by have := hk.out; omega
          rw [drop_end, pinPlaces, List.nil_append] at hG hL
          have hLh := Lib.hid hL.out
          clear hk hL
          go_wp2
          go_roundg gO
          case measure => have := hih.out; omega
          case rel => exact ⟨i + 1, y, _, by go_num, rfl, by show i + 1 + gO = l3.length; have := hih.out; omega, hR, hG, hLh.out⟩
    · obtain rfl : i = l3.length := by have := hi.out; omega
      rw [drop_end, Ko, List.nil_append] at hG hL
      have hLh0 := Lib.hid hL.out
      clear hi hL
      go_wp2
      go_loopg [11, 12, 51] l2.length (fun d _ _ t wr => ∃ (i : Nat) (y : Under (w.alloc (.cells #[.slice A0 n0 c0, .slice A1 n1 c1, .slice A2 l2.length c2, .slice A3 l3.length c3, .slice A4 l4.length c4] 27))) (rows : List (List Load)), t = .int .i64 i ∧ wr = y.val ∧ Aside (i + d = l2.length) ∧ Rows70 (w.alloc (.cells #[.slice A0 n0 c0, .slice A1 n1 c1, .slice A2 l2.length c2, .slice A3 l3.length c3, .slice A4 l4.length c4] 27)) y.val g5 (.slice B3 nets d3) rows ∧
        GoodP nets rows (Qs (l2.drop i) i ++ Qx l4 0) ∧ Aside (loadsFrom rows (Qs (l2.drop i) i ++ Qx l4 0) = loadsFrom (List.replicate nets []) (placesOf l2 l3 l4)))
      case atStart => exact ⟨0, y, rows, rfl, rfl, by show 0 + l2.length = l2.length; omega, hR, hG, hLh0.out⟩
      case round =>
        clear hR hG hLh0 hyl hgy
        obtain ⟨i, y, rows, rfl, rfl, hi, hR, hG, hL⟩ := hrel
        have hyl := hsz y
        have hgy := Array.getElem?_eq_some_iff.1 hR.blk |>.1
        by_cases hlt2 : i < l2.length
        · obtain ⟨fi, hfi⟩ := get_ex hlt2
          obtain ⟨b, ob, rfl, hb, hk0, hk1, hk2, hk3, hk4⟩ := kd_flop h2 hfi
          obtain ⟨gO, rfl⟩ : ∃ m, gk = m + 1 := ⟨gk - 1, by have := hi.out; omega⟩
          have hbl : b ≤ w.heap.size := by omega
          have hbn : b ≠ w.heap.size := by omega
          have hby : b < y.val.heap.size := by omega
          rw [drop_cons hfi, Qs, List.cons_append, List.cons_append] at hG hL
          have hih := Lib.hid hi.out
          have hLh := Lib.hid hL.out
          clear hi hL hfi
          have hR1 := hR.below (Zn (Below.refl _ _) (.cells #[.string fi.f0, .int .i64 fi.f1, .int .i64 fi.f2, .int .i64 fi.f3, .bool fi.f4] 82))
          go_wp2_with (first
            | (go_at_call 53; refine (use_step z1 hRz1 hGz1).mono ?_; rintro e w' ⟨rfl, z2, rfl, hRz2, hGz2, -, -⟩)
            | (go_at_call 53; refine (use_step (y.alloc (.cells #[.string fi.f0, .int .i64 fi.f1, .int .i64 fi.f2, .int .i64 fi.f3, .bool fi.f4] 82)) hR1 hG).mono ?_; rintro e w' ⟨rfl, z1, rfl, hRz1, hGz1, hz1s, hz1k⟩; have hz1b := (hz1k y.val.heap.size _ _ (heap_alloc_new _ _) (by decide) (by decide)).trans (heap_alloc_new _ _); have hz1c : z1.val.cell? ⟨y.val.heap.size, 3, none⟩ = some (.int .i64 fi.f3) := (cell_of_row _ _ 3 _ _ _ hz1b).trans rfl; clear hz1b hz1k hz1s))
          go_roundg gO
          case measure => have := hih.out; omega
          case rel => exact ⟨i + 1, z2, _, by go_num, rfl, by show i + 1 + gO = l2.length; have := hih.out; omega, hRz2, hGz2, hLh.out⟩
        · obtain rfl : i = l2.length := by have := hi.out; omega
          rw [drop_end, Qs, List.nil_append] at hG hL
          have hLh1 := Lib.hid hL.out
          clear hi hL
          go_wp2
          go_loopg [13, 14, 72] l4.length (fun d _ _ t wr => ∃ (i : Nat) (y : Under (w.alloc (.cells #[.slice A0 n0 c0, .slice A1 n1 c1, .slice A2 l2.length c2, .slice A3 l3.length c3, .slice A4 l4.length c4] 27))) (rows : List (List Load)), t = .int .i64 i ∧ wr = y.val ∧ Aside (i + d = l4.length) ∧ Rows70 (w.alloc (.cells #[.slice A0 n0 c0, .slice A1 n1 c1, .slice A2 l2.length c2, .slice A3 l3.length c3, .slice A4 l4.length c4] 27)) y.val g5 (.slice B3 nets d3) rows ∧
            GoodP nets rows (Qx (l4.drop i) i) ∧ Aside (loadsFrom rows (Qx (l4.drop i) i) = loadsFrom (List.replicate nets []) (placesOf l2 l3 l4)))
          case atStart => exact ⟨0, y, rows, rfl, rfl, by show 0 + l4.length = l4.length; omega, hR, hG, hLh1.out⟩
          case round =>
            clear hR hG hLh1 hyl hgy
            obtain ⟨i, y, rows, rfl, rfl, hi, hR, hG, hL⟩ := hrel
            have hyl := hsz y
            have hgy := Array.getElem?_eq_some_iff.1 hR.blk |>.1
            by_cases hlt4 : i < l4.length
            · obtain ⟨net, hnet⟩ := get_ex hlt4
              obtain ⟨b, ob, rfl, hb, hkn⟩ := kd_int h4 hnet
              obtain ⟨gO, rfl⟩ : ∃ m, gk = m + 1 := ⟨gk - 1, by have := hi.out; omega⟩
              have hbl : b ≤ w.heap.size := by omega
              have hbn : b ≠ w.heap.size := by omega
              have hby : b < y.val.heap.size := by omega
              rw [drop_cons hnet, Qx] at hG hL
              have hih := Lib.hid hi.out
              have hLh := Lib.hid hL.out
              clear hi hL hnet
              go_wp2_with (go_at_call 53; refine (use_step y hR hG).mono ?_; rintro e w' ⟨rfl, z, rfl, hRz, hGz, -, -⟩)
              go_roundg gO
              case measure => have := hih.out; omega
              case rel => exact ⟨i + 1, z, _, by go_num, rfl, by show i + 1 + gO = l4.length; have := hih.out; omega, hRz, hGz, hLh.out⟩
            · obtain rfl : i = l4.length := by have := hi.out; omega
              rw [drop_end, Qx] at hL
              have hLh2 := Lib.hid hL.out
              have hcv : y.val.cell? ⟨g5, 0, none⟩ = some (.slice B3 nets d3) := (cell_of_row _ _ 0 _ _ _ hR.blk).trans rfl
              clear hi hL hG
              go_wp2
              go_ret2
              refine ⟨_, rfl, ?_, bel y⟩
              rw [← hLh2.out]
              exact Kd.S_lower hR.s (by simp)
end Go.Proofs.Ytimjccfpobhpeaa
namespace Go.Proofs.Ytimjccfpobhpeaa
open Go.RowKit Go.Proofs.YtimjccfpobhpeaaW.PrintWords Go.Proofs.Ytimjccfpobhpeaa.PF
set_option maxRecDepth 100000
structure NetR (T : Nat → Prop) (B : Nat) (w : World) (v0 v1 v2 v3 v4 : Value) (l0 l1 : List ByteArray) (l2 : List Flop) (l3 : List Gate) (l4 : List Int) : Prop where
  r0 : Kd.R Kd.string 9 w B (fun k => T k ∧ some k ≠ v1.ownBlock) v0 l0
  r1 : Kd.R Kd.string 9 w B (fun k => T k ∧ some k ≠ v0.ownBlock) v1 l1
  r2 : Kd.R kFlop 82 w B T v2 l2
  r3 : Kd.S kGate 80 w B (fun k => T k ∧ some k ≠ v4.ownBlock) v3 l3
  r4 : Kd.R (Kd.int .i64) 3 w B T v4 l4
section
variable {T : Nat → Prop} {B : Nat} {w w1 : World} {v0 v1 v2 v3 v4 : Value} {l0 l1 : List ByteArray} {l2 : List Flop} {l3 : List Gate} {l4 : List Int}
theorem NetR.below (h : NetR T B w v0 v1 v2 v3 v4 l0 l1 l2 l3 l4) (hb : Below w.heap.size w w1) : NetR T B w1 v0 v1 v2 v3 v4 l0 l1 l2 l3 l4 :=
  ⟨Kd.Zr h.r0 hb, Kd.Zr h.r1 hb, Kd.Zr h.r2 hb, Kd.S_below h.r3 hb, Kd.Zr h.r4 hb⟩
theorem NetR.lower {B' : Nat} (h : NetR T B w v0 v1 v2 v3 v4 l0 l1 l2 l3 l4) (hb : B' ≤ B) : NetR T B' w v0 v1 v2 v3 v4 l0 l1 l2 l3 l4 :=
  ⟨Kd.Xn h.r0 hb, Kd.Xn h.r1 hb, Kd.Xn h.r2 hb, Kd.S_lower h.r3 hb, Kd.Xn h.r4 hb⟩
theorem NetR.vars (h : NetR T B w v0 v1 v2 v3 v4 l0 l1 l2 l3 l4) (hm : ∀ k, k < w.heap.size → B ≤ k → w1.heap[k]? = w.heap[k]?) : NetR T B w1 v0 v1 v2 v3 v4 l0 l1 l2 l3 l4 := by
  have mv : ∀ {α : Type} {d : Kd α} {e : Nat} {v : Value} {xs : List α} {ok : Nat → Prop}, Kd.R d e w B ok v xs → Kd.R d e w1 B ok v xs := fun h =>
    Kd.Xj (Kd.R_step (Kd.R_bound h) (fun k hk hl => hm k hl hk.2.1)) (fun _ hk => hk.1)
  exact ⟨mv h.r0, mv h.r1, mv h.r2, Kd.S_mono (Kd.S_step (Kd.S_bound h.r3) (fun k hk hl => hm k hl hk.2.1)) (fun _ hk => hk.1), mv h.r4⟩
theorem mvT {α : Type} {d : Kd α} {e gi t : Nat} {v : Value} {xs : List α} {ok : Nat → Prop} {cells : Array Value} (h : Kd.R d e w B ok v xs) (hc : w.heap[gi]? = some (.cells cells t (0, 0))) (ht : ∀ q, q ∈ e :: d.E → q ≠ t) (hg : w.grownBy w1 (some gi)) : Kd.R d e w1 B ok v xs :=
  Kd.Xj (Kd.R_step (Kd.Qz h hc ht) (fun k hk hl => hg.block k hl (fun e => hk.2 (by injection e)))) (fun _ hk => hk.1)
theorem ne_typed {g gi t t' : Nat} {cs cs' : Array Value} (h : w.heap[g]? = some (.cells cs t (0, 0))) (h' : w.heap[gi]? = some (.cells cs' t' (0, 0))) (ht : t ≠ t') : g ≠ gi := by
  rintro rfl
  rw [h] at h'
  injection h' with h'
  injection h' with _ h'
  exact ht h'
theorem flop_set {g c2 : Nat} (h : Kd.R kFlop 82 w B T (.slice (some ⟨g, 0, none⟩) l2.length c2) l2) {i : Nat} {x : Flop} (hx : l2[i]? = some x) (j : Nat) (hj : j = 2 ∨ j = 3) (val : Int) :
    w.cell? ⟨g, i * 5 + j, none⟩ = some (.int .i64 (if j = 2 then x.f2 else x.f3)) ∧ w.frozen? ⟨g, i * 5 + j, none⟩ = false ∧
      Kd.R kFlop 82 (w.setCell ⟨g, i * 5 + j, none⟩ (.int .i64 val)) B T (.slice (some ⟨g, 0, none⟩) l2.length c2) (l2.set i (if j = 2 then ⟨x.f0, x.f1, val, x.f3, x.f4⟩ else ⟨x.f0, x.f1, x.f2, val, x.f4⟩)) ∧
      w.grownBy (w.setCell ⟨g, i * 5 + j, none⟩ (.int .i64 val)) (some g) := by
  have hi : i < l2.length := (List.getElem?_eq_some_iff.1 hx).1
  obtain ⟨c, hcl, hM, hcc, hfr⟩ := Kd.R_elem h x (i : Int) (by omega) (by omega)
  rw [show l2.getD (i : Int).toNat x = x by simp [List.getD, hx]] at hM
  obtain rfl := k82_openM hM
  have hseg := fun (x' : Flop) (hM' : kFlop.M w B (fun _ => False) x' _) => Kd.R_seg h (i : Int) (by omega) (by omega) (c := [.string x.f0, .int .i64 x.f1, .int .i64 x.f2, .int .i64 x.f3, .bool x.f4]) (seg := [.int .i64 val]) (j := j) hcl hcc (by rcases hj with rfl | rfl; exact (by show 2 + 1 ≤ 5; decide); exact (by show 3 + 1 ≤ 5; decide)) (x' := x') hM' (fun _ hk => hk.elim)
  rcases hj with rfl | rfl
  · obtain ⟨h1, h2⟩ := hseg ⟨x.f0, x.f1, val, x.f3, x.f4⟩ (k82_mkM _ _ _ _)
    exact ⟨hcc 2 _ rfl, hfr 2, h1, h2⟩
  · obtain ⟨h1, h2⟩ := hseg ⟨x.f0, x.f1, x.f2, val, x.f4⟩ (k82_mkM _ _ _ _)
    exact ⟨hcc 3 _ rfl, hfr 3, h1, h2⟩
theorem NetR.pin (h : NetR T B w v0 v1 v2 v3 v4 l0 l1 l2 l3 l4) {i k : Nat} {x : Gate} (hx : l3[i]? = some x) (hk : k < x.f2.length) :
    ∃ g3 c3 gi ci, v3 = .slice (some ⟨g3, 0, none⟩) l3.length c3 ∧ w.cell? ⟨g3, i * 3 + 2, none⟩ = some (.slice (some ⟨gi, 0, none⟩) x.f2.length ci) ∧ w.cell? ⟨gi, k, none⟩ = some (.int .i64 (x.f2.getD k 0)) ∧ w.frozen? ⟨gi, k, none⟩ = false ∧
      g3 < w.heap.size ∧ gi < w.heap.size ∧ B ≤ g3 ∧ B ≤ gi ∧ T gi ∧ (∃ cs, w.heap[g3]? = some (.cells cs 80 (0, 0))) ∧ (∃ cs, w.heap[gi]? = some (.cells cs 3 (0, 0))) ∧
      ∀ val, NetR T B (w.setCell ⟨gi, k, none⟩ (.int .i64 val)) v0 v1 v2 v3 v4 l0 l1 l2 (l3.set i ⟨x.f0, x.f1, x.f2.set k val⟩) l4 := by
  have hi : i < l3.length := (List.getElem?_eq_some_iff.1 hx).1
  obtain ⟨g3, c3, rfl, hg3, hg3l, hg3c⟩ := Kd.S_form h.r3 (by omega)
  obtain ⟨oki, c, hcl, hM, hcc, hoki, hback⟩ := Kd.S_borrow h.r3 x (i : Int) (by omega) (by omega)
  rw [show l3.getD (i : Int).toNat x = x by simp [List.getD, hx]] at hM
  obtain ⟨u2, rfl, hR⟩ := k80_openM hM
  obtain ⟨gi, ci, rfl, hgi, hgil, hgic⟩ := Kd.R_form hR (by omega)
  obtain ⟨hcell, hfr⟩ := Kd.R_cell (0 : Int) hR (k : Int) (by omega) (by omega)
  refine ⟨g3, c3, gi, ci, rfl, ?_, hcell, hfr, hg3l, hgil, hg3, hgi, (hoki gi (hR.1 gi (by simp [Value.ownBlock]))).1.1, hg3c, hgic, fun val => ?_⟩
  · have := hcc 2 _ rfl
    simp only [Addr.add_lit, Nat.zero_add] at this
    exact this
  obtain ⟨hR2, hg2⟩ := Kd.R_put hR (k : Int) val
  have hgio : oki gi := hR.1 gi (by simp [Value.ownBlock])
  obtain ⟨cs, hgc⟩ := hgic
  have hS := hback (x' := ⟨x.f0, x.f1, x.f2.set k val⟩) hg2 (fun k hk => by injection hk with hk; subst hk; exact hgio) (k80_mkM _ _ _ ⟨x.f0, x.f1, x.f2.set k val⟩ (by rw [Int.toNat_natCast] at hR2; exact hR2))
  refine ⟨mvT h.r0 hgc (by decide) hg2, mvT h.r1 hgc (by decide) hg2, mvT h.r2 hgc (by decide) hg2, hS, ?_⟩
  exact Kd.Xj (Kd.R_step (Kd.R_tight rfl h.r4) (fun k hk hl => hg2.block k hl (fun e => (hoki gi hgio).1.2 (by rw [← e, hk])))) (fun k hk => h.r4.1 k hk.symm)
theorem NetR.flop (h : NetR T B w v0 v1 v2 v3 v4 l0 l1 l2 l3 l4) {i : Nat} {x : Flop} (hx : l2[i]? = some x) :
    ∃ g2 c2, v2 = .slice (some ⟨g2, 0, none⟩) l2.length c2 ∧ g2 < w.heap.size ∧ B ≤ g2 ∧ T g2 ∧ (∃ cs, w.heap[g2]? = some (.cells cs 82 (0, 0))) ∧
      w.cell? ⟨g2, i * 5 + 2, none⟩ = some (.int .i64 x.f2) ∧ w.cell? ⟨g2, i * 5 + 3, none⟩ = some (.int .i64 x.f3) ∧ w.frozen? ⟨g2, i * 5 + 2, none⟩ = false ∧ w.frozen? ⟨g2, i * 5 + 3, none⟩ = false ∧
      ∀ val, NetR T B (w.setCell ⟨g2, i * 5 + 2, none⟩ (.int .i64 val)) v0 v1 v2 v3 v4 l0 l1 (l2.set i ⟨x.f0, x.f1, val, x.f3, x.f4⟩) l3 l4 ∧
        NetR T B (w.setCell ⟨g2, i * 5 + 3, none⟩ (.int .i64 val)) v0 v1 v2 v3 v4 l0 l1 (l2.set i ⟨x.f0, x.f1, x.f2, val, x.f4⟩) l3 l4 := by
  have hi : i < l2.length := (List.getElem?_eq_some_iff.1 hx).1
  obtain ⟨g2, c2, rfl, hg2, hg2l, cs, hgc⟩ := Kd.R_form h.r2 (by omega)
  have h2 := fun val => flop_set h.r2 hx 2 (.inl rfl) val
  have h3 := fun val => flop_set h.r2 hx 3 (.inr rfl) val
  refine ⟨g2, c2, rfl, hg2l, hg2, h.r2.1 g2 (by simp [Value.ownBlock]), ⟨cs, hgc⟩, (h2 0).1, (h3 0).1, (h2 0).2.1, (h3 0).2.1, fun val => ⟨?_, ?_⟩⟩
  · have hg := (h2 val).2.2.2
    refine ⟨mvT h.r0 hgc (by decide) hg, mvT h.r1 hgc (by decide) hg, (h2 val).2.2.1, ?_, mvT h.r4 hgc (by decide) hg⟩
    exact Kd.S_mono (Kd.S_step (Kd.S_types h.r3 hgc (by decide)) (fun k hk hl => hg.block k hl (fun e => hk.2 (by injection e)))) (fun _ hk => hk.1)
  · have hg := (h3 val).2.2.2
    refine ⟨mvT h.r0 hgc (by decide) hg, mvT h.r1 hgc (by decide) hg, (h3 val).2.2.1, ?_, mvT h.r4 hgc (by decide) hg⟩
    exact Kd.S_mono (Kd.S_step (Kd.S_types h.r3 hgc (by decide)) (fun k hk hl => hg.block k hl (fun e => hk.2 (by injection e)))) (fun _ hk => hk.1)
theorem NetR.out (h : NetR T B w v0 v1 v2 v3 v4 l0 l1 l2 l3 l4) {i : Nat} (hi : i < l4.length) :
    ∃ g4 c4, v4 = .slice (some ⟨g4, 0, none⟩) l4.length c4 ∧ g4 < w.heap.size ∧ B ≤ g4 ∧ T g4 ∧ (∃ cs, w.heap[g4]? = some (.cells cs 3 (0, 0))) ∧
      w.cell? ⟨g4, i, none⟩ = some (.int .i64 (l4.getD i 0)) ∧ w.frozen? ⟨g4, i, none⟩ = false ∧
      ∀ val, NetR T B (w.setCell ⟨g4, i, none⟩ (.int .i64 val)) v0 v1 v2 v3 v4 l0 l1 l2 l3 (l4.set i val) := by
  obtain ⟨g4, c4, rfl, hg4, hg4l, cs, hgc⟩ := Kd.R_form h.r4 (by omega)
  obtain ⟨hcell, hfr⟩ := Kd.R_cell (0 : Int) h.r4 (i : Int) (by omega) (by omega)
  refine ⟨g4, c4, rfl, hg4l, hg4, h.r4.1 g4 (by simp [Value.ownBlock]), ⟨cs, hgc⟩, hcell, hfr, fun val => ?_⟩
  obtain ⟨hR2, hg2⟩ := Kd.R_put h.r4 (i : Int) val
  refine ⟨mvT h.r0 hgc (by decide) hg2, mvT h.r1 hgc (by decide) hg2, mvT h.r2 hgc (by decide) hg2, ?_, by rw [Int.toNat_natCast] at hR2; exact hR2⟩
  exact Kd.S_step h.r3 (fun k hk hl => hg2.block k hl (fun e => hk.2 (by rw [e]; simp [Value.ownBlock])))
end
end Go.Proofs.Ytimjccfpobhpeaa
namespace Go.Proofs.Ytimjccfpobhpeaa
open Go.RowKit Go.Proofs.YtimjccfpobhpeaaW.PrintWords Go.Proofs.Ytimjccfpobhpeaa.PF
abbrev GateS := Kr
abbrev FlopS := S82
structure NetP where
  fl : List FlopS
  ga : List GateS
  ou : List Int
def putOne (s : NetP) (l : Load) (v : Int) : NetP :=
  if l.f0 = 0 then { s with ga := s.ga.modify l.f1.toNat fun x => ⟨x.f0, x.f1, x.f2.set l.f2.toNat v⟩ }
  else if l.f0 = 1 then { s with fl := s.fl.modify l.f1.toNat fun x => ⟨x.f0, x.f1, v, x.f3, x.f4⟩ }
  else if l.f0 = 2 then { s with fl := s.fl.modify l.f1.toNat fun x => ⟨x.f0, x.f1, x.f2, v, x.f4⟩ }
  else { s with ou := s.ou.set l.f1.toNat v }
def injectF (load v : Int) : List Load → Nat → NetP → NetP
  | [], _, s => s
  | l :: r, i, s => injectF load v r (i + 1) (if 0 ≤ load ∧ load ≠ i then s else putOne s l v)
def ValidL (s : NetP) (l : Load) : Prop :=
  (l.f0 = 0 ∧ ∃ (i k : Nat) (x : GateS), l.f1 = i ∧ l.f2 = k ∧ s.ga[i]? = some x ∧ k < x.f2.length) ∨ (l.f0 = 1 ∧ ∃ (i : Nat) (x : FlopS), l.f1 = i ∧ s.fl[i]? = some x) ∨ (l.f0 = 2 ∧ ∃ (i : Nat) (x : FlopS), l.f1 = i ∧ s.fl[i]? = some x) ∨ (l.f0 = 3 ∧ ∃ i : Nat, l.f1 = i ∧ i < s.ou.length)
structure Shape (s s' : NetP) : Prop where
  fl : s'.fl.length = s.fl.length
  ou : s'.ou.length = s.ou.length
  ga : ∀ (i : Nat) (x : GateS), s.ga[i]? = some x → ∃ x', s'.ga[i]? = some x' ∧ x'.f2.length = x.f2.length
theorem Shape.refl (s : NetP) : Shape s s := ⟨rfl, rfl, fun _ x h => ⟨x, h, rfl⟩⟩
theorem Shape.trans {s s' s'' : NetP} (h : Shape s s') (k : Shape s' s'') : Shape s s'' := ⟨k.fl.trans h.fl, k.ou.trans h.ou, fun i x hx => by
  obtain ⟨x', h1, h2⟩ := h.ga i x hx
  obtain ⟨x'', h3, h4⟩ := k.ga i x' h1
  exact ⟨x'', h3, h4.trans h2⟩⟩
theorem ValidL.shape {s s' : NetP} {l : Load} (h : ValidL s l) (k : Shape s s') : ValidL s' l := by
  rcases h with ⟨h0, i, kk, x, h1, h2, h3, h4⟩ | ⟨h0, i, x, h1, h2⟩ | ⟨h0, i, x, h1, h2⟩ | ⟨h0, i, h1, h2⟩
  · obtain ⟨x', h5, h6⟩ := k.ga i x h3
    exact .inl ⟨h0, i, kk, x', h1, h2, h5, by omega⟩
  · have hl := (List.getElem?_eq_some_iff.1 h2).1
    exact .inr (.inl ⟨h0, i, s'.fl[i]'(by rw [k.fl]; exact hl), h1, List.getElem?_eq_getElem _⟩)
  · have hl := (List.getElem?_eq_some_iff.1 h2).1
    exact .inr (.inr (.inl ⟨h0, i, s'.fl[i]'(by rw [k.fl]; exact hl), h1, List.getElem?_eq_getElem _⟩))
  · exact .inr (.inr (.inr ⟨h0, i, h1, by rw [k.ou]; exact h2⟩))
theorem putOne_shape (s : NetP) (l : Load) (v : Int) : Shape s (putOne s l v) := by
  unfold putOne
  split
  · refine ⟨rfl, rfl, fun i x hx => ?_⟩
    simp only [List.getElem?_modify, hx, Option.map_eq_map, Option.map_some]
    split
    · exact ⟨_, rfl, by simp⟩
    · exact ⟨_, rfl, rfl⟩
  · split
    · exact ⟨by simp, rfl, fun _ x h => ⟨x, h, rfl⟩⟩
    · split
      · exact ⟨by simp, rfl, fun _ x h => ⟨x, h, rfl⟩⟩
      · exact ⟨rfl, by simp, fun _ x h => ⟨x, h, rfl⟩⟩
theorem modify_at {α : Type} {xs : List α} {i : Nat} {x : α} (f : α → α) (h : xs[i]? = some x) : xs.modify i f = xs.set i (f x) := by
  apply List.ext_getElem?
  intro j
  rw [List.getElem?_modify, List.getElem?_set]
  obtain ⟨hi, rfl⟩ := List.getElem?_eq_some_iff.1 h
  by_cases hj : i = j
  · subst hj
    simp [hi]
  · simp [hj]
theorem pinPlaces_mem {i : Nat} {p : Int × Load} : ∀ {xs : List Int} {k : Nat}, p ∈ pinPlaces i xs k → ∃ j net, xs[j]? = some net ∧ p = (net, ⟨0, i, (k + j : Nat)⟩)
  | [], k, h => by simp [pinPlaces] at h
  | net :: r, k, h => by
    rw [pinPlaces] at h
    rcases List.mem_cons.1 h with rfl | h
    · exact ⟨0, net, rfl, rfl⟩
    · obtain ⟨j, n2, h1, h2⟩ := pinPlaces_mem h
      exact ⟨j + 1, n2, h1, by rw [h2]; congr 3; omega⟩
theorem gatePlaces_mem {p : Int × Load} : ∀ {xs : List GateS} {i : Nat}, p ∈ Ko xs i → ∃ (j k : Nat) (x : GateS) (net : Int), xs[j]? = some x ∧ x.f2[k]? = some net ∧ p = (net, ⟨0, (i + j : Nat), k⟩)
  | [], i, h => by simp [Ko] at h
  | x :: r, i, h => by
    rw [Ko] at h
    rcases List.mem_append.1 h with h | h
    · obtain ⟨j, net, h1, h2⟩ := pinPlaces_mem h
      exact ⟨0, j, x, net, rfl, h1, by rw [h2]; simp⟩
    · obtain ⟨j, k, y, net, h1, h2, h3⟩ := gatePlaces_mem h
      exact ⟨j + 1, k, y, net, h1, h2, by rw [h3]; congr 3; omega⟩
theorem flopPlaces_mem {p : Int × Load} : ∀ {xs : List FlopS} {i : Nat}, p ∈ Qs xs i → ∃ (j : Nat) (x : FlopS), xs[j]? = some x ∧ (p = (x.f2, ⟨1, (i + j : Nat), 0⟩) ∨ p = (x.f3, ⟨2, (i + j : Nat), 0⟩))
  | [], i, h => by simp [Qs] at h
  | x :: r, i, h => by
    rw [Qs] at h
    rcases List.mem_cons.1 h with rfl | h
    · exact ⟨0, x, rfl, .inl rfl⟩
    rcases List.mem_cons.1 h with rfl | h
    · exact ⟨0, x, rfl, .inr rfl⟩
    · obtain ⟨j, y, h1, h2⟩ := flopPlaces_mem h
      have e : i + 1 + j = i + (j + 1) := by omega
      rw [e] at h2
      exact ⟨j + 1, y, h1, h2⟩
theorem outPlaces_mem {p : Int × Load} : ∀ {xs : List Int} {i : Nat}, p ∈ Qx xs i → ∃ (j : Nat) (net : Int), xs[j]? = some net ∧ p = (net, ⟨3, (i + j : Nat), 0⟩)
  | [], i, h => by simp [Qx] at h
  | x :: r, i, h => by
    rw [Qx] at h
    rcases List.mem_cons.1 h with rfl | h
    · exact ⟨0, x, rfl, rfl⟩
    · obtain ⟨j, y, h1, h2⟩ := outPlaces_mem h
      have e : i + 1 + j = i + (j + 1) := by omega
      rw [e] at h2
      exact ⟨j + 1, y, h1, h2⟩
theorem placesOf_valid {l2 : List FlopS} {l3 : List GateS} {l4 : List Int} {p : Int × Load} (h : p ∈ placesOf l2 l3 l4) : ValidL ⟨l2, l3, l4⟩ p.2 := by
  unfold placesOf at h
  rcases List.mem_append.1 h with h | h
  · obtain ⟨j, k, x, net, h1, h2, rfl⟩ := gatePlaces_mem h
    exact .inl ⟨rfl, j, k, x, by simp, rfl, h1, (List.getElem?_eq_some_iff.1 h2).1⟩
  rcases List.mem_append.1 h with h | h
  · obtain ⟨j, x, h1, rfl | rfl⟩ := flopPlaces_mem h
    · exact .inr (.inl ⟨rfl, j, x, by simp, h1⟩)
    · exact .inr (.inr (.inl ⟨rfl, j, x, by simp, h1⟩))
  · obtain ⟨j, net, h1, rfl⟩ := outPlaces_mem h
    exact .inr (.inr (.inr ⟨rfl, j, by simp, (List.getElem?_eq_some_iff.1 h1).1⟩))
theorem loadsFrom_row (ps : List (Int × Load)) : ∀ (rows : List (List Load)), (∀ p ∈ ps, 0 ≤ p.1 ∧ p.1 < rows.length) → ∀ j, j < rows.length → (loadsFrom rows ps).getD j [] = rows.getD j [] ++ (ps.filter fun p => decide (p.1 = (j : Int))).map (·.2) := by
  induction ps with
  | nil => intro rows _ j _; simp [loadsFrom]
  | cons p ps ih =>
    intro rows hr j hj
    have h1 := hr p List.mem_cons_self
    have hl : (useF rows p.1 p.2).length = rows.length := by unfold useF; rw [List.length_set]
    show (loadsFrom (useF rows p.1 p.2) ps).getD j [] = _
    rw [ih (useF rows p.1 p.2) (fun q hq => by rw [hl]; exact hr q (List.mem_cons_of_mem _ hq)) j (by omega), List.filter_cons]
    by_cases hp : p.1 = (j : Int)
    · rw [decide_eq_true hp, if_pos rfl]
      have : p.1.toNat = j := by omega
      unfold useF
      rw [this, List.getD_eq_getElem?_getD, List.getElem?_set, if_pos rfl, if_pos hj]
      simp
    · rw [decide_eq_false hp, if_neg (by decide)]
      have : p.1.toNat ≠ j := by omega
      unfold useF
      rw [List.getD_eq_getElem?_getD, List.getElem?_set, if_neg this, ← List.getD_eq_getElem?_getD]
theorem loadsFrom_len (ps : List (Int × Load)) : ∀ (rows : List (List Load)), (loadsFrom rows ps).length = rows.length := by
  induction ps with
  | nil => intro rows; rfl
  | cons p ps ih =>
    intro rows
    show (loadsFrom (useF rows p.1 p.2) ps).length = _
    rw [ih]
    unfold useF
    rw [List.length_set]
end Go.Proofs.Ytimjccfpobhpeaa
