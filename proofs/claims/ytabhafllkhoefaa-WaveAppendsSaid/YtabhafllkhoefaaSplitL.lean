/- As SplitA, for a region with several last writers (behind them, what the readers lean on need not stand), and with reads of temporaries that may come at any time. -/
import Derived.Test.YtabhafllkhoefaaSplitA
namespace Go.Proofs.Ytabhafllkhoefaa
open Go.RowKit

section
variable {P : Program} {ops : Array Oper} {S : World → Prop} {Q : Exit → Act → World → Prop} {md : Region.Mode} {E : List Nat}

/-- As rdr, and nil checks. -/
def rdr2 (o : Oper) : Bool := rdr o || (match o.op with | .nilCheck _ => true | _ => false)
theorem quiet_reads2 {o : Oper} {a : Act} {w : World} {v : Value} (hr : rdr2 o = true) (h : o.quietAt P a S w v) : (execOp a.eval o).run P w = .ok (.value v) w := by
  by_cases h1 : rdr o = true
  · exact quiet_reads h1 h
  · have h2 : ∃ x, o.op = .nilCheck x := by
      simp only [rdr2, h1, Bool.false_or] at hr
      split at hr
      · exact ⟨_, by assumption⟩
      · cases hr
    obtain ⟨x, hx⟩ := h2
    unfold Oper.quietAt execOp at h
    unfold execOp
    simp only [hx] at h ⊢
    generalize a.eval x = y at h ⊢
    revert h
    split
    · intro h; simp [runtimePanic, Oper.quietUpon] at h
    · intro h; simp [runtimePanic, Oper.quietUpon] at h
    · intro h; simp [runtimePanic, Oper.quietUpon] at h
    · split
      · intro h; simp [runtimePanic, Oper.quietUpon] at h
      · intro h
        simp only [Sem.run_bind] at h ⊢
        cases h3 : program.run P w with
        | halt z w1 => rw [h3] at h; simp [Result.andThen, Oper.quietUpon] at h
        | ok p w1 =>
          rw [h3] at h
          simp only [Result.andThen_ok] at h ⊢
          cases h4 : (nilAhead (p.types.size + Made.depth) _ _ _).run P w1 with
          | halt z w2 => rw [h4] at h; simp [Result.andThen, Oper.quietUpon] at h
          | ok b w2 =>
            rw [h4] at h
            simp only [Result.andThen_ok] at h ⊢
            by_cases hb : (b != some false) = true
            · rw [if_pos hb] at h
              simp [unsupported, Oper.quietUpon] at h
            · rw [if_neg hb] at h ⊢
              simp only [Sem.run_pure, Oper.quietUpon] at h ⊢
              rw [h.1, h.2]
      · intro h; simpa [Oper.quietUpon, eq_comm] using h
    · intro h; simpa [Oper.quietUpon, eq_comm] using h

/-- A move of a temporary: the same in every world. -/
def pur (o : Oper) : Bool := match o.op with | .move _ => true | _ => false
theorem pur_reads {o : Oper} {a : Act} {w w' : World} {v : Value} (hp : pur o = true) (h : (execOp a.eval o).run P w = .ok (.value v) w) : (execOp a.eval o).run P w' = .ok (.value v) w' := by
  have h2 : ∃ x, o.op = .move x := by
    unfold pur at hp
    split at hp
    · exact ⟨_, by assumption⟩
    · cases hp
  obtain ⟨x, hx⟩ := h2
  unfold execOp at h ⊢
  simp only [hx, Sem.run_pure] at h ⊢
  simp only [Result.ok.injEq, Next.value.injEq, and_true] at h
  rw [h]
theorem pur_rdr {o : Oper} (hp : pur o = true) : rdr2 o = true := by
  unfold pur at hp
  split at hp
  · rename_i h; simp [rdr2, rdr, h]
  · cases hp

/-- Whatever order is picked; behind an operation of E the class S need not stand. -/
def wpAnyL (P : Program) (md : Region.Mode) (ops : Array Oper) (Q : Exit → Act → World → Prop) (S : World → Prop) (E : List Nat) : Nat → Array Bool → Act → World → Prop
  | 0, listed, a, w => Region.ready md ops listed = [] ∧ Q .normal a w
  | fuel + 1, listed, a, w =>
    (Region.ready md ops listed = [] → Q .normal a w) ∧
    ∀ i ∈ Region.ready md ops listed, wpOp P ops Q i (fun a' w' => (i ∈ E ∨ S w') ∧ wpAnyL P md ops Q S E fuel (listed.setIfInBounds i true) a' w') a w
theorem anyL : ∀ (fuel : Nat) (listed : Array Bool) (a : Act) (w : World), wpAnyL P md ops Q S E fuel listed a w → wpAny P md ops Q fuel listed a w
  | 0, _, _, _, h => h
  | fuel + 1, _, _, _, h => ⟨h.1, fun i hi => wpOp_mono (fun a' w' h' => anyL fuel _ a' w' h'.2) (h.2 i hi)⟩

/-- j waits for i, maybe by way of others. -/
def reach (md : Region.Mode) (ops : Array Oper) : Nat → Nat → Nat → Bool
  | 0, _, _ => false
  | f + 1, i, j => match ops[j]? with
    | none => false
    | some o => o.after.any fun e => Region.binds md e && (e.on == i || reach md ops f i e.on)
def Closed (md : Region.Mode) (ops : Array Oper) (listed : Array Bool) : Prop :=
  ∀ m, listed.getD m false = true → ∀ o, ops[m]? = some o → ∀ e ∈ o.after, Region.binds md e = true → listed.getD e.on false = true
theorem Closed.start (n : Nat) : Closed md ops (Array.replicate n false) := by
  intro m hm
  exfalso
  rcases Nat.lt_or_ge m n with h | h
  · simp [h] at hm
  · simp [Nat.not_lt.2 h] at hm
theorem Closed.step {listed : Array Bool} {j : Nat} (h : Closed md ops listed) (hj : j ∈ Region.ready md ops listed) : Closed md ops (listed.setIfInBounds j true) := by
  intro m hm o ho e he hb
  refine getD_set_true ?_
  by_cases hmj : m = j
  · subst hmj
    obtain ⟨_, oj, hoj, hall⟩ := mem_ready.1 hj
    rw [ho] at hoj
    cases hoj
    exact hall e he hb
  · refine h m ?_ o ho e he hb
    rwa [getD_set_ne false (fun e => hmj e.symm)] at hm
theorem reach_listed {listed : Array Bool} (hc : Closed md ops listed) {i : Nat} : ∀ (f j : Nat) (o : Oper), ops[j]? = some o → (∀ e ∈ o.after, Region.binds md e = true → listed.getD e.on false = true) → reach md ops f i j = true → listed.getD i false = true
  | 0, j, o, _, _, h => by simp [reach] at h
  | f + 1, j, o, ho, hd, h => by
    rw [reach, ho] at h
    simp only [Array.any_eq_true, Bool.and_eq_true, Bool.or_eq_true, beq_iff_eq] at h
    obtain ⟨k, hk, hb, h⟩ := h
    have h1 := hd _ (Array.getElem_mem hk) hb
    rcases h with h | h
    · rw [h] at h1; exact h1
    · cases hm : ops[(o.after[k]).on]? with
      | none =>
        cases f with
        | zero => simp [reach] at h
        | succ f => rw [reach, hm] at h; simp at h
      | some om => exact reach_listed hc f _ om hm (fun e he hb' => hc _ h1 om hm e he hb') h
theorem not_both {listed : Array Bool} {i : Nat} (h0 : listed.getD i true = false) (h1 : listed.getD i false = true) : False := by
  rcases Nat.lt_or_ge i listed.size with hlt | hge
  · simp only [Array.getD_eq_getD_getElem?, Array.getElem?_eq_getElem hlt, Option.getD_some] at h1 h0
    rw [h0] at h1; cases h1
  · simp [Array.getElem?_eq_none hge] at h1

/-- A reader that is ready may come first: each of E waits for it, or is listed already. -/
theorem anyL_first {i f : Nat} {oi : Oper} {v : Value} (hi : ops[i]? = some oi) (hs : Region.noSelect ops = true) (hQ : ∀ c a w, Q (.panic c) (a.put oi.dst v) w → Q (.panic c) a w) :
    ∀ (fuel : Nat) (listed : Array Bool) (a : Act) (w : World), Closed md ops listed → (∀ j ∈ E, reach md ops f i j = true ∨ listed.getD j false = true) →
      (∀ j oj, ops[j]? = some oj → j ≠ i → listed.getD j true = false → (∀ e ∈ oj.after, Region.binds md e = true → e.on ≠ i) → oi.apart ops oj = true) →
      i ∈ Region.ready md ops listed → YieldsIf P ops S oi v a → S w → wpAnyL P md ops Q S E fuel (listed.setIfInBounds i true) (a.put oi.dst v) w → wpAnyL P md ops Q S E (fuel + 1) listed a w := by
  have hsel := Region.noSelect_spec hs
  intro fuel
  induction fuel with
  | zero =>
    intro listed a w _ _ _ hr hy hS H
    refine ⟨fun h0 => (by rw [h0] at hr; cases hr), fun j hj => ?_⟩
    by_cases hji : j = i
    · subst hji
      exact hy.wpOp hi hS ⟨.inr hS, H⟩
    · have h0 := ready_mono hj hji
      rw [H.1] at h0
      cases h0
  | succ fuel ih =>
    intro listed a w hc hE hfree hr hy hS H
    refine ⟨fun h0 => (by rw [h0] at hr; cases hr), fun j hj => ?_⟩
    by_cases hji : j = i
    · subst hji
      exact hy.wpOp hi hS ⟨.inr hS, H⟩
    · obtain ⟨hjun, oj, hoj, hall⟩ := mem_ready.1 hj
      have hjE : j ∉ E := fun hm => by
        rcases hE j hm with h | h
        · exact not_both (mem_ready.1 hr).1 (reach_listed hc f j oj hoj hall h)
        · exact not_both hjun h
      have hnot : ∀ e ∈ oj.after, Region.binds md e = true → e.on ≠ i := fun e he hb heq => by
        have h1 := hall e he hb
        rw [heq] at h1
        exact not_both (mem_ready.1 hr).1 h1
      have h2 := wpOp_putIf hoj (hfree j oj hoj hji hjun hnot) (fun cs b => hsel i oi cs b hi) (fun cs b => hsel j oj cs b hoj) hQ hy (H.2 j (ready_mono hj hji))
      refine wpOp_mono (fun a' w' h3 => ?_) h2
      have hSw : S w' := h3.2.1.resolve_left hjE
      refine ⟨.inr hSw, ih (listed.setIfInBounds j true) a' w' (hc.step hj) (fun k hk => (hE k hk).imp id (fun h => getD_set_true h)) ?_ (ready_mono hr (Ne.symm hji)) h3.1 hSw ?_⟩
      · intro k ok hk hki hun hno
        refine hfree k ok hk hki ?_ hno
        by_cases hjk : j = k
        · exact hjk ▸ hjun
        · rwa [getD_set_ne true hjk] at hun
      · rw [Array.setIfInBounds_comm _ _ hji]
        exact h3.2.2
/-- A move that is ready may come first. -/
theorem anyL_pure {i : Nat} {oi : Oper} {v : Value} (hi : ops[i]? = some oi) (hs : Region.noSelect ops = true) (hiE : i ∈ E) (hQ : ∀ c a w, Q (.panic c) (a.put oi.dst v) w → Q (.panic c) a w) :
    ∀ (fuel : Nat) (listed : Array Bool) (a : Act) (w : World),
      (∀ j oj, ops[j]? = some oj → j ≠ i → listed.getD j true = false → (∀ e ∈ oj.after, Region.binds md e = true → e.on ≠ i) → oi.apart ops oj = true) →
      i ∈ Region.ready md ops listed → YieldsIf P ops (fun _ => True) oi v a → wpAnyL P md ops Q S E fuel (listed.setIfInBounds i true) (a.put oi.dst v) w → wpAnyL P md ops Q S E (fuel + 1) listed a w := by
  have hsel := Region.noSelect_spec hs
  intro fuel
  induction fuel with
  | zero =>
    intro listed a w _ hr hy H
    refine ⟨fun h0 => (by rw [h0] at hr; cases hr), fun j hj => ?_⟩
    by_cases hji : j = i
    · subst hji
      exact hy.wpOp hi trivial ⟨.inl hiE, H⟩
    · have h0 := ready_mono hj hji
      rw [H.1] at h0
      cases h0
  | succ fuel ih =>
    intro listed a w hfree hr hy H
    refine ⟨fun h0 => (by rw [h0] at hr; cases hr), fun j hj => ?_⟩
    by_cases hji : j = i
    · subst hji
      exact hy.wpOp hi trivial ⟨.inl hiE, H⟩
    · obtain ⟨hjun, oj, hoj, hall⟩ := mem_ready.1 hj
      have hnot : ∀ e ∈ oj.after, Region.binds md e = true → e.on ≠ i := fun e he hb heq => by
        have h1 := hall e he hb
        rw [heq] at h1
        exact not_both (mem_ready.1 hr).1 h1
      have h2 := wpOp_putIf hoj (hfree j oj hoj hji hjun hnot) (fun cs b => hsel i oi cs b hi) (fun cs b => hsel j oj cs b hoj) hQ hy (H.2 j (ready_mono hj hji))
      refine wpOp_mono (fun a' w' h3 => ?_) h2
      refine ⟨h3.2.1, ih (listed.setIfInBounds j true) a' w' ?_ (ready_mono hr (Ne.symm hji)) h3.1 ?_⟩
      · intro k ok hk hki hun hno
        refine hfree k ok hk hki ?_ hno
        by_cases hjk : j = k
        · exact hjk ▸ hjun
        · rwa [getD_set_ne true hjk] at hun
      · rw [Array.setIfInBounds_comm _ _ hji]
        exact h3.2.2

def readersL (md : Region.Mode) (ops : Array Oper) (E : List Nat) : List Bool → Nat → Array Bool → Bool
  | [], _, _ => true
  | true :: m, k, listed => (Region.ready md ops listed).contains k && Region.free md ops listed k && ((ops[k]?).map rdr2).getD false && E.all (fun j => reach md ops ops.size k j || listed.getD j false) && readersL md ops E m (k + 1) (listed.setIfInBounds k true)
  | false :: m, k, listed => readersL md ops E m (k + 1) listed
def puresL (md : Region.Mode) (ops : Array Oper) (E : List Nat) : List Bool → Nat → Array Bool → Bool
  | [], _, _ => true
  | true :: m, k, listed => (Region.ready md ops listed).contains k && Region.free md ops listed k && ((ops[k]?).map pur).getD false && E.contains k && puresL md ops E m (k + 1) (listed.setIfInBounds k true)
  | false :: m, k, listed => puresL md ops E m (k + 1) listed

theorem mixL_readers {w : World} (hs : Region.noSelect ops = true) (hS : S w) (hQ : ∀ c a d v w, Q (.panic c) (Act.put a d v) w → Q (.panic c) a w) {G : Act → Prop} {n : Nat} :
    ∀ (m : List Bool) (l : List Oper) (k : Nat) (listed : Array Bool) (a : Act), (∀ j, l[j]? = ops[k + j]?) → m.length = l.length → Closed md ops listed → readersL md ops E m k listed = true →
      (∀ a', G a' → wpAnyL P md ops Q S E n (listedB m k listed) a' w) → wpQuiet P ops S G (pickB m l) a → wpAnyL P md ops Q S E ((m.filter id).length + n) listed a w
  | [], l, k, listed, a, _, _, _, _, hG, h => by
    simp only [pickB] at h
    simpa [listedB] using hG a h
  | _ :: _, [], _, _, _, _, hm, _, _, _, _ => by simp at hm
  | true :: m, o :: l, k, listed, a, hl, hm, hc, hB, hG, h => by
    have h0 : ops[k]? = some o := by simpa using (hl 0).symm
    simp only [readersL, Bool.and_eq_true, h0, Option.map_some, Option.getD_some, List.all_eq_true, Bool.or_eq_true] at hB
    obtain ⟨⟨⟨⟨hr, hf⟩, hrd⟩, hE⟩, hB'⟩ := hB
    have hl' : ∀ j, l[j]? = ops[k + 1 + j]? := fun j => by have := hl (j + 1); simpa [Nat.add_assoc, Nat.add_comm 1 j] using this
    have hr' : k ∈ Region.ready md ops listed := by simpa using hr
    simp only [pickB, wpQuiet] at h
    rw [show ((true :: m).filter id).length + n = ((m.filter id).length + n) + 1 by simp; omega]
    by_cases hw : Region.wanted o (yielded ops a.tmps) = true
    · rw [if_pos hw] at h
      obtain ⟨v, hv, hn⟩ := h
      refine anyL_first (v := v) h0 hs (fun c a w => hQ c a _ _ w) _ _ _ _ hc hE (Region.free_spec h0 hf) hr' (.inl ⟨hw, fun w' hw' => quiet_reads2 hrd (hv w' hw')⟩) hS ?_
      exact mixL_readers hs hS hQ m l (k + 1) _ _ hl' (by simpa using hm) (hc.step hr') hB' hG hn
    · rw [if_neg hw] at h
      refine anyL_first (v := undef) h0 hs (fun c a w => hQ c a _ _ w) _ _ _ _ hc hE (Region.free_spec h0 hf) hr' (.inr ⟨by simpa using hw, rfl⟩) hS ?_
      exact mixL_readers hs hS hQ m l (k + 1) _ _ hl' (by simpa using hm) (hc.step hr') hB' hG h
  | false :: m, o :: l, k, listed, a, hl, hm, hc, hB, hG, h => by
    have := mixL_readers hs hS hQ m l (k + 1) listed a (fun j => by have := hl (j + 1); simpa [Nat.add_assoc, Nat.add_comm 1 j] using this) (by simpa using hm) hc hB hG h
    simpa using this
theorem mixL_pures {w : World} (hs : Region.noSelect ops = true) (hS : S w) (hQ : ∀ c a d v w, Q (.panic c) (Act.put a d v) w → Q (.panic c) a w) {G : Act → Prop} {n : Nat} :
    ∀ (m : List Bool) (l : List Oper) (k : Nat) (listed : Array Bool) (a : Act), (∀ j, l[j]? = ops[k + j]?) → m.length = l.length → Closed md ops listed → puresL md ops E m k listed = true →
      (∀ a', G a' → Closed md ops (listedB m k listed) → wpAnyL P md ops Q S E n (listedB m k listed) a' w) → wpQuiet P ops S G (pickB m l) a → wpAnyL P md ops Q S E ((m.filter id).length + n) listed a w
  | [], l, k, listed, a, _, _, hc, _, hG, h => by
    simp only [pickB] at h
    simpa [listedB] using hG a h hc
  | _ :: _, [], _, _, _, _, hm, _, _, _, _ => by simp at hm
  | true :: m, o :: l, k, listed, a, hl, hm, hc, hB, hG, h => by
    have h0 : ops[k]? = some o := by simpa using (hl 0).symm
    simp only [puresL, Bool.and_eq_true, h0, Option.map_some, Option.getD_some] at hB
    obtain ⟨⟨⟨⟨hr, hf⟩, hpu⟩, hE⟩, hB'⟩ := hB
    have hl' : ∀ j, l[j]? = ops[k + 1 + j]? := fun j => by have := hl (j + 1); simpa [Nat.add_assoc, Nat.add_comm 1 j] using this
    have hr' : k ∈ Region.ready md ops listed := by simpa using hr
    have hkE : k ∈ E := by simpa using hE
    simp only [pickB, wpQuiet] at h
    rw [show ((true :: m).filter id).length + n = ((m.filter id).length + n) + 1 by simp; omega]
    by_cases hw : Region.wanted o (yielded ops a.tmps) = true
    · rw [if_pos hw] at h
      obtain ⟨v, hv, hn⟩ := h
      refine anyL_pure (v := v) h0 hs hkE (fun c a w => hQ c a _ _ w) _ _ _ _ (Region.free_spec h0 hf) hr' (.inl ⟨hw, fun w' _ => pur_reads hpu (quiet_reads2 (pur_rdr hpu) (hv w hS))⟩) ?_
      exact mixL_pures hs hS hQ m l (k + 1) _ _ hl' (by simpa using hm) (hc.step hr') hB' hG hn
    · rw [if_neg hw] at h
      refine anyL_pure (v := undef) h0 hs hkE (fun c a w => hQ c a _ _ w) _ _ _ _ (Region.free_spec h0 hf) hr' (.inr ⟨by simpa using hw, rfl⟩) ?_
      exact mixL_pures hs hS hQ m l (k + 1) _ _ hl' (by simpa using hm) (hc.step hr') hB' hG h
  | false :: m, o :: l, k, listed, a, hl, hm, hc, hB, hG, h => by
    have := mixL_pures hs hS hQ m l (k + 1) listed a (fun j => by have := hl (j + 1); simpa [Nat.add_assoc, Nat.add_comm 1 j] using this) (by simpa using hm) hc hB hG h
    simpa using this

theorem anyL_end {a : Act} {w : World} {L : Array Bool} (hr : Region.ready md ops L = []) (h : Q .normal a w) : wpAnyL P md ops Q S E 0 L a w := ⟨hr, h⟩
theorem anyL_one {i : Nat} {o : Oper} {fuel : Nat} {a : Act} {w : World} {L : Array Bool} (L' : Array Bool) (hr : Region.ready md ops L = [i]) (hi : ops.toList[i]? = some o) (hL : L.setIfInBounds i true = L')
    (h : ∀ Q', (∀ a' w', (i ∈ E ∨ S w') ∧ wpAnyL P md ops Q S E fuel L' a' w' → Q' .normal a' w') → wpList P ops Q' [o] a w) : wpAnyL P md ops Q S E (fuel + 1) L a w := by
  refine ⟨fun h0 => absurd (hr ▸ h0) (by simp), fun k hk => ?_⟩
  rw [hr, List.mem_singleton] at hk
  subst hk
  rw [hL]
  exact wpOp_of_list (by simpa using hi) h
theorem anyL_two {i j : Nat} {o1 o2 : Oper} {fuel : Nat} {a : Act} {w : World} {L : Array Bool} (L1 L2 : Array Bool) (hr : Region.ready md ops L = [i, j]) (hi : ops.toList[i]? = some o1) (hj : ops.toList[j]? = some o2) (hL1 : L.setIfInBounds i true = L1) (hL2 : L.setIfInBounds j true = L2)
    (h1 : ∀ Q', (∀ a' w', (i ∈ E ∨ S w') ∧ wpAnyL P md ops Q S E fuel L1 a' w' → Q' .normal a' w') → wpList P ops Q' [o1] a w)
    (h2 : ∀ Q', (∀ a' w', (j ∈ E ∨ S w') ∧ wpAnyL P md ops Q S E fuel L2 a' w' → Q' .normal a' w') → wpList P ops Q' [o2] a w) : wpAnyL P md ops Q S E (fuel + 1) L a w := by
  refine ⟨fun h0 => absurd (hr ▸ h0) (by simp), fun k hk => ?_⟩
  rw [hr] at hk
  rcases List.mem_cons.1 hk with rfl | hk
  · rw [hL1]
    exact wpOp_of_list (by simpa using hi) h1
  · rw [List.mem_singleton] at hk
    subst hk
    rw [hL2]
    exact wpOp_of_list (by simpa using hj) h2

def splitL (md : Region.Mode) (ops : Array Oper) (mp m : List Bool) (E : List Nat) (n : Nat) : Bool :=
  Region.noSelect ops && (mp.length == ops.size) && (m.length == ops.size) && ((mp.filter id).length + ((m.filter id).length + n) == ops.size) && puresL md ops E mp 0 (Array.replicate ops.size false) && readersL md ops E m 0 (listedB mp 0 (Array.replicate ops.size false))
/-- THE REGION: the moves of mp first, then the readers of m; n operations are left, L says which stand behind us. -/
theorem wp_region_splitL {id : Nat} {a : Act} {w : World} {l : List Oper} (S : World → Prop) (mp m : List Bool) (E : List Nat) (n : Nat) (L : Array Bool) (hm : P.follows .mixedOrders = true) (hB : splitL .any l.toArray mp m E n = true)
    (hL : listedB m 0 (listedB mp 0 (Array.replicate l.toArray.size false)) = L) (hS : S w.drew)
    (hQ : ∀ c a d v w, Q (.panic c) (Act.put a d v) w → Q (.panic c) a w)
    (h : wpQuiet P l.toArray S (fun a' => wpQuiet P l.toArray S (fun a'' => wpAnyL P .any l.toArray Q S E n L a'' w.drew) (pickB m l) a') (pickB mp l) a) : (Code.region id l.toArray true).wp P Q a w := by
  simp only [splitL, Bool.and_eq_true, beq_iff_eq] at hB
  obtain ⟨⟨⟨⟨⟨hs, hlp⟩, hlm⟩, hn⟩, hp⟩, hR⟩ := hB
  refine wp_region_any hm (anyL (S := S) (E := E) _ _ _ _ ?_)
  have key := mixL_pures (P := P) (Q := Q) (md := .any) (E := E) (w := w.drew) (n := (m.filter (fun b => b)).length + n) hs hS hQ mp l 0 (Array.replicate l.toArray.size false) a (fun j => by simp) (by simpa using hlp) (Closed.start _) hp
    (G := fun a' => wpQuiet P l.toArray S (fun a'' => wpAnyL P .any l.toArray Q S E n L a'' w.drew) (pickB m l) a') (fun a' ha' hc =>
      mixL_readers hs hS hQ m l 0 _ a' (fun j => by simp) (by simpa using hlm) hc hR (fun a'' ha'' => by rw [hL]; exact ha'') ha') h
  rw [show (mp.filter _root_.id).length + ((m.filter (fun b => b)).length + n) = l.toArray.size from hn] at key
  exact key

def closedB (md : Region.Mode) (ops : Array Oper) (L : Array Bool) : Bool :=
  (List.range ops.size).all fun m => !(L.getD m false) || (match ops[m]? with | none => true | some o => o.after.all fun e => !(Region.binds md e) || L.getD e.on false)
theorem closedB_spec {L : Array Bool} (h : closedB md ops L = true) : Closed md ops L := by
  intro m hm o ho e he hb
  simp only [closedB, List.all_eq_true, List.mem_range] at h
  have h1 := h m (Array.getElem?_eq_some_iff.1 ho).1
  rw [hm, ho] at h1
  simp only [Bool.not_true, Bool.false_or, Array.all_eq_true] at h1
  obtain ⟨k, hk, rfl⟩ := Array.getElem_of_mem he
  have h2 := h1 k hk
  simpa [hb] using h2
def takeB (md : Region.Mode) (ops : Array Oper) (E : List Nat) (L : Array Bool) (i : Nat) : Bool :=
  Region.noSelect ops && (Region.ready md ops L).contains i && Region.free md ops L i && ((ops[i]?).map rdr2).getD false && E.all (fun j => reach md ops ops.size i j || L.getD j false) && closedB md ops L
/-- A reader that comes to be ready on the way is taken at once. -/
theorem anyL_take {i : Nat} {o : Oper} {fuel : Nat} {a : Act} {w : World} {L : Array Bool} (L' : Array Bool) (hB : takeB md ops E L i = true) (hi : ops.toList[i]? = some o) (hL : L.setIfInBounds i true = L') (hS : S w)
    (hQ : ∀ c a d v w, Q (.panic c) (Act.put a d v) w → Q (.panic c) a w)
    (h : wpQuiet P ops S (fun a' => wpAnyL P md ops Q S E fuel L' a' w) [o] a) : wpAnyL P md ops Q S E (fuel + 1) L a w := by
  have h0 : ops[i]? = some o := by simpa using hi
  simp only [takeB, Bool.and_eq_true, h0, Option.map_some, Option.getD_some, List.all_eq_true, Bool.or_eq_true] at hB
  obtain ⟨⟨⟨⟨⟨hs, hr⟩, hf⟩, hrd⟩, hE⟩, hc⟩ := hB
  have hr' : i ∈ Region.ready md ops L := by simpa using hr
  simp only [wpQuiet] at h
  by_cases hw : Region.wanted o (yielded ops a.tmps) = true
  · rw [if_pos hw] at h
    obtain ⟨v, hv, hn⟩ := h
    exact anyL_first (v := v) h0 hs (fun c a w => hQ c a _ _ w) _ _ _ _ (closedB_spec hc) hE (Region.free_spec h0 hf) hr' (.inl ⟨hw, fun w' hw' => quiet_reads2 hrd (hv w' hw')⟩) hS (by rw [hL]; exact hn)
  · rw [if_neg hw] at h
    exact anyL_first (v := undef) h0 hs (fun c a w => hQ c a _ _ w) _ _ _ _ (closedB_spec hc) hE (Region.free_spec h0 hf) hr' (.inr ⟨by simpa using hw, rfl⟩) hS (by rw [hL]; exact h)
end
end Go.Proofs.Ytabhafllkhoefaa
