/- Arguments that read as plain data lie as Rep tells: from the row's reading to the predicates of this library. -/
import Derived.Test.YtabhafllkhoefaaRep
import Derived.ProofKit
import Derived.OpenShut
import Derived.ShutString
import Derived.ChangeOld
import Derived.Below
import Derived.SizedLaws
namespace Go.Proofs.Ytabhafllkhoefaa
open Go.RowKit Go.ChangeShapes Go.WideShapes Go.ChangeAt

/-- All weights of a reading are within the row's bound. -/
def Light {H : Type} (P : Program) (t : TypeId) (d : DataW H) : Prop := ∀ n ∈ d.weights P t, n ≤ reachBytes

theorem light_each {H : Type} {P : Program} : ∀ {ts : List TypeId} {ds : List (DataW H)}, (∀ n ∈ DataW.weightsEach P ts ds, n ≤ reachBytes) → ∀ {j : Nat} {t : TypeId} {d : DataW H}, ts[j]? = some t → ds[j]? = some d → Light P t d :=
  fun h _ _ _ ht hd n hn => h n (DataW.weights_mem_each ht hd n hn)
theorem light_all {H : Type} {P : Program} {e : TypeId} : ∀ {ds : List (DataW H)}, (∀ n ∈ DataW.weightsAll P e ds, n ≤ reachBytes) → ∀ d ∈ ds, Light P e d
  | [], _, d, hd => by simp at hd
  | d0 :: ds, h, d, hd => by
    simp only [DataW.weightsAll, List.mem_append] at h
    rcases List.mem_cons.1 hd with rfl | hd
    · exact fun n hn => h n (.inl hn)
    · exact light_all (fun n hn => h n (.inr hn)) d hd

/-- Whatever reads at type t lies as d tells, and W holds of it. -/
structure Opens {α : Type} (P : Program) (d : Rep α) (t : TypeId) (W : α → Prop) : Prop where
  cells : P.cellsOf t = d.sz
  opens : ∀ {H : Type} (enc : TypeId × Value → H) (w : World) (n : Nat) (cs : List Value) (y : DataW H × List MemPlace),
    DataW.trod enc P w 0 (fun _ => true) true n t cs = some y → Light P t y.1 → ∃ x, d.rel w (fun k => k < w.heap.size) x cs ∧ W x

theorem Opens.int {P : Program} {t : TypeId} {k : IntKind} (u : P.underlying t = some (.int k)) (hc : P.cellsOf t = 1) : Opens P (Rep.int k) t (fun _ => True) :=
  ⟨hc, fun enc w n cs y h _ => by
    obtain ⟨m, rfl, rfl, hw⟩ := DataW.trod_int u h
    refine ⟨m, ⟨rfl, ?_⟩, trivial⟩
    simpa [Lit.wf, InK] using hw⟩
theorem Opens.bool {P : Program} {t : TypeId} (u : P.underlying t = some .bool) (hc : P.cellsOf t = 1) : Opens P Rep.bool t (fun _ => True) :=
  ⟨hc, fun enc w n cs y h _ => by
    cases n with
    | zero => simp [DataW.trod] at h
    | succ m =>
      unfold DataW.trod at h
      rw [u] at h
      split at h <;> try (simp at *; done)
      rename_i b _
      exact ⟨b, ⟨rfl, trivial⟩, trivial⟩⟩
theorem Opens.str {P : Program} {t : TypeId} (u : P.underlying t = some .string) (hc : P.cellsOf t = 1) : Opens P Rep.str t (fun x => x.size ≤ reachBytes) :=
  ⟨hc, fun enc w n cs y h hl => by
    cases n with
    | zero => simp [DataW.trod] at h
    | succ m =>
      unfold DataW.trod at h
      rw [u] at h
      split at h <;> try (simp at *; done)
      rename_i s _
      simp only [Option.ite_none_right_eq_some, Option.some.injEq] at h
      obtain ⟨hm, rfl⟩ := h
      refine ⟨s, ⟨rfl, by simpa [maxLen] using hm⟩, ?_⟩
      have := hl s.data.toList.length (by simp [DataW.weights])
      simpa using this⟩
theorem Opens.iso {α β : Type} {P : Program} {d : Rep α} {f : β → α} {t : TypeId} {W : α → Prop} (h : Opens P d t W) (hf : ∀ x, ∃ y, f y = x) : Opens P (Rep.iso d f) t (fun y => W (f y)) :=
  ⟨h.cells, fun enc w n cs y ht hl => by
    obtain ⟨x, hr, hW⟩ := h.opens enc w n cs y ht hl
    obtain ⟨z, rfl⟩ := hf x
    exact ⟨z, hr, hW⟩⟩

/-- Fields from place o on. -/
def OpensF {α : Type} (P : Program) (d : Rep α) (fs : List Field) (o : Nat) (W : α → Prop) : Prop :=
  ∀ {H : Type} (enc : TypeId × Value → H) (w : World) (n : Nat) (cs : List Value) (ys : List (DataW H × List MemPlace)), ys.length = fs.length →
    (∀ (i : Nat) (f : Field), fs[i]? = some f → DataW.trod enc P w 0 (fun _ => true) true n f.type ((cs.drop f.offset).take (P.cellsOf f.type)) = ys[i]?) →
    (∀ m ∈ DataW.weightsEach P (fs.map (·.type)) (ys.map (·.1)), m ≤ reachBytes) → ∃ x, d.rel w (fun k => k < w.heap.size) x ((cs.drop o).take d.sz) ∧ W x
theorem OpensF.one {α : Type} {P : Program} {d : Rep α} {f : Field} {o : Nat} {W : α → Prop} (h : Opens P d f.type W) (ho : f.offset = o) : OpensF P d [f] o W := by
  intro H enc w n cs ys hl ht hw
  subst ho
  have h0 := ht 0 f rfl
  rw [h.cells] at h0
  have hl0 : 0 < ys.length := by simp [hl]
  have hy : ys[0]? = some ys[0] := List.getElem?_eq_getElem hl0
  rw [hy] at h0
  exact h.opens enc w n _ _ h0 (light_each hw (j := 0) (t := f.type) (d := ys[0].1) rfl (by rw [List.getElem?_map, hy]; rfl))
theorem OpensF.pair {α β : Type} {P : Program} {a : Rep α} {b : Rep β} {f : Field} {fs : List Field} {o : Nat} {W : α → Prop} {V : β → Prop} (h : Opens P a f.type W) (ho : f.offset = o) (hs : OpensF P b fs (o + a.sz) V) :
    OpensF P (Rep.pair a b) (f :: fs) o (fun x => W x.1 ∧ V x.2) := by
  intro H enc w n cs ys hl ht hw
  subst ho
  match ys, hl with
  | y :: ys, hl =>
    have h0 := ht 0 f rfl
    rw [h.cells] at h0
    obtain ⟨x, hx, hW⟩ := h.opens enc w n _ y h0 (light_each hw (j := 0) rfl rfl)
    simp only [List.map_cons, DataW.weightsEach, List.mem_append] at hw
    obtain ⟨z, hz, hV⟩ := hs enc w n cs ys (by simpa using hl) (fun i g hg => by simpa using ht (i + 1) g (by simpa using hg)) (fun m hm => hw m (.inr hm))
    refine ⟨(x, z), ⟨_, _, ?_, hx, hz⟩, hW, hV⟩
    show (cs.drop f.offset).take (a.sz + b.sz) = _
    rw [List.take_add, List.drop_drop]
theorem Opens.struct {α : Type} {P : Program} {d : Rep α} {t : TypeId} {fs : Array Field} {W : α → Prop} (u : P.underlying t = some (.struct fs)) (hc : P.cellsOf t = d.sz) (h : OpensF P d fs.toList 0 W) : Opens P d t W :=
  ⟨hc, fun enc w n cs y ht hl => by
    obtain ⟨xs, m, rfl, rfl, hcl, hxl, hf⟩ := DataW.trod_struct u ht
    obtain ⟨x, hx, hW⟩ := h enc w m cs xs (by simpa using hxl) (fun i f hi => hf i f (by simpa using hi)) (by
      intro k hk
      refine hl k ?_
      simp only [DataW.weights, u]
      exact hk)
    refine ⟨x, ?_, hW⟩
    rw [List.drop_zero, List.take_of_length_le (by omega)] at hx
    exact hx⟩
theorem choose_list {α : Type} (n : Nat) (Q : Nat → α → Prop) (h : ∀ i, i < n → ∃ x, Q i x) : ∃ xs : List α, xs.length = n ∧ ∀ i x, xs[i]? = some x → Q i x := by
  induction n with
  | zero => exact ⟨[], rfl, fun i x h => by simp at h⟩
  | succ n ih =>
    obtain ⟨xs, hl, hq⟩ := ih (fun i hi => h i (by omega))
    obtain ⟨x, hx⟩ := h n (by omega)
    refine ⟨xs ++ [x], by simp [hl], fun i y hy => ?_⟩
    rcases Nat.lt_trichotomy i xs.length with hi | rfl | hi
    · rw [List.getElem?_append_left hi] at hy; exact hq i y hy
    · simp at hy; subst hy; rw [hl]; exact hx
    · rw [List.getElem?_eq_none (by simp; omega)] at hy; simp at hy

theorem Opens.slice {α : Type} {P : Program} {d : Rep α} {t e : TypeId} {W : α → Prop} (h : Opens P d e W) (u : P.underlying t = some (.slice e)) (hc : P.cellsOf t = 1) (hz : 0 < d.sz) (B : Nat) (hB : P.bytesOf e = B) :
    Opens P (Rep.slice d) t (fun xs => xs.length * B ≤ reachBytes ∧ ∀ x ∈ xs, W x) :=
  ⟨hc, fun enc w n cs y ht hl => by
    rcases DataW.trod_slice u ht with ⟨rfl, rfl⟩ | ⟨a, len, cap, elems, rest, m, rfl, rfl, rfl, hb, hlc, hm, hlen, hel, hsp, hns⟩
    · exact ⟨[], ⟨none, 0, rfl, Rep.Sl.empty d w _⟩, by simp, by simp⟩
    have hl2 : ∀ n ∈ DataW.weightsAll P e (elems.map (·.1)), n ≤ reachBytes := fun n hn => hl n (by
      simp only [DataW.weights, u, List.mem_cons, List.mem_append]
      exact .inr (.inl hn))
    have hplain : 0 < len → ∃ b o, a = ⟨b, o, none⟩ := by
      intro h0
      have h1 := hel 0 h0
      have hy : elems[0]? = some (elems[0]'(by omega)) := List.getElem?_eq_getElem (by omega)
      rw [hy, h.cells, Option.bind_eq_some_iff] at h1
      obtain ⟨cs, hcs, h2⟩ := h1
      obtain ⟨_, hcl, hce⟩ := World.cells?_some hcs
      have hc0 := hce 0 hz
      obtain ⟨v, hv⟩ : ∃ v, cs[0]? = some v := ⟨cs[0]'(by omega), List.getElem?_eq_getElem (by omega)⟩
      rw [hv] at hc0
      obtain ⟨b, o, spot⟩ := a
      have h9 := World.cell?_spot hc0
      have hspot : spot = none := by simpa [Addr.add] using h9
      exact ⟨b, o, by rw [hspot]⟩
    have key : ∀ i, i < len → ∃ x, (∃ b o, a = ⟨b, o, none⟩ ∧ b < w.heap.size ∧ ∃ cs, d.rel w (fun k => k < w.heap.size) x cs ∧ CellsAt w b (o + i * d.sz) cs) ∧ W x := by
      intro i hi
      have h1 := hel i hi
      have hy : elems[i]? = some elems[i] := List.getElem?_eq_getElem (by omega)
      rw [hy, h.cells, Option.bind_eq_some_iff] at h1
      obtain ⟨cs, hcs, h2⟩ := h1
      obtain ⟨x, hx, hW⟩ := h.opens enc w m cs _ h2 (light_all hl2 _ (List.mem_map.2 ⟨_, List.mem_of_getElem? hy, rfl⟩))
      obtain ⟨_, hcl, hce⟩ := World.cells?_some hcs
      have hc0 := hce 0 hz
      obtain ⟨b, o, rfl⟩ := hplain (by omega)
      obtain ⟨v, hv⟩ : ∃ v, cs[0]? = some v := ⟨cs[0]'(by omega), List.getElem?_eq_getElem (by omega)⟩
      rw [hv] at hc0
      rw [add_plain] at hc0 hce
      refine ⟨x, ⟨b, o, rfl, ?_, cs, hx, ?_⟩, hW⟩
      · have := block_lt_of_cell hc0
        rw [add_plain] at this
        exact this
      · intro j v hv
        have hj : j < d.sz := by rw [← hcl]; exact (List.getElem?_eq_some_iff.1 hv).1
        rw [← hv, ← hce j hj, add_plain]
    obtain ⟨xs, hxl, hq⟩ := choose_list len _ key
    refine ⟨xs, ⟨some a, cap, by rw [hxl], ⟨by omega, by simpa [maxLen] using hm, by simp, ?_⟩⟩, ?_, ?_⟩
    · intro i x hx
      obtain ⟨⟨b, o, rfl, hbl, cs, hr, hca⟩, _⟩ := hq i x hx
      exact ⟨b, o, cs, rfl, hbl, hbl, hr, hca⟩
    · have := hl ((elems.length + rest.length) * P.bytesOf e) (by simp [DataW.weights, u])
      rw [hB] at this
      rw [hxl, ← hlen]
      exact Nat.le_trans (Nat.mul_le_mul_right _ (by omega)) this
    · intro x hx
      obtain ⟨i, hi⟩ := List.getElem?_of_mem hx
      exact (hq i x hi).2⟩
end Go.Proofs.Ytabhafllkhoefaa
