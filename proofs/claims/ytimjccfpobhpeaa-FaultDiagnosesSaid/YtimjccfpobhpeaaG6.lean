/- Joined by this session's own program out of its texts: PlP PFx11 PFx16 PFx12 PFx17 PFx24 NumP PFx18 InjP FormQ FormZ BrForm PFx30 PFx42 PFx43 Chunk Own Own2 DetInv. -/
import Derived.Test.YtimjccfpobhpeaaG5
import Derived.Test.YtimjccfpobhpeaaG2
import Derived.Test.YtimjccfpobhpeaaG1
import Derived.RangeFuncBox
import Derived.RangeFuncNested
import Derived.RangeFuncBound
import Derived.RangeFuncCalls
import Derived.RangeFuncLeaves
import Derived.Shelf.Abstract
import Derived.Shelf.RegionOpen
import Derived.WalkKit
import Derived.OwnWalkIn
import Derived.TacticsInMore
import Derived.LoopNIn
import Derived.LoopIn
import Derived.Maps.AppendAt
import Derived.Deep.QuietTactic
import Derived.BigQuiet
import Derived.Lib.Hide
import Derived.Test.YtimjccfpobhpeaaProg
import Derived.Deep.AppendLies
import Derived.Lib.AppendStr
import Derived.Deep.AppendSrc
import Derived.OrdersIn
import Derived.Test.YtimjccfpobhpeaaG4
namespace Go.Proofs.Ytimjccfpobhpeaa
open Go.RowKit Go.Proofs.YtimjccfpobhpeaaW.PrintWords Go.Proofs.Ytimjccfpobhpeaa.PF
set_option linter.unusedVariables false
inductive Pl
  | pin (i k : Nat)
  | d (i : Nat)
  | en (i : Nat)
  | out (i : Nat)
def toL : Pl → Load
  | .pin i k => ⟨0, i, k⟩
  | .d i => ⟨1, i, 0⟩
  | .en i => ⟨2, i, 0⟩
  | .out i => ⟨3, i, 0⟩
theorem toL_inj {p q : Pl} (h : toL p = toL q) : p = q := by
  cases p <;> cases q <;> simp only [toL] at h <;> injection h with h0 h1 h2 <;> first | (have e1 := Int.ofNat.inj h1; have e2 := Int.ofNat.inj h2; subst e1 e2; rfl) | (have e1 := Int.ofNat.inj h1; subst e1; rfl) | (exfalso; omega)
def getP (s : NetP) : Pl → Option Int
  | .pin i k => (s.ga[i]?).bind fun x => x.f2[k]?
  | .d i => (s.fl[i]?).map (·.f2)
  | .en i => (s.fl[i]?).map (·.f3)
  | .out i => s.ou[i]?
theorem getP_put (s : NetP) (p q : Pl) (v : Int) : (p = q → getP (putOne s (toL p) v) q = (getP s q).map (fun _ => v)) ∧ (p ≠ q → getP (putOne s (toL p) v) q = getP s q) := by
  have u0 : ∀ i k : Nat, putOne s (toL (.pin i k)) v = { s with ga := s.ga.modify i fun x => ⟨x.f0, x.f1, x.f2.set k v⟩ } := fun i k => rfl
  have u1 : ∀ i : Nat, putOne s (toL (.d i)) v = { s with fl := s.fl.modify i fun x => ⟨x.f0, x.f1, v, x.f3, x.f4⟩ } := fun i => rfl
  have u2 : ∀ i : Nat, putOne s (toL (.en i)) v = { s with fl := s.fl.modify i fun x => ⟨x.f0, x.f1, x.f2, v, x.f4⟩ } := fun i => rfl
  have u3 : ∀ i : Nat, putOne s (toL (.out i)) v = { s with ou := s.ou.set i v } := fun i => rfl
  constructor
  · rintro rfl
    cases p with
    | pin i k =>
      rw [u0]
      simp only [getP, List.getElem?_modify]
      cases h : s.ga[i]? with
      | none => rfl
      | some x =>
        simp only [Option.map_eq_map, Option.map_some, if_pos, Option.bind_some, List.getElem?_set]
        by_cases hk : k < x.f2.length
        · simp [hk]
        · simp [hk]
    | d i => rw [u1]; simp only [getP, List.getElem?_modify]; cases h : s.fl[i]? <;> simp
    | en i => rw [u2]; simp only [getP, List.getElem?_modify]; cases h : s.fl[i]? <;> simp
    | out i =>
      rw [u3]
      simp only [getP, List.getElem?_set]
      by_cases hk : i < s.ou.length
      · simp [hk]
      · simp [hk]
  · intro hne
    cases p with
    | pin i k =>
      rw [u0]
      cases q with
      | pin i' k' =>
        simp only [getP, List.getElem?_modify]
        cases h : s.ga[i']? with
        | none => rfl
        | some x =>
          by_cases hi : i = i'
          · subst hi
            have hk : k ≠ k' := fun e => hne (by rw [e])
            simp [hk]
          · simp [hi]
      | _ => rfl
    | d i =>
      rw [u1]
      cases q with
      | d i' =>
        have hi : i ≠ i' := fun e => hne (by rw [e])
        simp only [getP, List.getElem?_modify]
        cases h : s.fl[i']? <;> simp [hi]
      | en i' =>
        simp only [getP, List.getElem?_modify]
        cases h : s.fl[i']? <;> simp
        split <;> rfl
      | _ => rfl
    | en i =>
      rw [u2]
      cases q with
      | en i' =>
        have hi : i ≠ i' := fun e => hne (by rw [e])
        simp only [getP, List.getElem?_modify]
        cases h : s.fl[i']? <;> simp [hi]
      | d i' =>
        simp only [getP, List.getElem?_modify]
        cases h : s.fl[i']? <;> simp
        split <;> rfl
      | _ => rfl
    | out i =>
      rw [u3]
      cases q with
      | out i' =>
        have hi : i ≠ i' := fun e => hne (by rw [e])
        simp [getP, hi]
      | _ => rfl
structure Skel (s s' : NetP) : Prop where
  fl : s'.fl.map (fun x => (x.f0, x.f1, x.f4)) = s.fl.map (fun x => (x.f0, x.f1, x.f4))
  ga : s'.ga.map (fun x => (x.f0, x.f1, x.f2.length)) = s.ga.map (fun x => (x.f0, x.f1, x.f2.length))
  ou : s'.ou.length = s.ou.length
theorem Skel.refl (s : NetP) : Skel s s := ⟨rfl, rfl, rfl⟩
theorem Skel.trans {s s' s'' : NetP} (h : Skel s s') (k : Skel s' s'') : Skel s s'' := ⟨k.fl.trans h.fl, k.ga.trans h.ga, k.ou.trans h.ou⟩
theorem map_mod {α β : Type} (g : α → β) (f : α → α) (h : ∀ x, g (f x) = g x) (l : List α) (i : Nat) : (l.modify i f).map g = l.map g := by
  apply List.ext_getElem?
  intro j
  rw [List.getElem?_map, List.getElem?_map, List.getElem?_modify]
  cases l[j]? with
  | none => rfl
  | some x =>
    simp only [Option.map_eq_map, Option.map_some]
    split
    · rw [h]
    · rfl
theorem skel_put (s : NetP) (p : Pl) (v : Int) : Skel s (putOne s (toL p) v) := by
  cases p with
  | pin i k => exact ⟨rfl, map_mod (fun x : GateS => (x.f0, x.f1, x.f2.length)) (fun x => ⟨x.f0, x.f1, x.f2.set k v⟩) (fun x => by simp) s.ga i, rfl⟩
  | d i => exact ⟨map_mod (fun x : FlopS => (x.f0, x.f1, x.f4)) (fun x => ⟨x.f0, x.f1, v, x.f3, x.f4⟩) (fun x => rfl) s.fl i, rfl, rfl⟩
  | en i => exact ⟨map_mod (fun x : FlopS => (x.f0, x.f1, x.f4)) (fun x => ⟨x.f0, x.f1, x.f2, v, x.f4⟩) (fun x => rfl) s.fl i, rfl, rfl⟩
  | out i => exact ⟨rfl, rfl, List.length_set⟩
theorem netP_ext {s s' : NetP} (hk : Skel s s') (hg : ∀ q, getP s' q = getP s q) : s' = s := by
  obtain ⟨fl, ga, ou⟩ := s
  obtain ⟨fl', ga', ou'⟩ := s'
  obtain ⟨h1, h2, h3⟩ := hk
  simp only at h1 h2 h3
  have e1 : fl' = fl := by
    apply List.ext_getElem?
    intro i
    have a := hg (.d i)
    have b := hg (.en i)
    have c : (fl'.map (fun x => (x.f0, x.f1, x.f4)))[i]? = (fl.map (fun x => (x.f0, x.f1, x.f4)))[i]? := by rw [h1]
    simp only [getP] at a b
    rw [List.getElem?_map, List.getElem?_map] at c
    cases h : fl[i]? with
    | none =>
      rw [h] at a
      cases h' : fl'[i]? with
      | none => rfl
      | some y => rw [h'] at a; cases a
    | some x =>
      rw [h] at a b c
      cases h' : fl'[i]? with
      | none => rw [h'] at a; cases a
      | some y =>
        rw [h'] at a b c
        cases x
        cases y
        simp_all
  have e3 : ou' = ou := List.ext_getElem? fun i => hg (.out i)
  have e2 : ga' = ga := by
    apply List.ext_getElem?
    intro i
    have a := fun k => hg (.pin i k)
    have c : (ga'.map (fun x => (x.f0, x.f1, x.f2.length)))[i]? = (ga.map (fun x => (x.f0, x.f1, x.f2.length)))[i]? := by rw [h2]
    simp only [getP] at a
    rw [List.getElem?_map, List.getElem?_map] at c
    cases h : ga[i]? with
    | none =>
      rw [h] at c
      cases h' : ga'[i]? with
      | none => rfl
      | some y => rw [h'] at c; cases c
    | some x =>
      rw [h] at a c
      cases h' : ga'[i]? with
      | none => rw [h'] at c; cases c
      | some y =>
        rw [h'] at a c
        have hf : y.f2 = x.f2 := List.ext_getElem? fun k => a k
        cases x
        cases y
        simp_all
  rw [e1, e2, e3]
theorem skel_inject (load v : Int) : ∀ (row : List Load) (i : Nat) (s : NetP), (∀ l ∈ row, ∃ p, l = toL p) → Skel s (injectF load v row i s)
  | [], i, s, h => Skel.refl s
  | l :: r, i, s, h => by
    obtain ⟨p, rfl⟩ := h l List.mem_cons_self
    rw [injectF]
    refine Skel.trans ?_ (skel_inject load v r (i + 1) _ (fun l hl => h l (List.mem_cons_of_mem _ hl)))
    split
    · exact Skel.refl s
    · exact skel_put s p v
theorem getP_inject (load v : Int) (q : Pl) : ∀ (row : List Load) (i : Nat) (s : NetP), (∀ l ∈ row, ∃ p, l = toL p) → row.Nodup →
    ((∃ j, row[j]? = some (toL q) ∧ (load < 0 ∨ load = (i + j : Nat))) → getP (injectF load v row i s) q = (getP s q).map (fun _ => v)) ∧ ((¬ ∃ j, row[j]? = some (toL q) ∧ (load < 0 ∨ load = (i + j : Nat))) → getP (injectF load v row i s) q = getP s q)
  | [], i, s, h, hn => ⟨fun ⟨j, hj, _⟩ => by simp at hj, fun _ => rfl⟩
  | l :: r, i, s, h, hn => by
    obtain ⟨p, rfl⟩ := h l List.mem_cons_self
    obtain ⟨hn1, hn2⟩ := List.nodup_cons.1 hn
    obtain ⟨ih1, ih2⟩ := getP_inject load v q r (i + 1) (if 0 ≤ load ∧ load ≠ i then s else putOne s (toL p) v) (fun l hl => h l (List.mem_cons_of_mem _ hl)) hn2
    rw [injectF]
    by_cases hp : p = q
    · subst hp
      have hno : ¬ ∃ j, r[j]? = some (toL p) ∧ (load < 0 ∨ load = (i + 1 + j : Nat)) := fun ⟨j, hj, _⟩ => hn1 (List.mem_of_getElem? hj)
      rw [ih2 hno]
      constructor
      · rintro ⟨j, hj, hc⟩
        cases j with
        | zero => rw [if_neg (by omega)]; exact (getP_put s p p v).1 rfl
        | succ j => exact absurd (List.mem_of_getElem? (by rw [List.getElem?_cons_succ] at hj; exact hj)) hn1
      · intro hc
        by_cases hq : 0 ≤ load ∧ load ≠ i
        · rw [if_pos hq]
        · exact absurd ⟨0, rfl, by omega⟩ hc
    · have hs : getP (if 0 ≤ load ∧ load ≠ i then s else putOne s (toL p) v) q = getP s q := by
        split
        · rfl
        · exact (getP_put s p q v).2 hp
      rw [hs] at ih1 ih2
      constructor
      · rintro ⟨j, hj, hc⟩
        cases j with
        | zero => exact absurd (toL_inj (by simpa using hj)) hp
        | succ j => exact ih1 ⟨j, by rw [List.getElem?_cons_succ] at hj; exact hj, by omega⟩
      · intro hno
        exact ih2 fun ⟨j, hj, hc⟩ => hno ⟨j + 1, by rw [List.getElem?_cons_succ]; exact hj, by omega⟩
def brOf (nv : Load → Int → Int) (s : NetP) : NetP := ⟨Ko nv s.fl 0, Kv nv s.ga 0, brOuts nv s.ou 0⟩
theorem getP_br (nv : Load → Int → Int) (s : NetP) (q : Pl) : getP (brOf nv s) q = (getP s q).map (nv (toL q)) := by
  cases q with
  | pin i k =>
    simp only [getP, brOf, brGates_at]
    cases h : s.ga[i]? with
    | none => rfl
    | some x => simp [brPins_at, toL]
  | d i =>
    simp only [getP, brOf, brFlops_at]
    cases h : s.fl[i]? <;> simp [toL]
  | en i =>
    simp only [getP, brOf, brFlops_at]
    cases h : s.fl[i]? <;> simp [toL]
  | out i =>
    simp only [getP, brOf, brOuts_at]
    cases h : s.ou[i]? <;> simp [toL]
theorem skel_br (nv : Load → Int → Int) (s : NetP) : Skel s (brOf nv s) := by
  refine ⟨?_, ?_, brOuts_len nv s.ou 0⟩
  · apply List.ext_getElem?
    intro i
    rw [List.getElem?_map, List.getElem?_map]
    simp only [brOf, brFlops_at]
    cases h : s.fl[i]? <;> simp
  · apply List.ext_getElem?
    intro i
    rw [List.getElem?_map, List.getElem?_map]
    simp only [brOf, brGates_at]
    cases h : s.ga[i]? <;> simp [brPins_len]
end Go.Proofs.Ytimjccfpobhpeaa
namespace Go.Proofs.Ytimjccfpobhpeaa.PF
open Go.RowKit Go.Proofs.YtimjccfpobhpeaaW.PrintWords Go.Proofs.YtimjccfpobhpeaaW.PrintLast Go.Proofs.YtimjccfpobhpeaaW.PrintMore
set_option linter.unusedVariables false
set_option linter.unusedSimpArgs false
def netsOf (l0 : List ByteArray) (l2 : List S82) (l3 : List Ky) : Nat := 2 + l0.length + l2.length + l3.length
def loadsFit (l0 : List ByteArray) (l2 : List S82) (l3 : List Ky) (l4 : List Int) : Bool :=
  decide (netsOf l0 l2 l3 ≤ 1000000000) && decide ((placesOf l2 l3 l4).length ≤ 1000000000) && (placesOf l2 l3 l4).all fun p => decide (0 ≤ p.1) && decide (p.1 < (netsOf l0 l2 l3 : Int))
def Qy (l0 : List ByteArray) (l2 : List S82) (l3 : List Ky) (l4 : List Int) : List (List S77) := loadsFrom (List.replicate (netsOf l0 l2 l3) []) (placesOf l2 l3 l4)
theorem loadsFit_good {l0 : List ByteArray} {l2 : List S82} {l3 : List Ky} {l4 : List Int} (h : loadsFit l0 l2 l3 l4 = true) : GoodP (netsOf l0 l2 l3) (List.replicate (netsOf l0 l2 l3) []) (placesOf l2 l3 l4) ∧ netsOf l0 l2 l3 ≤ 1000000000 := by
  simp only [loadsFit, Bool.and_eq_true, decide_eq_true_eq, List.all_eq_true] at h
  obtain ⟨⟨h1, h2⟩, h3⟩ := h
  refine ⟨⟨List.length_replicate, fun p hp => h3 p hp, fun j => ?_⟩, h1⟩
  have : ((List.replicate (netsOf l0 l2 l3) ([] : List S77)).getD j []).length = 0 := by
    rw [List.getD_eq_getElem?_getD, List.getElem?_replicate]
    split <;> rfl
  omega
theorem netlist_Nets.of {l0_0 l0_1 : List ByteArray} {l0_2 : List S82} {l0_3 : List Ky} {l0_4 : List Int} (h : netsOf l0_0 l0_2 l0_3 ≤ 1000000000) : netlist_Nets.f l0_0 l0_1 l0_2 l0_3 l0_4 = some (netsOf l0_0 l0_2 l0_3 : Int) := by
  unfold netsOf at h ⊢
  unfold netlist_Nets.f netlist_First.f
  simp only [Option.bind_some, Option.some.injEq]
  unfold wrap64
  omega
def Xj.f (k : Nat) (l0_0 : List ByteArray) (l0_1 : List ByteArray) (l0_2 : List (S82)) (l0_3 : List (Ky)) (l0_4 : List Int) : Option ((List (List (S77))) × Int) := (Ze.f k l0_0 l0_1 l0_2 l0_3 l0_4).bind fun e => if e = 0 then (if loadsFit l0_0 l0_2 l0_3 l0_4 = true then some (Qy l0_0 l0_2 l0_3 l0_4, 0) else none) else some ([], e)
theorem Xj.mono : ∀ a0 a1 a2 a3 a4 k, Xz (Xj.f k a0 a1 a2 a3 a4) (Xj.f (k + 1) a0 a1 a2 a3 a4) := fun a0 a1 a2 a3 a4 k => Xz.bind (Ze.mono a0 a1 a2 a3 a4 k) (fun _ => Xz.refl _)
set_option maxHeartbeats 2000000 in
theorem Xj.calls (k : Nat) (A0_0 : Option Addr) (c0_0 : Nat) (l0_0 : List ByteArray) (A0_1 : Option Addr) (c0_1 : Nat) (l0_1 : List ByteArray) (A0_2 : Option Addr) (c0_2 : Nat) (l0_2 : List (S82)) (A0_3 : Option Addr) (c0_3 : Nat) (l0_3 : List (Ky)) (A0_4 : Option Addr) (c0_4 : Nat) (l0_4 : List Int) (r1 : List (List (S77))) (r2 : Int) (w : World) (hr0_0 : Kd.C Kd.string w A0_0 l0_0.length l0_0) (hc0_0 : l0_0.length ≤ c0_0) (hr0_1 : Kd.C Kd.string w A0_1 l0_1.length l0_1) (hc0_1 : l0_1.length ≤ c0_1) (hr0_2 : Kd.C k82 w A0_2 l0_2.length l0_2) (hc0_2 : l0_2.length ≤ c0_2) (hr0_3 : Kd.C k80 w A0_3 l0_3.length l0_3) (hc0_3 : l0_3.length ≤ c0_3) (hr0_4 : Kd.C (Kd.int .i64) w A0_4 l0_4.length l0_4) (hc0_4 : l0_4.length ≤ c0_4) (h : Xj.f k l0_0 l0_1 l0_2 l0_3 l0_4 = some (r1, r2)) :
 Calls Try.prog 27 #[.agg #[.slice A0_0 l0_0.length c0_0, .slice A0_1 l0_1.length c0_1, .slice A0_2 l0_2.length c0_2, .slice A0_3 l0_3.length c0_3, .slice A0_4 l0_4.length c0_4]] w fun e w' => ∃ v0_ : Value, e = .returned (.tuple #[v0_, .int .i64 r2]) ∧ Kd.S (Kd.slice 77 k77) 75 w' w.heap.size (fun _ => True) v0_ r1 ∧ Below w.heap.size w w' := by
 unfold Xj.f at h
 obtain ⟨e, he, h2⟩ := Option.bind_eq_some_iff.1 h
 have HF : ∀ W, Below w.heap.size w W → Calls Try.prog 9 #[.agg #[.slice A0_0 l0_0.length c0_0, .slice A0_1 l0_1.length c0_1, .slice A0_2 l0_2.length c0_2, .slice A0_3 l0_3.length c0_3, .slice A0_4 l0_4.length c0_4]] W fun e' w' => e' = .returned (.int .i64 e) ∧ Below W.heap.size W w' := fun W hW =>
  Ze.calls k A0_0 c0_0 l0_0 A0_1 c0_1 l0_1 A0_2 c0_2 l0_2 A0_3 c0_3 l0_3 A0_4 c0_4 l0_4 e W (Kd.Zk hr0_0 hW) hc0_0 (Kd.Zk hr0_1 hW) hc0_1 (Kd.Zk hr0_2 hW) hc0_2 (Kd.Zk hr0_3 hW) hc0_3 (Kd.Zk hr0_4 hW) hc0_4 he
 by_cases h0 : e = 0
 ·subst h0
  rw [if_pos rfl] at h2
  by_cases hf : loadsFit l0_0 l0_2 l0_3 l0_4 = true
  ·rw [if_pos hf] at h2
   simp only [Option.some.injEq, Prod.mk.injEq] at h2
   obtain ⟨rfl, rfl⟩ := h2
   obtain ⟨hg, hn⟩ := loadsFit_good hf
   exact loads_ok A0_0 A0_1 A0_2 A0_3 A0_4 _ _ c0_0 c0_1 c0_2 c0_3 c0_4 l0_2 l0_3 l0_4 w _ hr0_2 hr0_3 hr0_4 HF (fun W hW =>
    netlist_Nets.calls A0_0 c0_0 l0_0 A0_1 c0_1 l0_1 A0_2 c0_2 l0_2 A0_3 c0_3 l0_3 A0_4 c0_4 l0_4 _ W (Kd.Zk hr0_0 hW) hc0_0 (Kd.Zk hr0_1 hW) hc0_1 (Kd.Zk hr0_2 hW) hc0_2 (Kd.Zk hr0_3 hW) hc0_3 (Kd.Zk hr0_4 hW) hc0_4 (netlist_Nets.of hn)) hg hn
  ·rw [if_neg hf] at h2
   cases h2
 ·rw [if_neg h0] at h2
  simp only [Option.some.injEq, Prod.mk.injEq] at h2
  obtain ⟨rfl, rfl⟩ := h2
  have hW0 : Below w.heap.size w (w.alloc (.cells #[.slice A0_0 l0_0.length c0_0, .slice A0_1 l0_1.length c0_1, .slice A0_2 l0_2.length c0_2, .slice A0_3 l0_3.length c0_3, .slice A0_4 l0_4.length c0_4] 27)) := (Below.refl _ _).alloc (Nat.le_refl _) _
  have hu := Try.underlying27
  have q1 : (e != 0) = true := by simpa using h0
  have HF1 := HF _ hW0
  clear h h0 he HF
  go_enter Try.func27, Try.ntmps27
  go_wp2_with (go_at_call 9; refine HF1.mono ?_; rintro e' w1 ⟨rfl, hB1⟩)
  go_ret2
  exact ⟨_, rfl, Kd.S_nil _ _ _ _ _, hW0.trans (hB1.mono (by simp))⟩
end Go.Proofs.Ytimjccfpobhpeaa.PF
namespace Go.Proofs.Ytimjccfpobhpeaa.PF
open Go.RowKit Go.Proofs.YtimjccfpobhpeaaW.PrintWords Go.Proofs.YtimjccfpobhpeaaW.PrintLast Go.Proofs.YtimjccfpobhpeaaW.PrintMore
set_option linter.unusedVariables false
set_option linter.unusedSimpArgs false
def copyFits (l0 l1 : List ByteArray) (l2 : List S82) (l3 : List Ky) (l4 : List Int) : Bool :=
  decide (l0.length * 16 ≤ 140737488355328) && decide (l1.length * 16 ≤ 140737488355328) && decide (l2.length * 48 ≤ 140737488355328) && decide (l3.length * 40 ≤ 140737488355328) && decide (l4.length * 8 ≤ 140737488355328) && l3.all fun x => decide (x.f2.length * 8 ≤ 140737488355328)
end Go.Proofs.Ytimjccfpobhpeaa.PF
namespace Go.Proofs.Ytimjccfpobhpeaa.PF
open Go.RowKit Go.Proofs.YtimjccfpobhpeaaW.PrintWords Go.Proofs.YtimjccfpobhpeaaW.PrintLast Go.Proofs.YtimjccfpobhpeaaW.PrintMore
set_option linter.unusedVariables false
set_option linter.unusedSimpArgs false
def Xk.j0 : Nat → List (List (S77)) → Bool → Int → Int → Bool → Option (Int)
  | 0, _, _, _, _, _ => none
  | k + 1, x0, x5, x127000, x127001, x127002 => if x5 = true then (some 7) else (if x127001 < (-1) then (some 2) else (if 0 ≤ x127000 then (if x127000 < (x0.length : Int) then (if x127001 ≥ ((Kr x0 x127000).length : Int) then (some 2) else (some 0)) else (none)) else (none)))
def Xk.f (k : Nat) (l0 : List (List (S77))) (a1_0 : Int) (a1_1 : Int) (a1_2 : Bool) : Option (Int) := if a1_0 < 2 then (Xk.j0 k l0 true a1_0 a1_1 a1_2) else (Xk.j0 k l0 (decide (a1_0 ≥ (l0.length : Int))) a1_0 a1_1 a1_2)
theorem Xk.mono_l : ∀ k, (∀ y0 y1 y2 y3 y4, Xz (Xk.j0 k y0 y1 y2 y3 y4) (Xk.j0 (k + 1) y0 y1 y2 y3 y4))
  | 0 => fun _ _ _ _ _ r h => by simp [Xk.j0] at h
  | k + 1 => by
    have ih0 := Xk.mono_l k
    · intro y0 y1 y2 y3 y4
      unfold Xk.j0
      repeat' first
      | (with_reducible exact ih0 _ _ _ _ _)
      | (with_reducible exact Xz.refl _)
      | (with_reducible exact Xz.none _)
      | (with_reducible refine Xz.ite ?_ ?_)
      | (with_reducible refine Xz.bind ?_ (fun _ => ?_))
      | exact ih0 _ _ _ _ _
      | exact Xz.none _
      | refine Xz.ite ?_ ?_
      | refine Xz.bind ?_ (fun _ => ?_)
theorem Xk.mono : ∀ a0 a1 a2 a3 k, Xz (Xk.f k a0 a1 a2 a3) (Xk.f (k + 1) a0 a1 a2 a3) := by
  intro a0 a1 a2 a3 k
  have ih0 := Xk.mono_l k
  unfold Xk.f
  repeat' first
      | (with_reducible exact ih0 _ _ _ _ _)
      | (with_reducible exact Xz.refl _)
      | (with_reducible exact Xz.none _)
      | (with_reducible refine Xz.ite ?_ ?_)
      | (with_reducible refine Xz.bind ?_ (fun _ => ?_))
      | exact ih0 _ _ _ _ _
      | exact Xz.none _
      | refine Xz.ite ?_ ?_
      | refine Xz.bind ?_ (fun _ => ?_)
set_option maxHeartbeats 8000000 in
set_option maxRecDepth 100000 in
theorem Xk.calls (k : Nat) (A0 : Option Addr) (c0 : Nat) (l0 : List (List (S77))) (a1_0 : Int) (a1_1 : Int) (a1_2 : Bool) (r : Int) (w : World) (hr0 : Kd.C (Kd.slice 77 k77) w A0 l0.length l0) (hc0 : l0.length ≤ c0) (h : Xk.f k l0 a1_0 a1_1 a1_2 = some r) :
 Calls Try.prog 28 #[.slice A0 l0.length c0, .agg #[.int .i64 a1_0, .int .i64 a1_1, .bool a1_2]] w fun e w' => e = .returned (.int .i64 r) ∧ Below w.heap.size w w' := by
 have hu29 := Try.underlying29
 have HR0 := Za.mk hr0
 have HC0 := Za.mk hc0
 clear hr0 hc0
 have HB := Za.mk (Below.refl w.heap.size w)
 have H : (if a1_0 < 2 then (Xk.j0 k l0 true a1_0 a1_1 a1_2) else (Xk.j0 k l0 (decide (a1_0 ≥ (l0.length : Int))) a1_0 a1_1 a1_2)) = some r := h
 clear h
 have HC3 := Za.mk H
 clear H
 go_enter Try.func28, Try.ntmps28
 go_upto_region 1 with (((with_reducible refine Xl (N := 3) rfl ?_); (try (refine Qd (by rfl) ?_; dsimp only)); refine Xr ?hg (N := 3) ?hd (cs := #[.int .i64 a1_0, .int .i64 a1_1, .bool a1_2]) (t := 29) ?hr ?_; (case hd => rfl); (case hg => rfl); (case hr => first | (go_simp; done) | (go_simp; rfl)); intro gb126 hg w4 hbox hb; have n0_ := Za.mk (Zn HB.out hb); have n1_ := Za.mk (hbox); have n2_ := Za.mk ((by rw [hg]; exact (Zm HB.out) : w.heap.size ≤ gb126)); have n3_ := n2_; clear HB; have HB := n0_; have BK126 := n1_; have GW126 := n2_; have GE126 := n3_; clear n0_ n1_ n2_ n3_; clear hb hbox hg))
 repeat (go_quiet (fail); go_upto_region 1 with (fail))
 (try simp only [Act.put, List.setIfInBounds_toArray, List.set_cons_zero, List.set_cons_succ])
 go_cut [5] (fun v5 wc => ∃ (kq : Nat) (x5_2 : Bool), v5 = .bool x5_2 ∧ Za (Xk.j0 kq l0 x5_2 a1_0 a1_1 a1_2 = some r) ∧ Za (kq ≤ k) ∧ Za (wc.heap[gb126]? = some (.cells #[.int .i64 a1_0, .int .i64 a1_1, .bool a1_2] 29 (0, 0))) ∧ Za (Below w.heap.size w wc))
 case first =>
  have H := HC3.out
  clear HC3
  by_cases c5 : a1_0 < 2
  ·rw [if_pos c5] at H
   have c5b0 : decide (a1_0 < 2) = true := decide_eq_true c5
   clear c5
   (first | rw [c5b0] | (simp only [Qb, Qc]; rw [c5b0]) | skip)
   have H' := Za.mk H
   clear H
   have hcz6_0 : w4.cell? ⟨gb126, 0, none⟩ = some (.int .i64 a1_0) := (Zc BK126.out 0).trans rfl
   have hcz6_1 : w4.cell? ⟨gb126, 1, none⟩ = some (.int .i64 a1_1) := (Zc BK126.out 1).trans rfl
   have hcz6_2 : w4.cell? ⟨gb126, 2, none⟩ = some (.bool a1_2) := (Zc BK126.out 2).trans rfl
   have hfz6_0 := Zb BK126.out 0
   have hfz6_1 := Zb BK126.out 1
   have hfz6_2 := Zb BK126.out 2
   go_wp2
   repeat (go_quiet (fail); try go_wp2)
   go_meet
   case rel => exact ⟨_, (true), (by first | rfl | (simp; done) | (simp [*]; done)), H', ⟨by first | omega | exact Nat.le_refl _⟩, ⟨BK126.out⟩, ⟨HB.out⟩⟩
  ·rw [if_neg c5] at H
   have c5b0 : decide (a1_0 < 2) = false := decide_eq_false c5
   clear c5
   (first | rw [c5b0] | (simp only [Qb, Qc]; rw [c5b0]) | skip)
   have H' := Za.mk H
   clear H
   have hcz7_0 : w4.cell? ⟨gb126, 0, none⟩ = some (.int .i64 a1_0) := (Zc BK126.out 0).trans rfl
   have hcz7_1 : w4.cell? ⟨gb126, 1, none⟩ = some (.int .i64 a1_1) := (Zc BK126.out 1).trans rfl
   have hcz7_2 : w4.cell? ⟨gb126, 2, none⟩ = some (.bool a1_2) := (Zc BK126.out 2).trans rfl
   have hfz7_0 := Zb BK126.out 0
   have hfz7_1 := Zb BK126.out 1
   have hfz7_2 := Zb BK126.out 2
   go_wp2
   repeat (go_quiet (fail); try go_wp2)
   go_meet
   case rel => exact ⟨_, (decide (a1_0 ≥ (l0.length : Int))), (by first | rfl | (simp; done) | (simp [*]; done)), H', ⟨by first | omega | exact Nat.le_refl _⟩, ⟨BK126.out⟩, ⟨HB.out⟩⟩
 case rest =>
  clear HC3
  obtain ⟨kq, x5_2, rfl, HA, HJ2, BK126, HB⟩ := hcut
  cases kq with
  | zero => exact absurd HA.out (by simp [Xk.j0])
  | succ kj2 =>
   have H := HA.out
   clear HA
   simp only [Xk.j0] at H
   by_cases c8 : x5_2 = true
   ·subst c8
    have H1 : (some 7) = some r := by rw [if_pos rfl] at H; exact H
    clear H
    have H := H1
    clear H1
    obtain rfl := Option.some.inj H
    go_wp2
    repeat (go_quiet (fail); try go_wp2)
    go_ret
    exact ⟨by first | rfl | (simp [errW_none, errW_some] <;> rfl) | (simp [*, errW_none, errW_some] <;> rfl), HB.out⟩
   ·replace c8 := Bool.eq_false_iff.mpr c8
    subst c8
    have H1 : (if a1_1 < (-1) then (some 2) else (if 0 ≤ a1_0 then (if a1_0 < (l0.length : Int) then (if a1_1 ≥ ((Kr l0 a1_0).length : Int) then (some 2) else (some 0)) else (none)) else (none))) = some r := by rw [if_neg (show ¬ (false = true) by decide)] at H; exact H
    clear H
    have H := H1
    clear H1
    by_cases c9 : a1_1 < (-1)
    ·rw [if_pos c9] at H
     have c9b0 : decide (a1_1 < (-1)) = true := decide_eq_true c9
     clear c9
     obtain rfl := Option.some.inj H
     have hcz10_0 : wc.cell? ⟨gb126, 0, none⟩ = some (.int .i64 a1_0) := (Zc BK126.out 0).trans rfl
     have hcz10_1 : wc.cell? ⟨gb126, 1, none⟩ = some (.int .i64 a1_1) := (Zc BK126.out 1).trans rfl
     have hcz10_2 : wc.cell? ⟨gb126, 2, none⟩ = some (.bool a1_2) := (Zc BK126.out 2).trans rfl
     have hfz10_0 := Zb BK126.out 0
     have hfz10_1 := Zb BK126.out 1
     have hfz10_2 := Zb BK126.out 2
     go_wp2
     repeat (go_quiet (fail); try go_wp2)
     go_ret
     exact ⟨by first | rfl | (simp [errW_none, errW_some] <;> rfl) | (simp [*, errW_none, errW_some] <;> rfl), by repeat (first | (with_reducible first | exact HB.out | apply Zl | apply Zj | apply Zo | refine Zh ?_ GE126.out) | exact HB.out)⟩
    ·rw [if_neg c9] at H
     have c9b0 : decide (a1_1 < (-1)) = false := decide_eq_false c9
     clear c9
     by_cases c11 : 0 ≤ a1_0
     ·rw [if_pos c11] at H
      have c11b0 : decide (0 ≤ a1_0) = true := decide_eq_true c11
      clear c11
      by_cases c12 : a1_0 < (l0.length : Int)
      ·rw [if_pos c12] at H
       have c12b0 : decide (a1_0 < (l0.length : Int)) = true := decide_eq_true c12
       clear c12
       by_cases c13 : a1_1 ≥ ((Kr l0 a1_0).length : Int)
       ·rw [if_pos c13] at H
        have c13b0 : decide (((Kr l0 a1_0).length : Int) ≤ a1_1) = true := decide_eq_true c13
        clear c13
        obtain rfl := Option.some.inj H
        have hcz14_0 : wc.cell? ⟨gb126, 0, none⟩ = some (.int .i64 a1_0) := (Zc BK126.out 0).trans rfl
        have hcz14_1 : wc.cell? ⟨gb126, 1, none⟩ = some (.int .i64 a1_1) := (Zc BK126.out 1).trans rfl
        have hcz14_2 : wc.cell? ⟨gb126, 2, none⟩ = some (.bool a1_2) := (Zc BK126.out 2).trans rfl
        have hfz14_0 := Zb BK126.out 0
        have hfz14_1 := Zb BK126.out 1
        have hfz14_2 := Zb BK126.out 2
        have p127 : 0 ≤ (a1_0 : Int) := of_decide_eq_true (by first | (with_reducible assumption) | assumption)
        have q127 : a1_0 < (l0.length : Int) := of_decide_eq_true (by first | (with_reducible assumption) | assumption)
        obtain ⟨ad127, A127_0, c127_0, e127, hx127_0, hl127_0, hi127_0⟩ := at_L12 HR0.out a1_0 p127 q127
        cases e127
        replace hx127_0 := (HB.out.cell (World.block_lt_of_cell? w _ hx127_0)).trans hx127_0
        have HR127_0 := Za.mk hi127_0
        have HC127_0 := Za.mk hl127_0
        clear hi127_0 hl127_0
        replace p127 := eq_true p127
        replace q127 := eq_true q127
        go_wp2
        repeat (go_quiet (fail); try go_wp2)
        go_ret
        exact ⟨by first | rfl | (simp [errW_none, errW_some] <;> rfl) | (simp [*, errW_none, errW_some] <;> rfl), by repeat (first | (with_reducible first | exact HB.out | apply Zl | apply Zj | apply Zo | refine Zh ?_ GE126.out) | exact HB.out)⟩
       ·rw [if_neg c13] at H
        have c13b0 : decide (((Kr l0 a1_0).length : Int) ≤ a1_1) = false := decide_eq_false c13
        clear c13
        obtain rfl := Option.some.inj H
        have hcz15_0 : wc.cell? ⟨gb126, 0, none⟩ = some (.int .i64 a1_0) := (Zc BK126.out 0).trans rfl
        have hcz15_1 : wc.cell? ⟨gb126, 1, none⟩ = some (.int .i64 a1_1) := (Zc BK126.out 1).trans rfl
        have hcz15_2 : wc.cell? ⟨gb126, 2, none⟩ = some (.bool a1_2) := (Zc BK126.out 2).trans rfl
        have hfz15_0 := Zb BK126.out 0
        have hfz15_1 := Zb BK126.out 1
        have hfz15_2 := Zb BK126.out 2
        have p127 : 0 ≤ (a1_0 : Int) := of_decide_eq_true (by first | (with_reducible assumption) | assumption)
        have q127 : a1_0 < (l0.length : Int) := of_decide_eq_true (by first | (with_reducible assumption) | assumption)
        obtain ⟨ad127, A127_0, c127_0, e127, hx127_0, hl127_0, hi127_0⟩ := at_L12 HR0.out a1_0 p127 q127
        cases e127
        replace hx127_0 := (HB.out.cell (World.block_lt_of_cell? w _ hx127_0)).trans hx127_0
        have HR127_0 := Za.mk hi127_0
        have HC127_0 := Za.mk hl127_0
        clear hi127_0 hl127_0
        replace p127 := eq_true p127
        replace q127 := eq_true q127
        go_wp2
        repeat (go_quiet (fail); try go_wp2)
        go_ret
        exact ⟨by first | rfl | (simp [errW_none, errW_some] <;> rfl) | (simp [*, errW_none, errW_some] <;> rfl), by repeat (first | (with_reducible first | exact HB.out | apply Zl | apply Zj | apply Zo | refine Zh ?_ GE126.out) | exact HB.out)⟩
      ·rw [if_neg c12] at H
       exact absurd H (by simp)
     ·rw [if_neg c11] at H
      exact absurd H (by simp)
end Go.Proofs.Ytimjccfpobhpeaa.PF
namespace Go.Proofs.Ytimjccfpobhpeaa.PF
open Go.RowKit Go.Proofs.YtimjccfpobhpeaaW.PrintWords Go.Proofs.YtimjccfpobhpeaaW.PrintLast Go.Proofs.YtimjccfpobhpeaaW.PrintMore
set_option linter.unusedVariables false
set_option linter.unusedSimpArgs false
theorem Xk.ok {k : Nat} {rows : List (List S77)} {a b : Int} {c : Bool} (h : Xk.f k rows a b c = some 0) : 2 ≤ a ∧ a < rows.length ∧ -1 ≤ b ∧ b < ((rows.getD a.toNat []).length : Int) := by
  unfold Xk.f at h
  cases k with
  | zero => split at h <;> simp [Xk.j0] at h
  | succ k =>
    split at h
    · simp [Xk.j0] at h
    · rename_i h1
      rw [Xk.j0] at h
      split at h
      · simp at h
      · rename_i h2
        split at h
        · simp at h
        · split at h
          · split at h
            · split at h
              · simp at h
              · rename_i h3 h4 h5 h6
                simp only [Kr] at h6
                simp only [decide_eq_true_eq] at h2
                exact ⟨by omega, by omega, by omega, by omega⟩
            · simp at h
          · simp at h
theorem Xj.ok {k : Nat} {l0 l1 : List ByteArray} {l2 : List S82} {l3 : List Ky} {l4 : List Int} {rows : List (List S77)} (h : Xj.f k l0 l1 l2 l3 l4 = some (rows, 0)) :
    Ze.f k l0 l1 l2 l3 l4 = some 0 ∧ loadsFit l0 l2 l3 l4 = true ∧ rows = Qy l0 l2 l3 l4 := by
  unfold Xj.f at h
  obtain ⟨e, he, h2⟩ := Option.bind_eq_some_iff.1 h
  by_cases h0 : e = 0
  · subst h0
    rw [if_pos rfl] at h2
    by_cases hf : loadsFit l0 l2 l3 l4 = true
    · rw [if_pos hf] at h2
      simp only [Option.some.injEq, Prod.mk.injEq] at h2
      exact ⟨he, hf, h2.1.symm⟩
    · rw [if_neg hf] at h2
      cases h2
  · rw [if_neg h0] at h2
    simp only [Option.some.injEq, Prod.mk.injEq] at h2
    exact absurd h2.2 h0
theorem loadsOf_row {l0 : List ByteArray} {l2 : List S82} {l3 : List Ky} {l4 : List Int} (hf : loadsFit l0 l2 l3 l4 = true) {j : Nat} (hj : j < netsOf l0 l2 l3) : (Qy l0 l2 l3 l4)[j]? = some (((placesOf l2 l3 l4).filter fun p => decide (p.1 = (j : Int))).map (·.2)) := by
  have hg := (loadsFit_good hf).1
  have hr := loadsFrom_row (placesOf l2 l3 l4) (List.replicate (netsOf l0 l2 l3) []) (fun p hp => by rw [hg.len]; exact hg.rng p hp) j (by rw [hg.len]; exact hj)
  have hl : (Qy l0 l2 l3 l4).length = netsOf l0 l2 l3 := by
    unfold Qy
    rw [loadsFrom_len, hg.len]
  rw [List.getD_eq_getElem?_getD] at hr
  have h2 : (Qy l0 l2 l3 l4)[j]? = some ((Qy l0 l2 l3 l4)[j]'(by omega)) := List.getElem?_eq_getElem _
  unfold Qy at h2
  rw [h2, Option.getD_some] at hr
  unfold Qy
  rw [h2, hr]
  simp [List.getD, List.getElem?_replicate, hj]
theorem loadsOf_len {l0 : List ByteArray} {l2 : List S82} {l3 : List Ky} {l4 : List Int} : (Qy l0 l2 l3 l4).length = netsOf l0 l2 l3 := by
  unfold Qy
  rw [loadsFrom_len, List.length_replicate]
def injRes (rows : List (List S77)) (a b : Int) (c : Bool) (l2 : List S82) (l3 : List Ky) (l4 : List Int) : NetP := injectF b (if c = true then 1 else 0) (rows.getD a.toNat []) 0 ⟨l2, l3, l4⟩
def Qk.f (k : Nat) (l0_0 : List ByteArray) (l0_1 : List ByteArray) (l0_2 : List (S82)) (l0_3 : List (Ky)) (l0_4 : List Int) (a1_0 : Int) (a1_1 : Int) (a1_2 : Bool) : Option (List ByteArray × List ByteArray × (List (S82)) × (List (Ky)) × List Int × Int) := (Xj.f k l0_0 l0_1 l0_2 l0_3 l0_4).bind fun r => if r.2 = 0 then ((Xk.f k r.1 a1_0 a1_1 a1_2).bind fun e2 => if e2 = 0 then (if copyFits l0_0 l0_1 l0_2 l0_3 l0_4 = true then some (l0_0, l0_1, (injRes r.1 a1_0 a1_1 a1_2 l0_2 l0_3 l0_4).fl, (injRes r.1 a1_0 a1_1 a1_2 l0_2 l0_3 l0_4).ga, (injRes r.1 a1_0 a1_1 a1_2 l0_2 l0_3 l0_4).ou, 0) else none) else some ([], [], [], [], [], e2)) else some ([], [], [], [], [], r.2)
theorem Qk.mono : ∀ a0 a1 a2 a3 a4 a5 a6 a7 k, Xz (Qk.f k a0 a1 a2 a3 a4 a5 a6 a7) (Qk.f (k + 1) a0 a1 a2 a3 a4 a5 a6 a7) := fun a0 a1 a2 a3 a4 a5 a6 a7 k => Xz.bind (Xj.mono a0 a1 a2 a3 a4 k) (fun r => Xz.ite (Xz.bind (Xk.mono _ _ _ _ k) (fun _ => Xz.refl _)) (Xz.refl _))
set_option maxHeartbeats 2000000 in
theorem Qk.calls (k : Nat) (A0_0 : Option Addr) (c0_0 : Nat) (l0_0 : List ByteArray) (A0_1 : Option Addr) (c0_1 : Nat) (l0_1 : List ByteArray) (A0_2 : Option Addr) (c0_2 : Nat) (l0_2 : List (S82)) (A0_3 : Option Addr) (c0_3 : Nat) (l0_3 : List (Ky)) (A0_4 : Option Addr) (c0_4 : Nat) (l0_4 : List Int) (a1_0 : Int) (a1_1 : Int) (a1_2 : Bool) (r1 : List ByteArray) (r2 : List ByteArray) (r3 : List (S82)) (r4 : List (Ky)) (r5 : List Int) (r6 : Int) (w : World) (hr0_0 : Kd.C Kd.string w A0_0 l0_0.length l0_0) (hc0_0 : l0_0.length ≤ c0_0) (hr0_1 : Kd.C Kd.string w A0_1 l0_1.length l0_1) (hc0_1 : l0_1.length ≤ c0_1) (hr0_2 : Kd.C k82 w A0_2 l0_2.length l0_2) (hc0_2 : l0_2.length ≤ c0_2) (hr0_3 : Kd.C k80 w A0_3 l0_3.length l0_3) (hc0_3 : l0_3.length ≤ c0_3) (hr0_4 : Kd.C (Kd.int .i64) w A0_4 l0_4.length l0_4) (hc0_4 : l0_4.length ≤ c0_4) (h : Qk.f k l0_0 l0_1 l0_2 l0_3 l0_4 a1_0 a1_1 a1_2 = some (r1, r2, r3, r4, r5, r6)) :
 Calls Try.prog 8 #[.agg #[.slice A0_0 l0_0.length c0_0, .slice A0_1 l0_1.length c0_1, .slice A0_2 l0_2.length c0_2, .slice A0_3 l0_3.length c0_3, .slice A0_4 l0_4.length c0_4], .agg #[.int .i64 a1_0, .int .i64 a1_1, .bool a1_2]] w fun e w' => ∃ v0_ v1_ v2_ v3_ v4_ : Value, e = .returned (.tuple #[.agg #[v0_, v1_, v2_, v3_, v4_], .int .i64 r6]) ∧ Kd.R Kd.string 9 w' w.heap.size (fun k_ => some k_ ≠ (v1_ : Value).ownBlock) v0_ r1 ∧ Kd.R Kd.string 9 w' w.heap.size (fun k_ => some k_ ≠ (v0_ : Value).ownBlock) v1_ r2 ∧ Kd.R k82 82 w' w.heap.size (fun _ => True) v2_ r3 ∧ Kd.S k80 80 w' w.heap.size (fun k_ => some k_ ≠ (v4_ : Value).ownBlock) v3_ r4 ∧ Kd.R (Kd.int .i64) 3 w' w.heap.size (fun _ => True) v4_ r5 ∧ Below w.heap.size w w' := by
 unfold Qk.f at h
 obtain ⟨⟨rows, e1⟩, hL, h2⟩ := Option.bind_eq_some_iff.1 h
 have HL := fun (W : World) (hW : Below w.heap.size w W) => Xj.calls k A0_0 c0_0 l0_0 A0_1 c0_1 l0_1 A0_2 c0_2 l0_2 A0_3 c0_3 l0_3 A0_4 c0_4 l0_4 rows e1 W (Kd.Zk hr0_0 hW) hc0_0 (Kd.Zk hr0_1 hW) hc0_1 (Kd.Zk hr0_2 hW) hc0_2 (Kd.Zk hr0_3 hW) hc0_3 (Kd.Zk hr0_4 hW) hc0_4 hL
 by_cases h0 : e1 = 0
 ·subst h0
  rw [if_pos rfl] at h2
  obtain ⟨e2, hC, h3⟩ := Option.bind_eq_some_iff.1 h2
  have HC : ∀ (W : World) (v : Value), Kd.S (Kd.slice 77 k77) 75 W (w.heap.size + 3) (fun _ => True) v rows → Calls Try.prog 28 #[v, .agg #[.int .i64 a1_0, .int .i64 a1_1, .bool a1_2]] W fun e w' => e = .returned (.int .i64 e2) ∧ Below W.heap.size W w' := fun W v hS => by
   obtain ⟨A, c, rfl, hc, hr⟩ := Kd.S_reads hS
   exact Xk.calls k A c rows a1_0 a1_1 a1_2 e2 W hr hc hC
  by_cases h4 : e2 = 0
  ·subst h4
   rw [if_pos rfl] at h3
   by_cases hf : copyFits l0_0 l0_1 l0_2 l0_3 l0_4 = true
   ·rw [if_pos hf] at h3
    simp only [Option.some.injEq, Prod.mk.injEq] at h3
    obtain ⟨rfl, rfl, rfl, rfl, rfl, rfl⟩ := h3
    obtain ⟨hF, hfit, hrows⟩ := Xj.ok hL
    obtain ⟨hk1, hk2, hk3, hk4⟩ := Xk.ok (rows := rows) hC
    obtain ⟨nn, rfl⟩ := Int.eq_ofNat_of_zero_le (show 0 ≤ a1_0 by omega)
    have hrow := loadsOf_row hfit (j := nn) (by rw [← loadsOf_len (l4 := l0_4), ← hrows]; omega)
    rw [← hrows] at hrow
    have hval : ∀ l ∈ ((placesOf l0_2 l0_3 l0_4).filter fun p => decide (p.1 = (nn : Int))).map (·.2), ValidL ⟨l0_2, l0_3, l0_4⟩ l := by
     intro l hl
     obtain ⟨p, hp, rfl⟩ := List.mem_map.1 hl
     exact placesOf_valid (List.mem_filter.1 hp).1
    have hres : ∀ v, injRes rows (nn : Int) a1_1 v l0_2 l0_3 l0_4 = injectF a1_1 (if v = true then 1 else 0) (((placesOf l0_2 l0_3 l0_4).filter fun p => decide (p.1 = (nn : Int))).map (·.2)) 0 ⟨l0_2, l0_3, l0_4⟩ := fun v => by
     unfold injRes
     rw [Int.toNat_natCast, List.getD_eq_getElem?_getD, hrow, Option.getD_some]
    simp only [copyFits, Bool.and_eq_true, decide_eq_true_eq, List.all_eq_true] at hf
    obtain ⟨⟨⟨⟨⟨m0, m1⟩, m2⟩, m3⟩, m4⟩, m5⟩ := hf
    have fin : ∀ {s : NetP} {e : Ending} {w' : World}, (∃ v0 v1 v2 v3 v4 : Value, e = .returned (.tuple #[.agg #[v0, v1, v2, v3, v4], .int .i64 0]) ∧ NetR (fun _ => True) w.heap.size w' v0 v1 v2 v3 v4 l0_0 l0_1 s.fl s.ga s.ou ∧ Below w.heap.size w w') → ∃ v0_ v1_ v2_ v3_ v4_ : Value, e = .returned (.tuple #[.agg #[v0_, v1_, v2_, v3_, v4_], .int .i64 0]) ∧ Kd.R Kd.string 9 w' w.heap.size (fun k_ => some k_ ≠ (v1_ : Value).ownBlock) v0_ l0_0 ∧ Kd.R Kd.string 9 w' w.heap.size (fun k_ => some k_ ≠ (v0_ : Value).ownBlock) v1_ l0_1 ∧ Kd.R k82 82 w' w.heap.size (fun _ => True) v2_ s.fl ∧ Kd.S k80 80 w' w.heap.size (fun k_ => some k_ ≠ (v4_ : Value).ownBlock) v3_ s.ga ∧ Kd.R (Kd.int .i64) 3 w' w.heap.size (fun _ => True) v4_ s.ou ∧ Below w.heap.size w w' := by
     rintro s e w' ⟨v0, v1, v2, v3, v4, he, hr, hb⟩
     exact ⟨v0, v1, v2, v3, v4, he, Kd.Xh hr.r0 (fun _ h => h.2), Kd.Xh hr.r1 (fun _ h => h.2), hr.r2, Kd.S_mono hr.r3 (fun _ h => h.2), hr.r4, hb⟩
    cases a1_2
    ·rw [hres]
     exact (inject_ok_f A0_0 A0_1 A0_2 A0_3 A0_4 c0_0 c0_1 c0_2 c0_3 c0_4 l0_0 l0_1 l0_2 l0_3 l0_4 nn a1_1 w hr0_0 hr0_1 hr0_2 hr0_3 hr0_4 m0 m1 m2 m3 m4 m5 rows _ hrow hval HL HC).mono fun _ _ hp => fin hp
    ·rw [hres]
     exact (inject_ok_t A0_0 A0_1 A0_2 A0_3 A0_4 c0_0 c0_1 c0_2 c0_3 c0_4 l0_0 l0_1 l0_2 l0_3 l0_4 nn a1_1 w hr0_0 hr0_1 hr0_2 hr0_3 hr0_4 m0 m1 m2 m3 m4 m5 rows _ hrow hval HL HC).mono fun _ _ hp => fin hp
   ·rw [if_neg hf] at h3
    cases h3
  ·rw [if_neg h4] at h3
   simp only [Option.some.injEq, Prod.mk.injEq] at h3
   obtain ⟨rfl, rfl, rfl, rfl, rfl, rfl⟩ := h3
   exact (inject_err2 A0_0 A0_1 A0_2 A0_3 A0_4 c0_0 c0_1 c0_2 c0_3 c0_4 l0_0 l0_1 l0_2 l0_3 l0_4 a1_0 a1_1 a1_2 w rows _ h4 HL HC).mono fun _ _ ⟨v0, v1, v2, v3, v4, he, hr, hb⟩ => ⟨v0, v1, v2, v3, v4, he, Kd.Xh hr.r0 (fun _ h => h.2), Kd.Xh hr.r1 (fun _ h => h.2), hr.r2, Kd.S_mono hr.r3 (fun _ h => h.2), hr.r4, hb⟩
 ·rw [if_neg h0] at h2
  simp only [Option.some.injEq, Prod.mk.injEq] at h2
  obtain ⟨rfl, rfl, rfl, rfl, rfl, rfl⟩ := h2
  exact (inject_err1 A0_0 A0_1 A0_2 A0_3 A0_4 c0_0 c0_1 c0_2 c0_3 c0_4 l0_0 l0_1 l0_2 l0_3 l0_4 a1_0 a1_1 a1_2 w _ h0 (fun W hW => (HL W hW).mono fun _ _ ⟨v, he, _, hb⟩ => ⟨v, he, hb⟩)).mono fun _ _ ⟨v0, v1, v2, v3, v4, he, hr, hb⟩ => ⟨v0, v1, v2, v3, v4, he, Kd.Xh hr.r0 (fun _ h => h.2), Kd.Xh hr.r1 (fun _ h => h.2), hr.r2, Kd.S_mono hr.r3 (fun _ h => h.2), hr.r4, hb⟩
end Go.Proofs.Ytimjccfpobhpeaa.PF
namespace Go.Proofs.Ytimjccfpobhpeaa.PF
open Go.RowKit Go.Proofs.YtimjccfpobhpeaaW.PrintWords Go.Proofs.YtimjccfpobhpeaaW.PrintLast Go.Proofs.YtimjccfpobhpeaaW.PrintMore
set_option linter.unusedVariables false
set_option linter.unusedSimpArgs false
theorem placesOf_key {l2 : List S82} {l3 : List Ky} {l4 : List Int} {p : Int × S77} (h : p ∈ placesOf l2 l3 l4) (m2 : l2.length ≤ 140737488355328) (m3 : l3.length ≤ 140737488355328) (m4 : l4.length ≤ 140737488355328) (m5 : ∀ x ∈ l3, x.f2.length ≤ 140737488355328) : key3.ok (keyL p.2) := by
  have key : ∀ (a : Int) (i k : Nat), 0 ≤ a → a ≤ 3 → i ≤ 140737488355328 → k ≤ 140737488355328 → key3.ok (keyL ⟨a, i, k⟩) := fun a i k h1 h2 h3 h4 => ⟨InK.mk64 (by show _ ≤ a ∧ a ≤ _; omega), InK.mk64 (by show _ ≤ (i : Int) ∧ (i : Int) ≤ _; omega), InK.mk64 (by show _ ≤ (k : Int) ∧ (k : Int) ≤ _; omega)⟩
  unfold placesOf at h
  rcases List.mem_append.1 h with h | h
  · obtain ⟨j, k, x, net, h1, h2, rfl⟩ := gatePlaces_mem h
    have b1 := (List.getElem?_eq_some_iff.1 h1).1
    have b2 := (List.getElem?_eq_some_iff.1 h2).1
    have b3 := m5 x (List.mem_of_getElem? h1)
    exact key 0 _ _ (by decide) (by decide) (by omega) (by omega)
  rcases List.mem_append.1 h with h | h
  · obtain ⟨j, x, h1, rfl | rfl⟩ := flopPlaces_mem h
    · have b1 := (List.getElem?_eq_some_iff.1 h1).1
      exact key 1 _ 0 (by decide) (by decide) (by omega) (by decide)
    · have b1 := (List.getElem?_eq_some_iff.1 h1).1
      exact key 2 _ 0 (by decide) (by decide) (by omega) (by decide)
  · obtain ⟨j, net, h1, rfl⟩ := outPlaces_mem h
    have b1 := (List.getElem?_eq_some_iff.1 h1).1
    exact key 3 _ 0 (by decide) (by decide) (by omega) (by decide)
theorem loadsOf_key {l0 : List ByteArray} {l2 : List S82} {l3 : List Ky} {l4 : List Int} (hfit : loadsFit l0 l2 l3 l4 = true) (m2 : l2.length ≤ 140737488355328) (m3 : l3.length ≤ 140737488355328) (m4 : l4.length ≤ 140737488355328) (m5 : ∀ x ∈ l3, x.f2.length ≤ 140737488355328) :
    ∀ row ∈ Qy l0 l2 l3 l4, ∀ l ∈ row, key3.ok (keyL l) := by
  intro row hrow l hl
  obtain ⟨j, hjr⟩ := List.getElem?_of_mem hrow
  have hj := (List.getElem?_eq_some_iff.1 hjr).1
  rw [loadsOf_len] at hj
  have hr := loadsOf_row hfit hj
  rw [hjr] at hr
  injection hr with hr
  rw [hr] at hl
  obtain ⟨p, hp, rfl⟩ := List.mem_map.1 hl
  exact placesOf_key (List.mem_filter.1 hp).1 m2 m3 m4 m5
def numsOf (l0 : List ByteArray) (l2 : List S82) (l3 : List Ky) (l4 : List Int) : List ((Int × Int × Int) × Int) := numsFrom (Qy l0 l2 l3 l4) []
def nvOf (l0 : List ByteArray) (l2 : List S82) (l3 : List Ky) (l4 : List Int) (a b : Int) (c : Bool) : S77 → Int → Int := newv a b (if c = true then 1 else 0) (numsOf l0 l2 l3 l4)
end Go.Proofs.Ytimjccfpobhpeaa.PF
namespace Go.Proofs.Ytimjccfpobhpeaa
open Go.RowKit Go.Proofs.YtimjccfpobhpeaaW.PrintWords Go.Proofs.Ytimjccfpobhpeaa.PF
set_option linter.unusedVariables false
theorem pin_mem {i : Nat} {net : Int} : ∀ {xs : List Int} {k j : Nat}, xs[j]? = some net → ((net, ⟨0, i, (k + j : Nat)⟩) : Int × Load) ∈ pinPlaces i xs k
  | [], _, _, h => by simp at h
  | x :: r, k, 0, h => by
    obtain rfl : x = net := by simpa using h
    rw [pinPlaces]
    exact List.mem_cons_self
  | x :: r, k, j + 1, h => by
    rw [pinPlaces]
    have := pin_mem (i := i) (k := k + 1) (j := j) (xs := r) (net := net) (by simpa using h)
    rw [show k + 1 + j = k + (j + 1) by omega] at this
    exact List.mem_cons_of_mem _ this
theorem gate_mem {k : Nat} {net : Int} : ∀ {xs : List GateS} {i j : Nat} {x : GateS}, xs[j]? = some x → x.f2[k]? = some net → ((net, ⟨0, (i + j : Nat), k⟩) : Int × Load) ∈ Kw xs i
  | [], _, _, _, h, _ => by simp at h
  | y :: r, i, 0, x, h, hk => by
    obtain rfl : y = x := by simpa using h
    rw [Kw]
    have := pin_mem (i := i) (k := 0) hk
    rw [Nat.zero_add] at this
    exact List.mem_append_left _ this
  | y :: r, i, j + 1, x, h, hk => by
    rw [Kw]
    have := gate_mem (i := i + 1) (j := j) (xs := r) (x := x) (by simpa using h) hk
    rw [show i + 1 + j = i + (j + 1) by omega] at this
    exact List.mem_append_right _ this
theorem flop_mem : ∀ {xs : List FlopS} {i j : Nat} {x : FlopS}, xs[j]? = some x → ((x.f2, ⟨1, (i + j : Nat), 0⟩) : Int × Load) ∈ Qv xs i ∧ ((x.f3, ⟨2, (i + j : Nat), 0⟩) : Int × Load) ∈ Qv xs i
  | [], _, _, _, h => by simp at h
  | y :: r, i, 0, x, h => by
    obtain rfl : y = x := by simpa using h
    rw [Qv]
    exact ⟨List.mem_cons_self, List.mem_cons_of_mem _ List.mem_cons_self⟩
  | y :: r, i, j + 1, x, h => by
    rw [Qv]
    have := flop_mem (i := i + 1) (j := j) (xs := r) (x := x) (by simpa using h)
    rw [show i + 1 + j = i + (j + 1) by omega] at this
    exact ⟨List.mem_cons_of_mem _ (List.mem_cons_of_mem _ this.1), List.mem_cons_of_mem _ (List.mem_cons_of_mem _ this.2)⟩
theorem out_mem {net : Int} : ∀ {xs : List Int} {i j : Nat}, xs[j]? = some net → ((net, ⟨3, (i + j : Nat), 0⟩) : Int × Load) ∈ Qx xs i
  | [], _, _, h => by simp at h
  | x :: r, i, 0, h => by
    obtain rfl : x = net := by simpa using h
    rw [Qx]
    exact List.mem_cons_self
  | x :: r, i, j + 1, h => by
    rw [Qx]
    have := out_mem (i := i + 1) (j := j) (xs := r) (net := net) (by simpa using h)
    rw [show i + 1 + j = i + (j + 1) by omega] at this
    exact List.mem_cons_of_mem _ this
section
variable {l2 : List FlopS} {l3 : List GateS} {l4 : List Int}
theorem places_to {p : Int × Load} (h : p ∈ placesOf l2 l3 l4) : ∃ q, p.2 = toL q ∧ getP ⟨l2, l3, l4⟩ q = some p.1 := by
  unfold placesOf at h
  rcases List.mem_append.1 h with h | h
  · obtain ⟨j, k, x, net, h1, h2, rfl⟩ := gatePlaces_mem h
    exact ⟨.pin j k, by rw [Nat.zero_add]; rfl, by simp only [getP]; rw [h1]; exact h2⟩
  rcases List.mem_append.1 h with h | h
  · obtain ⟨j, x, h1, rfl | rfl⟩ := flopPlaces_mem h
    · exact ⟨.d j, by rw [Nat.zero_add]; rfl, by simp only [getP]; rw [h1]; rfl⟩
    · exact ⟨.en j, by rw [Nat.zero_add]; rfl, by simp only [getP]; rw [h1]; rfl⟩
  · obtain ⟨j, net, h1, rfl⟩ := outPlaces_mem h
    exact ⟨.out j, by rw [Nat.zero_add]; rfl, h1⟩
theorem places_of {q : Pl} {x : Int} (h : getP ⟨l2, l3, l4⟩ q = some x) : ((x, toL q) : Int × Load) ∈ placesOf l2 l3 l4 := by
  unfold placesOf
  cases q with
  | pin i k =>
    obtain ⟨g, h1, h2⟩ := Option.bind_eq_some_iff.1 h
    have := gate_mem (i := 0) h1 h2
    rw [Nat.zero_add] at this
    exact List.mem_append_left _ this
  | d i =>
    obtain ⟨g, h1, rfl⟩ := Option.map_eq_some_iff.1 h
    have := (flop_mem (i := 0) h1).1
    rw [Nat.zero_add] at this
    exact List.mem_append_right _ (List.mem_append_left _ this)
  | en i =>
    obtain ⟨g, h1, rfl⟩ := Option.map_eq_some_iff.1 h
    have := (flop_mem (i := 0) h1).2
    rw [Nat.zero_add] at this
    exact List.mem_append_right _ (List.mem_append_left _ this)
  | out i =>
    have := out_mem (i := 0) h
    rw [Nat.zero_add] at this
    exact List.mem_append_right _ (List.mem_append_right _ this)
end
theorem load_f0 {a b : Load} (h : a = b) : a.f0 = b.f0 := by rw [h]
theorem load_f1 {a b : Load} (h : a = b) : a.f1 = b.f1 := by rw [h]
theorem load_f2 {a b : Load} (h : a = b) : a.f2 = b.f2 := by rw [h]
theorem pin_nodup (i : Nat) : ∀ (xs : List Int) (k : Nat), ((pinPlaces i xs k).map (·.2)).Nodup
  | [], k => List.nodup_nil
  | x :: r, k => by
    rw [pinPlaces, List.map_cons]
    refine List.nodup_cons.2 ⟨fun h => ?_, pin_nodup i r (k + 1)⟩
    obtain ⟨p, hp, e⟩ := List.mem_map.1 h
    obtain ⟨j, net, _, rfl⟩ := pinPlaces_mem hp
    have := load_f2 e
    simp only at this
    omega
theorem gate_nodup : ∀ (xs : List GateS) (i : Nat), ((Kw xs i).map (·.2)).Nodup
  | [], i => List.nodup_nil
  | x :: r, i => by
    rw [Kw, List.map_append]
    refine List.nodup_append.2 ⟨pin_nodup i x.f2 0, gate_nodup r (i + 1), fun a ha b hb e => ?_⟩
    obtain ⟨p, hp, rfl⟩ := List.mem_map.1 ha
    obtain ⟨p2, hp2, rfl⟩ := List.mem_map.1 hb
    obtain ⟨j, net, _, rfl⟩ := pinPlaces_mem hp
    obtain ⟨j2, k2, x2, net2, _, _, rfl⟩ := gatePlaces_mem hp2
    have := load_f1 e
    simp only at this
    omega
theorem flop_nodup : ∀ (xs : List FlopS) (i : Nat), ((Qv xs i).map (·.2)).Nodup
  | [], i => List.nodup_nil
  | x :: r, i => by
    rw [Qv, List.map_cons, List.map_cons]
    refine List.nodup_cons.2 ⟨fun h => ?_, List.nodup_cons.2 ⟨fun h => ?_, flop_nodup r (i + 1)⟩⟩
    · rcases List.mem_cons.1 h with e | h
      · have := load_f0 e
        simp only at this
        omega
      · obtain ⟨p, hp, e⟩ := List.mem_map.1 h
        obtain ⟨j, y, _, rfl | rfl⟩ := flopPlaces_mem hp
        · have := load_f1 e
          simp only at this
          omega
        · have := load_f1 e
          simp only at this
          omega
    · obtain ⟨p, hp, e⟩ := List.mem_map.1 h
      obtain ⟨j, y, _, rfl | rfl⟩ := flopPlaces_mem hp
      · have := load_f1 e
        simp only at this
        omega
      · have := load_f1 e
        simp only at this
        omega
theorem out_nodup : ∀ (xs : List Int) (i : Nat), ((Qx xs i).map (·.2)).Nodup
  | [], i => List.nodup_nil
  | x :: r, i => by
    rw [Qx, List.map_cons]
    refine List.nodup_cons.2 ⟨fun h => ?_, out_nodup r (i + 1)⟩
    obtain ⟨p, hp, e⟩ := List.mem_map.1 h
    obtain ⟨j, net, _, rfl⟩ := outPlaces_mem hp
    have := load_f1 e
    simp only at this
    omega
theorem places_nodup (l2 : List FlopS) (l3 : List GateS) (l4 : List Int) : ((placesOf l2 l3 l4).map (·.2)).Nodup := by
  unfold placesOf
  rw [List.map_append, List.map_append]
  refine List.nodup_append.2 ⟨gate_nodup l3 0, List.nodup_append.2 ⟨flop_nodup l2 0, out_nodup l4 0, fun a ha b hb e => ?_⟩, fun a ha b hb e => ?_⟩
  · obtain ⟨p, hp, rfl⟩ := List.mem_map.1 ha
    obtain ⟨p2, hp2, rfl⟩ := List.mem_map.1 hb
    obtain ⟨j2, net2, _, rfl⟩ := outPlaces_mem hp2
    obtain ⟨j, y, _, rfl | rfl⟩ := flopPlaces_mem hp
    all_goals
      have := load_f0 e
      simp only at this
      omega
  · obtain ⟨p, hp, rfl⟩ := List.mem_map.1 ha
    obtain ⟨j, k, x, net, _, _, rfl⟩ := gatePlaces_mem hp
    rcases List.mem_append.1 hb with hb | hb
    · obtain ⟨p2, hp2, rfl⟩ := List.mem_map.1 hb
      obtain ⟨j, y, _, rfl | rfl⟩ := flopPlaces_mem hp2
      all_goals
        have := load_f0 e
        simp only at this
        omega
    · obtain ⟨p2, hp2, rfl⟩ := List.mem_map.1 hb
      obtain ⟨j2, net2, _, rfl⟩ := outPlaces_mem hp2
      have := load_f0 e
      simp only at this
      omega
theorem keyL_inj {l l' : Load} (h : keyL l = keyL l') : l = l' := by
  cases l
  cases l'
  simp only [keyL, Prod.mk.injEq] at h
  obtain ⟨rfl, rfl, rfl⟩ := h
  rfl
theorem numsRow_out {l : Load} : ∀ (row : List Load) (i : Nat) (m : List ((Int × Int × Int) × Int)), l ∉ row → mget (numsRow row i m) (keyL l) = mget m (keyL l)
  | [], i, m, h => rfl
  | l' :: r, i, m, h => by
    rw [numsRow, numsRow_out r (i + 1) _ (fun e => h (List.mem_cons_of_mem _ e)), mget_mput, if_neg (fun e => h (by rw [keyL_inj e]; exact List.mem_cons_self))]
theorem numsRow_in {l : Load} : ∀ (row : List Load) (i : Nat) (m : List ((Int × Int × Int) × Int)) (j : Nat), row.Nodup → row[j]? = some l → mget (numsRow row i m) (keyL l) = some ((i + j : Nat) : Int)
  | [], i, m, j, hn, h => by simp at h
  | l' :: r, i, m, 0, hn, h => by
    obtain rfl : l' = l := by simpa using h
    rw [numsRow, numsRow_out r (i + 1) _ (List.nodup_cons.1 hn).1, mget_mput, if_pos rfl, Nat.add_zero]
  | l' :: r, i, m, j + 1, hn, h => by
    rw [numsRow, numsRow_in r (i + 1) _ j (List.nodup_cons.1 hn).2 (by simpa using h), show i + 1 + j = i + (j + 1) by omega]
theorem numsFrom_out {l : Load} : ∀ (rows : List (List Load)) (m : List ((Int × Int × Int) × Int)), (∀ row ∈ rows, l ∉ row) → mget (numsFrom rows m) (keyL l) = mget m (keyL l)
  | [], m, h => rfl
  | row :: r, m, h => by
    rw [numsFrom, numsFrom_out r _ (fun x hx => h x (List.mem_cons_of_mem _ hx)), numsRow_out _ _ _ (h row List.mem_cons_self)]
theorem numsFrom_in {l : Load} : ∀ (rows : List (List Load)) (m : List ((Int × Int × Int) × Int)) (n : Nat) (row : List Load) (j : Nat), rows[n]? = some row → row.Nodup → row[j]? = some l → (∀ n' row', n < n' → rows[n']? = some row' → l ∉ row') → mget (numsFrom rows m) (keyL l) = some (j : Int)
  | [], m, n, row, j, h, _, _, _ => by simp at h
  | row0 :: r, m, 0, row, j, h, hn, hj, hl => by
    obtain rfl : row0 = row := by simpa using h
    rw [numsFrom, numsFrom_out r _ (fun x hx => by
      obtain ⟨n', hn'⟩ := List.getElem?_of_mem hx
      exact hl (n' + 1) x (by omega) (by rw [List.getElem?_cons_succ]; exact hn')), numsRow_in _ _ _ j hn hj, Nat.zero_add]
  | row0 :: r, m, n + 1, row, j, h, hn, hj, hl => by
    rw [numsFrom]
    exact numsFrom_in r _ n row j (by simpa using h) hn hj (fun n' row' h1 h2 => hl (n' + 1) row' (by omega) (by rw [List.getElem?_cons_succ]; exact h2))
theorem Skel.symm {s s' : NetP} (h : Skel s s') : Skel s' s := ⟨h.fl.symm, h.ga.symm, h.ou.symm⟩
def rowAt (l2 : List FlopS) (l3 : List GateS) (l4 : List Int) (n : Nat) : List Load := ((placesOf l2 l3 l4).filter fun p => decide (p.1 = (n : Int))).map (·.2)
section
variable {l2 : List FlopS} {l3 : List GateS} {l4 : List Int}
theorem rowAt_mem {n : Nat} {q : Pl} : toL q ∈ rowAt l2 l3 l4 n ↔ getP ⟨l2, l3, l4⟩ q = some (n : Int) := by
  constructor
  · intro h
    obtain ⟨p, hp, e⟩ := List.mem_map.1 h
    obtain ⟨hp, hd⟩ := List.mem_filter.1 hp
    obtain ⟨q', e', hq⟩ := places_to hp
    obtain rfl := toL_inj (e'.symm.trans e)
    rw [hq, of_decide_eq_true hd]
  · intro h
    exact List.mem_map.2 ⟨_, List.mem_filter.2 ⟨places_of h, by simp⟩, rfl⟩
theorem rowAt_nodup (n : Nat) : (rowAt l2 l3 l4 n).Nodup := List.Nodup.sublist (List.Sublist.map _ List.filter_sublist) (places_nodup l2 l3 l4)
theorem rowAt_to {n : Nat} : ∀ l ∈ rowAt l2 l3 l4 n, ∃ p, l = toL p := by
  intro l hl
  obtain ⟨p, hp, rfl⟩ := List.mem_map.1 hl
  obtain ⟨q, hq, _⟩ := places_to (List.mem_filter.1 hp).1
  exact ⟨q, hq⟩
theorem inj_br {l0 : List ByteArray} (hfit : loadsFit l0 l2 l3 l4 = true) (a : Nat) (b : Int) (c : Bool) (ha : a < netsOf l0 l2 l3) :
    injRes (Qy l0 l2 l3 l4) (a : Int) b c l2 l3 l4 = brOf (nvOf l0 l2 l3 l4 a b c) ⟨l2, l3, l4⟩ := by
  have hrow : ∀ n, n < netsOf l0 l2 l3 → (Qy l0 l2 l3 l4)[n]? = some (rowAt l2 l3 l4 n) := fun n hn => loadsOf_row hfit hn
  unfold injRes
  rw [Int.toNat_natCast, List.getD_eq_getElem?_getD, hrow a ha, Option.getD_some]
  refine netP_ext ((skel_br _ _).symm.trans (skel_inject b _ _ 0 _ rowAt_to)) fun q => ?_
  obtain ⟨i1, i2⟩ := getP_inject b (if c = true then 1 else 0) q (rowAt l2 l3 l4 a) 0 ⟨l2, l3, l4⟩ rowAt_to (rowAt_nodup a)
  rw [getP_br]
  cases hq : getP ⟨l2, l3, l4⟩ q with
  | none =>
    rw [hq] at i1 i2
    by_cases hc : ∃ j, (rowAt l2 l3 l4 a)[j]? = some (toL q) ∧ (b < 0 ∨ b = (0 + j : Nat))
    · rw [i1 hc]
      rfl
    · rw [i2 hc]
      rfl
  | some x =>
    rw [hq] at i1 i2
    obtain ⟨r1, r2⟩ := (loadsFit_good hfit).1.rng _ (places_of hq)
    simp only at r1 r2
    obtain ⟨n, rfl⟩ := Int.eq_ofNat_of_zero_le r1
    obtain ⟨j, hj⟩ := List.getElem?_of_mem (rowAt_mem.2 hq)
    have hm : mget (numsOf l0 l2 l3 l4) (keyL (toL q)) = some (j : Int) := by
      unfold numsOf
      refine numsFrom_in _ _ n _ j (hrow n (by omega)) (rowAt_nodup n) hj fun n' row' h1 h2 h3 => ?_
      have hn' := (List.getElem?_eq_some_iff.1 h2).1
      rw [loadsOf_len] at hn'
      rw [hrow n' hn'] at h2
      cases h2
      rw [rowAt_mem, hq] at h3
      injection h3 with h3
      omega
    have hnv : nvOf l0 l2 l3 l4 a b c (toL q) (n : Int) = if (n : Int) = a ∧ (b < 0 ∨ (j : Int) = b) then (if c = true then 1 else 0) else (n : Int) := by
      unfold nvOf newv
      rw [hm, Option.getD_some]
      simp only [putC, Bool.and_eq_true, Bool.or_eq_true, decide_eq_true_eq]
    rw [Option.map_some, hnv]
    by_cases hc : ∃ j, (rowAt l2 l3 l4 a)[j]? = some (toL q) ∧ (b < 0 ∨ b = (0 + j : Nat))
    · rw [i1 hc]
      obtain ⟨j', hj', hb⟩ := hc
      have hna := rowAt_mem.1 (List.mem_of_getElem? hj')
      rw [hq] at hna
      injection hna with hna
      obtain rfl : n = a := by omega
      obtain rfl : j = j' := List.getElem?_inj (List.getElem?_eq_some_iff.1 hj).1 (rowAt_nodup n) |>.1 (hj.trans hj'.symm)
      have hP : (n : Int) = n ∧ (b < 0 ∨ (j : Int) = b) := ⟨rfl, by rcases hb with hb | hb; exact .inl hb; exact .inr (by rw [hb, Nat.zero_add])⟩
      rw [if_pos hP]
      rfl
    · rw [i2 hc]
      have hN : ¬ ((n : Int) = a ∧ (b < 0 ∨ (j : Int) = b)) := by
        rintro ⟨h1, h2⟩
        obtain rfl : n = a := Int.ofNat.inj h1
        exact hc ⟨j, hj, by rcases h2 with h2 | h2; exact .inl h2; exact .inr (by rw [Nat.zero_add]; exact h2.symm)⟩
      rw [if_neg hN]
end
end Go.Proofs.Ytimjccfpobhpeaa
namespace Go.Proofs.Ytimjccfpobhpeaa.PF
open Go.RowKit Go.Proofs.YtimjccfpobhpeaaW.PrintWords Go.Proofs.YtimjccfpobhpeaaW.PrintLast Go.Proofs.YtimjccfpobhpeaaW.PrintMore
set_option linter.unusedVariables false
set_option linter.unusedSimpArgs false
def Xq.j0 : Nat → List (List (S77)) → Bool → Int → Int → Bool → Option (Int)
  | 0, _, _, _, _, _ => none
  | k + 1, x5, x21, x130000, x130001, x130002 => if x21 = true then (some 7) else (if x130001 < (-1) then (some 2) else (if 0 ≤ x130000 then (if x130000 < (x5.length : Int) then (if x130001 ≥ ((Kr x5 x130000).length : Int) then (some 2) else (some 0)) else (none)) else (none)))
def Xq.f (k : Nat) (l0_0 : List ByteArray) (l0_1 : List ByteArray) (l0_2 : List (S82)) (l0_3 : List (Ky)) (l0_4 : List Int) (a1_0 : Int) (a1_1 : Int) (a1_2 : Bool) : Option (Int) := (Xj.f k l0_0 l0_1 l0_2 l0_3 l0_4).bind fun bt130 => (if a1_0 < 2 then (Xq.j0 k bt130.1 true a1_0 a1_1 a1_2) else (Xq.j0 k bt130.1 (decide (a1_0 ≥ (bt130.1.length : Int))) a1_0 a1_1 a1_2))
set_option maxHeartbeats 8000000 in
set_option maxRecDepth 100000 in
theorem Xq.calls (k : Nat) (A0_0 : Option Addr) (c0_0 : Nat) (l0_0 : List ByteArray) (A0_1 : Option Addr) (c0_1 : Nat) (l0_1 : List ByteArray) (A0_2 : Option Addr) (c0_2 : Nat) (l0_2 : List (S82)) (A0_3 : Option Addr) (c0_3 : Nat) (l0_3 : List (Ky)) (A0_4 : Option Addr) (c0_4 : Nat) (l0_4 : List Int) (a1_0 : Int) (a1_1 : Int) (a1_2 : Bool) (r : Int) (w : World) (hr0_0 : Kd.C Kd.string w A0_0 l0_0.length l0_0) (hc0_0 : l0_0.length ≤ c0_0) (hr0_1 : Kd.C Kd.string w A0_1 l0_1.length l0_1) (hc0_1 : l0_1.length ≤ c0_1) (hr0_2 : Kd.C k82 w A0_2 l0_2.length l0_2) (hc0_2 : l0_2.length ≤ c0_2) (hr0_3 : Kd.C k80 w A0_3 l0_3.length l0_3) (hc0_3 : l0_3.length ≤ c0_3) (hr0_4 : Kd.C (Kd.int .i64) w A0_4 l0_4.length l0_4) (hc0_4 : l0_4.length ≤ c0_4) (h : Xq.f k l0_0 l0_1 l0_2 l0_3 l0_4 a1_0 a1_1 a1_2 = some r) :
 Calls Try.prog 10 #[.agg #[.slice A0_0 l0_0.length c0_0, .slice A0_1 l0_1.length c0_1, .slice A0_2 l0_2.length c0_2, .slice A0_3 l0_3.length c0_3, .slice A0_4 l0_4.length c0_4], .agg #[.int .i64 a1_0, .int .i64 a1_1, .bool a1_2]] w fun e w' => e = .returned (.int .i64 r) ∧ Below w.heap.size w w' := by
 have hu27 := Try.underlying27
 have hu29 := Try.underlying29
 have HR0_0 := Za.mk hr0_0
 have HC0_0 := Za.mk hc0_0
 clear hr0_0 hc0_0
 have HR0_1 := Za.mk hr0_1
 have HC0_1 := Za.mk hc0_1
 clear hr0_1 hc0_1
 have HR0_2 := Za.mk hr0_2
 have HC0_2 := Za.mk hc0_2
 clear hr0_2 hc0_2
 have HR0_3 := Za.mk hr0_3
 have HC0_3 := Za.mk hc0_3
 clear hr0_3 hc0_3
 have HR0_4 := Za.mk hr0_4
 have HC0_4 := Za.mk hc0_4
 clear hr0_4 hc0_4
 have HB := Za.mk (Below.refl w.heap.size w)
 have H : ((Xj.f k l0_0 l0_1 l0_2 l0_3 l0_4).bind fun bt130 => (if a1_0 < 2 then (Xq.j0 k bt130.1 true a1_0 a1_1 a1_2) else (Xq.j0 k bt130.1 (decide (a1_0 ≥ (bt130.1.length : Int))) a1_0 a1_1 a1_2))) = some r := h
 clear h
 replace H := Option.bind_eq_some_iff.mp H
 obtain ⟨⟨t130, t133⟩, A30, H⟩ := H
 replace H : (if a1_0 < 2 then (Xq.j0 k t130 true a1_0 a1_1 a1_2) else (Xq.j0 k t130 (decide (a1_0 ≥ (t130.length : Int))) a1_0 a1_1 a1_2)) = some r := H
 have A3 := Za.mk A30
 clear A30
 have HC4 := Za.mk H
 clear H
 go_enter Try.func10, Try.ntmps10
 go_upto_region 2 with (first | ((with_reducible refine Xl (N := 2) rfl ?_); (try (refine Qd (by rfl) ?_; dsimp only)); refine Xr ?hg (N := 2) ?hd (cs := #[.slice A0_0 l0_0.length c0_0, .slice A0_1 l0_1.length c0_1, .slice A0_2 l0_2.length c0_2, .slice A0_3 l0_3.length c0_3, .slice A0_4 l0_4.length c0_4]) (t := 27) ?hr ?_; (case hd => rfl); (case hg => rfl); (case hr => first | (go_simp; done) | (go_simp; rfl)); intro gb128 hg w5 hbox hb; have n0_ := Za.mk (Zn HB.out hb); have n1_ := Za.mk (hbox); have n2_ := Za.mk ((by rw [hg]; exact (Zm HB.out) : w.heap.size ≤ gb128)); have n3_ := n2_; clear HB; have HB := n0_; have BK128 := n1_; have GW128 := n2_; have GE128 := n3_; clear n0_ n1_ n2_ n3_; clear hb hbox hg) | ((with_reducible refine Xl (N := 3) rfl ?_); (try (refine Qd (by rfl) ?_; dsimp only)); refine Xr ?hg (N := 3) ?hd (cs := #[.int .i64 a1_0, .int .i64 a1_1, .bool a1_2]) (t := 29) ?hr ?_; (case hd => rfl); (case hg => rfl); (case hr => first | (go_simp; done) | (go_simp; rfl)); intro gb129 hg w6 hbox hb; have n0_ := Za.mk (Zq BK128.out hb); have n1_ := Za.mk (Zn HB.out hb); have n2_ := Za.mk (hbox); have n3_ := Za.mk ((by rw [hg]; exact (Zm HB.out) : w.heap.size ≤ gb129)); have n4_ := n3_; have n5_ := Za.mk ((by rw [hg]; exact Nat.ne_of_lt (Xx BK128.out) : gb128 ≠ gb129)); have n6_ := Za.mk ((by rw [hg]; exact Nat.ne_of_gt (Xx BK128.out) : gb129 ≠ gb128)); clear BK128; clear HB; have BK128 := n0_; have HB := n1_; have BK129 := n2_; have GW129 := n3_; have GE129 := n4_; have NB128_129 := n5_; have NB129_128 := n6_; clear n0_ n1_ n2_ n3_ n4_ n5_ n6_; clear hb hbox hg; have hnb7 := NB128_129.out; have hnc7 := NB129_128.out; have hcz8_0 : w6.cell? ⟨gb128, 0, none⟩ = some (.slice A0_0 l0_0.length c0_0) := (Zc BK128.out 0).trans rfl; have hcz8_1 : w6.cell? ⟨gb128, 1, none⟩ = some (.slice A0_1 l0_1.length c0_1) := (Zc BK128.out 1).trans rfl; have hcz8_2 : w6.cell? ⟨gb128, 2, none⟩ = some (.slice A0_2 l0_2.length c0_2) := (Zc BK128.out 2).trans rfl; have hcz8_3 : w6.cell? ⟨gb128, 3, none⟩ = some (.slice A0_3 l0_3.length c0_3) := (Zc BK128.out 3).trans rfl; have hcz8_4 : w6.cell? ⟨gb128, 4, none⟩ = some (.slice A0_4 l0_4.length c0_4) := (Zc BK128.out 4).trans rfl; have hfz8_0 := Zb BK128.out 0; have hfz8_1 := Zb BK128.out 1; have hfz8_2 := Zb BK128.out 2; have hfz8_3 := Zb BK128.out 3; have hfz8_4 := Zb BK128.out 4) | (go_at_call 27; (with_reducible refine (Xj.calls k _ _ l0_0 _ _ l0_1 _ _ l0_2 _ _ l0_3 _ _ l0_4 t130 t133 _ ?side1 ?side2 ?side3 ?side4 ?side5 ?side6 ?side7 ?side8 ?side9 ?side10 A3.out).mono ?_); (case side1 => exact (Kd.Zk HR0_0.out HB.out)); (case side2 => exact HC0_0.out); (case side3 => exact (Kd.Zk HR0_1.out HB.out)); (case side4 => exact HC0_1.out); (case side5 => exact (Kd.Zk HR0_2.out HB.out)); (case side6 => exact HC0_2.out); (case side7 => exact (Kd.Zk HR0_3.out HB.out)); (case side8 => exact HC0_3.out); (case side9 => exact (Kd.Zk HR0_4.out HB.out)); (case side10 => exact HC0_4.out); rintro e w9 ⟨v131, rfl, ho0, hb⟩; have n0_ := Za.mk (Kd.S_lower ho0 (Zm HB.out)); have n1_ := Za.mk (Zq BK128.out hb); have n2_ := Za.mk (Zq BK129.out hb); have n3_ := Za.mk (Zn HB.out hb); clear BK128; clear BK129; clear HB; have HO132 := n0_; have BK128 := n1_; have BK129 := n2_; have HB := n3_; clear n0_ n1_ n2_ n3_; (try clear hb); (try clear hb2); (try clear hk); (try clear hi); (try clear ho0)))
 repeat (go_quiet (fail); go_upto_region 2 with (fail))
 (try simp only [Act.put, List.setIfInBounds_toArray, List.set_cons_zero, List.set_cons_succ])
 go_cut [21] (fun v21 wc => ∃ (kq : Nat) (x21_3 : Bool), v21 = .bool x21_3 ∧ Za (Xq.j0 kq t130 x21_3 a1_0 a1_1 a1_2 = some r) ∧ Za (kq ≤ k) ∧ Za (Kd.S (Kd.slice 77 k77) 75 wc w.heap.size (fun _ => True) v131 t130) ∧ Za (wc.heap[gb128]? = some (.cells #[(.slice A0_0 l0_0.length c0_0), (.slice A0_1 l0_1.length c0_1), (.slice A0_2 l0_2.length c0_2), (.slice A0_3 l0_3.length c0_3), (.slice A0_4 l0_4.length c0_4)] 27 (0, 0))) ∧ Za (wc.heap[gb129]? = some (.cells #[.int .i64 a1_0, .int .i64 a1_1, .bool a1_2] 29 (0, 0))) ∧ Za (Below w.heap.size w wc))
 case first =>
  have H := HC4.out
  clear HC4
  by_cases c10 : a1_0 < 2
  ·rw [if_pos c10] at H
   have c10b0 : decide (a1_0 < 2) = true := decide_eq_true c10
   clear c10
   (first | rw [c10b0] | (simp only [Qb, Qc]; rw [c10b0]) | skip)
   have H' := Za.mk H
   clear H
   have hnb11 := NB129_128.out
   have hnc11 := NB128_129.out
   have hcz12_0 : w9.cell? ⟨gb129, 0, none⟩ = some (.int .i64 a1_0) := (Zc BK129.out 0).trans rfl
   have hcz12_1 : w9.cell? ⟨gb129, 1, none⟩ = some (.int .i64 a1_1) := (Zc BK129.out 1).trans rfl
   have hcz12_2 : w9.cell? ⟨gb129, 2, none⟩ = some (.bool a1_2) := (Zc BK129.out 2).trans rfl
   have hfz12_0 := Zb BK129.out 0
   have hfz12_1 := Zb BK129.out 1
   have hfz12_2 := Zb BK129.out 2
   go_wp2
   repeat (go_quiet (fail); try go_wp2)
   go_meet
   case rel => exact ⟨_, (true), (by first | rfl | (simp; done) | (simp [*]; done)), H', ⟨by first | omega | exact Nat.le_refl _⟩, ⟨HO132.out⟩, ⟨BK128.out⟩, ⟨BK129.out⟩, ⟨HB.out⟩⟩
  ·rw [if_neg c10] at H
   have c10b0 : decide (a1_0 < 2) = false := decide_eq_false c10
   clear c10
   (first | rw [c10b0] | (simp only [Qb, Qc]; rw [c10b0]) | skip)
   have H' := Za.mk H
   clear H
   have hnb13 := NB129_128.out
   have hnc13 := NB128_129.out
   have hcz14_0 : w9.cell? ⟨gb129, 0, none⟩ = some (.int .i64 a1_0) := (Zc BK129.out 0).trans rfl
   have hcz14_1 : w9.cell? ⟨gb129, 1, none⟩ = some (.int .i64 a1_1) := (Zc BK129.out 1).trans rfl
   have hcz14_2 : w9.cell? ⟨gb129, 2, none⟩ = some (.bool a1_2) := (Zc BK129.out 2).trans rfl
   have hfz14_0 := Zb BK129.out 0
   have hfz14_1 := Zb BK129.out 1
   have hfz14_2 := Zb BK129.out 2
   obtain ⟨Ao15, co15, eo15⟩ := Kd.S_slice HO132.out
   subst eo15
   go_wp2
   repeat (go_quiet (fail); try go_wp2)
   go_meet
   case rel => exact ⟨_, (decide (a1_0 ≥ (t130.length : Int))), (by first | rfl | (simp; done) | (simp [*]; done)), H', ⟨by first | omega | exact Nat.le_refl _⟩, ⟨HO132.out⟩, ⟨BK128.out⟩, ⟨BK129.out⟩, ⟨HB.out⟩⟩
 case rest =>
  clear HC4
  try clear hcz8_0
  try clear hcz8_1
  try clear hcz8_2
  try clear hcz8_3
  try clear hcz8_4
  try clear hfz8_0
  try clear hfz8_1
  try clear hfz8_2
  try clear hfz8_3
  try clear hfz8_4
  obtain ⟨kq, x21_3, rfl, HA, HJ3, HO_5, BK128, BK129, HB⟩ := hcut
  cases kq with
  | zero => exact absurd HA.out (by simp [Xq.j0])
  | succ kj3 =>
   have H := HA.out
   clear HA
   simp only [Xq.j0] at H
   by_cases c16 : x21_3 = true
   ·subst c16
    have H1 : (some 7) = some r := by rw [if_pos rfl] at H; exact H
    clear H
    have H := H1
    clear H1
    obtain rfl := Option.some.inj H
    go_wp2
    repeat (go_quiet (fail); try go_wp2)
    go_ret
    exact ⟨by first | rfl | (simp [errW_none, errW_some] <;> rfl) | (simp [*, errW_none, errW_some] <;> rfl), HB.out⟩
   ·replace c16 := Bool.eq_false_iff.mpr c16
    subst c16
    have H1 : (if a1_1 < (-1) then (some 2) else (if 0 ≤ a1_0 then (if a1_0 < (t130.length : Int) then (if a1_1 ≥ ((Kr t130 a1_0).length : Int) then (some 2) else (some 0)) else (none)) else (none))) = some r := by rw [if_neg (show ¬ (false = true) by decide)] at H; exact H
    clear H
    have H := H1
    clear H1
    by_cases c17 : a1_1 < (-1)
    ·rw [if_pos c17] at H
     have c17b0 : decide (a1_1 < (-1)) = true := decide_eq_true c17
     clear c17
     obtain rfl := Option.some.inj H
     have hnb18 := NB129_128.out
     have hnc18 := NB128_129.out
     have hcz19_0 : wc.cell? ⟨gb129, 0, none⟩ = some (.int .i64 a1_0) := (Zc BK129.out 0).trans rfl
     have hcz19_1 : wc.cell? ⟨gb129, 1, none⟩ = some (.int .i64 a1_1) := (Zc BK129.out 1).trans rfl
     have hcz19_2 : wc.cell? ⟨gb129, 2, none⟩ = some (.bool a1_2) := (Zc BK129.out 2).trans rfl
     have hfz19_0 := Zb BK129.out 0
     have hfz19_1 := Zb BK129.out 1
     have hfz19_2 := Zb BK129.out 2
     go_wp2
     repeat (go_quiet (fail); try go_wp2)
     go_ret
     exact ⟨by first | rfl | (simp [errW_none, errW_some] <;> rfl) | (simp [*, errW_none, errW_some] <;> rfl), by repeat (first | (with_reducible first | exact HB.out | apply Zl | apply Zj | apply Zo | refine Zh ?_ GE128.out | refine Zh ?_ GE129.out) | exact HB.out)⟩
    ·rw [if_neg c17] at H
     have c17b0 : decide (a1_1 < (-1)) = false := decide_eq_false c17
     clear c17
     by_cases c20 : 0 ≤ a1_0
     ·rw [if_pos c20] at H
      have c20b0 : decide (0 ≤ a1_0) = true := decide_eq_true c20
      clear c20
      by_cases c21 : a1_0 < (t130.length : Int)
      ·rw [if_pos c21] at H
       have c21b0 : decide (a1_0 < (t130.length : Int)) = true := decide_eq_true c21
       clear c21
       by_cases c22 : a1_1 ≥ ((Kr t130 a1_0).length : Int)
       ·rw [if_pos c22] at H
        have c22b0 : decide (((Kr t130 a1_0).length : Int) ≤ a1_1) = true := decide_eq_true c22
        clear c22
        obtain rfl := Option.some.inj H
        have hnb23 := NB129_128.out
        have hnc23 := NB128_129.out
        have hcz24_0 : wc.cell? ⟨gb129, 0, none⟩ = some (.int .i64 a1_0) := (Zc BK129.out 0).trans rfl
        have hcz24_1 : wc.cell? ⟨gb129, 1, none⟩ = some (.int .i64 a1_1) := (Zc BK129.out 1).trans rfl
        have hcz24_2 : wc.cell? ⟨gb129, 2, none⟩ = some (.bool a1_2) := (Zc BK129.out 2).trans rfl
        have hfz24_0 := Zb BK129.out 0
        have hfz24_1 := Zb BK129.out 1
        have hfz24_2 := Zb BK129.out 2
        obtain ⟨Ao25, co25, eo25⟩ := Kd.S_slice HO_5.out
        subst eo25
        have p134 : 0 ≤ (a1_0 : Int) := of_decide_eq_true (by first | (with_reducible assumption) | assumption)
        have q134 : a1_0 < (t130.length : Int) := of_decide_eq_true (by first | (with_reducible assumption) | assumption)
        obtain ⟨ad134, A134_0, c134_0, e134, hx134_0, hl134_0, hi134_0⟩ := at_L12 (Kd.S_reads' HO_5.out).2.2 a1_0 p134 q134
        cases e134
        obtain ⟨ce134, hce134, hMe134, hcc134⟩ := Kd.S_get HO_5.out [] a1_0 p134 (by first | exact q134 | exact of_decide_eq_true (by first | (with_reducible assumption) | assumption) | (have e_ := (Kd.S_reads' HO_5.out).1; omega))
        obtain ⟨ve134_0, rfl, ge134_0⟩ := hMe134
        have hv134_0 := hcc134 0 _ rfl
        rw [Nat.add_zero, show ((Kd.slice 77 k77)).sz = 1 from rfl, Nat.mul_one] at hv134_0
        replace hv134_0 := Option.some.inj (hv134_0.symm.trans hx134_0)
        rw [hv134_0] at ge134_0
        have HL134_0 := Za.mk (show Kd.R k77 77 _ _ _ _ (Kr t130 a1_0) from ge134_0)
        clear hv134_0 ge134_0
        clear hcc134 hce134
        have HR134_0 := Za.mk hi134_0
        have HC134_0 := Za.mk hl134_0
        clear hi134_0 hl134_0
        replace p134 := eq_true p134
        replace q134 := eq_true q134
        go_wp2
        repeat (go_quiet (fail); try go_wp2)
        go_ret
        exact ⟨by first | rfl | (simp [errW_none, errW_some] <;> rfl) | (simp [*, errW_none, errW_some] <;> rfl), by repeat (first | (with_reducible first | exact HB.out | apply Zl | apply Zj | apply Zo | refine Zh ?_ GE128.out | refine Zh ?_ GE129.out) | exact HB.out)⟩
       ·rw [if_neg c22] at H
        have c22b0 : decide (((Kr t130 a1_0).length : Int) ≤ a1_1) = false := decide_eq_false c22
        clear c22
        obtain rfl := Option.some.inj H
        have hnb26 := NB129_128.out
        have hnc26 := NB128_129.out
        have hcz27_0 : wc.cell? ⟨gb129, 0, none⟩ = some (.int .i64 a1_0) := (Zc BK129.out 0).trans rfl
        have hcz27_1 : wc.cell? ⟨gb129, 1, none⟩ = some (.int .i64 a1_1) := (Zc BK129.out 1).trans rfl
        have hcz27_2 : wc.cell? ⟨gb129, 2, none⟩ = some (.bool a1_2) := (Zc BK129.out 2).trans rfl
        have hfz27_0 := Zb BK129.out 0
        have hfz27_1 := Zb BK129.out 1
        have hfz27_2 := Zb BK129.out 2
        obtain ⟨Ao28, co28, eo28⟩ := Kd.S_slice HO_5.out
        subst eo28
        have p134 : 0 ≤ (a1_0 : Int) := of_decide_eq_true (by first | (with_reducible assumption) | assumption)
        have q134 : a1_0 < (t130.length : Int) := of_decide_eq_true (by first | (with_reducible assumption) | assumption)
        obtain ⟨ad134, A134_0, c134_0, e134, hx134_0, hl134_0, hi134_0⟩ := at_L12 (Kd.S_reads' HO_5.out).2.2 a1_0 p134 q134
        cases e134
        obtain ⟨ce134, hce134, hMe134, hcc134⟩ := Kd.S_get HO_5.out [] a1_0 p134 (by first | exact q134 | exact of_decide_eq_true (by first | (with_reducible assumption) | assumption) | (have e_ := (Kd.S_reads' HO_5.out).1; omega))
        obtain ⟨ve134_0, rfl, ge134_0⟩ := hMe134
        have hv134_0 := hcc134 0 _ rfl
        rw [Nat.add_zero, show ((Kd.slice 77 k77)).sz = 1 from rfl, Nat.mul_one] at hv134_0
        replace hv134_0 := Option.some.inj (hv134_0.symm.trans hx134_0)
        rw [hv134_0] at ge134_0
        have HL134_0 := Za.mk (show Kd.R k77 77 _ _ _ _ (Kr t130 a1_0) from ge134_0)
        clear hv134_0 ge134_0
        clear hcc134 hce134
        have HR134_0 := Za.mk hi134_0
        have HC134_0 := Za.mk hl134_0
        clear hi134_0 hl134_0
        replace p134 := eq_true p134
        replace q134 := eq_true q134
        go_wp2
        repeat (go_quiet (fail); try go_wp2)
        go_ret
        exact ⟨by first | rfl | (simp [errW_none, errW_some] <;> rfl) | (simp [*, errW_none, errW_some] <;> rfl), by repeat (first | (with_reducible first | exact HB.out | apply Zl | apply Zj | apply Zo | refine Zh ?_ GE128.out | refine Zh ?_ GE129.out) | exact HB.out)⟩
      ·rw [if_neg c21] at H
       exact absurd H (by simp)
     ·rw [if_neg c20] at H
      exact absurd H (by simp)
end Go.Proofs.Ytimjccfpobhpeaa.PF
namespace Go.Proofs.Ytimjccfpobhpeaa
open Go.RowKit Go.Proofs.YtimjccfpobhpeaaW.PrintWords Go.Proofs.Ytimjccfpobhpeaa.PF
set_option linter.unusedVariables false
set_option maxRecDepth 100000
theorem gatePlaces_len : ∀ (xs : List GateS) (i : Nat), (∀ x ∈ xs, x.f2.length ≤ 6) → (Kw xs i).length ≤ 6 * xs.length
  | [], i, h => Nat.zero_le _
  | x :: r, i, h => by
    have h1 := gatePlaces_len r (i + 1) (fun y hy => h y (List.mem_cons_of_mem _ hy))
    have h2 := h x List.mem_cons_self
    have h3 : ∀ (ys : List Int) (k : Nat), (pinPlaces i ys k).length = ys.length := by
      intro ys
      induction ys with
      | nil => intro k; rfl
      | cons y ys ih => intro k; rw [pinPlaces, List.length_cons, ih, List.length_cons]
    rw [Kw, List.length_append, h3, List.length_cons]
    omega
theorem flopPlaces_len : ∀ (xs : List FlopS) (i : Nat), (Qv xs i).length = 2 * xs.length
  | [], i => rfl
  | x :: r, i => by
    rw [Qv, List.length_cons, List.length_cons, flopPlaces_len r (i + 1), List.length_cons]
    omega
theorem outPlaces_len : ∀ (xs : List Int) (i : Nat), (Qx xs i).length = xs.length
  | [], i => rfl
  | x :: r, i => by rw [Qx, List.length_cons, outPlaces_len r (i + 1), List.length_cons]
section
variable {l0 l1 : List ByteArray} {l2 : List FlopS} {l3 : List GateS} {l4 : List Int}
theorem FormOk.fit (h : FormOk l0 l1 l2 l3 l4) : loadsFit l0 l2 l3 l4 = true := by
  have hc0 := h.c0
  have hc1 := h.c1
  have hc2 := h.c2
  have hc3 := h.c3
  have hc4 := h.c4
  have hg := gatePlaces_len l3 0 (fun x hx => by
    obtain ⟨i, hi⟩ := List.getElem?_of_mem hx
    exact (h.pins i x hi).1)
  unfold loadsFit
  simp only [Bool.and_eq_true, decide_eq_true_eq, List.all_eq_true]
  refine ⟨⟨by unfold netsOf; omega, ?_⟩, fun p hp => ?_⟩
  · unfold placesOf
    rw [List.length_append, List.length_append, flopPlaces_len, outPlaces_len]
    omega
  · have hn : (netsOf l0 l2 l3 : Int) = 2 + (l0.length : Int) + l2.length + l3.length := by unfold netsOf; omega
    rw [hn]
    obtain ⟨q, _, hq⟩ := places_to hp
    cases q with
    | pin i k =>
      obtain ⟨g, h1, h2⟩ := Option.bind_eq_some_iff.1 hq
      have hi := (List.getElem?_eq_some_iff.1 h1).1
      simp only at hi
      have := (h.pins i g h1).2 _ (List.mem_of_getElem? h2)
      omega
    | d i =>
      obtain ⟨g, h1, h2⟩ := Option.map_eq_some_iff.1 hq
      have := h.flops g (List.mem_of_getElem? h1)
      omega
    | en i =>
      obtain ⟨g, h1, h2⟩ := Option.map_eq_some_iff.1 hq
      have := h.flops g (List.mem_of_getElem? h1)
      omega
    | out i =>
      have := h.outs _ (List.mem_of_getElem? hq)
      omega
theorem FormOk.copy (h : FormOk l0 l1 l2 l3 l4) : copyFits l0 l1 l2 l3 l4 = true := by
  have hc0 := h.c0
  have hc1 := h.c1
  have hc2 := h.c2
  have hc3 := h.c3
  have hc4 := h.c4
  unfold copyFits
  simp only [Bool.and_eq_true, decide_eq_true_eq, List.all_eq_true]
  refine ⟨⟨⟨⟨⟨by omega, by omega⟩, by omega⟩, by omega⟩, by omega⟩, fun x hx => ?_⟩
  obtain ⟨i, hi⟩ := List.getElem?_of_mem hx
  have := (h.pins i x hi).1
  omega
end
theorem check_ex (rows : List (List S77)) (a b : Int) (c : Bool) : ∃ e, ∀ k, Xk.f (k + 1) rows a b c = some e ∧
    (if a < 2 then Xq.j0 (k + 1) rows true a b c else Xq.j0 (k + 1) rows (decide (a ≥ (rows.length : Int))) a b c) = some e := by
  by_cases h1 : a < 2
  · exact ⟨7, fun k => by rw [Xk.f, if_pos h1, if_pos h1, Xk.j0, Xq.j0, if_pos rfl]; exact ⟨rfl, rfl⟩⟩
  by_cases h2 : a ≥ (rows.length : Int)
  · exact ⟨7, fun k => by rw [Xk.f, if_neg h1, if_neg h1, decide_eq_true h2, Xk.j0, Xq.j0, if_pos rfl]; exact ⟨rfl, rfl⟩⟩
  by_cases h3 : b < -1
  · exact ⟨2, fun k => by rw [Xk.f, if_neg h1, if_neg h1, decide_eq_false h2, Xk.j0, Xq.j0, if_neg (show ¬ (false = true) by decide), if_pos h3]; exact ⟨rfl, rfl⟩⟩
  by_cases h4 : b ≥ ((Kr rows a).length : Int)
  · exact ⟨2, fun k => by rw [Xk.f, if_neg h1, if_neg h1, decide_eq_false h2, Xk.j0, Xq.j0, if_neg (show ¬ (false = true) by decide), if_neg h3, if_pos (show 0 ≤ a by omega), if_pos (show a < (rows.length : Int) by omega), if_pos h4]; exact ⟨rfl, rfl⟩⟩
  · exact ⟨0, fun k => by rw [Xk.f, if_neg h1, if_neg h1, decide_eq_false h2, Xk.j0, Xq.j0, if_neg (show ¬ (false = true) by decide), if_neg h3, if_pos (show 0 ≤ a by omega), if_pos (show a < (rows.length : Int) by omega), if_neg h4]; exact ⟨rfl, rfl⟩⟩
section
variable (l0 l1 : List ByteArray) (l2 : List FlopS) (l3 : List GateS) (l4 : List Int) (a b : Int) (c : Bool)
theorem inject_cases : ∃ K e, (∀ k, K ≤ k → Ze.f k l0 l1 l2 l3 l4 = some e) ∧ (e ≠ 0 → ∀ k, K ≤ k → Qk.f k l0 l1 l2 l3 l4 a b c = some ([], [], [], [], [], e)) ∧
    (e = 0 → FormOk l0 l1 l2 l3 l4 ∧ (∀ k, K ≤ k → Xj.f k l0 l1 l2 l3 l4 = some (Qy l0 l2 l3 l4, 0)) ∧ ∃ e2, (∀ k, K ≤ k → Xq.f k l0 l1 l2 l3 l4 a b c = some e2) ∧ (∀ k, K ≤ k → Xk.f k (Qy l0 l2 l3 l4) a b c = some e2) ∧
      (e2 ≠ 0 → ∀ k, K ≤ k → Qk.f k l0 l1 l2 l3 l4 a b c = some ([], [], [], [], [], e2)) ∧
      (e2 = 0 → 2 ≤ a ∧ a < netsOf l0 l2 l3 ∧ ∀ k, K ≤ k → Qk.f k l0 l1 l2 l3 l4 a b c = some (l0, l1, Ko (nvOf l0 l2 l3 l4 a b c) l2 0, Kv (nvOf l0 l2 l3 l4 a b c) l3 0, brOuts (nvOf l0 l2 l3 l4 a b c) l4 0, 0))) := by
  obtain ⟨kF, e, hF, hok⟩ := form_ex l0 l1 l2 l3 l4
  have hform : ∀ k, kF ≤ k → Ze.f k l0 l1 l2 l3 l4 = some e := fun k hk => upK (Ze.mono l0 l1 l2 l3 l4) hk hF
  refine ⟨kF + 1, e, fun k hk => hform k (by omega), fun he k hk => by rw [Qk.f, Xj.f, hform _ (by omega), Option.bind_some, if_neg he, Option.bind_some, if_neg he], ?_⟩
  intro he
  subst he
  have ok := hok rfl
  have hL : ∀ k, kF ≤ k → Xj.f k l0 l1 l2 l3 l4 = some (Qy l0 l2 l3 l4, 0) := fun k hk => by
    rw [Xj.f, hform k hk, Option.bind_some, if_pos rfl, if_pos ok.fit]
  obtain ⟨e2, hc⟩ := check_ex (Qy l0 l2 l3 l4) a b c
  refine ⟨ok, fun k hk => hL k (by omega), e2, fun k hk => ?_, fun k hk => ?_, ?_, ?_⟩
  · obtain ⟨m, rfl⟩ : ∃ m, k = m + 1 := ⟨k - 1, by omega⟩
    rw [Xq.f, hL _ (by omega), Option.bind_some]
    exact (hc m).2
  · obtain ⟨m, rfl⟩ : ∃ m, k = m + 1 := ⟨k - 1, by omega⟩
    exact (hc m).1
  · intro h2 k hk
    obtain ⟨m, rfl⟩ : ∃ m, k = m + 1 := ⟨k - 1, by omega⟩
    rw [Qk.f, hL _ (by omega), Option.bind_some, if_pos rfl]
    show ((Xk.f (m + 1) (Qy l0 l2 l3 l4) a b c).bind _) = _
    rw [(hc m).1, Option.bind_some, if_neg h2]
  · intro h2
    subst h2
    obtain ⟨k1, k2, k3, k4⟩ := Xk.ok (hc kF).1
    rw [loadsOf_len] at k2
    obtain ⟨n, rfl⟩ := Int.eq_ofNat_of_zero_le (show 0 ≤ a by omega)
    have hib := inj_br ok.fit n b c (by omega)
    refine ⟨by omega, k2, fun k hk => ?_⟩
    obtain ⟨m, rfl⟩ : ∃ m, k = m + 1 := ⟨k - 1, by omega⟩
    rw [Qk.f, hL _ (by omega), Option.bind_some, if_pos rfl]
    show ((Xk.f (m + 1) (Qy l0 l2 l3 l4) n b c).bind _) = _
    rw [(hc m).1, Option.bind_some, if_pos rfl, if_pos ok.copy]
    show some (l0, l1, (injRes (Qy l0 l2 l3 l4) n b c l2 l3 l4).fl, (injRes (Qy l0 l2 l3 l4) n b c l2 l3 l4).ga, (injRes (Qy l0 l2 l3 l4) n b c l2 l3 l4).ou, 0) = _
    rw [hib]
    rfl
end
end Go.Proofs.Ytimjccfpobhpeaa
namespace Go.Proofs.Ytimjccfpobhpeaa
open Go.RowKit Go.Proofs.YtimjccfpobhpeaaW.PrintWords Go.Proofs.Ytimjccfpobhpeaa.PF
set_option linter.unusedVariables false
def maskF (n : Nat) : Int := (netlist_Mask.f (n : Int)).getD 0
theorem mask_some (n : Nat) : netlist_Mask.f (n : Int) = some (maskF n) := rfl
section
variable (l0 l1 : List ByteArray) (l2 : List S82) (l3 : List Ky) (l4 : List Int)
structure FormNm : Prop where
  n0 : namesF [] (l0 ++ l2.map (·.f0)) = 0
  n1 : namesF [] l1 = 0
  tabs : ∀ x ∈ l3, Go.bits .andNot .u64 x.f1 (maskF x.f2.length) = 0
theorem q_ends_l1 (n : Int) (xs : List Int) (hl : xs.length ≤ 1048576) (H : ∀ x ∈ xs, 0 ≤ x ∧ x < n) : ∀ (d i : Nat), i + d = xs.length → ∃ k, Xc.l1 k n xs xs.length i = some 0
  | 0, i, h => ⟨1, by rw [Xc.l1, if_neg (by omega)]⟩
  | d + 1, i, h => by
    obtain ⟨k, h1⟩ := q_ends_l1 n xs hl H d (i + 1) (by omega)
    obtain ⟨x, hx⟩ := at_ex (show i < xs.length by omega)
    have hb := H x (List.mem_of_getElem? hx)
    refine ⟨k + 1, ?_⟩
    rw [Xc.l1, if_pos (by omega), if_pos (by omega), if_pos (by omega), rd_at hx, if_neg (by omega), if_neg (by omega), Ql (by omega) (by omega)]
    exact h1
theorem q_ends_l0 (n : Int) (h2l : l2.length ≤ 1048576) (h4l : l4.length ≤ 1048576) (H2 : ∀ x ∈ l2, 0 ≤ x.f2 ∧ x.f2 < n ∧ 0 ≤ x.f3 ∧ x.f3 < n) (H4 : ∀ x ∈ l4, 0 ≤ x ∧ x < n) : ∀ (d i : Nat), i + d = l2.length → ∃ k, Xc.l0 k n l2 l2.length i l0 l1 l2 l3 l4 = some 0
  | 0, i, h => by
    obtain ⟨k, h1⟩ := q_ends_l1 n l4 h4l H4 l4.length 0 (by omega)
    exact ⟨k + 1, by rw [Xc.l0, if_neg (by omega)]; exact h1⟩
  | d + 1, i, h => by
    obtain ⟨k, h1⟩ := q_ends_l0 n h2l h4l H2 H4 d (i + 1) (by omega)
    obtain ⟨x, hx⟩ := at_ex (show i < l2.length by omega)
    have hb := H2 x (List.mem_of_getElem? hx)
    refine ⟨k + 1, ?_⟩
    rw [Xc.l0, if_pos (by omega), if_pos (by omega), if_pos (by omega), rdF_at hx, if_neg (by omega), if_neg (by omega), if_neg (by omega), if_neg (by omega), Ql (by omega) (by omega)]
    exact h1
theorem q_pins (ok : FormOk l0 l1 l2 l3 l4) (i : Nat) (x : Ky) (hx : l3[i]? = some x) (H : ∃ k, Ze.l1 k (2 + (l0.length : Int) + l2.length) l3 l3.length (wrap64 ((i : Int) + 1)) l0 l1 l2 l3 l4 = some 0) :
    ∀ (d k2 : Nat), k2 + d = x.f2.length → ∃ k, Ze.l2 k (2 + (l0.length : Int) + l2.length) i l3 l3.length i x.f2 x.f2.length k2 l0 l1 l2 l3 l4 = some 0
  | 0, k2, h => by
    obtain ⟨k, h1⟩ := H
    exact ⟨k + 1, by rw [Ze.l2, if_neg (by omega)]; exact h1⟩
  | d + 1, k2, h => by
    have b0 := ok.c0
    have b2 := ok.c2
    have b3 := ok.c3
    have hi := (List.getElem?_eq_some_iff.1 hx).1
    obtain ⟨hp1, hp2⟩ := ok.pins i x hx
    obtain ⟨k, h1⟩ := q_pins ok i x hx H d (k2 + 1) (by omega)
    obtain ⟨y, hy⟩ := at_ex (show k2 < x.f2.length by omega)
    have hb := hp2 y (List.mem_of_getElem? hy)
    refine ⟨k + 1, ?_⟩
    rw [Ze.l2, if_pos (by omega), if_pos (by omega), if_pos (by omega), rd_at hy, Ql (x := (k2 : Int) + 1) (by omega) (by omega), Ql (x := 2 + (l0.length : Int) + l2.length + i) (by omega) (by omega), if_neg (by omega), if_neg (by omega)]
    exact h1
theorem q_l1 (ok : FormOk l0 l1 l2 l3 l4) (nm : FormNm l0 l1 l2 l3) : ∀ (d i : Nat), i + d = l3.length → ∃ k, Ze.l1 k (2 + (l0.length : Int) + l2.length) l3 l3.length i l0 l1 l2 l3 l4 = some 0
  | 0, i, h => by
    have b0 := ok.c0
    have b1 := ok.c1
    have b2 := ok.c2
    have b3 := ok.c3
    have b4 := ok.c4
    obtain ⟨k, h1⟩ := q_ends_l0 l0 l1 l2 l3 l4 (2 + (l0.length : Int) + l2.length + l3.length) (by omega) (by omega) ok.flops ok.outs l2.length 0 (by omega)
    refine ⟨k + 1, ?_⟩
    have he : Xc.f k l0 l1 l2 l3 l4 = some 0 := by
      unfold Xc.f netlist_Nets.f netlist_First.f
      rw [Ql (x := 2 + (l0.length : Int)) (by omega) (by omega), Ql (x := 2 + (l0.length : Int) + l2.length) (by omega) (by omega)]
      show Xc.l0 k (wrap64 (2 + (l0.length : Int) + l2.length + l3.length)) l2 l2.length 0 l0 l1 l2 l3 l4 = some 0
      rw [Ql (by omega) (by omega)]
      exact h1
    rw [Ze.l1, if_neg (by omega), he]
    rfl
  | d + 1, i, h => by
    have b3 := ok.c3
    obtain ⟨k, h1⟩ := q_l1 ok nm d (i + 1) (by omega)
    obtain ⟨x, hx⟩ := at_ex (show i < l3.length by omega)
    obtain ⟨hp1, hp2⟩ := ok.pins i x hx
    obtain ⟨k2, h2⟩ := q_pins l0 l1 l2 l3 l4 ok i x hx ⟨k, by rw [Ql (by omega) (by omega)]; exact h1⟩ x.f2.length 0 (by omega)
    refine ⟨k2 + 1, ?_⟩
    rw [Ze.l1, if_pos (by omega), if_pos (by omega), if_pos (by omega), rdG_at hx, if_neg (by omega), mask_some, Option.bind_some, if_pos (nm.tabs x (List.mem_of_getElem? hx))]
    exact h2
theorem q_l0 (ok : FormOk l0 l1 l2 l3 l4) (nm : FormNm l0 l1 l2 l3) : ∀ (d i : Nat), i + d = l2.length → ∃ k, Ze.l0 k (l0 ++ (l2.take i).map (·.f0)) l2 l2.length i l0 l1 l2 l3 l4 = some 0
  | 0, i, h => by
    have b0 := ok.c0
    have b2 := ok.c2
    obtain ⟨k, h1⟩ := q_l1 l0 l1 l2 l3 l4 ok nm l3.length 0 (by omega)
    refine ⟨k + 1, ?_⟩
    rw [Ze.l0, if_neg (by omega), List.take_of_length_le (by omega)]
    show (if namesF [] (l0 ++ l2.map (·.f0)) = 0 then (if namesF [] l1 = 0 then Ze.l1 k (wrap64 (wrap64 (2 + (l0.length : Int)) + l2.length)) l3 l3.length 0 l0 l1 l2 l3 l4 else some (namesF [] l1)) else some (namesF [] (l0 ++ l2.map (·.f0)))) = some 0
    rw [if_pos nm.n0, if_pos nm.n1, Ql (x := 2 + (l0.length : Int)) (by omega) (by omega), Ql (x := 2 + (l0.length : Int) + l2.length) (by omega) (by omega)]
    exact h1
  | d + 1, i, h => by
    have b0 := ok.c0
    have b2 := ok.c2
    obtain ⟨k, h1⟩ := q_l0 ok nm d (i + 1) (by omega)
    obtain ⟨x, hx⟩ := at_ex (show i < l2.length by omega)
    have hn : (l0 ++ (l2.take i).map (·.f0)).length ≤ 1048576 := by
      rw [List.length_append, List.length_map, List.length_take]
      omega
    refine ⟨k + 1, ?_⟩
    rw [Ze.l0, if_pos (by omega), if_pos (by omega), if_pos (by omega), rdF_at hx, if_pos (Nat.lt_of_le_of_lt hn (by decide)), Ql (by omega) (by omega), List.append_assoc]
    have e : (l2.take i).map (·.f0) ++ [x.f0] = (l2.take (i + 1)).map (·.f0) := by
      rw [List.take_add_one, hx, Option.toList_some, List.map_append]
      rfl
    rw [e]
    exact h1
theorem form_zero (ok : FormOk l0 l1 l2 l3 l4) (nm : FormNm l0 l1 l2 l3) : ∃ k, Ze.f k l0 l1 l2 l3 l4 = some 0 := by
  have b0 := ok.c0
  have b1 := ok.c1
  have b2 := ok.c2
  have b3 := ok.c3
  have b4 := ok.c4
  obtain ⟨k, h1⟩ := q_l0 l0 l1 l2 l3 l4 ok nm l2.length 0 (by omega)
  refine ⟨k + 1, ?_⟩
  rw [Ze.f, if_neg (by omega), if_neg (by omega), if_neg (by omega), decide_eq_false (by omega), Ze.j0, if_neg (by decide), if_pos (by omega)]
  unfold Qm.f
  rw [if_pos (by omega)]
  simpa using h1
end
end Go.Proofs.Ytimjccfpobhpeaa
namespace Go.Proofs.Ytimjccfpobhpeaa
open Go.RowKit Go.Proofs.YtimjccfpobhpeaaW.PrintWords Go.Proofs.Ytimjccfpobhpeaa.PF
set_option linter.unusedVariables false
section
variable {l0 l1 : List ByteArray} {l2 : List S82} {l3 : List Ky} {l4 : List Int}
theorem z_l2 (x8 x9 x73 x74 x93 : Int) (x72 : List Ky) (xs : List Int) : ∀ (k : Nat) (x94 : Int), Ze.l2 k x8 x9 x72 x73 x74 xs x93 x94 l0 l1 l2 l3 l4 = some 0 → ∃ k', k' < k ∧ Ze.l1 k' x8 x72 x73 (wrap64 (x74 + 1)) l0 l1 l2 l3 l4 = some 0
  | 0, x94, h => by
    rw [Ze.l2] at h
    cases h
  | k + 1, x94, h => by
    rw [Ze.l2] at h
    split at h
    · split at h
      · split at h
        · split at h
          · simp at h
          · split at h
            · simp at h
            · obtain ⟨k', h1, h2⟩ := z_l2 x8 x9 x73 x74 x93 x72 xs k _ h
              exact ⟨k', by omega, h2⟩
        · cases h
      · cases h
    · exact ⟨k, by omega, h⟩
theorem z_l1 (x8 : Int) (c3 : l3.length ≤ 1200) (k : Nat) : ∀ (i : Nat), Ze.l1 k x8 l3 l3.length i l0 l1 l2 l3 l4 = some 0 → ∀ j, i ≤ j → ∀ x, l3[j]? = some x → Go.bits .andNot .u64 x.f1 (maskF x.f2.length) = 0 := by
  induction k using Nat.strongRecOn with
  | ind k ih =>
    intro i h j hj x hx
    have hjl := (List.getElem?_eq_some_iff.1 hx).1
    cases k with
    | zero =>
      rw [Ze.l1] at h
      cases h
    | succ k =>
      obtain ⟨y, hy⟩ := at_ex (show i < l3.length by omega)
      rw [Ze.l1, if_pos (by omega), if_pos (by omega), if_pos (by omega), rdG_at hy, mask_some, Option.bind_some] at h
      split at h
      · simp at h
      · split at h
        · rename_i q1 q2
          by_cases hji : j = i
          · subst hji
            rw [hy] at hx
            cases hx
            exact q2
          · obtain ⟨k', h1, h2⟩ := z_l2 _ _ _ _ _ _ _ _ _ h
            rw [Ql (by omega) (by omega)] at h2
            exact ih k' (by omega) (i + 1) h2 j (by omega) x hx
        · simp at h
theorem z_l0 (c0 : l0.length ≤ 128) (c2 : l2.length ≤ 288) (c3 : l3.length ≤ 1200) : ∀ (k i : Nat) (names : List ByteArray), Ze.l0 k names l2 l2.length i l0 l1 l2 l3 l4 = some 0 → i ≤ l2.length → namesF [] (names ++ (l2.drop i).map (·.f0)) = 0 ∧ namesF [] l1 = 0 ∧ ∀ x ∈ l3, Go.bits .andNot .u64 x.f1 (maskF x.f2.length) = 0
  | 0, i, names, h, hi => by
    rw [Ze.l0] at h
    cases h
  | k + 1, i, names, h, hi => by
    rw [Ze.l0] at h
    by_cases hlt : i < l2.length
    · obtain ⟨x, hx⟩ := at_ex hlt
      rw [if_pos (by omega), if_pos (by omega), if_pos (by omega), rdF_at hx, Ql (by omega) (by omega)] at h
      split at h
      · have := z_l0 c0 c2 c3 k (i + 1) _ h (by omega)
        rw [List.append_assoc] at this
        rw [List.drop_eq_getElem_cons hlt, List.map_cons]
        rw [List.getElem?_eq_getElem hlt] at hx
        injection hx with hx
        rw [hx]
        exact this
      · cases h
    · rw [if_neg (by omega)] at h
      have h2 : (if namesF [] names = 0 then (if namesF [] l1 = 0 then Ze.l1 k (wrap64 (wrap64 (2 + (l0.length : Int)) + l2.length)) l3 l3.length 0 l0 l1 l2 l3 l4 else some (namesF [] l1)) else some (namesF [] names)) = some 0 := h
      split at h2
      · rename_i q1
        split at h2
        · rename_i q2
          rw [List.drop_of_length_le (by omega), List.map_nil, List.append_nil]
          refine ⟨q1, q2, fun x hx => ?_⟩
          obtain ⟨j, hj⟩ := List.getElem?_of_mem hx
          exact z_l1 _ c3 k 0 h2 j (Nat.zero_le _) x hj
        · rename_i q2
          injection h2 with h2
          exact absurd h2 q2
      · rename_i q1
        injection h2 with h2
        exact absurd h2 q1
theorem form_nm {k : Nat} (h : Ze.f k l0 l1 l2 l3 l4 = some 0) : FormOk l0 l1 l2 l3 l4 ∧ FormNm l0 l1 l2 l3 := by
  obtain ⟨k1, e, h1, h2⟩ := form_ex l0 l1 l2 l3 l4
  have a1 := upK (Ze.mono l0 l1 l2 l3 l4) (show k ≤ k + k1 by omega) h
  have a2 := upK (Ze.mono l0 l1 l2 l3 l4) (show k1 ≤ k + k1 by omega) h1
  rw [a1] at a2
  injection a2 with a2
  have ok := h2 a2.symm
  have b0 := ok.c0
  have b1 := ok.c1
  have b2 := ok.c2
  have b3 := ok.c3
  have b4 := ok.c4
  refine ⟨ok, ?_⟩
  rw [Ze.f, if_neg (by omega), if_neg (by omega), if_neg (by omega), decide_eq_false (by omega)] at h
  cases k with
  | zero =>
    rw [Ze.j0] at h
    cases h
  | succ k =>
    rw [Ze.j0, if_neg (by decide), if_pos (by omega)] at h
    unfold Qm.f at h
    rw [if_pos (by omega), Option.bind_some] at h
    obtain ⟨r1, r2, r3⟩ := z_l0 b0 b2 b3 k 0 l0 h (Nat.zero_le _)
    exact ⟨by simpa using r1, r2, r3⟩
end
end Go.Proofs.Ytimjccfpobhpeaa
namespace Go.Proofs.Ytimjccfpobhpeaa
open Go.RowKit Go.Proofs.YtimjccfpobhpeaaW.PrintWords Go.Proofs.Ytimjccfpobhpeaa.PF
set_option linter.unusedVariables false
section
variable {l0 l1 : List ByteArray} {l2 : List FlopS} {l3 : List GateS} {l4 : List Int} {nv : Load → Int → Int}
def NvOk (nv : Load → Int → Int) : Prop := ∀ l x, nv l x = x ∨ nv l x = 0 ∨ nv l x = 1
theorem newv_ok (net load : Int) (one : Bool) (m : List ((Int × Int × Int) × Int)) : NvOk (newv net load (if one = true then 1 else 0) m) := by
  intro l x
  unfold newv
  split
  · cases one
    · exact .inr (.inl rfl)
    · exact .inr (.inr rfl)
  · exact .inl rfl
theorem NvOk.rng (h : NvOk nv) {l : Load} {x n : Int} (h0 : 0 ≤ x) (h1 : x < n) (hn : 2 ≤ n) : 0 ≤ nv l x ∧ nv l x < n := by
  rcases h l x with e | e | e <;> rw [e] <;> omega
theorem br_form (hv : NvOk nv) (ok : FormOk l0 l1 l2 l3 l4) (nm : FormNm l0 l1 l2 l3) :
    FormOk l0 l1 (Ko nv l2 0) (Kv nv l3 0) (brOuts nv l4 0) ∧ FormNm l0 l1 (Ko nv l2 0) (Kv nv l3 0) := by
  have e2 := brFlops_len nv l2 0
  have e3 := brGates_len nv l3 0
  have e4 := brOuts_len nv l4 0
  constructor
  · refine ⟨ok.c0, ok.c1, by rw [e2]; exact ok.c2, by rw [e3]; exact ok.c3, by rw [e4]; exact ok.c4, fun i x hx => ?_, fun x hx => ?_, fun x hx => ?_⟩
    · rw [brGates_at] at hx
      obtain ⟨g, hg, rfl⟩ := Option.map_eq_some_iff.1 hx
      obtain ⟨p1, p2⟩ := ok.pins i g hg
      refine ⟨by simp only [brPins_len]; exact p1, fun y hy => ?_⟩
      obtain ⟨k, hk⟩ := List.getElem?_of_mem hy
      simp only [brPins_at] at hk
      obtain ⟨z, hz, rfl⟩ := Option.map_eq_some_iff.1 hk
      obtain ⟨r1, r2⟩ := p2 z (List.mem_of_getElem? hz)
      rw [e2]
      exact hv.rng r1 r2 (by omega)
    · obtain ⟨i, hi⟩ := List.getElem?_of_mem hx
      rw [brFlops_at] at hi
      obtain ⟨f, hf, rfl⟩ := Option.map_eq_some_iff.1 hi
      obtain ⟨r1, r2, r3, r4⟩ := ok.flops f (List.mem_of_getElem? hf)
      rw [e2, e3]
      exact ⟨(hv.rng r1 r2 (by omega)).1, (hv.rng r1 r2 (by omega)).2, (hv.rng r3 r4 (by omega)).1, (hv.rng r3 r4 (by omega)).2⟩
    · obtain ⟨i, hi⟩ := List.getElem?_of_mem hx
      rw [brOuts_at] at hi
      obtain ⟨z, hz, rfl⟩ := Option.map_eq_some_iff.1 hi
      obtain ⟨r1, r2⟩ := ok.outs z (List.mem_of_getElem? hz)
      rw [e2, e3]
      exact hv.rng r1 r2 (by omega)
  · have hn : (Ko nv l2 0).map (·.f0) = l2.map (·.f0) := by
      apply List.ext_getElem?
      intro i
      rw [List.getElem?_map, List.getElem?_map, brFlops_at]
      cases l2[i]? <;> rfl
    refine ⟨by rw [hn]; exact nm.n0, nm.n1, fun x hx => ?_⟩
    obtain ⟨i, hi⟩ := List.getElem?_of_mem hx
    rw [brGates_at] at hi
    obtain ⟨g, hg, rfl⟩ := Option.map_eq_some_iff.1 hi
    simp only [brPins_len]
    exact nm.tabs g (List.mem_of_getElem? hg)
end
end Go.Proofs.Ytimjccfpobhpeaa
namespace Go.Proofs.Ytimjccfpobhpeaa.PF
open Go.RowKit Go.Proofs.YtimjccfpobhpeaaW.PrintWords Go.Proofs.YtimjccfpobhpeaaW.PrintLast Go.Proofs.YtimjccfpobhpeaaW.PrintMore
set_option linter.unusedVariables false
set_option linter.unusedSimpArgs false
def Zt.l0 : Nat → List Bool → List Bool → Int → Int → Option (Bool)
  | 0, _, _, _, _ => none
  | k + 1, x0, x1, x12, x13 => if x13 < x12 then (if 0 ≤ x13 then (if x13 < (x0.length : Int) then (if x13 < (x1.length : Int) then (if ((rdOf false x0 x13) != (rdOf false x1 x13)) = true then (some false) else (Zt.l0 k x0 x1 x12 (wrap64 (x13 + 1)))) else (none)) else (none)) else (none)) else (some true)
def Zt.f (k : Nat) (l0 : List Bool) (l1 : List Bool) : Option (Bool) := if (l0.length : Int) = (l1.length : Int) then (Zt.l0 k l0 l1 (l0.length : Int) 0) else (some false)
set_option maxHeartbeats 8000000 in
set_option maxRecDepth 100000 in
theorem Zt.calls (k : Nat) (A0 : Option Addr) (c0 : Nat) (l0 : List Bool) (A1 : Option Addr) (c1 : Nat) (l1 : List Bool) (r : Bool) (w : World) (hr0 : Kd.C Kd.bool w A0 l0.length l0) (hc0 : l0.length ≤ c0) (hr1 : Kd.C Kd.bool w A1 l1.length l1) (hc1 : l1.length ≤ c1) (h : Zt.f k l0 l1 = some r) :
 Calls Try.prog 23 #[.slice A0 l0.length c0, .slice A1 l1.length c1] w fun e w' => e = .returned (.bool r) ∧ Qq w w' := by
 have HR0 := Za.mk hr0
 have HC0 := Za.mk hc0
 clear hr0 hc0
 have HR1 := Za.mk hr1
 have HC1 := Za.mk hc1
 clear hr1 hc1
 have H : (if (l0.length : Int) = (l1.length : Int) then (Zt.l0 k l0 l1 (l0.length : Int) 0) else (some false)) = some r := h
 clear h
 by_cases c3 : (l0.length : Int) = (l1.length : Int)
 ·rw [if_pos c3] at H
  have c3b0 : ((l0.length : Int) == (l1.length : Int)) = true := beq_iff_eq.mpr c3
  have c3b1 : ((l0.length : Int) != (l1.length : Int)) = false := bne_eq_false_iff_eq.mpr c3
  have c3b2 : (l0.length == l1.length) = true := by first | simpa using c3 | (simp at c3 ⊢; omega)
  clear c3
  have H' := Za.mk H
  clear H
  go_enter Try.func23, Try.ntmps23
  go_wp2
  repeat (go_quiet (fail); try go_wp2)
  go_loopg [13] k (fun kq v13 w' => ∃ (x13_1 : Int), v13 = .int .i64 x13_1 ∧ Za (Zt.l0 kq l0 l1 (l0.length : Int) x13_1 = some r) ∧ Za (kq ≤ k) ∧ Qq w w')
  case atStart => exact ⟨(0), (by first | rfl | (simp; done) | (simp [*]; done)), H', ⟨Nat.le_refl _⟩, by repeat (first | exact Qq.refl _ | apply Qq.step)⟩
  case round =>
   clear H'
   try clear c3b0
   try clear c3b1
   try clear c3b2
   obtain ⟨x13_1, rfl, HA, HK1, ⟨m1, rfl⟩⟩ := hrel
   cases gk with
   | zero => exact absurd HA.out (by simp [Zt.l0])
   | succ k1 =>
    have H := HA.out
    clear HA
    simp only [Zt.l0] at H
    by_cases c4 : x13_1 < (l0.length : Int)
    ·rw [if_pos c4] at H
     have c4b0 : decide (x13_1 < (l0.length : Int)) = true := decide_eq_true c4
     clear c4
     by_cases c5 : 0 ≤ x13_1
     ·rw [if_pos c5] at H
      have c5b0 : decide (0 ≤ x13_1) = true := decide_eq_true c5
      clear c5
      by_cases c6 : x13_1 < (l0.length : Int)
      ·rw [if_pos c6] at H
       have c6b0 : decide (x13_1 < (l0.length : Int)) = true := decide_eq_true c6
       clear c6
       by_cases c7 : x13_1 < (l1.length : Int)
       ·rw [if_pos c7] at H
        have c7b0 : decide (x13_1 < (l1.length : Int)) = true := decide_eq_true c7
        clear c7
        by_cases c8 : ((rdOf false l0 x13_1) != (rdOf false l1 x13_1)) = true
        ·rw [if_pos c8] at H
         have c8b0 : ((rdOf false l0 x13_1) != (rdOf false l1 x13_1)) = true := c8
         (try (have c8b1 : decide ((rdOf false l0 x13_1) = (rdOf false l1 x13_1)) = false := by simpa using c8))
         (try (have c8b2 : ((rdOf false l0 x13_1) == (rdOf false l1 x13_1)) = false := by simpa using c8))
         (try (have c8b3 : ¬ ((rdOf false l0 x13_1) = (rdOf false l1 x13_1)) := by simpa using c8))
         clear c8
         obtain rfl := Option.some.inj H
         have p300 : 0 ≤ (x13_1 : Int) := of_decide_eq_true (by first | (with_reducible assumption) | assumption)
         have q300 : x13_1 < (l0.length : Int) := of_decide_eq_true (by first | (with_reducible assumption) | assumption)
         obtain ⟨ad300, e300, hx300_0⟩ := Kd.at_bool HR0.out x13_1 p300 q300
         cases e300
         replace p300 := eq_true p300
         replace q300 := eq_true q300
         have p301 : 0 ≤ (x13_1 : Int) := of_decide_eq_true (by first | (with_reducible assumption) | assumption)
         have q301 : x13_1 < (l1.length : Int) := of_decide_eq_true (by first | (with_reducible assumption) | assumption)
         obtain ⟨ad301, e301, hx301_0⟩ := Kd.at_bool HR1.out x13_1 p301 q301
         cases e301
         replace p301 := eq_true p301
         replace q301 := eq_true q301
         go_wp2
         repeat (go_quiet (fail); try go_wp2)
         go_ret
         exact ⟨by first | rfl | (simp; done) | (simp [*]; done), by repeat (first | exact Qq.refl _ | apply Qq.step)⟩
        ·rw [if_neg c8] at H
         have c8b0 : ((rdOf false l0 x13_1) != (rdOf false l1 x13_1)) = false := by simpa using c8
         (try (have c8b1 : decide ((rdOf false l0 x13_1) = (rdOf false l1 x13_1)) = true := by simpa using c8))
         (try (have c8b2 : ((rdOf false l0 x13_1) == (rdOf false l1 x13_1)) = true := by simpa using c8))
         clear c8
         have H' := Za.mk H
         clear H
         have p300 : 0 ≤ (x13_1 : Int) := of_decide_eq_true (by first | (with_reducible assumption) | assumption)
         have q300 : x13_1 < (l0.length : Int) := of_decide_eq_true (by first | (with_reducible assumption) | assumption)
         obtain ⟨ad300, e300, hx300_0⟩ := Kd.at_bool HR0.out x13_1 p300 q300
         cases e300
         replace p300 := eq_true p300
         replace q300 := eq_true q300
         have p301 : 0 ≤ (x13_1 : Int) := of_decide_eq_true (by first | (with_reducible assumption) | assumption)
         have q301 : x13_1 < (l1.length : Int) := of_decide_eq_true (by first | (with_reducible assumption) | assumption)
         obtain ⟨ad301, e301, hx301_0⟩ := Kd.at_bool HR1.out x13_1 p301 q301
         cases e301
         replace p301 := eq_true p301
         replace q301 := eq_true q301
         go_wp2
         repeat (go_quiet (fail); try go_wp2)
         go_roundg k1
         case measure => have := HK1.out; omega
         case rel => exact ⟨(wrap64 (x13_1 + 1)), (by first | rfl | (simp; done) | (simp [*]; done)), H', ⟨by have := HK1.out; omega⟩, by repeat (first | exact Qq.refl _ | apply Qq.step)⟩
       ·rw [if_neg c7] at H
        exact absurd H (by simp)
      ·rw [if_neg c6] at H
       exact absurd H (by simp)
     ·rw [if_neg c5] at H
      exact absurd H (by simp)
    ·rw [if_neg c4] at H
     have c4b0 : decide (x13_1 < (l0.length : Int)) = false := decide_eq_false c4
     clear c4
     obtain rfl := Option.some.inj H
     go_wp2
     repeat (go_quiet (fail); try go_wp2)
     go_ret
     exact ⟨by first | rfl | (simp; done) | (simp [*]; done), by repeat (first | exact Qq.refl _ | apply Qq.step)⟩
 ·rw [if_neg c3] at H
  have c3b0 : ((l0.length : Int) == (l1.length : Int)) = false := beq_eq_false_iff_ne.mpr c3
  have c3b1 : ((l0.length : Int) != (l1.length : Int)) = true := bne_iff_ne.mpr c3
  have c3b2 : (l0.length == l1.length) = false := by first | simpa using c3 | (simp at c3 ⊢; omega)
  obtain rfl := Option.some.inj H
  go_enter Try.func23, Try.ntmps23
  go_wp2
  repeat (go_quiet (fail); try go_wp2)
  go_ret
  exact ⟨by first | rfl | (simp; done) | (simp [*]; done), by repeat (first | exact Qq.refl _ | apply Qq.step)⟩
def Xw.l0 : Nat → List (S55) → Int → Int → List ByteArray → List ByteArray → List (S82) → List (Ky) → List Int → Option (Int)
  | 0, _, _, _, _, _, _, _, _ => none
  | k + 1, x10, x11, x12, x303000, x303001, x303002, x303003, x303004 => if x12 < x11 then (if 0 ≤ x12 then (if x12 < (x10.length : Int) then (if (((Zx x10 x12).f0).length : Int) = (x303000.length : Int) then (if (((Zx x10 x12).f1).length : Int) = (x303002.length : Int) then (Xw.l0 k x10 x11 (wrap64 (x12 + 1)) x303000 x303001 x303002 x303003 x303004) else (some 4)) else (some 4)) else (none)) else (none)) else (some 0)
def Xw.f (k : Nat) (l0_0 : List ByteArray) (l0_1 : List ByteArray) (l0_2 : List (S82)) (l0_3 : List (Ky)) (l0_4 : List Int) (l1 : List (S55)) : Option (Int) := if (l1.length : Int) > 256 then (some 3) else (Xw.l0 k l1 (l1.length : Int) 0 l0_0 l0_1 l0_2 l0_3 l0_4)
set_option maxHeartbeats 8000000 in
set_option maxRecDepth 100000 in
theorem Xw.calls (k : Nat) (A0_0 : Option Addr) (c0_0 : Nat) (l0_0 : List ByteArray) (A0_1 : Option Addr) (c0_1 : Nat) (l0_1 : List ByteArray) (A0_2 : Option Addr) (c0_2 : Nat) (l0_2 : List (S82)) (A0_3 : Option Addr) (c0_3 : Nat) (l0_3 : List (Ky)) (A0_4 : Option Addr) (c0_4 : Nat) (l0_4 : List Int) (A1 : Option Addr) (c1 : Nat) (l1 : List (S55)) (r : Int) (w : World) (hr0_0 : Kd.C Kd.string w A0_0 l0_0.length l0_0) (hc0_0 : l0_0.length ≤ c0_0) (hr0_1 : Kd.C Kd.string w A0_1 l0_1.length l0_1) (hc0_1 : l0_1.length ≤ c0_1) (hr0_2 : Kd.C k82 w A0_2 l0_2.length l0_2) (hc0_2 : l0_2.length ≤ c0_2) (hr0_3 : Kd.C k80 w A0_3 l0_3.length l0_3) (hc0_3 : l0_3.length ≤ c0_3) (hr0_4 : Kd.C (Kd.int .i64) w A0_4 l0_4.length l0_4) (hc0_4 : l0_4.length ≤ c0_4) (hr1 : Kd.C k55 w A1 l1.length l1) (hc1 : l1.length ≤ c1) (h : Xw.f k l0_0 l0_1 l0_2 l0_3 l0_4 l1 = some r) :
 Calls Try.prog 45 #[.agg #[.slice A0_0 l0_0.length c0_0, .slice A0_1 l0_1.length c0_1, .slice A0_2 l0_2.length c0_2, .slice A0_3 l0_3.length c0_3, .slice A0_4 l0_4.length c0_4], .slice A1 l1.length c1] w fun e w' => e = .returned (.int .i64 r) ∧ Below w.heap.size w w' := by
 have hu27 := Try.underlying27
 have hu55 := Try.underlying55
 have HR0_0 := Za.mk hr0_0
 have HC0_0 := Za.mk hc0_0
 clear hr0_0 hc0_0
 have HR0_1 := Za.mk hr0_1
 have HC0_1 := Za.mk hc0_1
 clear hr0_1 hc0_1
 have HR0_2 := Za.mk hr0_2
 have HC0_2 := Za.mk hc0_2
 clear hr0_2 hc0_2
 have HR0_3 := Za.mk hr0_3
 have HC0_3 := Za.mk hc0_3
 clear hr0_3 hc0_3
 have HR0_4 := Za.mk hr0_4
 have HC0_4 := Za.mk hc0_4
 clear hr0_4 hc0_4
 have HR1 := Za.mk hr1
 have HC1 := Za.mk hc1
 clear hr1 hc1
 have HB := Za.mk (Below.refl w.heap.size w)
 have H : (if (l1.length : Int) > 256 then (some 3) else (Xw.l0 k l1 (l1.length : Int) 0 l0_0 l0_1 l0_2 l0_3 l0_4)) = some r := h
 clear h
 by_cases c3 : (l1.length : Int) > 256
 ·rw [if_pos c3] at H
  have c3b0 : decide (256 < (l1.length : Int)) = true := decide_eq_true c3
  have c3b1 : decide (256 < l1.length) = true := decide_eq_true (by omega)
  clear c3
  obtain rfl := Option.some.inj H
  go_enter Try.func45, Try.ntmps45
  go_wp2_with (((with_reducible refine Xl (N := 2) rfl ?_); (try (refine Qd (by rfl) ?_; dsimp only)); refine Xr ?hg (N := 2) ?hd (cs := #[.slice A0_0 l0_0.length c0_0, .slice A0_1 l0_1.length c0_1, .slice A0_2 l0_2.length c0_2, .slice A0_3 l0_3.length c0_3, .slice A0_4 l0_4.length c0_4]) (t := 27) ?hr ?_; (case hd => rfl); (case hg => rfl); (case hr => first | (go_simp; done) | (go_simp; rfl)); intro gb302 hg w4 hbox hb; have n0_ := Za.mk (Zn HB.out hb); have n1_ := Za.mk (hbox); have n2_ := Za.mk ((by rw [hg]; exact (Zm HB.out) : w.heap.size ≤ gb302)); have n3_ := n2_; clear HB; have HB := n0_; have BK302 := n1_; have GW302 := n2_; have GE302 := n3_; clear n0_ n1_ n2_ n3_; clear hb hbox hg))
  go_ret
  exact ⟨by first | rfl | (simp [errW_none, errW_some] <;> rfl) | (simp [*, errW_none, errW_some] <;> rfl), HB.out⟩
 ·rw [if_neg c3] at H
  have c3b0 : decide (256 < (l1.length : Int)) = false := decide_eq_false c3
  have c3b1 : decide (256 < l1.length) = false := decide_eq_false (by omega)
  clear c3
  have H' := Za.mk H
  clear H
  go_enter Try.func45, Try.ntmps45
  go_wp2_with (((with_reducible refine Xl (N := 2) rfl ?_); (try (refine Qd (by rfl) ?_; dsimp only)); refine Xr ?hg (N := 2) ?hd (cs := #[.slice A0_0 l0_0.length c0_0, .slice A0_1 l0_1.length c0_1, .slice A0_2 l0_2.length c0_2, .slice A0_3 l0_3.length c0_3, .slice A0_4 l0_4.length c0_4]) (t := 27) ?hr ?_; (case hd => rfl); (case hg => rfl); (case hr => first | (go_simp; done) | (go_simp; rfl)); intro gb302 hg w5 hbox hb; have n0_ := Za.mk (Zn HB.out hb); have n1_ := Za.mk (hbox); have n2_ := Za.mk ((by rw [hg]; exact (Zm HB.out) : w.heap.size ≤ gb302)); have n3_ := n2_; clear HB; have HB := n0_; have BK302 := n1_; have GW302 := n2_; have GE302 := n3_; clear n0_ n1_ n2_ n3_; clear hb hbox hg))
  go_loopg [12] k (fun kq v12 w' => ∃ (x12_1 : Int), v12 = .int .i64 x12_1 ∧ Za (Xw.l0 kq l1 (l1.length : Int) x12_1 l0_0 l0_1 l0_2 l0_3 l0_4 = some r) ∧ Za (kq ≤ k) ∧ Za (w'.heap[gb302]? = some (.cells #[(.slice A0_0 l0_0.length c0_0), (.slice A0_1 l0_1.length c0_1), (.slice A0_2 l0_2.length c0_2), (.slice A0_3 l0_3.length c0_3), (.slice A0_4 l0_4.length c0_4)] 27 (0, 0))) ∧ Za (Below w.heap.size w w'))
  case atStart => exact ⟨(0), (by first | rfl | (simp; done) | (simp [*]; done)), H', ⟨Nat.le_refl _⟩, ⟨BK302.out⟩, ⟨HB.out⟩⟩
  case round =>
   clear H'
   try clear c3b0
   try clear c3b1
   obtain ⟨x12_1, rfl, HA, HK1, BK302, HB⟩ := hrel
   cases gk with
   | zero => exact absurd HA.out (by simp [Xw.l0])
   | succ k1 =>
    have H := HA.out
    clear HA
    simp only [Xw.l0] at H
    by_cases c6 : x12_1 < (l1.length : Int)
    ·rw [if_pos c6] at H
     have c6b0 : decide (x12_1 < (l1.length : Int)) = true := decide_eq_true c6
     clear c6
     by_cases c7 : 0 ≤ x12_1
     ·rw [if_pos c7] at H
      have c7b0 : decide (0 ≤ x12_1) = true := decide_eq_true c7
      clear c7
      by_cases c8 : x12_1 < (l1.length : Int)
      ·rw [if_pos c8] at H
       have c8b0 : decide (x12_1 < (l1.length : Int)) = true := decide_eq_true c8
       clear c8
       by_cases c9 : (((Zx l1 x12_1).f0).length : Int) = (l0_0.length : Int)
       ·rw [if_pos c9] at H
        have c9b0 : ((((Zx l1 x12_1).f0).length : Int) == (l0_0.length : Int)) = true := beq_iff_eq.mpr c9
        have c9b1 : ((((Zx l1 x12_1).f0).length : Int) != (l0_0.length : Int)) = false := bne_eq_false_iff_eq.mpr c9
        have c9b2 : (((Zx l1 x12_1).f0).length == l0_0.length) = true := by first | simpa using c9 | (simp at c9 ⊢; omega)
        clear c9
        by_cases c10 : (((Zx l1 x12_1).f1).length : Int) = (l0_2.length : Int)
        ·rw [if_pos c10] at H
         have c10b0 : ((((Zx l1 x12_1).f1).length : Int) == (l0_2.length : Int)) = true := beq_iff_eq.mpr c10
         have c10b1 : ((((Zx l1 x12_1).f1).length : Int) != (l0_2.length : Int)) = false := bne_eq_false_iff_eq.mpr c10
         have c10b2 : (((Zx l1 x12_1).f1).length == l0_2.length) = true := by first | simpa using c10 | (simp at c10 ⊢; omega)
         clear c10
         have H' := Za.mk H
         clear H
         have p303 : 0 ≤ (x12_1 : Int) := of_decide_eq_true (by first | (with_reducible assumption) | assumption)
         have q303 : x12_1 < (l1.length : Int) := of_decide_eq_true (by first | (with_reducible assumption) | assumption)
         obtain ⟨ad303, A303_0, c303_0, A303_1, c303_1, e303, hx303_0, hx303_1, hl303_0, hi303_0, hl303_1, hi303_1⟩ := at_T55 HR1.out x12_1 p303 q303
         cases e303
         replace hx303_0 := (HB.out.cell (World.block_lt_of_cell? w _ hx303_0)).trans hx303_0
         replace hx303_1 := (HB.out.cell (World.block_lt_of_cell? w _ hx303_1)).trans hx303_1
         have HR303_0 := Za.mk hi303_0
         have HC303_0 := Za.mk hl303_0
         clear hi303_0 hl303_0
         have HR303_1 := Za.mk hi303_1
         have HC303_1 := Za.mk hl303_1
         clear hi303_1 hl303_1
         replace p303 := eq_true p303
         replace q303 := eq_true q303
         go_wp2_with (((with_reducible refine Xl (N := 6) rfl ?_); (try (refine Qd (by rfl) ?_; dsimp only)); refine Xr ?hg (N := 6) ?hd (cs := #[.slice none 0 0, .slice none 0 0]) (t := 55) ?hr ?_; (case hd => rfl); (case hg => rfl); (case hr => first | (go_simp; done) | (go_simp; rfl)); intro gb304 hg w11 hbox hb; have n0_ := Za.mk (Zq BK302.out hb); have n1_ := Za.mk (Zn HB.out hb); have n2_ := Za.mk (hbox); have n3_ := Za.mk ((by rw [hg]; exact (Zm HB.out) : w.heap.size ≤ gb304)); have n4_ := n3_; have n5_ := Za.mk ((by rw [hg]; exact Nat.ne_of_lt (Xx BK302.out) : gb302 ≠ gb304)); have n6_ := Za.mk ((by rw [hg]; exact Nat.ne_of_gt (Xx BK302.out) : gb304 ≠ gb302)); clear BK302; clear HB; have BK302 := n0_; have HB := n1_; have BK304 := n2_; have GW304 := n3_; have GE304 := n4_; have NB302_304 := n5_; have NB304_302 := n6_; clear n0_ n1_ n2_ n3_ n4_ n5_ n6_; clear hb hbox hg; have hnb12 := NB304_302.out; have hnc12 := NB302_304.out; have hcz13_0 : w11.cell? ⟨gb304, 0, none⟩ = some (.slice none 0 0) := (Zc BK304.out 0).trans rfl; have hcz13_1 : w11.cell? ⟨gb304, 1, none⟩ = some (.slice none 0 0) := (Zc BK304.out 1).trans rfl; have hfz13_0 := Zb BK304.out 0; have hfz13_1 := Zb BK304.out 1; have hcz14_0 : w11.cell? ⟨gb302, 0, none⟩ = some (.slice A0_0 l0_0.length c0_0) := (Zc BK302.out 0).trans rfl; have hcz14_1 : w11.cell? ⟨gb302, 1, none⟩ = some (.slice A0_1 l0_1.length c0_1) := (Zc BK302.out 1).trans rfl; have hcz14_2 : w11.cell? ⟨gb302, 2, none⟩ = some (.slice A0_2 l0_2.length c0_2) := (Zc BK302.out 2).trans rfl; have hcz14_3 : w11.cell? ⟨gb302, 3, none⟩ = some (.slice A0_3 l0_3.length c0_3) := (Zc BK302.out 3).trans rfl; have hcz14_4 : w11.cell? ⟨gb302, 4, none⟩ = some (.slice A0_4 l0_4.length c0_4) := (Zc BK302.out 4).trans rfl; have hfz14_0 := Zb BK302.out 0; have hfz14_1 := Zb BK302.out 1; have hfz14_2 := Zb BK302.out 2; have hfz14_3 := Zb BK302.out 3; have hfz14_4 := Zb BK302.out 4))
         go_roundg k1
         case measure => have := HK1.out; omega
         case rel => exact ⟨(wrap64 (x12_1 + 1)), (by first | rfl | (simp; done) | (simp [*]; done)), H', ⟨by have := HK1.out; omega⟩, ⟨by (with_reducible repeat (first | refine Zg ?_ _ | refine Zi ?_ | refine Zf ?_ _)); refine Xp ?_ NB302_304.out _; (with_reducible repeat (first | refine Zg ?_ _ | refine Zi ?_ | refine Zf ?_ _)); refine Xp ?_ NB302_304.out _; (with_reducible repeat (first | refine Zg ?_ _ | refine Zi ?_ | refine Zf ?_ _)); exact BK302.out⟩, ⟨by repeat (first | (with_reducible first | exact HB.out | apply Zl | apply Zj | apply Zo | refine Zh ?_ GE302.out | refine Zh ?_ GE304.out) | exact HB.out)⟩⟩
        ·rw [if_neg c10] at H
         have c10b0 : ((((Zx l1 x12_1).f1).length : Int) == (l0_2.length : Int)) = false := beq_eq_false_iff_ne.mpr c10
         have c10b1 : ((((Zx l1 x12_1).f1).length : Int) != (l0_2.length : Int)) = true := bne_iff_ne.mpr c10
         have c10b2 : (((Zx l1 x12_1).f1).length == l0_2.length) = false := by first | simpa using c10 | (simp at c10 ⊢; omega)
         obtain rfl := Option.some.inj H
         have p303 : 0 ≤ (x12_1 : Int) := of_decide_eq_true (by first | (with_reducible assumption) | assumption)
         have q303 : x12_1 < (l1.length : Int) := of_decide_eq_true (by first | (with_reducible assumption) | assumption)
         obtain ⟨ad303, A303_0, c303_0, A303_1, c303_1, e303, hx303_0, hx303_1, hl303_0, hi303_0, hl303_1, hi303_1⟩ := at_T55 HR1.out x12_1 p303 q303
         cases e303
         replace hx303_0 := (HB.out.cell (World.block_lt_of_cell? w _ hx303_0)).trans hx303_0
         replace hx303_1 := (HB.out.cell (World.block_lt_of_cell? w _ hx303_1)).trans hx303_1
         have HR303_0 := Za.mk hi303_0
         have HC303_0 := Za.mk hl303_0
         clear hi303_0 hl303_0
         have HR303_1 := Za.mk hi303_1
         have HC303_1 := Za.mk hl303_1
         clear hi303_1 hl303_1
         replace p303 := eq_true p303
         replace q303 := eq_true q303
         go_wp2_with (((with_reducible refine Xl (N := 6) rfl ?_); (try (refine Qd (by rfl) ?_; dsimp only)); refine Xr ?hg (N := 6) ?hd (cs := #[.slice none 0 0, .slice none 0 0]) (t := 55) ?hr ?_; (case hd => rfl); (case hg => rfl); (case hr => first | (go_simp; done) | (go_simp; rfl)); intro gb304 hg w15 hbox hb; have n0_ := Za.mk (Zq BK302.out hb); have n1_ := Za.mk (Zn HB.out hb); have n2_ := Za.mk (hbox); have n3_ := Za.mk ((by rw [hg]; exact (Zm HB.out) : w.heap.size ≤ gb304)); have n4_ := n3_; have n5_ := Za.mk ((by rw [hg]; exact Nat.ne_of_lt (Xx BK302.out) : gb302 ≠ gb304)); have n6_ := Za.mk ((by rw [hg]; exact Nat.ne_of_gt (Xx BK302.out) : gb304 ≠ gb302)); clear BK302; clear HB; have BK302 := n0_; have HB := n1_; have BK304 := n2_; have GW304 := n3_; have GE304 := n4_; have NB302_304 := n5_; have NB304_302 := n6_; clear n0_ n1_ n2_ n3_ n4_ n5_ n6_; clear hb hbox hg; have hnb16 := NB304_302.out; have hnc16 := NB302_304.out; have hcz17_0 : w15.cell? ⟨gb304, 0, none⟩ = some (.slice none 0 0) := (Zc BK304.out 0).trans rfl; have hcz17_1 : w15.cell? ⟨gb304, 1, none⟩ = some (.slice none 0 0) := (Zc BK304.out 1).trans rfl; have hfz17_0 := Zb BK304.out 0; have hfz17_1 := Zb BK304.out 1; have hcz18_0 : w15.cell? ⟨gb302, 0, none⟩ = some (.slice A0_0 l0_0.length c0_0) := (Zc BK302.out 0).trans rfl; have hcz18_1 : w15.cell? ⟨gb302, 1, none⟩ = some (.slice A0_1 l0_1.length c0_1) := (Zc BK302.out 1).trans rfl; have hcz18_2 : w15.cell? ⟨gb302, 2, none⟩ = some (.slice A0_2 l0_2.length c0_2) := (Zc BK302.out 2).trans rfl; have hcz18_3 : w15.cell? ⟨gb302, 3, none⟩ = some (.slice A0_3 l0_3.length c0_3) := (Zc BK302.out 3).trans rfl; have hcz18_4 : w15.cell? ⟨gb302, 4, none⟩ = some (.slice A0_4 l0_4.length c0_4) := (Zc BK302.out 4).trans rfl; have hfz18_0 := Zb BK302.out 0; have hfz18_1 := Zb BK302.out 1; have hfz18_2 := Zb BK302.out 2; have hfz18_3 := Zb BK302.out 3; have hfz18_4 := Zb BK302.out 4))
         go_ret
         exact ⟨by first | rfl | (simp [errW_none, errW_some] <;> rfl) | (simp [*, errW_none, errW_some] <;> rfl), by repeat (first | (with_reducible first | exact HB.out | apply Zl | apply Zj | apply Zo | refine Zh ?_ GE302.out | refine Zh ?_ GE304.out) | exact HB.out)⟩
       ·rw [if_neg c9] at H
        have c9b0 : ((((Zx l1 x12_1).f0).length : Int) == (l0_0.length : Int)) = false := beq_eq_false_iff_ne.mpr c9
        have c9b1 : ((((Zx l1 x12_1).f0).length : Int) != (l0_0.length : Int)) = true := bne_iff_ne.mpr c9
        have c9b2 : (((Zx l1 x12_1).f0).length == l0_0.length) = false := by first | simpa using c9 | (simp at c9 ⊢; omega)
        obtain rfl := Option.some.inj H
        have p303 : 0 ≤ (x12_1 : Int) := of_decide_eq_true (by first | (with_reducible assumption) | assumption)
        have q303 : x12_1 < (l1.length : Int) := of_decide_eq_true (by first | (with_reducible assumption) | assumption)
        obtain ⟨ad303, A303_0, c303_0, A303_1, c303_1, e303, hx303_0, hx303_1, hl303_0, hi303_0, hl303_1, hi303_1⟩ := at_T55 HR1.out x12_1 p303 q303
        cases e303
        replace hx303_0 := (HB.out.cell (World.block_lt_of_cell? w _ hx303_0)).trans hx303_0
        replace hx303_1 := (HB.out.cell (World.block_lt_of_cell? w _ hx303_1)).trans hx303_1
        have HR303_0 := Za.mk hi303_0
        have HC303_0 := Za.mk hl303_0
        clear hi303_0 hl303_0
        have HR303_1 := Za.mk hi303_1
        have HC303_1 := Za.mk hl303_1
        clear hi303_1 hl303_1
        replace p303 := eq_true p303
        replace q303 := eq_true q303
        go_wp2_with (((with_reducible refine Xl (N := 6) rfl ?_); (try (refine Qd (by rfl) ?_; dsimp only)); refine Xr ?hg (N := 6) ?hd (cs := #[.slice none 0 0, .slice none 0 0]) (t := 55) ?hr ?_; (case hd => rfl); (case hg => rfl); (case hr => first | (go_simp; done) | (go_simp; rfl)); intro gb304 hg w19 hbox hb; have n0_ := Za.mk (Zq BK302.out hb); have n1_ := Za.mk (Zn HB.out hb); have n2_ := Za.mk (hbox); have n3_ := Za.mk ((by rw [hg]; exact (Zm HB.out) : w.heap.size ≤ gb304)); have n4_ := n3_; have n5_ := Za.mk ((by rw [hg]; exact Nat.ne_of_lt (Xx BK302.out) : gb302 ≠ gb304)); have n6_ := Za.mk ((by rw [hg]; exact Nat.ne_of_gt (Xx BK302.out) : gb304 ≠ gb302)); clear BK302; clear HB; have BK302 := n0_; have HB := n1_; have BK304 := n2_; have GW304 := n3_; have GE304 := n4_; have NB302_304 := n5_; have NB304_302 := n6_; clear n0_ n1_ n2_ n3_ n4_ n5_ n6_; clear hb hbox hg; have hnb20 := NB304_302.out; have hnc20 := NB302_304.out; have hcz21_0 : w19.cell? ⟨gb304, 0, none⟩ = some (.slice none 0 0) := (Zc BK304.out 0).trans rfl; have hcz21_1 : w19.cell? ⟨gb304, 1, none⟩ = some (.slice none 0 0) := (Zc BK304.out 1).trans rfl; have hfz21_0 := Zb BK304.out 0; have hfz21_1 := Zb BK304.out 1; have hcz22_0 : w19.cell? ⟨gb302, 0, none⟩ = some (.slice A0_0 l0_0.length c0_0) := (Zc BK302.out 0).trans rfl; have hcz22_1 : w19.cell? ⟨gb302, 1, none⟩ = some (.slice A0_1 l0_1.length c0_1) := (Zc BK302.out 1).trans rfl; have hcz22_2 : w19.cell? ⟨gb302, 2, none⟩ = some (.slice A0_2 l0_2.length c0_2) := (Zc BK302.out 2).trans rfl; have hcz22_3 : w19.cell? ⟨gb302, 3, none⟩ = some (.slice A0_3 l0_3.length c0_3) := (Zc BK302.out 3).trans rfl; have hcz22_4 : w19.cell? ⟨gb302, 4, none⟩ = some (.slice A0_4 l0_4.length c0_4) := (Zc BK302.out 4).trans rfl; have hfz22_0 := Zb BK302.out 0; have hfz22_1 := Zb BK302.out 1; have hfz22_2 := Zb BK302.out 2; have hfz22_3 := Zb BK302.out 3; have hfz22_4 := Zb BK302.out 4))
        go_ret
        exact ⟨by first | rfl | (simp [errW_none, errW_some] <;> rfl) | (simp [*, errW_none, errW_some] <;> rfl), by repeat (first | (with_reducible first | exact HB.out | apply Zl | apply Zj | apply Zo | refine Zh ?_ GE302.out | refine Zh ?_ GE304.out) | exact HB.out)⟩
      ·rw [if_neg c8] at H
       exact absurd H (by simp)
     ·rw [if_neg c7] at H
      exact absurd H (by simp)
    ·rw [if_neg c6] at H
     have c6b0 : decide (x12_1 < (l1.length : Int)) = false := decide_eq_false c6
     clear c6
     obtain rfl := Option.some.inj H
     go_wp2
     go_ret
     exact ⟨by first | rfl | (simp [errW_none, errW_some] <;> rfl) | (simp [*, errW_none, errW_some] <;> rfl), HB.out⟩
end Go.Proofs.Ytimjccfpobhpeaa.PF
namespace Go.Proofs.Ytimjccfpobhpeaa.PF
open Go.RowKit Go.Proofs.YtimjccfpobhpeaaW.PrintWords Go.Proofs.YtimjccfpobhpeaaW.PrintLast Go.Proofs.YtimjccfpobhpeaaW.PrintMore
set_option linter.unusedVariables false
set_option linter.unusedSimpArgs false
mutual
def Xn.l0 : Nat → List Int → List Int → List (S55) → Int → Int → Option (List Int × List Int)
  | 0, _, _, _, _, _ => none
  | k + 1, x4, x5, x20, x21, x22 => if x22 < x21 then (if 0 ≤ x22 then (if x22 < (x20.length : Int) then (Xn.l1 k x4 x5 x22 x20 x21 x22 ((Zx x20 x22).f0) (((Zx x20 x22).f0).length : Int) 0 ((Zx x20 x22).f0) ((Zx x20 x22).f1)) else (none)) else (none)) else (some (x4, x5))
def Xn.l1 : Nat → List Int → List Int → Int → List (S55) → Int → Int → List Bool → Int → Int → List Bool → List Bool → Option (List Int × List Int)
  | 0, _, _, _, _, _, _, _, _, _, _, _ => none
  | k + 1, x4, x5, x6, x20, x21, x22, x28, x29, x30, x478000, x478001 => if x30 < x29 then (if 0 ≤ x30 then (if x30 < (x28.length : Int) then (if rdOf false x28 x30 = true then (if x30 < (x4.length : Int) then (if 0 ≤ x6 then (Xn.l1 k (x4.set (x30 : Int).toNat (Go.bits .or .u64 (rd x4 x30) (shl .u64 1 x6))) x5 x6 x20 x21 x22 x28 x29 (wrap64 (x30 + 1)) x478000 x478001) else (none)) else (none)) else (Xn.l1 k x4 x5 x6 x20 x21 x22 x28 x29 (wrap64 (x30 + 1)) x478000 x478001)) else (none)) else (none)) else (Xn.l2 k x4 x5 x6 x20 x21 x22 x478001 (x478001.length : Int) 0)
def Xn.l2 : Nat → List Int → List Int → Int → List (S55) → Int → Int → List Bool → Int → Int → Option (List Int × List Int)
  | 0, _, _, _, _, _, _, _, _, _ => none
  | k + 1, x4, x5, x6, x20, x21, x22, x46, x47, x48 => if x48 < x47 then (if 0 ≤ x48 then (if x48 < (x46.length : Int) then (if rdOf false x46 x48 = true then (if x48 < (x5.length : Int) then (if 0 ≤ x6 then (Xn.l2 k x4 (x5.set (x48 : Int).toNat (Go.bits .or .u64 (rd x5 x48) (shl .u64 1 x6))) x6 x20 x21 x22 x46 x47 (wrap64 (x48 + 1))) else (none)) else (none)) else (Xn.l2 k x4 x5 x6 x20 x21 x22 x46 x47 (wrap64 (x48 + 1)))) else (none)) else (none)) else (Xn.l0 k x4 x5 x20 x21 (wrap64 (x22 + 1)))
end
def Xn.f (k : Nat) (l0_0 : List ByteArray) (l0_1 : List ByteArray) (l0_2 : List (S82)) (l0_3 : List (Ky)) (l0_4 : List Int) (l1 : List (S55)) : Option (List Int × List Int) := if 0 ≤ (l0_0.length : Int) then (if ((l0_0.length : Int) : Int).toNat ≤ 35184372088832 then (if 0 ≤ (l0_2.length : Int) then (if ((l0_2.length : Int) : Int).toNat ≤ 35184372088832 then (Xn.l0 k (List.replicate ((l0_0.length : Int) : Int).toNat 0) (List.replicate ((l0_2.length : Int) : Int).toNat 0) l1 (l1.length : Int) 0) else (none)) else (none)) else (none)) else (none)
theorem Xn.mono_l : ∀ k, (∀ y0 y1 y2 y3 y4, Xz (Xn.l0 k y0 y1 y2 y3 y4) (Xn.l0 (k + 1) y0 y1 y2 y3 y4)) ∧ (∀ y0 y1 y2 y3 y4 y5 y6 y7 y8 y9 y10, Xz (Xn.l1 k y0 y1 y2 y3 y4 y5 y6 y7 y8 y9 y10) (Xn.l1 (k + 1) y0 y1 y2 y3 y4 y5 y6 y7 y8 y9 y10)) ∧ (∀ y0 y1 y2 y3 y4 y5 y6 y7 y8, Xz (Xn.l2 k y0 y1 y2 y3 y4 y5 y6 y7 y8) (Xn.l2 (k + 1) y0 y1 y2 y3 y4 y5 y6 y7 y8))
  | 0 => ⟨fun _ _ _ _ _ r h => by simp [Xn.l0] at h, fun _ _ _ _ _ _ _ _ _ _ _ r h => by simp [Xn.l1] at h, fun _ _ _ _ _ _ _ _ _ r h => by simp [Xn.l2] at h⟩
  | k + 1 => by
    obtain ⟨ih0, ih1, ih2⟩ := Xn.mono_l k
    refine ⟨?_, ?_, ?_⟩
    · intro y0 y1 y2 y3 y4
      unfold Xn.l0
      repeat' first
      | (with_reducible exact ih0 _ _ _ _ _)
      | (with_reducible exact ih1 _ _ _ _ _ _ _ _ _ _ _)
      | (with_reducible exact ih2 _ _ _ _ _ _ _ _ _)
      | (with_reducible exact Xz.refl _)
      | (with_reducible exact Xz.none _)
      | (with_reducible refine Xz.ite ?_ ?_)
      | (with_reducible refine Xz.bind ?_ (fun _ => ?_))
      | exact ih0 _ _ _ _ _
      | exact ih1 _ _ _ _ _ _ _ _ _ _ _
      | exact ih2 _ _ _ _ _ _ _ _ _
      | exact Xz.none _
      | refine Xz.ite ?_ ?_
      | refine Xz.bind ?_ (fun _ => ?_)
    · intro y0 y1 y2 y3 y4 y5 y6 y7 y8 y9 y10
      unfold Xn.l1
      repeat' first
      | (with_reducible exact ih0 _ _ _ _ _)
      | (with_reducible exact ih1 _ _ _ _ _ _ _ _ _ _ _)
      | (with_reducible exact ih2 _ _ _ _ _ _ _ _ _)
      | (with_reducible exact Xz.refl _)
      | (with_reducible exact Xz.none _)
      | (with_reducible refine Xz.ite ?_ ?_)
      | (with_reducible refine Xz.bind ?_ (fun _ => ?_))
      | exact ih0 _ _ _ _ _
      | exact ih1 _ _ _ _ _ _ _ _ _ _ _
      | exact ih2 _ _ _ _ _ _ _ _ _
      | exact Xz.none _
      | refine Xz.ite ?_ ?_
      | refine Xz.bind ?_ (fun _ => ?_)
    · intro y0 y1 y2 y3 y4 y5 y6 y7 y8
      unfold Xn.l2
      repeat' first
      | (with_reducible exact ih0 _ _ _ _ _)
      | (with_reducible exact ih1 _ _ _ _ _ _ _ _ _ _ _)
      | (with_reducible exact ih2 _ _ _ _ _ _ _ _ _)
      | (with_reducible exact Xz.refl _)
      | (with_reducible exact Xz.none _)
      | (with_reducible refine Xz.ite ?_ ?_)
      | (with_reducible refine Xz.bind ?_ (fun _ => ?_))
      | exact ih0 _ _ _ _ _
      | exact ih1 _ _ _ _ _ _ _ _ _ _ _
      | exact ih2 _ _ _ _ _ _ _ _ _
      | exact Xz.none _
      | refine Xz.ite ?_ ?_
      | refine Xz.bind ?_ (fun _ => ?_)
theorem Xn.mono : ∀ a0 a1 a2 a3 a4 a5 k, Xz (Xn.f k a0 a1 a2 a3 a4 a5) (Xn.f (k + 1) a0 a1 a2 a3 a4 a5) := by
  intro a0 a1 a2 a3 a4 a5 k
  obtain ⟨ih0, ih1, ih2⟩ := Xn.mono_l k
  unfold Xn.f
  repeat' first
      | (with_reducible exact ih0 _ _ _ _ _)
      | (with_reducible exact ih1 _ _ _ _ _ _ _ _ _ _ _)
      | (with_reducible exact ih2 _ _ _ _ _ _ _ _ _)
      | (with_reducible exact Xz.refl _)
      | (with_reducible exact Xz.none _)
      | (with_reducible refine Xz.ite ?_ ?_)
      | (with_reducible refine Xz.bind ?_ (fun _ => ?_))
      | exact ih0 _ _ _ _ _
      | exact ih1 _ _ _ _ _ _ _ _ _ _ _
      | exact ih2 _ _ _ _ _ _ _ _ _
      | exact Xz.none _
      | refine Xz.ite ?_ ?_
      | refine Xz.bind ?_ (fun _ => ?_)
end Go.Proofs.Ytimjccfpobhpeaa.PF
namespace Go.Proofs.Ytimjccfpobhpeaa.PF
open Go.RowKit Go.Proofs.YtimjccfpobhpeaaW.PrintWords Go.Proofs.YtimjccfpobhpeaaW.PrintLast Go.Proofs.YtimjccfpobhpeaaW.PrintMore
set_option linter.unusedVariables false
set_option linter.unusedSimpArgs false
def Qj.l0 : Nat → List Int → List Int → Int → Int → Int → Option (Int)
  | 0, _, _, _, _, _ => none
  | k + 1, x0, x1, x5, x8, x9 => if x9 < x8 then (if 0 ≤ x9 then (if x9 < (x0.length : Int) then (if x9 < (x1.length : Int) then (Qj.l0 k x0 x1 (Go.bits .or .u64 x5 (Go.bits .xor .u64 (rd x0 x9) (rd x1 x9))) x8 (wrap64 (x9 + 1))) else (none)) else (none)) else (none)) else (some x5)
def Qj.f (k : Nat) (l0 : List Int) (l1 : List Int) : Option (Int) := Qj.l0 k l0 l1 0 (l0.length : Int) 0
theorem Qj.mono_l : ∀ k, (∀ y0 y1 y2 y3 y4, Xz (Qj.l0 k y0 y1 y2 y3 y4) (Qj.l0 (k + 1) y0 y1 y2 y3 y4))
  | 0 => fun _ _ _ _ _ r h => by simp [Qj.l0] at h
  | k + 1 => by
    have ih0 := Qj.mono_l k
    · intro y0 y1 y2 y3 y4
      unfold Qj.l0
      repeat' first
      | (with_reducible exact ih0 _ _ _ _ _)
      | (with_reducible exact Xz.refl _)
      | (with_reducible exact Xz.none _)
      | (with_reducible refine Xz.ite ?_ ?_)
      | (with_reducible refine Xz.bind ?_ (fun _ => ?_))
      | exact ih0 _ _ _ _ _
      | exact Xz.none _
      | refine Xz.ite ?_ ?_
      | refine Xz.bind ?_ (fun _ => ?_)
theorem Qj.mono : ∀ a0 a1 k, Xz (Qj.f k a0 a1) (Qj.f (k + 1) a0 a1) := by
  intro a0 a1 k
  have ih0 := Qj.mono_l k
  unfold Qj.f
  repeat' first
      | (with_reducible exact ih0 _ _ _ _ _)
      | (with_reducible exact Xz.refl _)
      | (with_reducible exact Xz.none _)
      | (with_reducible refine Xz.ite ?_ ?_)
      | (with_reducible refine Xz.bind ?_ (fun _ => ?_))
      | exact ih0 _ _ _ _ _
      | exact Xz.none _
      | refine Xz.ite ?_ ?_
      | refine Xz.bind ?_ (fun _ => ?_)
end Go.Proofs.Ytimjccfpobhpeaa.PF
namespace Go.Proofs.Ytimjccfpobhpeaa
open Go.RowKit Go.Shelf
set_option maxRecDepth 100000
attribute [local go_sem] Oper.semAt_some
def chunksN (n : Nat) : Nat := (n + 63) / 64
end Go.Proofs.Ytimjccfpobhpeaa
namespace Go.Proofs.Ytimjccfpobhpeaa
open Go.RowKit
namespace Rep
variable {α : Type} {d : Rep α} {e : TypeId} {w w1 : World} {base : Nat} {F : Nat → Prop} {v : Value} {xs ys : List α}
theorem All.one {x : α} {c : List Value} (h : d.rel w F x c) : All d w F [x] c := by
  refine ⟨by simp [d.len h], fun i y hy => ?_⟩
  match i, hy with
  | 0, hy =>
    simp at hy
    subst hy
    rw [Nat.zero_mul, List.drop_zero, List.take_of_length_le (by rw [d.len h]; omega)]
    exact h
theorem All.append {cs ns : List Value} (h : All d w F xs cs) (k : All d w F ys ns) : All d w F (xs ++ ys) (cs ++ ns) := by
  refine ⟨by simp [h.1, k.1, Nat.add_mul], ?_⟩
  intro i y hy
  by_cases hl : i < xs.length
  · rw [List.getElem?_append_left hl] at hy
    have hle : i * d.sz + d.sz ≤ xs.length * d.sz := by rw [← Nat.succ_mul]; exact Nat.mul_le_mul_right _ hl
    rw [List.drop_append_of_le_length (by rw [h.1]; omega), List.take_append_of_le_length (by rw [List.length_drop, h.1]; omega)]
    exact h.2 i y hy
  · rw [List.getElem?_append_right (by omega)] at hy
    have := k.2 _ y hy
    rw [show i * d.sz = cs.length + (i - xs.length) * d.sz by rw [h.1, ← Nat.add_mul]; congr 1; omega, ← List.drop_drop, List.drop_left]
    exact this
theorem All.one1 {cs : List Value} (h : All d w F xs cs) : ∀ u ∈ cs, u.oneCell' = true := by
  intro u hu
  obtain ⟨j, hj, rfl⟩ := List.getElem_of_mem hu
  by_cases hz : d.sz = 0
  · rw [h.1, hz] at hj; omega
  have hd : j / d.sz < xs.length := by rw [Nat.div_lt_iff_lt_mul (by omega)]; rw [h.1] at hj; exact hj
  have hr := h.2 _ _ (List.getElem?_eq_getElem hd)
  refine d.one hr _ ?_
  have hm : j % d.sz < d.sz := Nat.mod_lt _ (by omega)
  have he : j / d.sz * d.sz + j % d.sz = j := by rw [Nat.mul_comm]; exact Nat.div_add_mod j d.sz
  have hh : ((cs.drop (j / d.sz * d.sz)).take d.sz)[j % d.sz]? = some cs[j] := by
    rw [List.getElem?_take, if_pos hm, List.getElem?_drop, he, List.getElem?_eq_getElem hj]
  exact List.mem_of_getElem? hh
theorem Own.appended {v1 : Value} {cs ns : List Value} (hA : All d w F xs cs) (hF : ∀ k, v.ownBlock = some k → ¬ F k) (hn : All d w F ys ns) (hF2 : ∀ k, F k → k < w.heap.size) (hg : w.grownBy w1 v.ownBlock)
    (ho : w1.ownsRow base e d.sz v1 (xs.length + ys.length) (cs ++ ns)) (hv : v1.ownBlock = v.ownBlock ∨ v1.ownBlock = some w.heap.size) : Own d e w1 base F v1 (xs ++ ys) := by
  have hm : ∀ k, F k → k < w.heap.size → F k ∧ w1.heap[k]? = w.heap[k]? := fun k hk hl => ⟨hk, hg.block k hl (fun e => hF k e.symm hk)⟩
  refine ⟨cs ++ ns, by simpa using ho, (hA.append hn).step hm, ?_⟩
  intro k hk hFk
  rcases hv with hv | hv
  · rw [hv] at hk; exact hF k hk hFk
  · rw [hv] at hk
    have := hF2 k hFk
    simp only [Option.some.injEq] at hk
    omega
end Rep
theorem le_maxLen {n : Nat} (h : n ≤ 9223372036854775807) : n ≤ maxLen := h
def NoB : Nat → Prop := fun _ => False
structure Grew (w w' : World) (v v' : Value) : Prop where
  by_ : w.grownBy w' v.ownBlock
  at_ : v'.ownBlock = v.ownBlock ∨ ∀ k, v'.ownBlock = some k → w.heap.size ≤ k
theorem Grew.refl (w : World) (v : Value) : Grew w w v v := ⟨World.grownBy.refl w _, .inl rfl⟩
theorem Grew.trans {w w1 w2 : World} {v v1 v2 : Value} (h : Grew w w1 v v1) (k : Grew w1 w2 v1 v2) : Grew w w2 v v2 := by
  refine ⟨⟨k.by_.os.trans h.by_.os, k.by_.tape.trans h.by_.tape, k.by_.output.trans h.by_.output, Nat.le_trans h.by_.size k.by_.size, fun b hb hne => ?_⟩, ?_⟩
  · refine (k.by_.block b (Nat.lt_of_lt_of_le hb h.by_.size) ?_).trans (h.by_.block b hb hne)
    rcases h.at_ with h1 | h1
    · rw [h1]; exact hne
    · intro e; have := h1 b e.symm; omega
  · rcases k.at_ with k1 | k1
    · rcases h.at_ with h1 | h1
      · exact .inl (k1.trans h1)
      · exact .inr fun b hb => h1 b (k1 ▸ hb)
    · exact .inr fun b hb => Nat.le_trans h.by_.size (k1 b hb)
theorem Grew.alloc {w w1 : World} {v v1 : Value} (h : Grew w w1 v v1) (o : Obj) : Grew w (w1.alloc o) v v1 :=
  h.trans ⟨World.grownBy_alloc w1 o _, .inl rfl⟩
theorem Grew.mk' {w w' : World} {v v' : Value} (hg : w.grownBy w' v.ownBlock) (hv : v'.ownBlock = v.ownBlock ∨ v'.ownBlock = some w.heap.size) : Grew w w' v v' :=
  ⟨hg, hv.imp id fun h k hk => by rw [h] at hk; simp only [Option.some.injEq] at hk; omega⟩
structure SlT (P : Program) (t e : TypeId) (z : Value) (size bytes : Nat) : Prop where
  ht : P.underlying t = some (.slice e)
  info : (P.info? e).map (fun i => (i.zero, i.size, i.bytes)) = some (some z, size, bytes)
  zs : z.cells.size = size
  pos : 0 < size
section
variable {P : Program} {t e : TypeId} {z : Value} {bytes : Nat} {α : Type} {d : Rep α} {w : World} {base : Nat} {F : Nat → Prop} {v : Value} {xs ys : List α}
theorem run_append_nilsrc {size : Nat} (T : SlT P t e z size bytes) (ty : TypeId) {n : Nat} {cs : List Value} (h : w.ownsRow base e size v n cs) (c : Nat) (hn : n ≤ maxLen) : (Builtin.append_ #[t, t] ty #[v, .slice none 0 c]).run P w = .ok v w := by
  obtain ⟨i, hi, _⟩ := info_parts T.info
  rcases h.2 with ⟨rfl, rfl⟩ | ⟨g, cap, cur, rfl, hbg, hg, hnc, hcm, hcs, htake⟩
  · simp [Builtin.append_, run_underlying T.ht, sizeOf, typeInfo, hi, Builtin.lenOf, Builtin.firstCells]
  · simp [Builtin.append_, run_underlying T.ht, sizeOf, typeInfo, hi, Builtin.lenOf, Builtin.firstCells, loadCells, hnc, storeCells, Addr.add_lit]
theorem run_append_one (T : SlT P t e z d.sz bytes) (ty : TypeId) {w0 : World} (h : Rep.Own d e w0 base F v xs) {y : α} {c : List Value} {te : TypeId} (hy : d.rel w0 F y c) (hF : ∀ k, F k → k < w0.heap.size)
    (h63 : xs.length + 1 ≤ maxLen) (hbytes : (xs.length + 1) * bytes ≤ 140737488355328) (hbase : base ≤ w0.heap.size) :
    ∃ v' w', (Builtin.append_ #[t, t] ty #[v, .slice (some ⟨w0.heap.size, 0, none⟩) 1 1]).run P (w0.alloc (.cells c.toArray te)) = .ok v' w' ∧ Rep.Own d e w' base F v' (xs ++ [y]) ∧ Grew w0 w' v v' := by
  obtain ⟨i, hi, hz, hs, hb⟩ := info_parts T.info
  have hst : ∀ k, k < w0.heap.size → (w0.alloc (.cells c.toArray te)).heap[k]? = w0.heap[k]? := fun k hk => Below.heap_alloc w0 _ k hk
  obtain ⟨cs, h1, h2, h3⟩ := h.step (w1 := w0.alloc (.cells c.toArray te)) (fun k _ hl => hst k hl)
  have hy' := d.step (w1 := w0.alloc (.cells c.toArray te)) (G := F) (fun k hk hl => ⟨hk, hst k hl⟩) hy
  have hsz : w0.heap.size ≤ (w0.alloc (.cells c.toArray te)).heap.size := by simp
  obtain ⟨v', w', hr, ho, hg, _, hat⟩ := run_append_own_at (P := P) (w0.alloc (.cells c.toArray te)) base t ty e i z d.sz bytes T.ht hi hz hs hb T.zs T.pos v xs.length cs h1 ⟨w0.heap.size, 0, none⟩ 1 1 c
    (by rw [d.len hy, Nat.one_mul]) (fun j u hu => by rw [Addr.add_lit, Nat.zero_add, cell_of_row _ w0.heap.size j c.toArray te (0, 0) (heap_alloc_new w0 _)]; simpa using hu) (d.one hy) h63 hbytes (Nat.le_trans hbase hsz)
  refine ⟨v', w', hr, Rep.Own.appended (ys := [y]) h2 h3 (Rep.All.one hy') (fun k hk => Nat.lt_of_lt_of_le (hF k hk) hsz) hg ho hat, ?_⟩
  exact ((Grew.refl w0 v).alloc (.cells c.toArray te)).trans (Grew.mk' hg hat)
theorem wpList_one {ops : Array Oper} {rest : List Oper} {o : Oper} {a : Act} {Q : Exit → Act → World → Prop} (hgd : o.guard = none) (s x : Operand)
    (ho : o.op = .call { callee := .builtin .append, args := #[s, x], argTypes := #[t, t] }) (T : SlT P t e z d.sz bytes) {w0 : World} (hs : a.eval s = v) {c : List Value} {te : TypeId} (hx : a.eval x = .slice (some ⟨w0.heap.size, 0, none⟩) 1 1)
    (h : Rep.Own d e w0 base F v xs) {y : α} (hy : d.rel w0 F y c) (hF : ∀ k, F k → k < w0.heap.size)
    (h63 : xs.length + 1 ≤ maxLen) (hbytes : (xs.length + 1) * bytes ≤ 140737488355328) (hbase : base ≤ w0.heap.size)
    (k : ∀ v' w', Rep.Own d e w' base F v' (xs ++ [y]) → Grew w0 w' v v' → wpList P ops Q rest (a.put o.dst v') w') : wpList P ops Q (o :: rest) a (w0.alloc (.cells c.toArray te)) := by
  refine wpList_plain hgd fun K hK => ?_
  obtain ⟨v', w', hr, h2, h3⟩ := run_append_one T o.type h hy hF h63 hbytes hbase (te := te)
  unfold Oper.wp execOp
  simp only [ho, resolve, invoke, builtin, Sem.run_bind, Sem.run_pure, Result.andThen_ok, List.map_toArray, List.map_cons, List.map_nil, hs, hx, hr]
  exact hK _ _ (k v' w' h2 h3)
end
end Go.Proofs.Ytimjccfpobhpeaa
namespace Go.Proofs.Ytimjccfpobhpeaa
open Go.RowKit
theorem Rep.Own.lower {α : Type} {d : Rep α} {e : TypeId} {w : World} {base base' : Nat} {F : Nat → Prop} {v : Value} {xs : List α} (h : Rep.Own d e w base F v xs) (hb : base' ≤ base) : Rep.Own d e w base' F v xs := by
  obtain ⟨cs, ⟨h1, h2⟩, h3, h4⟩ := h
  refine ⟨cs, ⟨h1, ?_⟩, h3, h4⟩
  rcases h2 with h2 | ⟨g, cap, cur, hv, hg, r⟩
  · exact .inl h2
  · exact .inr ⟨g, cap, cur, hv, Nat.le_trans hb hg, r⟩
section
variable {P : Program} {t e : TypeId} {z : Value} {bytes : Nat} {α : Type} {d : Rep α} {w : World} {base : Nat} {F : Nat → Prop} {v : Value} {xs ys : List α} {xs' : List Int}
theorem Rep.Own.sl (h : Rep.Own d e w base F v xs) : ∃ A cap, v = .slice A xs.length cap ∧ Rep.Sl d w (fun k => F k ∨ v.ownBlock = some k) A cap xs := by
  obtain ⟨A, cap, he, hs⟩ := Rep.Own.rel h (G := fun k => F k ∨ v.ownBlock = some k) (fun _ hk => hk)
  exact ⟨A, cap, by simpa using he, hs⟩
end
end Go.Proofs.Ytimjccfpobhpeaa
namespace Go.Proofs.Ytimjccfpobhpeaa
open Go.RowKit Go.Shelf
set_option maxRecDepth 100000
attribute [local go_sem] Oper.semAt_some
theorem boolT : SlT Try.prog 53 4 (.bool false) 1 1 := by
  exact ⟨Try.underlying53, by kernel_rfl, rfl, by omega⟩
variable {α β : Type} {B : Nat} {f : β → List Bool}
instance (w : World) (G : Nat → Prop) : Nonempty (But w G) := ⟨But.refl w G⟩
def VarD (w : World) (g : Nat) (v : Value) (t : TypeId) : Prop := w.heap[g]? = some (.cells #[v] t (0, 0))
theorem VarD.cell {w : World} {g : Nat} {v : Value} {t : TypeId} (h : VarD w g v t) : w.cell? ⟨g, 0, none⟩ = some v := by
  rw [show (⟨g, 0, none⟩ : Addr) = ⟨g, 0, none⟩ from rfl, cell_of_row w g 0 _ _ _ h]; rfl
theorem VarD.free {w : World} {g : Nat} {v : Value} {t : TypeId} (h : VarD w g v t) : w.frozen? ⟨g, 0, none⟩ = false := frozen_of_row _ _ _ _ _ h
theorem VarD.lt {w : World} {g : Nat} {v : Value} {t : TypeId} (h : VarD w g v t) : g < w.heap.size := (Array.getElem?_eq_some_iff.1 h).1
theorem VarD.set {w : World} {g : Nat} {v : Value} {t : TypeId} (h : VarD w g v t) (u : Value) : VarD (w.setCell ⟨g, 0, none⟩ u) g u t := by
  exact heap_setCell_same w g 0 _ _ u h
theorem VarD.step {w w1 : World} {g : Nat} {v : Value} {t : TypeId} (h : VarD w g v t) (hb : w1.heap[g]? = w.heap[g]?) : VarD w1 g v t := hb.trans h
theorem VarD.ne {w : World} {g g' : Nat} {v v' : Value} {t t' : TypeId} (h : VarD w g v t) (k : VarD w g' v' t') (ht : t ≠ t') : g ≠ g' := by
  rintro rfl
  have := (show w.heap[g]? = _ from h).symm.trans k
  simp at this
  exact ht this.2
theorem own_not {d : Rep α} {e : TypeId} {W : World} {base : Nat} {F : Nat → Prop} {v : Value} {xs : List α} (h : Rep.Own d e W base F v xs) {g : Nat} {u : Value} {t : TypeId} (hg : VarD W g u t) (ht : t ≠ e) : v.ownBlock ≠ some g := by
  intro hk
  obtain ⟨cs, h1, _⟩ := h
  rcases h1.2 with ⟨rfl, _⟩ | ⟨g', cap, cur, rfl, _, hh, _⟩
  · simp [Value.ownBlock] at hk
  · have : g' = g := by simpa [Value.ownBlock] using hk
    subst this
    have := (show W.heap[g']? = _ from hg).symm.trans hh
    simp at this
    exact ht this.2
theorem own_cells {d : Rep α} {e : TypeId} {W : World} {base : Nat} {F : Nat → Prop} {v : Value} {xs : List α} (h : Rep.Own d e W base F v xs) {g : Nat} (hk : v.ownBlock = some g) : ∃ o : Obj, W.heap[g]? = some o ∧ o.isCells = true := by
  obtain ⟨cs, h1, _⟩ := h
  rcases h1.2 with ⟨rfl, _⟩ | ⟨g', cap, cur, rfl, _, hh, _⟩
  · simp [Value.ownBlock] at hk
  · have : g' = g := by simpa [Value.ownBlock] using hk
    subst this
    exact ⟨_, hh, rfl⟩
end Go.Proofs.Ytimjccfpobhpeaa
