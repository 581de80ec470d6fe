/- Joined by this session's own program out of its texts: FormZ BrForm PFx30 PFx42 PFx43 Chunk In Own Own2 DetInv. -/
import Derived.Test.YtimjccfpobhpeaaD5
import Derived.Test.YtimjccfpobhpeaaD1
import Derived.RangeFuncBox
import Derived.RangeFuncNested
import Derived.RangeFuncBound
import Derived.RangeFuncCalls
import Derived.RangeFuncLeaves
import Derived.Shelf.Abstract
import Derived.Shelf.RegionOpen
import Derived.WalkKit
import Derived.OwnWalkIn
import Derived.TacticsInMore
import Derived.LoopNIn
import Derived.LoopIn
import Derived.Maps.AppendAt
import Derived.Deep.QuietTactic
import Derived.BigQuiet
import Derived.Lib.Hide
import Derived.Test.YtimjccfpobhpeaaProg
import Derived.OrdersIn
import Derived.Test.YtimjccfpobhpeaaD4
import Derived.Deep.AppendLies
import Derived.Lib.AppendStr
import Derived.Deep.AppendSrc
namespace Go.Proofs.Ytimjccfpobhpeaa
open Go.RowKit Go.Proofs.YtimjccfpobhpeaaW.PrintWords Go.Proofs.Ytimjccfpobhpeaa.PF
set_option linter.unusedVariables false
section
variable {l0 l1 : List ByteArray} {l2 : List S82} {l3 : List Kr} {l4 : List Int}
theorem z_l2 (x8 x9 x73 x74 x93 : Int) (x72 : List Kr) (xs : List Int) : ∀ (k : Nat) (x94 : Int), Ze.l2 k x8 x9 x72 x73 x74 xs x93 x94 l0 l1 l2 l3 l4 = some 0 → ∃ k', k' < k ∧ Ze.l1 k' x8 x72 x73 (wrap64 (x74 + 1)) l0 l1 l2 l3 l4 = some 0
  | 0, x94, h => by
    rw [Ze.l2] at h
    cases h
  | k + 1, x94, h => by
    rw [Ze.l2] at h
    split at h
    · split at h
      · split at h
        · split at h
          · simp at h
          · split at h
            · simp at h
            · obtain ⟨k', h1, h2⟩ := z_l2 x8 x9 x73 x74 x93 x72 xs k _ h
              exact ⟨k', by omega, h2⟩
        · cases h
      · cases h
    · exact ⟨k, by omega, h⟩
theorem z_l1 (x8 : Int) (c3 : l3.length ≤ 1200) (k : Nat) : ∀ (i : Nat), Ze.l1 k x8 l3 l3.length i l0 l1 l2 l3 l4 = some 0 → ∀ j, i ≤ j → ∀ x, l3[j]? = some x → Go.bits .andNot .u64 x.f1 (maskF x.f2.length) = 0 := by
  induction k using Nat.strongRecOn with
  | ind k ih =>
    intro i h j hj x hx
    have hjl := (List.getElem?_eq_some_iff.1 hx).1
    cases k with
    | zero =>
      rw [Ze.l1] at h
      cases h
    | succ k =>
      obtain ⟨y, hy⟩ := at_ex (show i < l3.length by omega)
      rw [Ze.l1, if_pos (by omega), if_pos (by omega), if_pos (by omega), rdG_at hy, mask_some, Option.bind_some] at h
      split at h
      · simp at h
      · split at h
        · rename_i q1 q2
          by_cases hji : j = i
          · subst hji
            rw [hy] at hx
            cases hx
            exact q2
          · obtain ⟨k', h1, h2⟩ := z_l2 _ _ _ _ _ _ _ _ _ h
            rw [Qj (by omega) (by omega)] at h2
            exact ih k' (by omega) (i + 1) h2 j (by omega) x hx
        · simp at h
theorem z_l0 (c0 : l0.length ≤ 128) (c2 : l2.length ≤ 288) (c3 : l3.length ≤ 1200) : ∀ (k i : Nat) (names : List ByteArray), Ze.l0 k names l2 l2.length i l0 l1 l2 l3 l4 = some 0 → i ≤ l2.length → namesF [] (names ++ (l2.drop i).map (·.f0)) = 0 ∧ namesF [] l1 = 0 ∧ ∀ x ∈ l3, Go.bits .andNot .u64 x.f1 (maskF x.f2.length) = 0
  | 0, i, names, h, hi => by
    rw [Ze.l0] at h
    cases h
  | k + 1, i, names, h, hi => by
    rw [Ze.l0] at h
    by_cases hlt : i < l2.length
    · obtain ⟨x, hx⟩ := at_ex hlt
      rw [if_pos (by omega), if_pos (by omega), if_pos (by omega), rdF_at hx, Qj (by omega) (by omega)] at h
      split at h
      · have := z_l0 c0 c2 c3 k (i + 1) _ h (by omega)
        rw [List.append_assoc] at this
        rw [List.drop_eq_getElem_cons hlt, List.map_cons]
        rw [List.getElem?_eq_getElem hlt] at hx
        injection hx with hx
        rw [hx]
        exact this
      · cases h
    · rw [if_neg (by omega)] at h
      have h2 : (if namesF [] names = 0 then (if namesF [] l1 = 0 then Ze.l1 k (wrap64 (wrap64 (2 + (l0.length : Int)) + l2.length)) l3 l3.length 0 l0 l1 l2 l3 l4 else some (namesF [] l1)) else some (namesF [] names)) = some 0 := h
      split at h2
      · rename_i q1
        split at h2
        · rename_i q2
          rw [List.drop_of_length_le (by omega), List.map_nil, List.append_nil]
          refine ⟨q1, q2, fun x hx => ?_⟩
          obtain ⟨j, hj⟩ := List.getElem?_of_mem hx
          exact z_l1 _ c3 k 0 h2 j (Nat.zero_le _) x hj
        · rename_i q2
          injection h2 with h2
          exact absurd h2 q2
      · rename_i q1
        injection h2 with h2
        exact absurd h2 q1
theorem form_nm {k : Nat} (h : Ze.f k l0 l1 l2 l3 l4 = some 0) : FormOk l0 l1 l2 l3 l4 ∧ FormNm l0 l1 l2 l3 := by
  obtain ⟨k1, e, h1, h2⟩ := form_ex l0 l1 l2 l3 l4
  have a1 := upK (Ze.mono l0 l1 l2 l3 l4) (show k ≤ k + k1 by omega) h
  have a2 := upK (Ze.mono l0 l1 l2 l3 l4) (show k1 ≤ k + k1 by omega) h1
  rw [a1] at a2
  injection a2 with a2
  have ok := h2 a2.symm
  have b0 := ok.c0
  have b1 := ok.c1
  have b2 := ok.c2
  have b3 := ok.c3
  have b4 := ok.c4
  refine ⟨ok, ?_⟩
  rw [Ze.f, if_neg (by omega), if_neg (by omega), if_neg (by omega), decide_eq_false (by omega)] at h
  cases k with
  | zero =>
    rw [Ze.j0] at h
    cases h
  | succ k =>
    rw [Ze.j0, if_neg (by decide), if_pos (by omega)] at h
    unfold Qk.f at h
    rw [if_pos (by omega), Option.bind_some] at h
    obtain ⟨r1, r2, r3⟩ := z_l0 b0 b2 b3 k 0 l0 h (Nat.zero_le _)
    exact ⟨by simpa using r1, r2, r3⟩
end
end Go.Proofs.Ytimjccfpobhpeaa
namespace Go.Proofs.Ytimjccfpobhpeaa
open Go.RowKit Go.Proofs.YtimjccfpobhpeaaW.PrintWords Go.Proofs.Ytimjccfpobhpeaa.PF
set_option linter.unusedVariables false
section
variable {l0 l1 : List ByteArray} {l2 : List FlopS} {l3 : List GateS} {l4 : List Int} {nv : Load → Int → Int}
def NvOk (nv : Load → Int → Int) : Prop := ∀ l x, nv l x = x ∨ nv l x = 0 ∨ nv l x = 1
theorem newv_ok (net load : Int) (one : Bool) (m : List ((Int × Int × Int) × Int)) : NvOk (newv net load (if one = true then 1 else 0) m) := by
  intro l x
  unfold newv
  split
  · cases one
    · exact .inr (.inl rfl)
    · exact .inr (.inr rfl)
  · exact .inl rfl
theorem NvOk.rng (h : NvOk nv) {l : Load} {x n : Int} (h0 : 0 ≤ x) (h1 : x < n) (hn : 2 ≤ n) : 0 ≤ nv l x ∧ nv l x < n := by
  rcases h l x with e | e | e <;> rw [e] <;> omega
theorem br_form (hv : NvOk nv) (ok : FormOk l0 l1 l2 l3 l4) (nm : FormNm l0 l1 l2 l3) :
    FormOk l0 l1 (brFlops nv l2 0) (brGates nv l3 0) (brOuts nv l4 0) ∧ FormNm l0 l1 (brFlops nv l2 0) (brGates nv l3 0) := by
  have e2 := brFlops_len nv l2 0
  have e3 := brGates_len nv l3 0
  have e4 := brOuts_len nv l4 0
  constructor
  · refine ⟨ok.c0, ok.c1, by rw [e2]; exact ok.c2, by rw [e3]; exact ok.c3, by rw [e4]; exact ok.c4, fun i x hx => ?_, fun x hx => ?_, fun x hx => ?_⟩
    · rw [brGates_at] at hx
      obtain ⟨g, hg, rfl⟩ := Option.map_eq_some_iff.1 hx
      obtain ⟨p1, p2⟩ := ok.pins i g hg
      refine ⟨by simp only [brPins_len]; exact p1, fun y hy => ?_⟩
      obtain ⟨k, hk⟩ := List.getElem?_of_mem hy
      simp only [brPins_at] at hk
      obtain ⟨z, hz, rfl⟩ := Option.map_eq_some_iff.1 hk
      obtain ⟨r1, r2⟩ := p2 z (List.mem_of_getElem? hz)
      rw [e2]
      exact hv.rng r1 r2 (by omega)
    · obtain ⟨i, hi⟩ := List.getElem?_of_mem hx
      rw [brFlops_at] at hi
      obtain ⟨f, hf, rfl⟩ := Option.map_eq_some_iff.1 hi
      obtain ⟨r1, r2, r3, r4⟩ := ok.flops f (List.mem_of_getElem? hf)
      rw [e2, e3]
      exact ⟨(hv.rng r1 r2 (by omega)).1, (hv.rng r1 r2 (by omega)).2, (hv.rng r3 r4 (by omega)).1, (hv.rng r3 r4 (by omega)).2⟩
    · obtain ⟨i, hi⟩ := List.getElem?_of_mem hx
      rw [brOuts_at] at hi
      obtain ⟨z, hz, rfl⟩ := Option.map_eq_some_iff.1 hi
      obtain ⟨r1, r2⟩ := ok.outs z (List.mem_of_getElem? hz)
      rw [e2, e3]
      exact hv.rng r1 r2 (by omega)
  · have hn : (brFlops nv l2 0).map (·.f0) = l2.map (·.f0) := by
      apply List.ext_getElem?
      intro i
      rw [List.getElem?_map, List.getElem?_map, brFlops_at]
      cases l2[i]? <;> rfl
    refine ⟨by rw [hn]; exact nm.n0, nm.n1, fun x hx => ?_⟩
    obtain ⟨i, hi⟩ := List.getElem?_of_mem hx
    rw [brGates_at] at hi
    obtain ⟨g, hg, rfl⟩ := Option.map_eq_some_iff.1 hi
    simp only [brPins_len]
    exact nm.tabs g (List.mem_of_getElem? hg)
end
end Go.Proofs.Ytimjccfpobhpeaa
namespace Go.Proofs.Ytimjccfpobhpeaa.PF
open Go.RowKit Go.Proofs.YtimjccfpobhpeaaW.PrintWords Go.Proofs.YtimjccfpobhpeaaW.PrintLast Go.Proofs.YtimjccfpobhpeaaW.PrintMore
attribute [local go_sem] Qq Kt
set_option linter.unusedVariables false
set_option linter.unusedSimpArgs false
def Zt.l0 : Nat → List Bool → List Bool → Int → Int → Option (Bool)
  | 0, _, _, _, _ => none
  | k + 1, x0, x1, x12, x13 => if x13 < x12 then (if 0 ≤ x13 then (if x13 < (x0.length : Int) then (if x13 < (x1.length : Int) then (if ((rdOf false x0 x13) != (rdOf false x1 x13)) = true then (some false) else (Zt.l0 k x0 x1 x12 (wrap64 (x13 + 1)))) else (none)) else (none)) else (none)) else (some true)
def Zt.f (k : Nat) (l0 : List Bool) (l1 : List Bool) : Option (Bool) := if (l0.length : Int) = (l1.length : Int) then (Zt.l0 k l0 l1 (l0.length : Int) 0) else (some false)
set_option maxHeartbeats 8000000 in
set_option maxRecDepth 100000 in
theorem Zt.calls (k : Nat) (A0 : Option Addr) (c0 : Nat) (l0 : List Bool) (A1 : Option Addr) (c1 : Nat) (l1 : List Bool) (r : Bool) (w : World) (hr0 : Kd.C Kd.bool w A0 l0.length l0) (hc0 : l0.length ≤ c0) (hr1 : Kd.C Kd.bool w A1 l1.length l1) (hc1 : l1.length ≤ c1) (h : Zt.f k l0 l1 = some r) :
 Calls Try.prog 23 #[.slice A0 l0.length c0, .slice A1 l1.length c1] w fun e w' => e = .returned (.bool r) ∧ Qh w w' := by
 have HR0 := Za.mk hr0
 have HC0 := Za.mk hc0
 clear hr0 hc0
 have HR1 := Za.mk hr1
 have HC1 := Za.mk hc1
 clear hr1 hc1
 have H : (if (l0.length : Int) = (l1.length : Int) then (Zt.l0 k l0 l1 (l0.length : Int) 0) else (some false)) = some r := h
 clear h
 by_cases c3 : (l0.length : Int) = (l1.length : Int)
 ·rw [if_pos c3] at H
  have c3b0 : ((l0.length : Int) == (l1.length : Int)) = true := beq_iff_eq.mpr c3
  have c3b1 : ((l0.length : Int) != (l1.length : Int)) = false := bne_eq_false_iff_eq.mpr c3
  have c3b2 : (l0.length == l1.length) = true := by first | simpa using c3 | (simp at c3 ⊢; omega)
  clear c3
  have H' := Za.mk H
  clear H
  go_enter Try.func23, Try.ntmps23
  go_wp2
  repeat (go_quiet (fail); try go_wp2)
  go_loopg [13] k (fun kq v13 w' => ∃ (x13_1 : Int), v13 = .int .i64 x13_1 ∧ Za (Zt.l0 kq l0 l1 (l0.length : Int) x13_1 = some r) ∧ Za (kq ≤ k) ∧ Qh w w')
  case atStart => exact ⟨(0), (by first | rfl | (simp; done) | (simp [*]; done)), H', ⟨Nat.le_refl _⟩, by repeat (first | exact Qh.refl _ | apply Qh.step)⟩
  case round =>
   clear H'
   try clear c3b0
   try clear c3b1
   try clear c3b2
   obtain ⟨x13_1, rfl, HA, HK1, ⟨m1, rfl⟩⟩ := hrel
   cases gk with
   | zero => exact absurd HA.out (by simp [Zt.l0])
   | succ k1 =>
    have H := HA.out
    clear HA
    simp only [Zt.l0] at H
    by_cases c4 : x13_1 < (l0.length : Int)
    ·rw [if_pos c4] at H
     have c4b0 : decide (x13_1 < (l0.length : Int)) = true := decide_eq_true c4
     clear c4
     by_cases c5 : 0 ≤ x13_1
     ·rw [if_pos c5] at H
      have c5b0 : decide (0 ≤ x13_1) = true := decide_eq_true c5
      clear c5
      by_cases c6 : x13_1 < (l0.length : Int)
      ·rw [if_pos c6] at H
       have c6b0 : decide (x13_1 < (l0.length : Int)) = true := decide_eq_true c6
       clear c6
       by_cases c7 : x13_1 < (l1.length : Int)
       ·rw [if_pos c7] at H
        have c7b0 : decide (x13_1 < (l1.length : Int)) = true := decide_eq_true c7
        clear c7
        by_cases c8 : ((rdOf false l0 x13_1) != (rdOf false l1 x13_1)) = true
        ·rw [if_pos c8] at H
         have c8b0 : ((rdOf false l0 x13_1) != (rdOf false l1 x13_1)) = true := c8
         (try (have c8b1 : decide ((rdOf false l0 x13_1) = (rdOf false l1 x13_1)) = false := by simpa using c8))
         (try (have c8b2 : ((rdOf false l0 x13_1) == (rdOf false l1 x13_1)) = false := by simpa using c8))
         (try (have c8b3 : ¬ ((rdOf false l0 x13_1) = (rdOf false l1 x13_1)) := by simpa using c8))
         clear c8
         obtain rfl := Option.some.inj H
         have p300 : 0 ≤ (x13_1 : Int) := of_decide_eq_true (by first | (with_reducible assumption) | assumption)
         have q300 : x13_1 < (l0.length : Int) := of_decide_eq_true (by first | (with_reducible assumption) | assumption)
         obtain ⟨ad300, e300, hx300_0⟩ := Kd.at_bool HR0.out x13_1 p300 q300
         cases e300
         replace p300 := eq_true p300
         replace q300 := eq_true q300
         have p301 : 0 ≤ (x13_1 : Int) := of_decide_eq_true (by first | (with_reducible assumption) | assumption)
         have q301 : x13_1 < (l1.length : Int) := of_decide_eq_true (by first | (with_reducible assumption) | assumption)
         obtain ⟨ad301, e301, hx301_0⟩ := Kd.at_bool HR1.out x13_1 p301 q301
         cases e301
         replace p301 := eq_true p301
         replace q301 := eq_true q301
         go_wp2
         repeat (go_quiet (fail); try go_wp2)
         go_ret
         exact ⟨by first | rfl | (simp; done) | (simp [*]; done), by repeat (first | exact Qh.refl _ | apply Qh.step)⟩
        ·rw [if_neg c8] at H
         have c8b0 : ((rdOf false l0 x13_1) != (rdOf false l1 x13_1)) = false := by simpa using c8
         (try (have c8b1 : decide ((rdOf false l0 x13_1) = (rdOf false l1 x13_1)) = true := by simpa using c8))
         (try (have c8b2 : ((rdOf false l0 x13_1) == (rdOf false l1 x13_1)) = true := by simpa using c8))
         clear c8
         have H' := Za.mk H
         clear H
         have p300 : 0 ≤ (x13_1 : Int) := of_decide_eq_true (by first | (with_reducible assumption) | assumption)
         have q300 : x13_1 < (l0.length : Int) := of_decide_eq_true (by first | (with_reducible assumption) | assumption)
         obtain ⟨ad300, e300, hx300_0⟩ := Kd.at_bool HR0.out x13_1 p300 q300
         cases e300
         replace p300 := eq_true p300
         replace q300 := eq_true q300
         have p301 : 0 ≤ (x13_1 : Int) := of_decide_eq_true (by first | (with_reducible assumption) | assumption)
         have q301 : x13_1 < (l1.length : Int) := of_decide_eq_true (by first | (with_reducible assumption) | assumption)
         obtain ⟨ad301, e301, hx301_0⟩ := Kd.at_bool HR1.out x13_1 p301 q301
         cases e301
         replace p301 := eq_true p301
         replace q301 := eq_true q301
         go_wp2
         repeat (go_quiet (fail); try go_wp2)
         go_roundg k1
         case measure => have := HK1.out; omega
         case rel => exact ⟨(wrap64 (x13_1 + 1)), (by first | rfl | (simp; done) | (simp [*]; done)), H', ⟨by have := HK1.out; omega⟩, by repeat (first | exact Qh.refl _ | apply Qh.step)⟩
       ·rw [if_neg c7] at H
        exact absurd H (by simp)
      ·rw [if_neg c6] at H
       exact absurd H (by simp)
     ·rw [if_neg c5] at H
      exact absurd H (by simp)
    ·rw [if_neg c4] at H
     have c4b0 : decide (x13_1 < (l0.length : Int)) = false := decide_eq_false c4
     clear c4
     obtain rfl := Option.some.inj H
     go_wp2
     repeat (go_quiet (fail); try go_wp2)
     go_ret
     exact ⟨by first | rfl | (simp; done) | (simp [*]; done), by repeat (first | exact Qh.refl _ | apply Qh.step)⟩
 ·rw [if_neg c3] at H
  have c3b0 : ((l0.length : Int) == (l1.length : Int)) = false := beq_eq_false_iff_ne.mpr c3
  have c3b1 : ((l0.length : Int) != (l1.length : Int)) = true := bne_iff_ne.mpr c3
  have c3b2 : (l0.length == l1.length) = false := by first | simpa using c3 | (simp at c3 ⊢; omega)
  obtain rfl := Option.some.inj H
  go_enter Try.func23, Try.ntmps23
  go_wp2
  repeat (go_quiet (fail); try go_wp2)
  go_ret
  exact ⟨by first | rfl | (simp; done) | (simp [*]; done), by repeat (first | exact Qh.refl _ | apply Qh.step)⟩
def Xo.l0 : Nat → List (S55) → Int → Int → List ByteArray → List ByteArray → List (S82) → List (Kr) → List Int → Option (Int)
  | 0, _, _, _, _, _, _, _, _ => none
  | k + 1, x10, x11, x12, x303000, x303001, x303002, x303003, x303004 => if x12 < x11 then (if 0 ≤ x12 then (if x12 < (x10.length : Int) then (if (((Zz x10 x12).f0).length : Int) = (x303000.length : Int) then (if (((Zz x10 x12).f1).length : Int) = (x303002.length : Int) then (Xo.l0 k x10 x11 (wrap64 (x12 + 1)) x303000 x303001 x303002 x303003 x303004) else (some 4)) else (some 4)) else (none)) else (none)) else (some 0)
def Xo.f (k : Nat) (l0_0 : List ByteArray) (l0_1 : List ByteArray) (l0_2 : List (S82)) (l0_3 : List (Kr)) (l0_4 : List Int) (l1 : List (S55)) : Option (Int) := if (l1.length : Int) > 256 then (some 3) else (Xo.l0 k l1 (l1.length : Int) 0 l0_0 l0_1 l0_2 l0_3 l0_4)
set_option maxHeartbeats 8000000 in
set_option maxRecDepth 100000 in
theorem Xo.calls (k : Nat) (A0_0 : Option Addr) (c0_0 : Nat) (l0_0 : List ByteArray) (A0_1 : Option Addr) (c0_1 : Nat) (l0_1 : List ByteArray) (A0_2 : Option Addr) (c0_2 : Nat) (l0_2 : List (S82)) (A0_3 : Option Addr) (c0_3 : Nat) (l0_3 : List (Kr)) (A0_4 : Option Addr) (c0_4 : Nat) (l0_4 : List Int) (A1 : Option Addr) (c1 : Nat) (l1 : List (S55)) (r : Int) (w : World) (hr0_0 : Kd.C Kd.string w A0_0 l0_0.length l0_0) (hc0_0 : l0_0.length ≤ c0_0) (hr0_1 : Kd.C Kd.string w A0_1 l0_1.length l0_1) (hc0_1 : l0_1.length ≤ c0_1) (hr0_2 : Kd.C k82 w A0_2 l0_2.length l0_2) (hc0_2 : l0_2.length ≤ c0_2) (hr0_3 : Kd.C k80 w A0_3 l0_3.length l0_3) (hc0_3 : l0_3.length ≤ c0_3) (hr0_4 : Kd.C (Kd.int .i64) w A0_4 l0_4.length l0_4) (hc0_4 : l0_4.length ≤ c0_4) (hr1 : Kd.C k55 w A1 l1.length l1) (hc1 : l1.length ≤ c1) (h : Xo.f k l0_0 l0_1 l0_2 l0_3 l0_4 l1 = some r) :
 Calls Try.prog 45 #[.agg #[.slice A0_0 l0_0.length c0_0, .slice A0_1 l0_1.length c0_1, .slice A0_2 l0_2.length c0_2, .slice A0_3 l0_3.length c0_3, .slice A0_4 l0_4.length c0_4], .slice A1 l1.length c1] w fun e w' => e = .returned (.int .i64 r) ∧ Below w.heap.size w w' := by
 have hu27 := Try.underlying27
 have hu55 := Try.underlying55
 have HR0_0 := Za.mk hr0_0
 have HC0_0 := Za.mk hc0_0
 clear hr0_0 hc0_0
 have HR0_1 := Za.mk hr0_1
 have HC0_1 := Za.mk hc0_1
 clear hr0_1 hc0_1
 have HR0_2 := Za.mk hr0_2
 have HC0_2 := Za.mk hc0_2
 clear hr0_2 hc0_2
 have HR0_3 := Za.mk hr0_3
 have HC0_3 := Za.mk hc0_3
 clear hr0_3 hc0_3
 have HR0_4 := Za.mk hr0_4
 have HC0_4 := Za.mk hc0_4
 clear hr0_4 hc0_4
 have HR1 := Za.mk hr1
 have HC1 := Za.mk hc1
 clear hr1 hc1
 have HB := Za.mk (Below.refl w.heap.size w)
 have H : (if (l1.length : Int) > 256 then (some 3) else (Xo.l0 k l1 (l1.length : Int) 0 l0_0 l0_1 l0_2 l0_3 l0_4)) = some r := h
 clear h
 by_cases c3 : (l1.length : Int) > 256
 ·rw [if_pos c3] at H
  have c3b0 : decide (256 < (l1.length : Int)) = true := decide_eq_true c3
  have c3b1 : decide (256 < l1.length) = true := decide_eq_true (by omega)
  clear c3
  obtain rfl := Option.some.inj H
  go_enter Try.func45, Try.ntmps45
  go_wp2_with (((with_reducible refine Xg (N := 2) rfl ?_); (try (refine Qe (by rfl) ?_; dsimp only)); refine Xk ?hg (N := 2) ?hd (cs := #[.slice A0_0 l0_0.length c0_0, .slice A0_1 l0_1.length c0_1, .slice A0_2 l0_2.length c0_2, .slice A0_3 l0_3.length c0_3, .slice A0_4 l0_4.length c0_4]) (t := 27) ?hr ?_; (case hd => rfl); (case hg => rfl); (case hr => first | (go_simp; done) | (go_simp; rfl)); intro gb302 hg w4 hbox hb; have n0_ := Za.mk (Zh HB.out hb); have n1_ := Za.mk (hbox); have n2_ := Za.mk ((by rw [hg]; exact (Zg HB.out) : w.heap.size ≤ gb302)); have n3_ := n2_; clear HB; have HB := n0_; have BK302 := n1_; have GW302 := n2_; have GE302 := n3_; clear n0_ n1_ n2_ n3_; clear hb hbox hg))
  go_ret
  exact ⟨by first | rfl | (simp [errW_none, errW_some] <;> rfl) | (simp [*, errW_none, errW_some] <;> rfl), HB.out⟩
 ·rw [if_neg c3] at H
  have c3b0 : decide (256 < (l1.length : Int)) = false := decide_eq_false c3
  have c3b1 : decide (256 < l1.length) = false := decide_eq_false (by omega)
  clear c3
  have H' := Za.mk H
  clear H
  go_enter Try.func45, Try.ntmps45
  go_wp2_with (((with_reducible refine Xg (N := 2) rfl ?_); (try (refine Qe (by rfl) ?_; dsimp only)); refine Xk ?hg (N := 2) ?hd (cs := #[.slice A0_0 l0_0.length c0_0, .slice A0_1 l0_1.length c0_1, .slice A0_2 l0_2.length c0_2, .slice A0_3 l0_3.length c0_3, .slice A0_4 l0_4.length c0_4]) (t := 27) ?hr ?_; (case hd => rfl); (case hg => rfl); (case hr => first | (go_simp; done) | (go_simp; rfl)); intro gb302 hg w5 hbox hb; have n0_ := Za.mk (Zh HB.out hb); have n1_ := Za.mk (hbox); have n2_ := Za.mk ((by rw [hg]; exact (Zg HB.out) : w.heap.size ≤ gb302)); have n3_ := n2_; clear HB; have HB := n0_; have BK302 := n1_; have GW302 := n2_; have GE302 := n3_; clear n0_ n1_ n2_ n3_; clear hb hbox hg))
  go_loopg [12] k (fun kq v12 w' => ∃ (x12_1 : Int), v12 = .int .i64 x12_1 ∧ Za (Xo.l0 kq l1 (l1.length : Int) x12_1 l0_0 l0_1 l0_2 l0_3 l0_4 = some r) ∧ Za (kq ≤ k) ∧ Za (w'.heap[gb302]? = some (.cells #[(.slice A0_0 l0_0.length c0_0), (.slice A0_1 l0_1.length c0_1), (.slice A0_2 l0_2.length c0_2), (.slice A0_3 l0_3.length c0_3), (.slice A0_4 l0_4.length c0_4)] 27 (0, 0))) ∧ Za (Below w.heap.size w w'))
  case atStart => exact ⟨(0), (by first | rfl | (simp; done) | (simp [*]; done)), H', ⟨Nat.le_refl _⟩, ⟨BK302.out⟩, ⟨HB.out⟩⟩
  case round =>
   clear H'
   try clear c3b0
   try clear c3b1
   obtain ⟨x12_1, rfl, HA, HK1, BK302, HB⟩ := hrel
   cases gk with
   | zero => exact absurd HA.out (by simp [Xo.l0])
   | succ k1 =>
    have H := HA.out
    clear HA
    simp only [Xo.l0] at H
    by_cases c6 : x12_1 < (l1.length : Int)
    ·rw [if_pos c6] at H
     have c6b0 : decide (x12_1 < (l1.length : Int)) = true := decide_eq_true c6
     clear c6
     by_cases c7 : 0 ≤ x12_1
     ·rw [if_pos c7] at H
      have c7b0 : decide (0 ≤ x12_1) = true := decide_eq_true c7
      clear c7
      by_cases c8 : x12_1 < (l1.length : Int)
      ·rw [if_pos c8] at H
       have c8b0 : decide (x12_1 < (l1.length : Int)) = true := decide_eq_true c8
       clear c8
       by_cases c9 : (((Zz l1 x12_1).f0).length : Int) = (l0_0.length : Int)
       ·rw [if_pos c9] at H
        have c9b0 : ((((Zz l1 x12_1).f0).length : Int) == (l0_0.length : Int)) = true := beq_iff_eq.mpr c9
        have c9b1 : ((((Zz l1 x12_1).f0).length : Int) != (l0_0.length : Int)) = false := bne_eq_false_iff_eq.mpr c9
        have c9b2 : (((Zz l1 x12_1).f0).length == l0_0.length) = true := by first | simpa using c9 | (simp at c9 ⊢; omega)
        clear c9
        by_cases c10 : (((Zz l1 x12_1).f1).length : Int) = (l0_2.length : Int)
        ·rw [if_pos c10] at H
         have c10b0 : ((((Zz l1 x12_1).f1).length : Int) == (l0_2.length : Int)) = true := beq_iff_eq.mpr c10
         have c10b1 : ((((Zz l1 x12_1).f1).length : Int) != (l0_2.length : Int)) = false := bne_eq_false_iff_eq.mpr c10
         have c10b2 : (((Zz l1 x12_1).f1).length == l0_2.length) = true := by first | simpa using c10 | (simp at c10 ⊢; omega)
         clear c10
         have H' := Za.mk H
         clear H
         have p303 : 0 ≤ (x12_1 : Int) := of_decide_eq_true (by first | (with_reducible assumption) | assumption)
         have q303 : x12_1 < (l1.length : Int) := of_decide_eq_true (by first | (with_reducible assumption) | assumption)
         obtain ⟨ad303, A303_0, c303_0, A303_1, c303_1, e303, hx303_0, hx303_1, hl303_0, hi303_0, hl303_1, hi303_1⟩ := at_T55 HR1.out x12_1 p303 q303
         cases e303
         replace hx303_0 := (HB.out.cell (World.block_lt_of_cell? w _ hx303_0)).trans hx303_0
         replace hx303_1 := (HB.out.cell (World.block_lt_of_cell? w _ hx303_1)).trans hx303_1
         have HR303_0 := Za.mk hi303_0
         have HC303_0 := Za.mk hl303_0
         clear hi303_0 hl303_0
         have HR303_1 := Za.mk hi303_1
         have HC303_1 := Za.mk hl303_1
         clear hi303_1 hl303_1
         replace p303 := eq_true p303
         replace q303 := eq_true q303
         go_wp2_with (((with_reducible refine Xg (N := 6) rfl ?_); (try (refine Qe (by rfl) ?_; dsimp only)); refine Xk ?hg (N := 6) ?hd (cs := #[.slice none 0 0, .slice none 0 0]) (t := 55) ?hr ?_; (case hd => rfl); (case hg => rfl); (case hr => first | (go_simp; done) | (go_simp; rfl)); intro gb304 hg w11 hbox hb; have n0_ := Za.mk (Zo BK302.out hb); have n1_ := Za.mk (Zh HB.out hb); have n2_ := Za.mk (hbox); have n3_ := Za.mk ((by rw [hg]; exact (Zg HB.out) : w.heap.size ≤ gb304)); have n4_ := n3_; have n5_ := Za.mk ((by rw [hg]; exact Nat.ne_of_lt (Xz BK302.out) : gb302 ≠ gb304)); have n6_ := Za.mk ((by rw [hg]; exact Nat.ne_of_gt (Xz BK302.out) : gb304 ≠ gb302)); clear BK302; clear HB; have BK302 := n0_; have HB := n1_; have BK304 := n2_; have GW304 := n3_; have GE304 := n4_; have NB302_304 := n5_; have NB304_302 := n6_; clear n0_ n1_ n2_ n3_ n4_ n5_ n6_; clear hb hbox hg; have hnb12 := NB304_302.out; have hnc12 := NB302_304.out; have hcz13_0 : w11.cell? ⟨gb304, 0, none⟩ = some (.slice none 0 0) := (Zc BK304.out 0).trans rfl; have hcz13_1 : w11.cell? ⟨gb304, 1, none⟩ = some (.slice none 0 0) := (Zc BK304.out 1).trans rfl; have hfz13_0 := Zb BK304.out 0; have hfz13_1 := Zb BK304.out 1; have hcz14_0 : w11.cell? ⟨gb302, 0, none⟩ = some (.slice A0_0 l0_0.length c0_0) := (Zc BK302.out 0).trans rfl; have hcz14_1 : w11.cell? ⟨gb302, 1, none⟩ = some (.slice A0_1 l0_1.length c0_1) := (Zc BK302.out 1).trans rfl; have hcz14_2 : w11.cell? ⟨gb302, 2, none⟩ = some (.slice A0_2 l0_2.length c0_2) := (Zc BK302.out 2).trans rfl; have hcz14_3 : w11.cell? ⟨gb302, 3, none⟩ = some (.slice A0_3 l0_3.length c0_3) := (Zc BK302.out 3).trans rfl; have hcz14_4 : w11.cell? ⟨gb302, 4, none⟩ = some (.slice A0_4 l0_4.length c0_4) := (Zc BK302.out 4).trans rfl; have hfz14_0 := Zb BK302.out 0; have hfz14_1 := Zb BK302.out 1; have hfz14_2 := Zb BK302.out 2; have hfz14_3 := Zb BK302.out 3; have hfz14_4 := Zb BK302.out 4))
         go_roundg k1
         case measure => have := HK1.out; omega
         case rel => exact ⟨(wrap64 (x12_1 + 1)), (by first | rfl | (simp; done) | (simp [*]; done)), H', ⟨by have := HK1.out; omega⟩, ⟨by (with_reducible repeat (first | refine Zk ?_ _ | refine Zm ?_ | refine Zj ?_ _)); refine Qc ?_ NB302_304.out _; (with_reducible repeat (first | refine Zk ?_ _ | refine Zm ?_ | refine Zj ?_ _)); refine Qc ?_ NB302_304.out _; (with_reducible repeat (first | refine Zk ?_ _ | refine Zm ?_ | refine Zj ?_ _)); exact BK302.out⟩, ⟨by repeat (first | (with_reducible first | exact HB.out | apply Zn | apply Zq | apply Zv | refine Zl ?_ GE302.out | refine Zl ?_ GE304.out) | exact HB.out)⟩⟩
        ·rw [if_neg c10] at H
         have c10b0 : ((((Zz l1 x12_1).f1).length : Int) == (l0_2.length : Int)) = false := beq_eq_false_iff_ne.mpr c10
         have c10b1 : ((((Zz l1 x12_1).f1).length : Int) != (l0_2.length : Int)) = true := bne_iff_ne.mpr c10
         have c10b2 : (((Zz l1 x12_1).f1).length == l0_2.length) = false := by first | simpa using c10 | (simp at c10 ⊢; omega)
         obtain rfl := Option.some.inj H
         have p303 : 0 ≤ (x12_1 : Int) := of_decide_eq_true (by first | (with_reducible assumption) | assumption)
         have q303 : x12_1 < (l1.length : Int) := of_decide_eq_true (by first | (with_reducible assumption) | assumption)
         obtain ⟨ad303, A303_0, c303_0, A303_1, c303_1, e303, hx303_0, hx303_1, hl303_0, hi303_0, hl303_1, hi303_1⟩ := at_T55 HR1.out x12_1 p303 q303
         cases e303
         replace hx303_0 := (HB.out.cell (World.block_lt_of_cell? w _ hx303_0)).trans hx303_0
         replace hx303_1 := (HB.out.cell (World.block_lt_of_cell? w _ hx303_1)).trans hx303_1
         have HR303_0 := Za.mk hi303_0
         have HC303_0 := Za.mk hl303_0
         clear hi303_0 hl303_0
         have HR303_1 := Za.mk hi303_1
         have HC303_1 := Za.mk hl303_1
         clear hi303_1 hl303_1
         replace p303 := eq_true p303
         replace q303 := eq_true q303
         go_wp2_with (((with_reducible refine Xg (N := 6) rfl ?_); (try (refine Qe (by rfl) ?_; dsimp only)); refine Xk ?hg (N := 6) ?hd (cs := #[.slice none 0 0, .slice none 0 0]) (t := 55) ?hr ?_; (case hd => rfl); (case hg => rfl); (case hr => first | (go_simp; done) | (go_simp; rfl)); intro gb304 hg w15 hbox hb; have n0_ := Za.mk (Zo BK302.out hb); have n1_ := Za.mk (Zh HB.out hb); have n2_ := Za.mk (hbox); have n3_ := Za.mk ((by rw [hg]; exact (Zg HB.out) : w.heap.size ≤ gb304)); have n4_ := n3_; have n5_ := Za.mk ((by rw [hg]; exact Nat.ne_of_lt (Xz BK302.out) : gb302 ≠ gb304)); have n6_ := Za.mk ((by rw [hg]; exact Nat.ne_of_gt (Xz BK302.out) : gb304 ≠ gb302)); clear BK302; clear HB; have BK302 := n0_; have HB := n1_; have BK304 := n2_; have GW304 := n3_; have GE304 := n4_; have NB302_304 := n5_; have NB304_302 := n6_; clear n0_ n1_ n2_ n3_ n4_ n5_ n6_; clear hb hbox hg; have hnb16 := NB304_302.out; have hnc16 := NB302_304.out; have hcz17_0 : w15.cell? ⟨gb304, 0, none⟩ = some (.slice none 0 0) := (Zc BK304.out 0).trans rfl; have hcz17_1 : w15.cell? ⟨gb304, 1, none⟩ = some (.slice none 0 0) := (Zc BK304.out 1).trans rfl; have hfz17_0 := Zb BK304.out 0; have hfz17_1 := Zb BK304.out 1; have hcz18_0 : w15.cell? ⟨gb302, 0, none⟩ = some (.slice A0_0 l0_0.length c0_0) := (Zc BK302.out 0).trans rfl; have hcz18_1 : w15.cell? ⟨gb302, 1, none⟩ = some (.slice A0_1 l0_1.length c0_1) := (Zc BK302.out 1).trans rfl; have hcz18_2 : w15.cell? ⟨gb302, 2, none⟩ = some (.slice A0_2 l0_2.length c0_2) := (Zc BK302.out 2).trans rfl; have hcz18_3 : w15.cell? ⟨gb302, 3, none⟩ = some (.slice A0_3 l0_3.length c0_3) := (Zc BK302.out 3).trans rfl; have hcz18_4 : w15.cell? ⟨gb302, 4, none⟩ = some (.slice A0_4 l0_4.length c0_4) := (Zc BK302.out 4).trans rfl; have hfz18_0 := Zb BK302.out 0; have hfz18_1 := Zb BK302.out 1; have hfz18_2 := Zb BK302.out 2; have hfz18_3 := Zb BK302.out 3; have hfz18_4 := Zb BK302.out 4))
         go_ret
         exact ⟨by first | rfl | (simp [errW_none, errW_some] <;> rfl) | (simp [*, errW_none, errW_some] <;> rfl), by repeat (first | (with_reducible first | exact HB.out | apply Zn | apply Zq | apply Zv | refine Zl ?_ GE302.out | refine Zl ?_ GE304.out) | exact HB.out)⟩
       ·rw [if_neg c9] at H
        have c9b0 : ((((Zz l1 x12_1).f0).length : Int) == (l0_0.length : Int)) = false := beq_eq_false_iff_ne.mpr c9
        have c9b1 : ((((Zz l1 x12_1).f0).length : Int) != (l0_0.length : Int)) = true := bne_iff_ne.mpr c9
        have c9b2 : (((Zz l1 x12_1).f0).length == l0_0.length) = false := by first | simpa using c9 | (simp at c9 ⊢; omega)
        obtain rfl := Option.some.inj H
        have p303 : 0 ≤ (x12_1 : Int) := of_decide_eq_true (by first | (with_reducible assumption) | assumption)
        have q303 : x12_1 < (l1.length : Int) := of_decide_eq_true (by first | (with_reducible assumption) | assumption)
        obtain ⟨ad303, A303_0, c303_0, A303_1, c303_1, e303, hx303_0, hx303_1, hl303_0, hi303_0, hl303_1, hi303_1⟩ := at_T55 HR1.out x12_1 p303 q303
        cases e303
        replace hx303_0 := (HB.out.cell (World.block_lt_of_cell? w _ hx303_0)).trans hx303_0
        replace hx303_1 := (HB.out.cell (World.block_lt_of_cell? w _ hx303_1)).trans hx303_1
        have HR303_0 := Za.mk hi303_0
        have HC303_0 := Za.mk hl303_0
        clear hi303_0 hl303_0
        have HR303_1 := Za.mk hi303_1
        have HC303_1 := Za.mk hl303_1
        clear hi303_1 hl303_1
        replace p303 := eq_true p303
        replace q303 := eq_true q303
        go_wp2_with (((with_reducible refine Xg (N := 6) rfl ?_); (try (refine Qe (by rfl) ?_; dsimp only)); refine Xk ?hg (N := 6) ?hd (cs := #[.slice none 0 0, .slice none 0 0]) (t := 55) ?hr ?_; (case hd => rfl); (case hg => rfl); (case hr => first | (go_simp; done) | (go_simp; rfl)); intro gb304 hg w19 hbox hb; have n0_ := Za.mk (Zo BK302.out hb); have n1_ := Za.mk (Zh HB.out hb); have n2_ := Za.mk (hbox); have n3_ := Za.mk ((by rw [hg]; exact (Zg HB.out) : w.heap.size ≤ gb304)); have n4_ := n3_; have n5_ := Za.mk ((by rw [hg]; exact Nat.ne_of_lt (Xz BK302.out) : gb302 ≠ gb304)); have n6_ := Za.mk ((by rw [hg]; exact Nat.ne_of_gt (Xz BK302.out) : gb304 ≠ gb302)); clear BK302; clear HB; have BK302 := n0_; have HB := n1_; have BK304 := n2_; have GW304 := n3_; have GE304 := n4_; have NB302_304 := n5_; have NB304_302 := n6_; clear n0_ n1_ n2_ n3_ n4_ n5_ n6_; clear hb hbox hg; have hnb20 := NB304_302.out; have hnc20 := NB302_304.out; have hcz21_0 : w19.cell? ⟨gb304, 0, none⟩ = some (.slice none 0 0) := (Zc BK304.out 0).trans rfl; have hcz21_1 : w19.cell? ⟨gb304, 1, none⟩ = some (.slice none 0 0) := (Zc BK304.out 1).trans rfl; have hfz21_0 := Zb BK304.out 0; have hfz21_1 := Zb BK304.out 1; have hcz22_0 : w19.cell? ⟨gb302, 0, none⟩ = some (.slice A0_0 l0_0.length c0_0) := (Zc BK302.out 0).trans rfl; have hcz22_1 : w19.cell? ⟨gb302, 1, none⟩ = some (.slice A0_1 l0_1.length c0_1) := (Zc BK302.out 1).trans rfl; have hcz22_2 : w19.cell? ⟨gb302, 2, none⟩ = some (.slice A0_2 l0_2.length c0_2) := (Zc BK302.out 2).trans rfl; have hcz22_3 : w19.cell? ⟨gb302, 3, none⟩ = some (.slice A0_3 l0_3.length c0_3) := (Zc BK302.out 3).trans rfl; have hcz22_4 : w19.cell? ⟨gb302, 4, none⟩ = some (.slice A0_4 l0_4.length c0_4) := (Zc BK302.out 4).trans rfl; have hfz22_0 := Zb BK302.out 0; have hfz22_1 := Zb BK302.out 1; have hfz22_2 := Zb BK302.out 2; have hfz22_3 := Zb BK302.out 3; have hfz22_4 := Zb BK302.out 4))
        go_ret
        exact ⟨by first | rfl | (simp [errW_none, errW_some] <;> rfl) | (simp [*, errW_none, errW_some] <;> rfl), by repeat (first | (with_reducible first | exact HB.out | apply Zn | apply Zq | apply Zv | refine Zl ?_ GE302.out | refine Zl ?_ GE304.out) | exact HB.out)⟩
      ·rw [if_neg c8] at H
       exact absurd H (by simp)
     ·rw [if_neg c7] at H
      exact absurd H (by simp)
    ·rw [if_neg c6] at H
     have c6b0 : decide (x12_1 < (l1.length : Int)) = false := decide_eq_false c6
     clear c6
     obtain rfl := Option.some.inj H
     go_wp2
     go_ret
     exact ⟨by first | rfl | (simp [errW_none, errW_some] <;> rfl) | (simp [*, errW_none, errW_some] <;> rfl), HB.out⟩
end Go.Proofs.Ytimjccfpobhpeaa.PF
namespace Go.Proofs.Ytimjccfpobhpeaa.PF
open Go.RowKit Go.Proofs.YtimjccfpobhpeaaW.PrintWords Go.Proofs.YtimjccfpobhpeaaW.PrintLast Go.Proofs.YtimjccfpobhpeaaW.PrintMore
attribute [local go_sem] Qq Kt
set_option linter.unusedVariables false
set_option linter.unusedSimpArgs false
mutual
def Zi.l0 : Nat → List Int → List Int → List (S55) → Int → Int → Option (List Int × List Int)
  | 0, _, _, _, _, _ => none
  | k + 1, x4, x5, x20, x21, x22 => if x22 < x21 then (if 0 ≤ x22 then (if x22 < (x20.length : Int) then (Zi.l1 k x4 x5 x22 x20 x21 x22 ((Zz x20 x22).f0) (((Zz x20 x22).f0).length : Int) 0 ((Zz x20 x22).f0) ((Zz x20 x22).f1)) else (none)) else (none)) else (some (x4, x5))
def Zi.l1 : Nat → List Int → List Int → Int → List (S55) → Int → Int → List Bool → Int → Int → List Bool → List Bool → Option (List Int × List Int)
  | 0, _, _, _, _, _, _, _, _, _, _, _ => none
  | k + 1, x4, x5, x6, x20, x21, x22, x28, x29, x30, x478000, x478001 => if x30 < x29 then (if 0 ≤ x30 then (if x30 < (x28.length : Int) then (if rdOf false x28 x30 = true then (if x30 < (x4.length : Int) then (if 0 ≤ x6 then (Zi.l1 k (x4.set (x30 : Int).toNat (Go.bits .or .u64 (rd x4 x30) (shl .u64 1 x6))) x5 x6 x20 x21 x22 x28 x29 (wrap64 (x30 + 1)) x478000 x478001) else (none)) else (none)) else (Zi.l1 k x4 x5 x6 x20 x21 x22 x28 x29 (wrap64 (x30 + 1)) x478000 x478001)) else (none)) else (none)) else (Zi.l2 k x4 x5 x6 x20 x21 x22 x478001 (x478001.length : Int) 0)
def Zi.l2 : Nat → List Int → List Int → Int → List (S55) → Int → Int → List Bool → Int → Int → Option (List Int × List Int)
  | 0, _, _, _, _, _, _, _, _, _ => none
  | k + 1, x4, x5, x6, x20, x21, x22, x46, x47, x48 => if x48 < x47 then (if 0 ≤ x48 then (if x48 < (x46.length : Int) then (if rdOf false x46 x48 = true then (if x48 < (x5.length : Int) then (if 0 ≤ x6 then (Zi.l2 k x4 (x5.set (x48 : Int).toNat (Go.bits .or .u64 (rd x5 x48) (shl .u64 1 x6))) x6 x20 x21 x22 x46 x47 (wrap64 (x48 + 1))) else (none)) else (none)) else (Zi.l2 k x4 x5 x6 x20 x21 x22 x46 x47 (wrap64 (x48 + 1)))) else (none)) else (none)) else (Zi.l0 k x4 x5 x20 x21 (wrap64 (x22 + 1)))
end
def Zi.f (k : Nat) (l0_0 : List ByteArray) (l0_1 : List ByteArray) (l0_2 : List (S82)) (l0_3 : List (Kr)) (l0_4 : List Int) (l1 : List (S55)) : Option (List Int × List Int) := if 0 ≤ (l0_0.length : Int) then (if ((l0_0.length : Int) : Int).toNat ≤ 35184372088832 then (if 0 ≤ (l0_2.length : Int) then (if ((l0_2.length : Int) : Int).toNat ≤ 35184372088832 then (Zi.l0 k (List.replicate ((l0_0.length : Int) : Int).toNat 0) (List.replicate ((l0_2.length : Int) : Int).toNat 0) l1 (l1.length : Int) 0) else (none)) else (none)) else (none)) else (none)
theorem Zi.mono_l : ∀ k, (∀ y0 y1 y2 y3 y4, Xw (Zi.l0 k y0 y1 y2 y3 y4) (Zi.l0 (k + 1) y0 y1 y2 y3 y4)) ∧ (∀ y0 y1 y2 y3 y4 y5 y6 y7 y8 y9 y10, Xw (Zi.l1 k y0 y1 y2 y3 y4 y5 y6 y7 y8 y9 y10) (Zi.l1 (k + 1) y0 y1 y2 y3 y4 y5 y6 y7 y8 y9 y10)) ∧ (∀ y0 y1 y2 y3 y4 y5 y6 y7 y8, Xw (Zi.l2 k y0 y1 y2 y3 y4 y5 y6 y7 y8) (Zi.l2 (k + 1) y0 y1 y2 y3 y4 y5 y6 y7 y8))
  | 0 => ⟨fun _ _ _ _ _ r h => by simp [Zi.l0] at h, fun _ _ _ _ _ _ _ _ _ _ _ r h => by simp [Zi.l1] at h, fun _ _ _ _ _ _ _ _ _ r h => by simp [Zi.l2] at h⟩
  | k + 1 => by
    obtain ⟨ih0, ih1, ih2⟩ := Zi.mono_l k
    refine ⟨?_, ?_, ?_⟩
    · intro y0 y1 y2 y3 y4
      unfold Zi.l0
      repeat' first
      | (with_reducible exact ih0 _ _ _ _ _)
      | (with_reducible exact ih1 _ _ _ _ _ _ _ _ _ _ _)
      | (with_reducible exact ih2 _ _ _ _ _ _ _ _ _)
      | (with_reducible exact Xw.refl _)
      | (with_reducible exact Xw.none _)
      | (with_reducible refine Xw.ite ?_ ?_)
      | (with_reducible refine Xw.bind ?_ (fun _ => ?_))
      | exact ih0 _ _ _ _ _
      | exact ih1 _ _ _ _ _ _ _ _ _ _ _
      | exact ih2 _ _ _ _ _ _ _ _ _
      | exact Xw.none _
      | refine Xw.ite ?_ ?_
      | refine Xw.bind ?_ (fun _ => ?_)
    · intro y0 y1 y2 y3 y4 y5 y6 y7 y8 y9 y10
      unfold Zi.l1
      repeat' first
      | (with_reducible exact ih0 _ _ _ _ _)
      | (with_reducible exact ih1 _ _ _ _ _ _ _ _ _ _ _)
      | (with_reducible exact ih2 _ _ _ _ _ _ _ _ _)
      | (with_reducible exact Xw.refl _)
      | (with_reducible exact Xw.none _)
      | (with_reducible refine Xw.ite ?_ ?_)
      | (with_reducible refine Xw.bind ?_ (fun _ => ?_))
      | exact ih0 _ _ _ _ _
      | exact ih1 _ _ _ _ _ _ _ _ _ _ _
      | exact ih2 _ _ _ _ _ _ _ _ _
      | exact Xw.none _
      | refine Xw.ite ?_ ?_
      | refine Xw.bind ?_ (fun _ => ?_)
    · intro y0 y1 y2 y3 y4 y5 y6 y7 y8
      unfold Zi.l2
      repeat' first
      | (with_reducible exact ih0 _ _ _ _ _)
      | (with_reducible exact ih1 _ _ _ _ _ _ _ _ _ _ _)
      | (with_reducible exact ih2 _ _ _ _ _ _ _ _ _)
      | (with_reducible exact Xw.refl _)
      | (with_reducible exact Xw.none _)
      | (with_reducible refine Xw.ite ?_ ?_)
      | (with_reducible refine Xw.bind ?_ (fun _ => ?_))
      | exact ih0 _ _ _ _ _
      | exact ih1 _ _ _ _ _ _ _ _ _ _ _
      | exact ih2 _ _ _ _ _ _ _ _ _
      | exact Xw.none _
      | refine Xw.ite ?_ ?_
      | refine Xw.bind ?_ (fun _ => ?_)
theorem Zi.mono : ∀ a0 a1 a2 a3 a4 a5 k, Xw (Zi.f k a0 a1 a2 a3 a4 a5) (Zi.f (k + 1) a0 a1 a2 a3 a4 a5) := by
  intro a0 a1 a2 a3 a4 a5 k
  obtain ⟨ih0, ih1, ih2⟩ := Zi.mono_l k
  unfold Zi.f
  repeat' first
      | (with_reducible exact ih0 _ _ _ _ _)
      | (with_reducible exact ih1 _ _ _ _ _ _ _ _ _ _ _)
      | (with_reducible exact ih2 _ _ _ _ _ _ _ _ _)
      | (with_reducible exact Xw.refl _)
      | (with_reducible exact Xw.none _)
      | (with_reducible refine Xw.ite ?_ ?_)
      | (with_reducible refine Xw.bind ?_ (fun _ => ?_))
      | exact ih0 _ _ _ _ _
      | exact ih1 _ _ _ _ _ _ _ _ _ _ _
      | exact ih2 _ _ _ _ _ _ _ _ _
      | exact Xw.none _
      | refine Xw.ite ?_ ?_
      | refine Xw.bind ?_ (fun _ => ?_)
def Zi.T1 : Bool × List (List Nat × List Nat) := (true, [([], []), ([0], [0]), ([1], [1]), ([2, 2], [2]), ([], []), ([4], [4]), ([5], [5]), ([6, 6], [6]), ([3, 0, 1, 2, 3], [3]), ([7, 8, 0, 1, 2, 3, 4, 5, 6, 7, 8], [7])])
def Zi.B1 : List Nat := [0, 1, 3, 7, 0, 16, 48, 112, 15, 511]
theorem Zi.tab1 : rtab .any (opsOf Try.f49 1) = Zi.T1 := by kernel_rfl
theorem Zi.bits1 : waitsOk Zi.T1.2 Zi.B1 = true := by kernel_rfl
def Zi.T9 : Bool × List (List Nat × List Nat) := (true, [([], []), ([], []), ([0, 1], [0, 1]), ([2], [2]), ([], []), ([4], [4]), ([3, 5], [3, 5]), ([0, 1, 0, 1, 2, 3, 4, 5, 6], [0, 1]), ([7, 6, 0, 1, 2, 3, 4, 5, 6], [6, 7])])
def Zi.B9 : List Nat := [0, 0, 3, 7, 0, 16, 63, 127, 255]
theorem Zi.tab9 : rtab .any (opsOf Try.f49 9) = Zi.T9 := by kernel_rfl
theorem Zi.bits9 : waitsOk Zi.T9.2 Zi.B9 = true := by kernel_rfl
def Zi.T15 : Bool × List (List Nat × List Nat) := (true, [([], []), ([], []), ([0, 1], [0, 1]), ([2], [2]), ([], []), ([4], [4]), ([3, 5], [3, 5]), ([0, 1, 0, 1, 2, 3, 4, 5, 6], [0, 1]), ([7, 6, 0, 1, 2, 3, 4, 5, 6], [6, 7])])
def Zi.B15 : List Nat := [0, 0, 3, 7, 0, 16, 63, 127, 255]
theorem Zi.tab15 : rtab .any (opsOf Try.f49 15) = Zi.T15 := by kernel_rfl
theorem Zi.bits15 : waitsOk Zi.T15.2 Zi.B15 = true := by kernel_rfl
set_option maxHeartbeats 8000000 in
set_option maxRecDepth 100000 in
theorem Zi.calls (k : Nat) (A0_0 : Option Addr) (c0_0 : Nat) (l0_0 : List ByteArray) (A0_1 : Option Addr) (c0_1 : Nat) (l0_1 : List ByteArray) (A0_2 : Option Addr) (c0_2 : Nat) (l0_2 : List (S82)) (A0_3 : Option Addr) (c0_3 : Nat) (l0_3 : List (Kr)) (A0_4 : Option Addr) (c0_4 : Nat) (l0_4 : List Int) (A1 : Option Addr) (c1 : Nat) (l1 : List (S55)) (r1 : List Int) (r2 : List Int) (w : World) (hr0_0 : Kd.C Kd.string w A0_0 l0_0.length l0_0) (hc0_0 : l0_0.length ≤ c0_0) (hr0_1 : Kd.C Kd.string w A0_1 l0_1.length l0_1) (hc0_1 : l0_1.length ≤ c0_1) (hr0_2 : Kd.C k82 w A0_2 l0_2.length l0_2) (hc0_2 : l0_2.length ≤ c0_2) (hr0_3 : Kd.C k80 w A0_3 l0_3.length l0_3) (hc0_3 : l0_3.length ≤ c0_3) (hr0_4 : Kd.C (Kd.int .i64) w A0_4 l0_4.length l0_4) (hc0_4 : l0_4.length ≤ c0_4) (hr1 : Kd.C k55 w A1 l1.length l1) (hc1 : l1.length ≤ c1) (h : Zi.f k l0_0 l0_1 l0_2 l0_3 l0_4 l1 = some (r1, r2)) :
 Calls Try.prog 49 #[.agg #[.slice A0_0 l0_0.length c0_0, .slice A0_1 l0_1.length c0_1, .slice A0_2 l0_2.length c0_2, .slice A0_3 l0_3.length c0_3, .slice A0_4 l0_4.length c0_4], .slice A1 l1.length c1] w fun e w' => ∃ v0_ v1_ : Value, e = .returned (.tuple #[v0_, v1_]) ∧ Kd.R (Kd.int .u64) 78 w' w.heap.size (fun k_ => some k_ ≠ (v1_ : Value).ownBlock) v0_ r1 ∧ Kd.R (Kd.int .u64) 78 w' w.heap.size (fun k_ => some k_ ≠ (v0_ : Value).ownBlock) v1_ r2 ∧ Below w.heap.size w w' := by
 have hu27 := Try.underlying27
 have hu55 := Try.underlying55
 have HR0_0 := Za.mk hr0_0
 have HC0_0 := Za.mk hc0_0
 clear hr0_0 hc0_0
 have HR0_1 := Za.mk hr0_1
 have HC0_1 := Za.mk hc0_1
 clear hr0_1 hc0_1
 have HR0_2 := Za.mk hr0_2
 have HC0_2 := Za.mk hc0_2
 clear hr0_2 hc0_2
 have HR0_3 := Za.mk hr0_3
 have HC0_3 := Za.mk hc0_3
 clear hr0_3 hc0_3
 have HR0_4 := Za.mk hr0_4
 have HC0_4 := Za.mk hc0_4
 clear hr0_4 hc0_4
 have HR1 := Za.mk hr1
 have HC1 := Za.mk hc1
 clear hr1 hc1
 have HB := Za.mk (Below.refl w.heap.size w)
 have H : (if 0 ≤ (l0_0.length : Int) then (if ((l0_0.length : Int) : Int).toNat ≤ 35184372088832 then (if 0 ≤ (l0_2.length : Int) then (if ((l0_2.length : Int) : Int).toNat ≤ 35184372088832 then (Zi.l0 k (List.replicate ((l0_0.length : Int) : Int).toNat 0) (List.replicate ((l0_2.length : Int) : Int).toNat 0) l1 (l1.length : Int) 0) else (none)) else (none)) else (none)) else (none)) = some (r1, r2) := h
 clear h
 by_cases c3 : 0 ≤ (l0_0.length : Int)
 ·rw [if_pos c3] at H
  have c3b0 := eq_true c3
  have c3b1 : decide (0 ≤ (l0_0.length : Int)) = true := decide_eq_true c3
  clear c3
  by_cases c4 : ((l0_0.length : Int) : Int).toNat ≤ 35184372088832
  ·rw [if_pos c4] at H
   have c4b0 := eq_true c4
   have c4b1 : decide (((l0_0.length : Int) : Int).toNat ≤ 35184372088832) = true := decide_eq_true c4
   clear c4
   obtain ⟨y470, hy470⟩ : ∃ y_ : List Int, y_ = (List.replicate ((l0_0.length : Int) : Int).toNat 0) := ⟨_, rfl⟩
   replace H : (if 0 ≤ (l0_2.length : Int) then (if ((l0_2.length : Int) : Int).toNat ≤ 35184372088832 then (Zi.l0 k y470 (List.replicate ((l0_2.length : Int) : Int).toNat 0) l1 (l1.length : Int) 0) else (none)) else (none)) = some (r1, r2) := by first | (rw [hy470]; with_reducible exact H) | (have H2_ := (Option.bind_some _ _).symm.trans H; rw [hy470]; with_reducible exact H2_) | (have H2_ := (Option.bind_some _ _).symm.trans H; with_reducible exact H2_) | with_reducible exact H | (rw [hy470]; exact H) | exact H
   have Ny470 := Za.mk hy470
   clear hy470
   by_cases c5 : 0 ≤ (l0_2.length : Int)
   ·rw [if_pos c5] at H
    have c5b0 := eq_true c5
    have c5b1 : decide (0 ≤ (l0_2.length : Int)) = true := decide_eq_true c5
    clear c5
    by_cases c6 : ((l0_2.length : Int) : Int).toNat ≤ 35184372088832
    ·rw [if_pos c6] at H
     have c6b0 := eq_true c6
     have c6b1 : decide (((l0_2.length : Int) : Int).toNat ≤ 35184372088832) = true := decide_eq_true c6
     clear c6
     obtain ⟨y473, hy473⟩ : ∃ y_ : List Int, y_ = (List.replicate ((l0_2.length : Int) : Int).toNat 0) := ⟨_, rfl⟩
     replace H : (Zi.l0 k y470 y473 l1 (l1.length : Int) 0) = some (r1, r2) := by first | (rw [hy473]; with_reducible exact H) | (have H2_ := (Option.bind_some _ _).symm.trans H; rw [hy473]; with_reducible exact H2_) | (have H2_ := (Option.bind_some _ _).symm.trans H; with_reducible exact H2_) | with_reducible exact H | (rw [hy473]; exact H) | exact H
     have Ny473 := Za.mk hy473
     clear hy473
     have H' := Za.mk H
     clear H
     go_enter Try.func49, Try.ntmps49
     try go_wp2_with (((with_reducible refine Xg (N := 2) rfl ?_); refine Xk ?hg (N := 2) ?hd (cs := #[.slice A0_0 l0_0.length c0_0, .slice A0_1 l0_1.length c0_1, .slice A0_2 l0_2.length c0_2, .slice A0_3 l0_3.length c0_3, .slice A0_4 l0_4.length c0_4]) (t := 27) ?hr ?_; (case hd => rfl); (case hg => rfl); (case hr => first | (go_simp; done) | (go_simp; rfl)); intro gb469 hg w7 hbox hb; have n0_ := Za.mk (Zh HB.out hb); have n1_ := Za.mk (hbox); have n2_ := Za.mk ((by rw [hg]; exact (Zg HB.out) : w.heap.size ≤ gb469)); have n3_ := n2_; clear HB; have HB := n0_; have BK469 := n1_; have GW469 := n2_; have GE469 := n3_; clear n0_ n1_ n2_ n3_; clear hb hbox hg))
     have n0_ := Za.mk (Zm BK469.out)
     have n1_ := Za.mk (Zv HB.out)
     clear BK469
     clear HB
     have BK469 := n0_
     have HB := n1_
     clear n0_ n1_
     refine start_ (n := 10) (S := fun w' => w'.cell? ⟨gb469, 0, none⟩ = some (.slice A0_0 l0_0.length c0_0) ∧ w'.cell? ⟨gb469, 1, none⟩ = some (.slice A0_1 l0_1.length c0_1) ∧ w'.cell? ⟨gb469, 2, none⟩ = some (.slice A0_2 l0_2.length c0_2) ∧ w'.cell? ⟨gb469, 3, none⟩ = some (.slice A0_3 l0_3.length c0_3) ∧ w'.cell? ⟨gb469, 4, none⟩ = some (.slice A0_4 l0_4.length c0_4)) (ds := []) #[false, false, false, false, false, false, false, false, false, false] (by kernel_rfl) rfl rfl ⟨(Zc BK469.out 0).trans rfl, (Zc BK469.out 1).trans rfl, (Zc BK469.out 2).trans rfl, (Zc BK469.out 3).trans rfl, (Zc BK469.out 4).trans rfl⟩ (fun hHeld => ?_); refine with_tabW Zi.tab1 Zi.bits1 (fun HT_ HW_ => ?_)
     generalize w7.drew = w8 at BK469 HB hHeld ⊢
     refine Qp (i := 0) (N := some 12) (v := ?_) (a' := ?_) #[true, false, false, false, false, false, false, false, false, false] rfl rfl (Qn HT_.out (by kernel_rfl)) (fun _ _ _ h => h) (Or.inl ⟨by rfl, ?_⟩) ?_ ?_
     rotate_left
     ·intro w'
      go_simp
      with_reducible rfl
     rotate_left
     ·simp only [Act.put, List.setIfInBounds_toArray, List.set_cons_zero, List.set_cons_succ, Xr, Xv]
      rfl
     refine Qp (i := 4) (N := some 16) (v := ?_) (a' := ?_) #[true, false, false, false, true, false, false, false, false, false] rfl rfl (Qn HT_.out (by kernel_rfl)) (fun _ _ _ h => h) (Or.inl ⟨by rfl, ?_⟩) ?_ ?_
     rotate_left
     ·intro w'
      go_simp
      with_reducible rfl
     rotate_left
     ·simp only [Act.put, List.setIfInBounds_toArray, List.set_cons_zero, List.set_cons_succ, Xr, Xv]
      rfl
     refine take_ (i := 1) (N := some 13) (v := ?_) (a' := ?_) #[true, true, false, false, true, false, false, false, false, false] rfl rfl (take_ofW HT_.out HW_.out (by kernel_rfl)) (fun _ _ _ h => h) (Or.inl ⟨by rfl, ?_⟩) hHeld ?_ ?_
     rotate_left
     ·rintro w' ⟨s0, s1, s2, s3, s4⟩
      go_simp
      with_reducible rfl
     rotate_left
     ·simp only [Act.put, List.setIfInBounds_toArray, List.set_cons_zero, List.set_cons_succ, Xr, Xv]
      rfl
     refine Qp (i := 2) (N := some 14) (v := ?_) (a' := ?_) #[true, true, true, false, true, false, false, false, false, false] rfl rfl (Qn HT_.out (by kernel_rfl)) (fun _ _ _ h => h) (Or.inl ⟨by rfl, ?_⟩) ?_ ?_
     rotate_left
     ·intro w'
      go_simp
      with_reducible rfl
     rotate_left
     ·simp only [Act.put, List.setIfInBounds_toArray, List.set_cons_zero, List.set_cons_succ, Xr, Xv]
      rfl
     refine take_ (i := 5) (N := some 17) (v := ?_) (a' := ?_) #[true, true, true, false, true, true, false, false, false, false] rfl rfl (take_ofW HT_.out HW_.out (by kernel_rfl)) (fun _ _ _ h => h) (Or.inl ⟨by rfl, ?_⟩) hHeld ?_ ?_
     rotate_left
     ·rintro w' ⟨s0, s1, s2, s3, s4⟩
      go_simp
      with_reducible rfl
     rotate_left
     ·simp only [Act.put, List.setIfInBounds_toArray, List.set_cons_zero, List.set_cons_succ, Xr, Xv]
      rfl
     refine Qp (i := 6) (N := some 18) (v := ?_) (a' := ?_) #[true, true, true, false, true, true, true, false, false, false] rfl rfl (Qn HT_.out (by kernel_rfl)) (fun _ _ _ h => h) (Or.inl ⟨by rfl, ?_⟩) ?_ ?_
     rotate_left
     ·intro w'
      go_simp
      with_reducible rfl
     rotate_left
     ·simp only [Act.put, List.setIfInBounds_toArray, List.set_cons_zero, List.set_cons_succ, Xr, Xv]
      rfl
     refine join_ (σ := Value × Value) 1 #[true, true, true, true, true, true, true, true, true, false] (fun s_ => [(15, s_.1), (19, s_.2), (4, s_.1)]) (fun s_ w' => (w'.cell? ⟨gb469, 0, none⟩ = some (.slice A0_0 l0_0.length c0_0) ∧ w'.cell? ⟨gb469, 1, none⟩ = some (.slice A0_1 l0_1.length c0_1) ∧ w'.cell? ⟨gb469, 2, none⟩ = some (.slice A0_2 l0_2.length c0_2) ∧ w'.cell? ⟨gb469, 3, none⟩ = some (.slice A0_3 l0_3.length c0_3) ∧ w'.cell? ⟨gb469, 4, none⟩ = some (.slice A0_4 l0_4.length c0_4)) ∧ (Kd.R (Kd.int .u64) 78 w' w.heap.size (fun k_ => some k_ ≠ (s_.2 : Value).ownBlock) s_.1 y470) ∧ (Kd.R (Kd.int .u64) 78 w' w.heap.size (fun k_ => some k_ ≠ (s_.1 : Value).ownBlock) s_.2 y473) ∧ (w'.heap[gb469]? = some (.cells #[.slice A0_0 l0_0.length c0_0, .slice A0_1 l0_1.length c0_1, .slice A0_2 l0_2.length c0_2, .slice A0_3 l0_3.length c0_3, .slice A0_4 l0_4.length c0_4] 27 (0, 0))) ∧ (Below w.heap.size w w')) ?_ ?_
     rotate_left
     ·intro hCont
      refine two_ (i := 3) (j := 7) (Ni := some 15) (Nj := some 19) #[true, true, true, true, true, true, true, false, false, false] #[true, true, true, false, true, true, true, true, false, false] rfl rfl rfl rfl (two_of HT_.out (by kernel_rfl)) (by decide) (by decide) (fun K hK => ?_) (fun K hK => ?_)
      ·skip
       refine Kd.R_make_step (Kd.int .u64) _ 78 (by rfl) (N := 15) rfl 110 _ _ rfl (l0_0.length : Int) rfl rfl Try.underlying110 (.int .u64 0) 8 info78 rfl (by decide) (by omega) 0 (ok := fun _ => True) (okp := fun _ => True) rfl (fun _ hk => hk) trivial (of_decide_eq_true (by first | (with_reducible assumption) | assumption)) (Nat.le_trans (Nat.mul_le_mul_right _ (of_decide_eq_true (by first | (with_reducible assumption) | assumption) : (l0_0.length : Int).toNat ≤ 35184372088832)) (by omega)) (Below.refl _ _) (Nat.le_refl _) ?_
       intro v471 w9 ho10 hb hg_ hnew_
       clear hg_ hnew_
       (first | rw [← Ny470.out] at ho10 | (simp only [Int.reduceToNat] at ho10; rw [← Ny470.out] at ho10))
       have n0_ := Za.mk (Kd.Xn ho10 (Zg HB.out))
       have n1_ := Za.mk (Zo BK469.out hb)
       have n2_ := Za.mk (Zh HB.out hb)
       clear BK469
       clear HB
       have HO472 := n0_
       have BK469 := n1_
       have HB := n2_
       clear n0_ n1_ n2_
       clear hb ho10
       refine hK.out _ _ ⟨(Zc BK469.out 0).trans rfl, (Zc BK469.out 1).trans rfl, (Zc BK469.out 2).trans rfl, (Zc BK469.out 3).trans rfl, (Zc BK469.out 4).trans rfl⟩ (fun hHeld => ?_)
       clear hK K
       refine norm_ (a' := ?_) ?_ ?_
       rotate_left
       ·show Act.put _ (some 15) _ = _
        simp only [Act.put, List.setIfInBounds_toArray, List.set_cons_zero, List.set_cons_succ, Xr, Xv]
        rfl
       refine Qp (i := 8) (N := some 4) (v := ?_) (a' := ?_) #[true, true, true, true, true, true, true, false, true, false] rfl rfl (Qn HT_.out (by kernel_rfl)) (fun _ _ _ h => h) (Or.inl ⟨by rfl, ?_⟩) ?_ ?_
       rotate_left
       ·intro w'
        go_simp
        with_reducible rfl
       rotate_left
       ·simp only [Act.put, List.setIfInBounds_toArray, List.set_cons_zero, List.set_cons_succ, Xr, Xv]
        rfl
       refine one_ (i := 7) (N := some 19) #[true, true, true, true, true, true, true, true, true, false] rfl rfl (one_of HT_.out (by kernel_rfl)) (by decide) (fun K hK => ?_)
       refine Kd.R_make_step (Kd.int .u64) _ 78 (by rfl) (N := 19) rfl 110 _ _ rfl (l0_2.length : Int) rfl rfl Try.underlying110 (.int .u64 0) 8 info78 rfl (by decide) (by omega) 0 (ok := fun _ => True) (okp := fun _ => True) rfl (fun _ hk => hk) trivial (of_decide_eq_true (by first | (with_reducible assumption) | assumption)) (Nat.le_trans (Nat.mul_le_mul_right _ (of_decide_eq_true (by first | (with_reducible assumption) | assumption) : (l0_2.length : Int).toNat ≤ 35184372088832)) (by omega)) (Below.refl _ _) (Nat.le_refl _) ?_
       intro v474 w11 ho12 hb hg_ hnew_
       clear hg_ hnew_
       (first | rw [← Ny473.out] at ho12 | (simp only [Int.reduceToNat] at ho12; rw [← Ny473.out] at ho12))
       have n0_ := Za.mk (Kd.R_elder' HO472.out (Kd.Xu ho12) hb)
       have n1_ := Za.mk (Kd.Xn (Kd.R_new' ho12 (Kd.R_lt HO472.out)) (Zg HB.out))
       have n2_ := Za.mk (Zo BK469.out hb)
       have n3_ := Za.mk (Zh HB.out hb)
       clear HO472
       clear BK469
       clear HB
       have HO472 := n0_
       have HO475 := n1_
       have BK469 := n2_
       have HB := n3_
       clear n0_ n1_ n2_ n3_
       clear hb ho12
       refine hK.out _ _ ⟨(Zc BK469.out 0).trans rfl, (Zc BK469.out 1).trans rfl, (Zc BK469.out 2).trans rfl, (Zc BK469.out 3).trans rfl, (Zc BK469.out 4).trans rfl⟩ (fun hHeld => ?_)
       clear hK K
       refine norm_ (a' := ?_) ?_ ?_
       rotate_left
       ·show Act.put _ (some 19) _ = _
        simp only [Act.put, List.setIfInBounds_toArray, List.set_cons_zero, List.set_cons_succ, Xr, Xv]
        rfl
       exact norm_ (by simp only [putAll, Act.put, List.setIfInBounds_toArray, List.set_cons_zero, List.set_cons_succ]) (hCont (v471, v474) _ ⟨hHeld, (by (with_reducible repeat (first | apply Kd.R_alloc | apply Kd.Xx | apply Kd.Qa)); exact Kd.Xj HO472.out (fun _ hk => hk.2)), (by (with_reducible repeat (first | apply Kd.R_alloc | apply Kd.Xx | apply Kd.Qa)); exact Kd.Xj HO475.out (fun _ hk => hk.2)), BK469.out, HB.out⟩)
      ·skip
       refine Kd.R_make_step (Kd.int .u64) _ 78 (by rfl) (N := 19) rfl 110 _ _ rfl (l0_2.length : Int) rfl rfl Try.underlying110 (.int .u64 0) 8 info78 rfl (by decide) (by omega) 0 (ok := fun _ => True) (okp := fun _ => True) rfl (fun _ hk => hk) trivial (of_decide_eq_true (by first | (with_reducible assumption) | assumption)) (Nat.le_trans (Nat.mul_le_mul_right _ (of_decide_eq_true (by first | (with_reducible assumption) | assumption) : (l0_2.length : Int).toNat ≤ 35184372088832)) (by omega)) (Below.refl _ _) (Nat.le_refl _) ?_
       intro v474 w9 ho10 hb hg_ hnew_
       clear hg_ hnew_
       (first | rw [← Ny473.out] at ho10 | (simp only [Int.reduceToNat] at ho10; rw [← Ny473.out] at ho10))
       have n0_ := Za.mk (Kd.Xn ho10 (Zg HB.out))
       have n1_ := Za.mk (Zo BK469.out hb)
       have n2_ := Za.mk (Zh HB.out hb)
       clear BK469
       clear HB
       have HO475 := n0_
       have BK469 := n1_
       have HB := n2_
       clear n0_ n1_ n2_
       clear hb ho10
       refine hK.out _ _ ⟨(Zc BK469.out 0).trans rfl, (Zc BK469.out 1).trans rfl, (Zc BK469.out 2).trans rfl, (Zc BK469.out 3).trans rfl, (Zc BK469.out 4).trans rfl⟩ (fun hHeld => ?_)
       clear hK K
       refine norm_ (a' := ?_) ?_ ?_
       rotate_left
       ·show Act.put _ (some 19) _ = _
        simp only [Act.put, List.setIfInBounds_toArray, List.set_cons_zero, List.set_cons_succ, Xr, Xv]
        rfl
       refine one_ (i := 3) (N := some 15) #[true, true, true, true, true, true, true, true, false, false] rfl rfl (one_of HT_.out (by kernel_rfl)) (by decide) (fun K hK => ?_)
       refine Kd.R_make_step (Kd.int .u64) _ 78 (by rfl) (N := 15) rfl 110 _ _ rfl (l0_0.length : Int) rfl rfl Try.underlying110 (.int .u64 0) 8 info78 rfl (by decide) (by omega) 0 (ok := fun _ => True) (okp := fun _ => True) rfl (fun _ hk => hk) trivial (of_decide_eq_true (by first | (with_reducible assumption) | assumption)) (Nat.le_trans (Nat.mul_le_mul_right _ (of_decide_eq_true (by first | (with_reducible assumption) | assumption) : (l0_0.length : Int).toNat ≤ 35184372088832)) (by omega)) (Below.refl _ _) (Nat.le_refl _) ?_
       intro v471 w11 ho12 hb hg_ hnew_
       clear hg_ hnew_
       (first | rw [← Ny470.out] at ho12 | (simp only [Int.reduceToNat] at ho12; rw [← Ny470.out] at ho12))
       have n0_ := Za.mk (Kd.R_elder' HO475.out (Kd.Xu ho12) hb)
       have n1_ := Za.mk (Kd.Xn (Kd.R_new' ho12 (Kd.R_lt HO475.out)) (Zg HB.out))
       have n2_ := Za.mk (Zo BK469.out hb)
       have n3_ := Za.mk (Zh HB.out hb)
       clear HO475
       clear BK469
       clear HB
       have HO475 := n0_
       have HO472 := n1_
       have BK469 := n2_
       have HB := n3_
       clear n0_ n1_ n2_ n3_
       clear hb ho12
       refine hK.out _ _ ⟨(Zc BK469.out 0).trans rfl, (Zc BK469.out 1).trans rfl, (Zc BK469.out 2).trans rfl, (Zc BK469.out 3).trans rfl, (Zc BK469.out 4).trans rfl⟩ (fun hHeld => ?_)
       clear hK K
       refine norm_ (a' := ?_) ?_ ?_
       rotate_left
       ·show Act.put _ (some 15) _ = _
        simp only [Act.put, List.setIfInBounds_toArray, List.set_cons_zero, List.set_cons_succ, Xr, Xv]
        rfl
       refine Qp (i := 8) (N := some 4) (v := ?_) (a' := ?_) #[true, true, true, true, true, true, true, true, true, false] rfl rfl (Qn HT_.out (by kernel_rfl)) (fun _ _ _ h => h) (Or.inl ⟨by rfl, ?_⟩) ?_ ?_
       rotate_left
       ·intro w'
        go_simp
        with_reducible rfl
       rotate_left
       ·simp only [Act.put, List.setIfInBounds_toArray, List.set_cons_zero, List.set_cons_succ, Xr, Xv]
        rfl
       exact norm_ (by simp only [putAll, Act.put, List.setIfInBounds_toArray, List.set_cons_zero, List.set_cons_succ]) (hCont (v471, v474) _ ⟨hHeld, (by (with_reducible repeat (first | apply Kd.R_alloc | apply Kd.Xx | apply Kd.Qa)); exact Kd.Xj HO472.out (fun _ hk => hk.2)), (by (with_reducible repeat (first | apply Kd.R_alloc | apply Kd.Xx | apply Kd.Qa)); exact Kd.Xj HO475.out (fun _ hk => hk.2)), BK469.out, HB.out⟩)
     rintro ⟨v471, v474⟩ w13 ⟨hS_, h0_, h1_, h2_, h3_⟩
     have n0_ : Za (Kd.R (Kd.int .u64) 78 w13 w.heap.size (fun k_ => some k_ ≠ (v474 : Value).ownBlock) v471 y470) := ⟨h0_⟩
     have n1_ : Za (Kd.R (Kd.int .u64) 78 w13 w.heap.size (fun k_ => some k_ ≠ (v471 : Value).ownBlock) v474 y473) := ⟨h1_⟩
     have n2_ : Za (w13.heap[gb469]? = some (.cells #[.slice A0_0 l0_0.length c0_0, .slice A0_1 l0_1.length c0_1, .slice A0_2 l0_2.length c0_2, .slice A0_3 l0_3.length c0_3, .slice A0_4 l0_4.length c0_4] 27 (0, 0))) := ⟨h2_⟩
     have n3_ : Za (Below w.heap.size w w13) := ⟨h3_⟩
     clear BK469
     clear HB
     clear h0_ h1_ h2_ h3_
     have HO472 := n0_
     have HO475 := n1_
     have BK469 := n2_
     have HB := n3_
     clear n0_ n1_ n2_ n3_
     have hHeld : w13.cell? ⟨gb469, 0, none⟩ = some (.slice A0_0 l0_0.length c0_0) ∧ w13.cell? ⟨gb469, 1, none⟩ = some (.slice A0_1 l0_1.length c0_1) ∧ w13.cell? ⟨gb469, 2, none⟩ = some (.slice A0_2 l0_2.length c0_2) ∧ w13.cell? ⟨gb469, 3, none⟩ = some (.slice A0_3 l0_3.length c0_3) ∧ w13.cell? ⟨gb469, 4, none⟩ = some (.slice A0_4 l0_4.length c0_4) := hS_
     refine norm_ (a' := ?_) ?_ ?_
     rotate_left
     ·simp only [putAll, Act.put, List.setIfInBounds_toArray, List.set_cons_zero, List.set_cons_succ]
      rfl
     refine Qp (i := 9) (N := some 5) (v := ?_) (a' := ?_) #[true, true, true, true, true, true, true, true, true, true] rfl rfl (Qn HT_.out (by kernel_rfl)) (fun _ _ _ h => h) (Or.inl ⟨by rfl, ?_⟩) ?_ ?_
     rotate_left
     ·intro w'
      go_simp
      with_reducible rfl
     rotate_left
     ·simp only [Act.put, List.setIfInBounds_toArray, List.set_cons_zero, List.set_cons_succ, Xr, Xv]
      rfl
     refine done_ (done_of HT_.out (by kernel_rfl)) ?_
     try go_wp2
     go_loopg [22] k (fun kq v22 w' => ∃ (x4_1 : List Int) (x5_1 : List Int) (x22_1 : Int), v22 = .int .i64 x22_1 ∧ Za (Zi.l0 kq x4_1 x5_1 l1 (l1.length : Int) x22_1 = some (r1, r2)) ∧ Za (kq ≤ k) ∧ Za (Kd.R (Kd.int .u64) 78 w' w.heap.size (fun k_ => some k_ ≠ (v474 : Value).ownBlock) v471 x4_1) ∧ Za (Kd.R (Kd.int .u64) 78 w' w.heap.size (fun k_ => some k_ ≠ (v471 : Value).ownBlock) v474 x5_1) ∧ Za (w'.heap[gb469]? = some (.cells #[(.slice A0_0 l0_0.length c0_0), (.slice A0_1 l0_1.length c0_1), (.slice A0_2 l0_2.length c0_2), (.slice A0_3 l0_3.length c0_3), (.slice A0_4 l0_4.length c0_4)] 27 (0, 0))) ∧ Za (Below w.heap.size w w'))
     case atStart => exact ⟨(y470), (y473), (0), (by first | rfl | (simp; done) | (simp [*]; done)), H', ⟨Nat.le_refl _⟩, ⟨HO472.out⟩, ⟨HO475.out⟩, ⟨BK469.out⟩, ⟨HB.out⟩⟩
     case round =>
      clear H'
      try clear c3b0
      try clear c3b1
      try clear c4b0
      try clear c4b1
      try clear c5b0
      try clear c5b1
      try clear c6b0
      try clear c6b1
      obtain ⟨x4_1, x5_1, x22_1, rfl, HA, HK1, HO_4, HO_5, BK469, HB⟩ := hrel
      cases gk with
      | zero => exact absurd HA.out (by simp [Zi.l0])
      | succ k1 =>
       have H := HA.out
       clear HA
       simp only [Zi.l0] at H
       by_cases c14 : x22_1 < (l1.length : Int)
       ·rw [if_pos c14] at H
        have c14b0 : decide (x22_1 < (l1.length : Int)) = true := decide_eq_true c14
        clear c14
        by_cases c15 : 0 ≤ x22_1
        ·rw [if_pos c15] at H
         have c15b0 : decide (0 ≤ x22_1) = true := decide_eq_true c15
         clear c15
         by_cases c16 : x22_1 < (l1.length : Int)
         ·rw [if_pos c16] at H
          have c16b0 : decide (x22_1 < (l1.length : Int)) = true := decide_eq_true c16
          clear c16
          have H' := Za.mk H
          clear H
          have p476 : 0 ≤ (x22_1 : Int) := of_decide_eq_true (by first | (with_reducible assumption) | assumption)
          have q476 : x22_1 < (l1.length : Int) := of_decide_eq_true (by first | (with_reducible assumption) | assumption)
          obtain ⟨ad476, A476_0, c476_0, A476_1, c476_1, e476, hx476_0, hx476_1, hl476_0, hi476_0, hl476_1, hi476_1⟩ := at_T55 HR1.out x22_1 p476 q476
          cases e476
          replace hx476_0 := (HB.out.cell (World.block_lt_of_cell? w _ hx476_0)).trans hx476_0
          replace hx476_1 := (HB.out.cell (World.block_lt_of_cell? w _ hx476_1)).trans hx476_1
          have HR476_0 := Za.mk hi476_0
          have HC476_0 := Za.mk hl476_0
          clear hi476_0 hl476_0
          have HR476_1 := Za.mk hi476_1
          have HC476_1 := Za.mk hl476_1
          clear hi476_1 hl476_1
          replace p476 := eq_true p476
          replace q476 := eq_true q476
          go_wp2_with (((with_reducible refine Xg (N := 7) rfl ?_); refine Xk ?hg (N := 7) ?hd (cs := #[.slice none 0 0, .slice none 0 0]) (t := 55) ?hr ?_; (case hd => rfl); (case hg => rfl); (case hr => first | (go_simp; done) | (go_simp; rfl)); intro gb477 hg w17 hbox hb; have n0_ := Za.mk (Kd.Zr HO_4.out hb); have n1_ := Za.mk (Kd.Zr HO_5.out hb); have n2_ := Za.mk (Zo BK469.out hb); have n3_ := Za.mk (Zh HB.out hb); have n4_ := Za.mk (hbox); have n5_ := Za.mk ((by rw [hg]; exact (Zg HB.out) : w.heap.size ≤ gb477)); have n6_ := n5_; have n7_ := Za.mk ((by rw [hg]; exact Nat.ne_of_lt (Xz BK469.out) : gb469 ≠ gb477)); have n8_ := Za.mk ((by rw [hg]; exact Nat.ne_of_gt (Xz BK469.out) : gb477 ≠ gb469)); clear HO_4; clear HO_5; clear BK469; clear HB; have HO_4 := n0_; have HO_5 := n1_; have BK469 := n2_; have HB := n3_; have BK477 := n4_; have GW477 := n5_; have GE477 := n6_; have NB469_477 := n7_; have NB477_469 := n8_; clear n0_ n1_ n2_ n3_ n4_ n5_ n6_ n7_ n8_; clear hb hbox hg; have hnb18 := NB477_469.out; have hnc18 := NB469_477.out; have hcz19_0 : w17.cell? ⟨gb477, 0, none⟩ = some (.slice none 0 0) := (Zc BK477.out 0).trans rfl; have hcz19_1 : w17.cell? ⟨gb477, 1, none⟩ = some (.slice none 0 0) := (Zc BK477.out 1).trans rfl; have hfz19_0 := Zb BK477.out 0; have hfz19_1 := Zb BK477.out 1))
          go_loopg [30] k1 (fun kq v30 w' => ∃ (x4_2 : List Int) (x30_2 : Int), v30 = .int .i64 x30_2 ∧ Za (Zi.l1 kq x4_2 x5_1 x22_1 l1 (l1.length : Int) x22_1 ((Zz l1 x22_1).f0) (((Zz l1 x22_1).f0).length : Int) x30_2 ((Zz l1 x22_1).f0) ((Zz l1 x22_1).f1) = some (r1, r2)) ∧ Za (kq ≤ k1) ∧ Za (Kd.R (Kd.int .u64) 78 w' w.heap.size (fun k_ => some k_ ≠ (v474 : Value).ownBlock) v471 x4_2) ∧ Za (Kd.R (Kd.int .u64) 78 w' w.heap.size (fun k_ => some k_ ≠ (v471 : Value).ownBlock) v474 x5_1) ∧ Za (w'.heap[gb469]? = some (.cells #[(.slice A0_0 l0_0.length c0_0), (.slice A0_1 l0_1.length c0_1), (.slice A0_2 l0_2.length c0_2), (.slice A0_3 l0_3.length c0_3), (.slice A0_4 l0_4.length c0_4)] 27 (0, 0))) ∧ Za (w'.heap[gb477]? = some (.cells #[(.slice A476_0 ((Zz l1 x22_1).f0).length c476_0), (.slice A476_1 ((Zz l1 x22_1).f1).length c476_1)] 55 (0, 0))) ∧ Za (Below w.heap.size w w'))
          case atStart => exact ⟨(x4_1), (0), (by first | rfl | (simp; done) | (simp [*]; done)), H', ⟨Nat.le_refl _⟩, ⟨by (with_reducible repeat (first | apply Kd.R_alloc | apply Kd.Xx | apply Kd.Qa)); exact Kd.Xj (Kd.Xt (p := ⟨gb477, 1, none⟩) (Kd.Xt (p := ⟨gb477, 0, none⟩) (Kd.Qz HO_4.out BK477.out (by decide)) (fun _ hk => hk.2) (.slice A476_0 ((Zz l1 x22_1).f0).length c476_0)) (fun _ hk => hk.2) (.slice A476_1 ((Zz l1 x22_1).f1).length c476_1)) (fun _ hk => hk.1)⟩, ⟨by (with_reducible repeat (first | apply Kd.R_alloc | apply Kd.Xx | apply Kd.Qa)); exact Kd.Xj (Kd.Xt (p := ⟨gb477, 1, none⟩) (Kd.Xt (p := ⟨gb477, 0, none⟩) (Kd.Qz HO_5.out BK477.out (by decide)) (fun _ hk => hk.2) (.slice A476_0 ((Zz l1 x22_1).f0).length c476_0)) (fun _ hk => hk.2) (.slice A476_1 ((Zz l1 x22_1).f1).length c476_1)) (fun _ hk => hk.1)⟩, ⟨by (with_reducible repeat (first | refine Zk ?_ _ | refine Zm ?_ | refine Zj ?_ _)); refine Qc ?_ NB469_477.out _; (with_reducible repeat (first | refine Zk ?_ _ | refine Zm ?_ | refine Zj ?_ _)); refine Qc ?_ NB469_477.out _; (with_reducible repeat (first | refine Zk ?_ _ | refine Zm ?_ | refine Zj ?_ _)); exact BK469.out⟩, ⟨by (with_reducible repeat (first | refine Zk ?_ _ | refine Zm ?_ | refine Zj ?_ _)); refine Ql (cs := #[.slice A476_0 ((Zz l1 x22_1).f0).length c476_0, .slice none 0 0]) ?_ 1 _ rfl; (with_reducible repeat (first | refine Zk ?_ _ | refine Zm ?_ | refine Zj ?_ _)); refine Ql (cs := #[.slice none 0 0, .slice none 0 0]) ?_ 0 _ rfl; (with_reducible repeat (first | refine Zk ?_ _ | refine Zm ?_ | refine Zj ?_ _)); exact BK477.out⟩, ⟨by repeat (first | (with_reducible first | exact HB.out | apply Zn | apply Zq | apply Zv | refine Zl ?_ GE469.out | refine Zl ?_ GE477.out) | exact HB.out)⟩⟩
          case round =>
           clear H'
           try clear c14b0
           try clear c15b0
           try clear c16b0
           try clear hcz19_0
           try clear hcz19_1
           try clear hfz19_0
           try clear hfz19_1
           try clear hx476_0
           try clear hx476_1
           try clear p476
           try clear q476
           obtain ⟨x4_2, x30_2, rfl, HA, HK2, HO_4, HO_5, BK469, BK477, HB⟩ := hrel
           cases gk with
           | zero => exact absurd HA.out (by simp [Zi.l1])
           | succ k2 =>
            have H := HA.out
            clear HA
            simp only [Zi.l1] at H
            by_cases c20 : x30_2 < (((Zz l1 x22_1).f0).length : Int)
            ·rw [if_pos c20] at H
             have c20b0 : decide (x30_2 < (((Zz l1 x22_1).f0).length : Int)) = true := decide_eq_true c20
             clear c20
             by_cases c21 : 0 ≤ x30_2
             ·rw [if_pos c21] at H
              have c21b0 : decide (0 ≤ x30_2) = true := decide_eq_true c21
              clear c21
              by_cases c22 : x30_2 < (((Zz l1 x22_1).f0).length : Int)
              ·rw [if_pos c22] at H
               have c22b0 : decide (x30_2 < (((Zz l1 x22_1).f0).length : Int)) = true := decide_eq_true c22
               clear c22
               obtain ⟨bq23, hbq23⟩ : ∃ b_ : Bool, b_ = (rdOf false ((Zz l1 x22_1).f0) x30_2) := ⟨_, rfl⟩
               replace H : (if bq23 = true then (if x30_2 < (x4_2.length : Int) then (if 0 ≤ x22_1 then (Zi.l1 k2 (x4_2.set (x30_2 : Int).toNat (Go.bits .or .u64 (rd x4_2 x30_2) (shl .u64 1 x22_1))) x5_1 x22_1 l1 (l1.length : Int) x22_1 ((Zz l1 x22_1).f0) (((Zz l1 x22_1).f0).length : Int) (wrap64 (x30_2 + 1)) ((Zz l1 x22_1).f0) ((Zz l1 x22_1).f1)) else (none)) else (none)) else (Zi.l1 k2 x4_2 x5_1 x22_1 l1 (l1.length : Int) x22_1 ((Zz l1 x22_1).f0) (((Zz l1 x22_1).f0).length : Int) (wrap64 (x30_2 + 1)) ((Zz l1 x22_1).f0) ((Zz l1 x22_1).f1))) = some (r1, r2) := by rw [← hbq23] at H; exact H
               have Nbq23 := Za.mk hbq23
               clear hbq23
               by_cases c24 : bq23 = true
               ·subst c24
                have H1 : (if x30_2 < (x4_2.length : Int) then (if 0 ≤ x22_1 then (Zi.l1 k2 (x4_2.set (x30_2 : Int).toNat (Go.bits .or .u64 (rd x4_2 x30_2) (shl .u64 1 x22_1))) x5_1 x22_1 l1 (l1.length : Int) x22_1 ((Zz l1 x22_1).f0) (((Zz l1 x22_1).f0).length : Int) (wrap64 (x30_2 + 1)) ((Zz l1 x22_1).f0) ((Zz l1 x22_1).f1)) else (none)) else (none)) = some (r1, r2) := by rw [if_pos rfl] at H; exact H
                clear H
                have H := H1
                clear H1
                by_cases c25 : x30_2 < (x4_2.length : Int)
                ·rw [if_pos c25] at H
                 have c25b0 : decide (x30_2 < (x4_2.length : Int)) = true := decide_eq_true c25
                 clear c25
                 by_cases c26 : 0 ≤ x22_1
                 ·rw [if_pos c26] at H
                  have c26b0 := eq_true c26
                  have c26b1 : decide (0 ≤ x22_1) = true := decide_eq_true c26
                  clear c26
                  obtain ⟨ji27, hji27⟩ : ∃ j_ : Int, (shl .u64 1 x22_1) = j_ := ⟨_, rfl⟩
                  replace H : (Zi.l1 k2 (x4_2.set (x30_2 : Int).toNat (Go.bits .or .u64 (rd x4_2 x30_2) (ji27))) x5_1 x22_1 l1 (l1.length : Int) x22_1 ((Zz l1 x22_1).f0) (((Zz l1 x22_1).f0).length : Int) (wrap64 (x30_2 + 1)) ((Zz l1 x22_1).f0) ((Zz l1 x22_1).f1)) = some (r1, r2) := by first | (rw [hji27] at H; exact H) | (simp only [hji27] at H ⊢; exact H)
                  have hji27_ : (IntKind.u64.wrap (1 * 2 ^ min x22_1.toNat 64)) = ji27 := hji27
                  have hji27z : x22_1 ≤ 64 → (IntKind.u64.wrap (1 * 2 ^ x22_1.toNat)) = ji27 := shl_small hji27
                  have hji27u : (IntKind.u64.wrap (2 ^ min x22_1.toNat 64)) = ji27 := by have h_ := hji27_; rw [Int.one_mul] at h_; exact h_
                  have hji27v : x22_1 ≤ 64 → (IntKind.u64.wrap (2 ^ x22_1.toNat)) = ji27 := fun hle_ => by have h_ := hji27z hle_; rw [Int.one_mul] at h_; exact h_
                  obtain ⟨y480, hy480⟩ : ∃ y_ : List Int, y_ = (x4_2.set (x30_2 : Int).toNat (Go.bits .or .u64 (rd x4_2 x30_2) (ji27))) := ⟨_, rfl⟩
                  replace H : (Zi.l1 k2 y480 x5_1 x22_1 l1 (l1.length : Int) x22_1 ((Zz l1 x22_1).f0) (((Zz l1 x22_1).f0).length : Int) (wrap64 (x30_2 + 1)) ((Zz l1 x22_1).f0) ((Zz l1 x22_1).f1)) = some (r1, r2) := by first | (rw [hy480]; with_reducible exact H) | (have H2_ := (Option.bind_some _ _).symm.trans H; rw [hy480]; with_reducible exact H2_) | (have H2_ := (Option.bind_some _ _).symm.trans H; with_reducible exact H2_) | with_reducible exact H | (rw [hy480]; exact H) | exact H
                  have Ny480 := Za.mk hy480
                  clear hy480
                  have H' := Za.mk H
                  clear H
                  have p478 : 0 ≤ (x30_2 : Int) := of_decide_eq_true (by first | (with_reducible assumption) | assumption)
                  have q478 : x30_2 < (((Zz l1 x22_1).f0).length : Int) := of_decide_eq_true (by first | (with_reducible assumption) | assumption)
                  obtain ⟨ad478, e478, hx478_0⟩ := Kd.at_bool HR476_0.out x30_2 p478 q478
                  (try rw [← Nbq23.out] at hx478_0)
                  cases e478
                  replace hx478_0 := (HB.out.cell (World.block_lt_of_cell? w _ hx478_0)).trans hx478_0
                  replace p478 := eq_true p478
                  replace q478 := eq_true q478
                  try go_wp2
                  have n0_ := Za.mk (Kd.Qa HO_4.out)
                  have n1_ := Za.mk (Kd.Qa HO_5.out)
                  have n2_ := Za.mk (Zm BK469.out)
                  have n3_ := Za.mk (Zm BK477.out)
                  have n4_ := Za.mk (Zv HB.out)
                  clear HO_4
                  clear HO_5
                  clear BK469
                  clear BK477
                  clear HB
                  have HO_4 := n0_
                  have HO_5 := n1_
                  have BK469 := n2_
                  have BK477 := n3_
                  have HB := n4_
                  clear n0_ n1_ n2_ n3_ n4_
                  obtain ⟨Ao30, co30, eo30⟩ := Kd.Xd HO_4.out
                  (first | subst eo30 | (injection eo30 with f1_ f2_ f3_; have f4_ := f1_.symm; have f5_ := f3_.symm; clear f1_ f2_ f3_; subst f4_; subst f5_))
                  have p479 : 0 ≤ (x30_2 : Int) := of_decide_eq_true (by first | (with_reducible assumption) | assumption)
                  have q479 : x30_2 < (x4_2.length : Int) := of_decide_eq_true (by first | (with_reducible assumption) | assumption)
                  obtain ⟨ad479, e479, hx479_0⟩ := Kd.at_int (Kd.Xl HO_4.out).2.2 x30_2 p479 q479
                  cases e479
                  replace p479 := eq_true p479
                  replace q479 := eq_true q479
                  have p28 : 0 ≤ (x30_2 : Int) := of_decide_eq_true (by first | (with_reducible assumption) | assumption)
                  have q28 : (x30_2 : Int) < ((x4_2.length : Int) : Int) := of_decide_eq_true (by first | (with_reducible assumption) | assumption)
                  obtain ⟨go28, co28, eo28, gb28, gl28, cl28, HG28⟩ := Kd.R_form HO_4.out (by omega)
                  (first | cases eo28 | (injection eo28 with ea_ en_ ec_; (first | subst ea_ | (injection ea_ with ea_; subst ea_)); subst ec_; clear en_))
                  have GB28 := Za.mk gb28
                  have GG28 := Za.mk HG28
                  clear gb28 gl28 HG28
                  (first | simp only [add_plain] at hx479_0 | skip)
                  obtain ⟨hx28_0, hf28_0⟩ := Kd.R_celln 0 HO_4.out (x30_2 : Int) p28 q28
                  replace p28 := eq_true p28
                  replace q28 := eq_true q28
                  have HP31 := Kd.R_putn HO_4.out (x30_2 : Int) (Go.bits .or .u64 (rd x4_2 x30_2) (ji27))
                  rw [← Ny480.out] at HP31
                  have HQ31 := Za.mk HP31
                  clear HP31
                  refine start_ (n := 9) (S := fun w' => w'.cell? ⟨go28, (x30_2).toNat, none⟩ = some (.int .u64 (rd x4_2 x30_2))) (ds := [8]) #[false, false, false, false, false, false, false, false, false] (by kernel_rfl) rfl rfl (hx479_0) (fun hHeld => ?_); refine with_tabW Zi.tab9 Zi.bits9 (fun HT_ HW_ => ?_)
                  generalize wr.drew = w29 at HO_4 HO_5 BK469 BK477 HB GG28 HQ31 hf28_0 hx28_0 hx479_0 hHeld ⊢
                  refine Qp (i := 0) (N := some 36) (v := ?_) (a' := ?_) #[true, false, false, false, false, false, false, false, false] rfl rfl (Qn HT_.out (by kernel_rfl)) (fun _ _ _ h => h) (Or.inl ⟨by rfl, ?_⟩) ?_ ?_
                  rotate_left
                  ·intro w'
                   go_simp
                   with_reducible rfl
                  rotate_left
                  ·simp only [Act.put, List.setIfInBounds_toArray, List.set_cons_zero, List.set_cons_succ, Xr, Xv]
                   rfl
                  refine Qp (i := 1) (N := some 37) (v := ?_) (a' := ?_) #[true, true, false, false, false, false, false, false, false] rfl rfl (Qn HT_.out (by kernel_rfl)) (fun _ _ _ h => h) (Or.inl ⟨by rfl, ?_⟩) ?_ ?_
                  rotate_left
                  ·intro w'
                   go_simp
                   with_reducible rfl
                  rotate_left
                  ·simp only [Act.put, List.setIfInBounds_toArray, List.set_cons_zero, List.set_cons_succ, Xr, Xv]
                   rfl
                  refine Qp (i := 2) (N := some 38) (v := ?_) (a' := ?_) #[true, true, true, false, false, false, false, false, false] rfl rfl (Qn HT_.out (by kernel_rfl)) (fun _ _ _ h => h) (Or.inl ⟨by rfl, ?_⟩) ?_ ?_
                  rotate_left
                  ·intro w'
                   go_simp
                   with_reducible rfl
                  rotate_left
                  ·simp only [Act.put, List.setIfInBounds_toArray, List.set_cons_zero, List.set_cons_succ, Xr, Xv]
                   rfl
                  refine Qp (i := 4) (N := some 40) (v := ?_) (a' := ?_) #[true, true, true, false, true, false, false, false, false] rfl rfl (Qn HT_.out (by kernel_rfl)) (fun _ _ _ h => h) (Or.inl ⟨by rfl, ?_⟩) ?_ ?_
                  rotate_left
                  ·intro w'
                   go_simp
                   with_reducible rfl
                  rotate_left
                  ·simp only [Act.put, List.setIfInBounds_toArray, List.set_cons_zero, List.set_cons_succ, Xr, Xv]
                   rfl
                  refine Qp (i := 5) (N := some 41) (v := ?_) (a' := ?_) #[true, true, true, false, true, true, false, false, false] rfl rfl (Qn HT_.out (by kernel_rfl)) (fun _ _ _ h => h) (Or.inl ⟨by rfl, ?_⟩) ?_ ?_
                  rotate_left
                  ·intro w'
                   go_simp
                   with_reducible rfl
                  rotate_left
                  ·simp only [Act.put, List.setIfInBounds_toArray, List.set_cons_zero, List.set_cons_succ, Xr, Xv]
                   rfl
                  refine take_ (i := 3) (N := some 39) (v := ?_) (a' := ?_) #[true, true, true, true, true, true, false, false, false] rfl rfl (take_ofW HT_.out HW_.out (by kernel_rfl)) (fun _ _ _ h => h) (Or.inl ⟨by rfl, ?_⟩) hHeld ?_ ?_
                  rotate_left
                  ·intro w' s0
                   go_simp
                   with_reducible rfl
                  rotate_left
                  ·simp only [Act.put, List.setIfInBounds_toArray, List.set_cons_zero, List.set_cons_succ, Xr, Xv]
                   rfl
                  refine Qp (i := 6) (N := some 42) (v := ?_) (a' := ?_) #[true, true, true, true, true, true, true, false, false] rfl rfl (Qn HT_.out (by kernel_rfl)) (fun _ _ _ h => h) (Or.inl ⟨by rfl, ?_⟩) ?_ ?_
                  rotate_left
                  ·intro w'
                   go_simp
                   with_reducible rfl
                  rotate_left
                  ·simp only [Act.put, List.setIfInBounds_toArray, List.set_cons_zero, List.set_cons_succ, Xr, Xv]
                   rfl
                  refine Qp (i := 7) (N := some 43) (v := ?_) (a' := ?_) #[true, true, true, true, true, true, true, true, false] rfl rfl (Qn HT_.out (by kernel_rfl)) (fun _ _ _ h => h) (Or.inl ⟨by rfl, ?_⟩) ?_ ?_
                  rotate_left
                  ·intro w'
                   go_simp
                   with_reducible rfl
                  rotate_left
                  ·simp only [Act.put, List.setIfInBounds_toArray, List.set_cons_zero, List.set_cons_succ, Xr, Xv]
                   rfl
                  refine last_ (i := 8) (N := none) #[true, true, true, true, true, true, true, true, true] rfl rfl (one_of HT_.out (by kernel_rfl)) (by decide) (fun K hK => ?_)
                  refine skip_ (w1 := ?_) (by rfl) rfl ?_ ?_
                  rotate_left
                  ·go_simp
                   rfl
                  refine hK.out _ _ ?_
                  clear hK K
                  refine done_ (done_of HT_.out (by kernel_rfl)) ?_
                  try go_wp2
                  go_roundg k2
                  case measure => have := HK1.out; have := HK2.out; omega
                  case rel => exact ⟨(y480), (wrap64 (x30_2 + 1)), (by first | rfl | (simp; done) | (simp [*]; done)), H', ⟨by have := HK1.out; have := HK2.out; omega⟩, ⟨by (with_reducible repeat (first | apply Kd.R_alloc | apply Kd.Xx | apply Kd.Qa)); exact HQ31.out⟩, ⟨by (with_reducible repeat (first | apply Kd.R_alloc | apply Kd.Xx | apply Kd.Qa)); exact Kd.Xj (Kd.Xt (p := ⟨go28, (x30_2 : Int).toNat, none⟩) (Kd.Xj HO_5.out (fun k_ hk => (⟨hk, fun e_ => hk (by rw [e_]; rfl)⟩ : _ ∧ k_ ≠ go28))) (fun _ hk => hk.2) (.int .u64 (Go.bits .or .u64 (rd x4_2 x30_2) (ji27)))) (fun _ hk => hk.1)⟩, ⟨by (with_reducible repeat (first | refine Zk ?_ _ | refine Zm ?_ | refine Zj ?_ _)); refine Qc ?_ (by have h_ := Kd.R_ne HO_4.out BK469.out (by decide); intro e_; exact h_ (by rw [e_]; rfl)) _; (with_reducible repeat (first | refine Zk ?_ _ | refine Zm ?_ | refine Zj ?_ _)); exact BK469.out⟩, ⟨by (with_reducible repeat (first | refine Zk ?_ _ | refine Zm ?_ | refine Zj ?_ _)); refine Qc ?_ (by have h_ := Kd.R_ne HO_4.out BK477.out (by decide); intro e_; exact h_ (by rw [e_]; rfl)) _; (with_reducible repeat (first | refine Zk ?_ _ | refine Zm ?_ | refine Zj ?_ _)); exact BK477.out⟩, ⟨by repeat (first | (with_reducible first | exact HB.out | apply Zn | apply Zq | apply Zv | refine Zl ?_ GB28.out | refine Zl ?_ GE469.out | refine Zl ?_ GE477.out) | exact HB.out)⟩⟩
                 ·rw [if_neg c26] at H
                  exact absurd H (by simp)
                ·rw [if_neg c25] at H
                 exact absurd H (by simp)
               ·replace c24 := Bool.eq_false_iff.mpr c24
                subst c24
                have H1 : (Zi.l1 k2 x4_2 x5_1 x22_1 l1 (l1.length : Int) x22_1 ((Zz l1 x22_1).f0) (((Zz l1 x22_1).f0).length : Int) (wrap64 (x30_2 + 1)) ((Zz l1 x22_1).f0) ((Zz l1 x22_1).f1)) = some (r1, r2) := by rw [if_neg (show ¬ (false = true) by decide)] at H; exact H
                clear H
                have H := H1
                clear H1
                have H' := Za.mk H
                clear H
                have p478 : 0 ≤ (x30_2 : Int) := of_decide_eq_true (by first | (with_reducible assumption) | assumption)
                have q478 : x30_2 < (((Zz l1 x22_1).f0).length : Int) := of_decide_eq_true (by first | (with_reducible assumption) | assumption)
                obtain ⟨ad478, e478, hx478_0⟩ := Kd.at_bool HR476_0.out x30_2 p478 q478
                (try rw [← Nbq23.out] at hx478_0)
                cases e478
                replace hx478_0 := (HB.out.cell (World.block_lt_of_cell? w _ hx478_0)).trans hx478_0
                replace p478 := eq_true p478
                replace q478 := eq_true q478
                go_wp2
                go_roundg k2
                case measure => have := HK1.out; have := HK2.out; omega
                case rel => exact ⟨(x4_2), (wrap64 (x30_2 + 1)), (by first | rfl | (simp; done) | (simp [*]; done)), H', ⟨by have := HK1.out; have := HK2.out; omega⟩, ⟨HO_4.out⟩, ⟨HO_5.out⟩, ⟨BK469.out⟩, ⟨BK477.out⟩, ⟨HB.out⟩⟩
              ·rw [if_neg c22] at H
               exact absurd H (by simp)
             ·rw [if_neg c21] at H
              exact absurd H (by simp)
            ·rw [if_neg c20] at H
             have c20b0 : decide (x30_2 < (((Zz l1 x22_1).f0).length : Int)) = false := decide_eq_false c20
             clear c20
             have H' := Za.mk H
             clear H
             have hnb32 := NB477_469.out
             have hnc32 := NB469_477.out
             have hcz33_0 : wr.cell? ⟨gb477, 0, none⟩ = some (.slice A476_0 ((Zz l1 x22_1).f0).length c476_0) := (Zc BK477.out 0).trans rfl
             have hcz33_1 : wr.cell? ⟨gb477, 1, none⟩ = some (.slice A476_1 ((Zz l1 x22_1).f1).length c476_1) := (Zc BK477.out 1).trans rfl
             have hfz33_0 := Zb BK477.out 0
             have hfz33_1 := Zb BK477.out 1
             go_wp2
             go_loopg [48] k2 (fun kq v48 w' => ∃ (x5_3 : List Int) (x48_3 : Int), v48 = .int .i64 x48_3 ∧ Za (Zi.l2 kq x4_2 x5_3 x22_1 l1 (l1.length : Int) x22_1 ((Zz l1 x22_1).f1) (((Zz l1 x22_1).f1).length : Int) x48_3 = some (r1, r2)) ∧ Za (kq ≤ k2) ∧ Za (Kd.R (Kd.int .u64) 78 w' w.heap.size (fun k_ => some k_ ≠ (v474 : Value).ownBlock) v471 x4_2) ∧ Za (Kd.R (Kd.int .u64) 78 w' w.heap.size (fun k_ => some k_ ≠ (v471 : Value).ownBlock) v474 x5_3) ∧ Za (w'.heap[gb469]? = some (.cells #[(.slice A0_0 l0_0.length c0_0), (.slice A0_1 l0_1.length c0_1), (.slice A0_2 l0_2.length c0_2), (.slice A0_3 l0_3.length c0_3), (.slice A0_4 l0_4.length c0_4)] 27 (0, 0))) ∧ Za (w'.heap[gb477]? = some (.cells #[(.slice A476_0 ((Zz l1 x22_1).f0).length c476_0), (.slice A476_1 ((Zz l1 x22_1).f1).length c476_1)] 55 (0, 0))) ∧ Za (Below w.heap.size w w'))
             case atStart => exact ⟨(x5_1), (0), (by first | rfl | (simp; done) | (simp [*]; done)), H', ⟨Nat.le_refl _⟩, ⟨HO_4.out⟩, ⟨HO_5.out⟩, ⟨BK469.out⟩, ⟨BK477.out⟩, ⟨HB.out⟩⟩
             case round =>
              clear H'
              try clear c20b0
              try clear hcz33_0
              try clear hcz33_1
              try clear hfz33_0
              try clear hfz33_1
              obtain ⟨x5_3, x48_3, rfl, HA, HK3, HO_4, HO_5, BK469, BK477, HB⟩ := hrel
              cases gk with
              | zero => exact absurd HA.out (by simp [Zi.l2])
              | succ k3 =>
               have H := HA.out
               clear HA
               simp only [Zi.l2] at H
               by_cases c34 : x48_3 < (((Zz l1 x22_1).f1).length : Int)
               ·rw [if_pos c34] at H
                have c34b0 : decide (x48_3 < (((Zz l1 x22_1).f1).length : Int)) = true := decide_eq_true c34
                clear c34
                by_cases c35 : 0 ≤ x48_3
                ·rw [if_pos c35] at H
                 have c35b0 : decide (0 ≤ x48_3) = true := decide_eq_true c35
                 clear c35
                 by_cases c36 : x48_3 < (((Zz l1 x22_1).f1).length : Int)
                 ·rw [if_pos c36] at H
                  have c36b0 : decide (x48_3 < (((Zz l1 x22_1).f1).length : Int)) = true := decide_eq_true c36
                  clear c36
                  obtain ⟨bq37, hbq37⟩ : ∃ b_ : Bool, b_ = (rdOf false ((Zz l1 x22_1).f1) x48_3) := ⟨_, rfl⟩
                  replace H : (if bq37 = true then (if x48_3 < (x5_3.length : Int) then (if 0 ≤ x22_1 then (Zi.l2 k3 x4_2 (x5_3.set (x48_3 : Int).toNat (Go.bits .or .u64 (rd x5_3 x48_3) (shl .u64 1 x22_1))) x22_1 l1 (l1.length : Int) x22_1 ((Zz l1 x22_1).f1) (((Zz l1 x22_1).f1).length : Int) (wrap64 (x48_3 + 1))) else (none)) else (none)) else (Zi.l2 k3 x4_2 x5_3 x22_1 l1 (l1.length : Int) x22_1 ((Zz l1 x22_1).f1) (((Zz l1 x22_1).f1).length : Int) (wrap64 (x48_3 + 1)))) = some (r1, r2) := by rw [← hbq37] at H; exact H
                  have Nbq37 := Za.mk hbq37
                  clear hbq37
                  by_cases c38 : bq37 = true
                  ·subst c38
                   have H1 : (if x48_3 < (x5_3.length : Int) then (if 0 ≤ x22_1 then (Zi.l2 k3 x4_2 (x5_3.set (x48_3 : Int).toNat (Go.bits .or .u64 (rd x5_3 x48_3) (shl .u64 1 x22_1))) x22_1 l1 (l1.length : Int) x22_1 ((Zz l1 x22_1).f1) (((Zz l1 x22_1).f1).length : Int) (wrap64 (x48_3 + 1))) else (none)) else (none)) = some (r1, r2) := by rw [if_pos rfl] at H; exact H
                   clear H
                   have H := H1
                   clear H1
                   by_cases c39 : x48_3 < (x5_3.length : Int)
                   ·rw [if_pos c39] at H
                    have c39b0 : decide (x48_3 < (x5_3.length : Int)) = true := decide_eq_true c39
                    clear c39
                    by_cases c40 : 0 ≤ x22_1
                    ·rw [if_pos c40] at H
                     have c40b0 := eq_true c40
                     have c40b1 : decide (0 ≤ x22_1) = true := decide_eq_true c40
                     clear c40
                     obtain ⟨ji41, hji41⟩ : ∃ j_ : Int, (shl .u64 1 x22_1) = j_ := ⟨_, rfl⟩
                     replace H : (Zi.l2 k3 x4_2 (x5_3.set (x48_3 : Int).toNat (Go.bits .or .u64 (rd x5_3 x48_3) (ji41))) x22_1 l1 (l1.length : Int) x22_1 ((Zz l1 x22_1).f1) (((Zz l1 x22_1).f1).length : Int) (wrap64 (x48_3 + 1))) = some (r1, r2) := by first | (rw [hji41] at H; exact H) | (simp only [hji41] at H ⊢; exact H)
                     have hji41_ : (IntKind.u64.wrap (1 * 2 ^ min x22_1.toNat 64)) = ji41 := hji41
                     have hji41z : x22_1 ≤ 64 → (IntKind.u64.wrap (1 * 2 ^ x22_1.toNat)) = ji41 := shl_small hji41
                     have hji41u : (IntKind.u64.wrap (2 ^ min x22_1.toNat 64)) = ji41 := by have h_ := hji41_; rw [Int.one_mul] at h_; exact h_
                     have hji41v : x22_1 ≤ 64 → (IntKind.u64.wrap (2 ^ x22_1.toNat)) = ji41 := fun hle_ => by have h_ := hji41z hle_; rw [Int.one_mul] at h_; exact h_
                     obtain ⟨y483, hy483⟩ : ∃ y_ : List Int, y_ = (x5_3.set (x48_3 : Int).toNat (Go.bits .or .u64 (rd x5_3 x48_3) (ji41))) := ⟨_, rfl⟩
                     replace H : (Zi.l2 k3 x4_2 y483 x22_1 l1 (l1.length : Int) x22_1 ((Zz l1 x22_1).f1) (((Zz l1 x22_1).f1).length : Int) (wrap64 (x48_3 + 1))) = some (r1, r2) := by first | (rw [hy483]; with_reducible exact H) | (have H2_ := (Option.bind_some _ _).symm.trans H; rw [hy483]; with_reducible exact H2_) | (have H2_ := (Option.bind_some _ _).symm.trans H; with_reducible exact H2_) | with_reducible exact H | (rw [hy483]; exact H) | exact H
                     have Ny483 := Za.mk hy483
                     clear hy483
                     have H' := Za.mk H
                     clear H
                     have p481 : 0 ≤ (x48_3 : Int) := of_decide_eq_true (by first | (with_reducible assumption) | assumption)
                     have q481 : x48_3 < (((Zz l1 x22_1).f1).length : Int) := of_decide_eq_true (by first | (with_reducible assumption) | assumption)
                     obtain ⟨ad481, e481, hx481_0⟩ := Kd.at_bool HR476_1.out x48_3 p481 q481
                     (try rw [← Nbq37.out] at hx481_0)
                     cases e481
                     replace hx481_0 := (HB.out.cell (World.block_lt_of_cell? w _ hx481_0)).trans hx481_0
                     replace p481 := eq_true p481
                     replace q481 := eq_true q481
                     try go_wp2
                     have n0_ := Za.mk (Kd.Qa HO_4.out)
                     have n1_ := Za.mk (Kd.Qa HO_5.out)
                     have n2_ := Za.mk (Zm BK469.out)
                     have n3_ := Za.mk (Zm BK477.out)
                     have n4_ := Za.mk (Zv HB.out)
                     clear HO_4
                     clear HO_5
                     clear BK469
                     clear BK477
                     clear HB
                     have HO_4 := n0_
                     have HO_5 := n1_
                     have BK469 := n2_
                     have BK477 := n3_
                     have HB := n4_
                     clear n0_ n1_ n2_ n3_ n4_
                     obtain ⟨Ao44, co44, eo44⟩ := Kd.Xd HO_5.out
                     (first | subst eo44 | (injection eo44 with f1_ f2_ f3_; have f4_ := f1_.symm; have f5_ := f3_.symm; clear f1_ f2_ f3_; subst f4_; subst f5_))
                     have p482 : 0 ≤ (x48_3 : Int) := of_decide_eq_true (by first | (with_reducible assumption) | assumption)
                     have q482 : x48_3 < (x5_3.length : Int) := of_decide_eq_true (by first | (with_reducible assumption) | assumption)
                     obtain ⟨ad482, e482, hx482_0⟩ := Kd.at_int (Kd.Xl HO_5.out).2.2 x48_3 p482 q482
                     cases e482
                     replace p482 := eq_true p482
                     replace q482 := eq_true q482
                     have p42 : 0 ≤ (x48_3 : Int) := of_decide_eq_true (by first | (with_reducible assumption) | assumption)
                     have q42 : (x48_3 : Int) < ((x5_3.length : Int) : Int) := of_decide_eq_true (by first | (with_reducible assumption) | assumption)
                     obtain ⟨go42, co42, eo42, gb42, gl42, cl42, HG42⟩ := Kd.R_form HO_5.out (by omega)
                     (first | cases eo42 | (injection eo42 with ea_ en_ ec_; (first | subst ea_ | (injection ea_ with ea_; subst ea_)); subst ec_; clear en_))
                     have GB42 := Za.mk gb42
                     have GG42 := Za.mk HG42
                     clear gb42 gl42 HG42
                     (first | simp only [add_plain] at hx482_0 | skip)
                     obtain ⟨hx42_0, hf42_0⟩ := Kd.R_celln 0 HO_5.out (x48_3 : Int) p42 q42
                     replace p42 := eq_true p42
                     replace q42 := eq_true q42
                     have HP45 := Kd.R_putn HO_5.out (x48_3 : Int) (Go.bits .or .u64 (rd x5_3 x48_3) (ji41))
                     rw [← Ny483.out] at HP45
                     have HQ45 := Za.mk HP45
                     clear HP45
                     refine start_ (n := 9) (S := fun w' => w'.cell? ⟨go42, (x48_3).toNat, none⟩ = some (.int .u64 (rd x5_3 x48_3))) (ds := [8]) #[false, false, false, false, false, false, false, false, false] (by kernel_rfl) rfl rfl (hx482_0) (fun hHeld => ?_); refine with_tabW Zi.tab15 Zi.bits15 (fun HT_ HW_ => ?_)
                     generalize wr.drew = w43 at HO_4 HO_5 BK469 BK477 HB GG42 HQ45 hf42_0 hx42_0 hx482_0 hHeld ⊢
                     refine Qp (i := 0) (N := some 54) (v := ?_) (a' := ?_) #[true, false, false, false, false, false, false, false, false] rfl rfl (Qn HT_.out (by kernel_rfl)) (fun _ _ _ h => h) (Or.inl ⟨by rfl, ?_⟩) ?_ ?_
                     rotate_left
                     ·intro w'
                      go_simp
                      with_reducible rfl
                     rotate_left
                     ·simp only [Act.put, List.setIfInBounds_toArray, List.set_cons_zero, List.set_cons_succ, Xr, Xv]
                      rfl
                     refine Qp (i := 1) (N := some 55) (v := ?_) (a' := ?_) #[true, true, false, false, false, false, false, false, false] rfl rfl (Qn HT_.out (by kernel_rfl)) (fun _ _ _ h => h) (Or.inl ⟨by rfl, ?_⟩) ?_ ?_
                     rotate_left
                     ·intro w'
                      go_simp
                      with_reducible rfl
                     rotate_left
                     ·simp only [Act.put, List.setIfInBounds_toArray, List.set_cons_zero, List.set_cons_succ, Xr, Xv]
                      rfl
                     refine Qp (i := 2) (N := some 56) (v := ?_) (a' := ?_) #[true, true, true, false, false, false, false, false, false] rfl rfl (Qn HT_.out (by kernel_rfl)) (fun _ _ _ h => h) (Or.inl ⟨by rfl, ?_⟩) ?_ ?_
                     rotate_left
                     ·intro w'
                      go_simp
                      with_reducible rfl
                     rotate_left
                     ·simp only [Act.put, List.setIfInBounds_toArray, List.set_cons_zero, List.set_cons_succ, Xr, Xv]
                      rfl
                     refine Qp (i := 4) (N := some 58) (v := ?_) (a' := ?_) #[true, true, true, false, true, false, false, false, false] rfl rfl (Qn HT_.out (by kernel_rfl)) (fun _ _ _ h => h) (Or.inl ⟨by rfl, ?_⟩) ?_ ?_
                     rotate_left
                     ·intro w'
                      go_simp
                      with_reducible rfl
                     rotate_left
                     ·simp only [Act.put, List.setIfInBounds_toArray, List.set_cons_zero, List.set_cons_succ, Xr, Xv]
                      rfl
                     refine Qp (i := 5) (N := some 59) (v := ?_) (a' := ?_) #[true, true, true, false, true, true, false, false, false] rfl rfl (Qn HT_.out (by kernel_rfl)) (fun _ _ _ h => h) (Or.inl ⟨by rfl, ?_⟩) ?_ ?_
                     rotate_left
                     ·intro w'
                      go_simp
                      with_reducible rfl
                     rotate_left
                     ·simp only [Act.put, List.setIfInBounds_toArray, List.set_cons_zero, List.set_cons_succ, Xr, Xv]
                      rfl
                     refine take_ (i := 3) (N := some 57) (v := ?_) (a' := ?_) #[true, true, true, true, true, true, false, false, false] rfl rfl (take_ofW HT_.out HW_.out (by kernel_rfl)) (fun _ _ _ h => h) (Or.inl ⟨by rfl, ?_⟩) hHeld ?_ ?_
                     rotate_left
                     ·intro w' s0
                      go_simp
                      with_reducible rfl
                     rotate_left
                     ·simp only [Act.put, List.setIfInBounds_toArray, List.set_cons_zero, List.set_cons_succ, Xr, Xv]
                      rfl
                     refine Qp (i := 6) (N := some 60) (v := ?_) (a' := ?_) #[true, true, true, true, true, true, true, false, false] rfl rfl (Qn HT_.out (by kernel_rfl)) (fun _ _ _ h => h) (Or.inl ⟨by rfl, ?_⟩) ?_ ?_
                     rotate_left
                     ·intro w'
                      go_simp
                      with_reducible rfl
                     rotate_left
                     ·simp only [Act.put, List.setIfInBounds_toArray, List.set_cons_zero, List.set_cons_succ, Xr, Xv]
                      rfl
                     refine Qp (i := 7) (N := some 61) (v := ?_) (a' := ?_) #[true, true, true, true, true, true, true, true, false] rfl rfl (Qn HT_.out (by kernel_rfl)) (fun _ _ _ h => h) (Or.inl ⟨by rfl, ?_⟩) ?_ ?_
                     rotate_left
                     ·intro w'
                      go_simp
                      with_reducible rfl
                     rotate_left
                     ·simp only [Act.put, List.setIfInBounds_toArray, List.set_cons_zero, List.set_cons_succ, Xr, Xv]
                      rfl
                     refine last_ (i := 8) (N := none) #[true, true, true, true, true, true, true, true, true] rfl rfl (one_of HT_.out (by kernel_rfl)) (by decide) (fun K hK => ?_)
                     refine skip_ (w1 := ?_) (by rfl) rfl ?_ ?_
                     rotate_left
                     ·go_simp
                      rfl
                     refine hK.out _ _ ?_
                     clear hK K
                     refine done_ (done_of HT_.out (by kernel_rfl)) ?_
                     try go_wp2
                     go_roundg k3
                     case measure => have := HK1.out; have := HK2.out; have := HK3.out; omega
                     case rel => exact ⟨(y483), (wrap64 (x48_3 + 1)), (by first | rfl | (simp; done) | (simp [*]; done)), H', ⟨by have := HK1.out; have := HK2.out; have := HK3.out; omega⟩, ⟨by (with_reducible repeat (first | apply Kd.R_alloc | apply Kd.Xx | apply Kd.Qa)); exact Kd.Xj (Kd.Xt (p := ⟨go42, (x48_3 : Int).toNat, none⟩) (Kd.Xj HO_4.out (fun k_ hk => (⟨hk, fun e_ => hk (by rw [e_]; rfl)⟩ : _ ∧ k_ ≠ go42))) (fun _ hk => hk.2) (.int .u64 (Go.bits .or .u64 (rd x5_3 x48_3) (ji41)))) (fun _ hk => hk.1)⟩, ⟨by (with_reducible repeat (first | apply Kd.R_alloc | apply Kd.Xx | apply Kd.Qa)); exact HQ45.out⟩, ⟨by (with_reducible repeat (first | refine Zk ?_ _ | refine Zm ?_ | refine Zj ?_ _)); refine Qc ?_ (by have h_ := Kd.R_ne HO_5.out BK469.out (by decide); intro e_; exact h_ (by rw [e_]; rfl)) _; (with_reducible repeat (first | refine Zk ?_ _ | refine Zm ?_ | refine Zj ?_ _)); exact BK469.out⟩, ⟨by (with_reducible repeat (first | refine Zk ?_ _ | refine Zm ?_ | refine Zj ?_ _)); refine Qc ?_ (by have h_ := Kd.R_ne HO_5.out BK477.out (by decide); intro e_; exact h_ (by rw [e_]; rfl)) _; (with_reducible repeat (first | refine Zk ?_ _ | refine Zm ?_ | refine Zj ?_ _)); exact BK477.out⟩, ⟨by repeat (first | (with_reducible first | exact HB.out | apply Zn | apply Zq | apply Zv | refine Zl ?_ GB42.out | refine Zl ?_ GE469.out | refine Zl ?_ GE477.out) | exact HB.out)⟩⟩
                    ·rw [if_neg c40] at H
                     exact absurd H (by simp)
                   ·rw [if_neg c39] at H
                    exact absurd H (by simp)
                  ·replace c38 := Bool.eq_false_iff.mpr c38
                   subst c38
                   have H1 : (Zi.l2 k3 x4_2 x5_3 x22_1 l1 (l1.length : Int) x22_1 ((Zz l1 x22_1).f1) (((Zz l1 x22_1).f1).length : Int) (wrap64 (x48_3 + 1))) = some (r1, r2) := by rw [if_neg (show ¬ (false = true) by decide)] at H; exact H
                   clear H
                   have H := H1
                   clear H1
                   have H' := Za.mk H
                   clear H
                   have p481 : 0 ≤ (x48_3 : Int) := of_decide_eq_true (by first | (with_reducible assumption) | assumption)
                   have q481 : x48_3 < (((Zz l1 x22_1).f1).length : Int) := of_decide_eq_true (by first | (with_reducible assumption) | assumption)
                   obtain ⟨ad481, e481, hx481_0⟩ := Kd.at_bool HR476_1.out x48_3 p481 q481
                   (try rw [← Nbq37.out] at hx481_0)
                   cases e481
                   replace hx481_0 := (HB.out.cell (World.block_lt_of_cell? w _ hx481_0)).trans hx481_0
                   replace p481 := eq_true p481
                   replace q481 := eq_true q481
                   go_wp2
                   go_roundg k3
                   case measure => have := HK1.out; have := HK2.out; have := HK3.out; omega
                   case rel => exact ⟨(x5_3), (wrap64 (x48_3 + 1)), (by first | rfl | (simp; done) | (simp [*]; done)), H', ⟨by have := HK1.out; have := HK2.out; have := HK3.out; omega⟩, ⟨HO_4.out⟩, ⟨HO_5.out⟩, ⟨BK469.out⟩, ⟨BK477.out⟩, ⟨HB.out⟩⟩
                 ·rw [if_neg c36] at H
                  exact absurd H (by simp)
                ·rw [if_neg c35] at H
                 exact absurd H (by simp)
               ·rw [if_neg c34] at H
                have c34b0 : decide (x48_3 < (((Zz l1 x22_1).f1).length : Int)) = false := decide_eq_false c34
                clear c34
                have H' := Za.mk H
                clear H
                go_wp2
                go_roundg k3
                case measure => have := HK1.out; have := HK2.out; have := HK3.out; omega
                case rel => exact ⟨(x4_2), (x5_3), (wrap64 (x22_1 + 1)), (by first | rfl | (simp; done) | (simp [*]; done)), H', ⟨by have := HK1.out; have := HK2.out; have := HK3.out; omega⟩, ⟨HO_4.out⟩, ⟨HO_5.out⟩, ⟨BK469.out⟩, ⟨HB.out⟩⟩
         ·rw [if_neg c16] at H
          exact absurd H (by simp)
        ·rw [if_neg c15] at H
         exact absurd H (by simp)
       ·rw [if_neg c14] at H
        have c14b0 : decide (x22_1 < (l1.length : Int)) = false := decide_eq_false c14
        clear c14
        simp only [Option.some.injEq, Prod.mk.injEq] at H
        obtain ⟨rfl, rfl⟩ := H
        go_wp2
        go_ret2
        exact ⟨_, _, by first | rfl | (simp [errW_none, errW_some] <;> rfl) | (simp [*, errW_none, errW_some] <;> rfl), by (with_reducible repeat (first | apply Kd.R_alloc | apply Kd.Xx | apply Kd.Qa)); exact HO_4.out, by (with_reducible repeat (first | apply Kd.R_alloc | apply Kd.Xx | apply Kd.Qa)); exact HO_5.out, HB.out⟩
    ·rw [if_neg c6] at H
     exact absurd H (by simp)
   ·rw [if_neg c5] at H
    exact absurd H (by simp)
  ·rw [if_neg c4] at H
   exact absurd H (by simp)
 ·rw [if_neg c3] at H
  exact absurd H (by simp)
end Go.Proofs.Ytimjccfpobhpeaa.PF
namespace Go.Proofs.Ytimjccfpobhpeaa.PF
open Go.RowKit Go.Proofs.YtimjccfpobhpeaaW.PrintWords Go.Proofs.YtimjccfpobhpeaaW.PrintLast Go.Proofs.YtimjccfpobhpeaaW.PrintMore
attribute [local go_sem] Qq Kt
set_option linter.unusedVariables false
set_option linter.unusedSimpArgs false
def Xq.l0 : Nat → List Int → List Int → Int → Int → Int → Option (Int)
  | 0, _, _, _, _, _ => none
  | k + 1, x0, x1, x5, x8, x9 => if x9 < x8 then (if 0 ≤ x9 then (if x9 < (x0.length : Int) then (if x9 < (x1.length : Int) then (Xq.l0 k x0 x1 (Go.bits .or .u64 x5 (Go.bits .xor .u64 (rd x0 x9) (rd x1 x9))) x8 (wrap64 (x9 + 1))) else (none)) else (none)) else (none)) else (some x5)
def Xq.f (k : Nat) (l0 : List Int) (l1 : List Int) : Option (Int) := Xq.l0 k l0 l1 0 (l0.length : Int) 0
theorem Xq.mono_l : ∀ k, (∀ y0 y1 y2 y3 y4, Xw (Xq.l0 k y0 y1 y2 y3 y4) (Xq.l0 (k + 1) y0 y1 y2 y3 y4))
  | 0 => fun _ _ _ _ _ r h => by simp [Xq.l0] at h
  | k + 1 => by
    have ih0 := Xq.mono_l k
    · intro y0 y1 y2 y3 y4
      unfold Xq.l0
      repeat' first
      | (with_reducible exact ih0 _ _ _ _ _)
      | (with_reducible exact Xw.refl _)
      | (with_reducible exact Xw.none _)
      | (with_reducible refine Xw.ite ?_ ?_)
      | (with_reducible refine Xw.bind ?_ (fun _ => ?_))
      | exact ih0 _ _ _ _ _
      | exact Xw.none _
      | refine Xw.ite ?_ ?_
      | refine Xw.bind ?_ (fun _ => ?_)
theorem Xq.mono : ∀ a0 a1 k, Xw (Xq.f k a0 a1) (Xq.f (k + 1) a0 a1) := by
  intro a0 a1 k
  have ih0 := Xq.mono_l k
  unfold Xq.f
  repeat' first
      | (with_reducible exact ih0 _ _ _ _ _)
      | (with_reducible exact Xw.refl _)
      | (with_reducible exact Xw.none _)
      | (with_reducible refine Xw.ite ?_ ?_)
      | (with_reducible refine Xw.bind ?_ (fun _ => ?_))
      | exact ih0 _ _ _ _ _
      | exact Xw.none _
      | refine Xw.ite ?_ ?_
      | refine Xw.bind ?_ (fun _ => ?_)
set_option maxHeartbeats 8000000 in
set_option maxRecDepth 100000 in
theorem Xq.calls (k : Nat) (A0 : Option Addr) (c0 : Nat) (l0 : List Int) (A1 : Option Addr) (c1 : Nat) (l1 : List Int) (r : Int) (w : World) (hr0 : Kd.C (Kd.int .u64) w A0 l0.length l0) (hc0 : l0.length ≤ c0) (hr1 : Kd.C (Kd.int .u64) w A1 l1.length l1) (hc1 : l1.length ≤ c1) (h : Xq.f k l0 l1 = some r) :
 Calls Try.prog 51 #[.slice A0 l0.length c0, .slice A1 l1.length c1] w fun e w' => e = .returned (.int .u64 r) ∧ Qh w w' := by
 have HR0 := Za.mk hr0
 have HC0 := Za.mk hc0
 clear hr0 hc0
 have HR1 := Za.mk hr1
 have HC1 := Za.mk hc1
 clear hr1 hc1
 have H : (Xq.l0 k l0 l1 0 (l0.length : Int) 0) = some r := h
 clear h
 have H' := Za.mk H
 clear H
 go_enter Try.func51, Try.ntmps51
 go_wp2
 repeat (go_quiet (fail); try go_wp2)
 go_loopg [5, 9] k (fun kq v5 v9 w' => ∃ (x5_1 : Int) (x9_1 : Int), v5 = .int .u64 x5_1 ∧ v9 = .int .i64 x9_1 ∧ Za (Xq.l0 kq l0 l1 x5_1 (l0.length : Int) x9_1 = some r) ∧ Za (kq ≤ k) ∧ Qh w w')
 case atStart => exact ⟨(0), (0), (by first | rfl | (simp; done) | (simp [*]; done)), (by first | rfl | (simp; done) | (simp [*]; done)), H', ⟨Nat.le_refl _⟩, by repeat (first | exact Qh.refl _ | apply Qh.step)⟩
 case round =>
  clear H'
  obtain ⟨x5_1, x9_1, rfl, rfl, HA, HK1, ⟨m1, rfl⟩⟩ := hrel
  cases gk with
  | zero => exact absurd HA.out (by simp [Xq.l0])
  | succ k1 =>
   have H := HA.out
   clear HA
   simp only [Xq.l0] at H
   by_cases c3 : x9_1 < (l0.length : Int)
   ·rw [if_pos c3] at H
    have c3b0 : decide (x9_1 < (l0.length : Int)) = true := decide_eq_true c3
    clear c3
    by_cases c4 : 0 ≤ x9_1
    ·rw [if_pos c4] at H
     have c4b0 : decide (0 ≤ x9_1) = true := decide_eq_true c4
     clear c4
     by_cases c5 : x9_1 < (l0.length : Int)
     ·rw [if_pos c5] at H
      have c5b0 : decide (x9_1 < (l0.length : Int)) = true := decide_eq_true c5
      clear c5
      by_cases c6 : x9_1 < (l1.length : Int)
      ·rw [if_pos c6] at H
       have c6b0 : decide (x9_1 < (l1.length : Int)) = true := decide_eq_true c6
       clear c6
       have H' := Za.mk H
       clear H
       have p484 : 0 ≤ (x9_1 : Int) := of_decide_eq_true (by first | (with_reducible assumption) | assumption)
       have q484 : x9_1 < (l0.length : Int) := of_decide_eq_true (by first | (with_reducible assumption) | assumption)
       obtain ⟨ad484, e484, hx484_0⟩ := Kd.at_int HR0.out x9_1 p484 q484
       cases e484
       replace p484 := eq_true p484
       replace q484 := eq_true q484
       have p485 : 0 ≤ (x9_1 : Int) := of_decide_eq_true (by first | (with_reducible assumption) | assumption)
       have q485 : x9_1 < (l1.length : Int) := of_decide_eq_true (by first | (with_reducible assumption) | assumption)
       obtain ⟨ad485, e485, hx485_0⟩ := Kd.at_int HR1.out x9_1 p485 q485
       cases e485
       replace p485 := eq_true p485
       replace q485 := eq_true q485
       go_wp2
       repeat (go_quiet (fail); try go_wp2)
       go_roundg k1
       case measure => have := HK1.out; omega
       case rel => exact ⟨(Go.bits .or .u64 x5_1 (Go.bits .xor .u64 (rd l0 x9_1) (rd l1 x9_1))), (wrap64 (x9_1 + 1)), (by first | rfl | (simp; done) | (simp [*]; done)), (by first | rfl | (simp; done) | (simp [*]; done)), H', ⟨by have := HK1.out; omega⟩, by repeat (first | exact Qh.refl _ | apply Qh.step)⟩
      ·rw [if_neg c6] at H
       exact absurd H (by simp)
     ·rw [if_neg c5] at H
      exact absurd H (by simp)
    ·rw [if_neg c4] at H
     exact absurd H (by simp)
   ·rw [if_neg c3] at H
    have c3b0 : decide (x9_1 < (l0.length : Int)) = false := decide_eq_false c3
    clear c3
    obtain rfl := Option.some.inj H
    go_wp2
    repeat (go_quiet (fail); try go_wp2)
    go_ret
    exact ⟨by first | rfl | (simp; done) | (simp [*]; done), by repeat (first | exact Qh.refl _ | apply Qh.step)⟩
end Go.Proofs.Ytimjccfpobhpeaa.PF
namespace Go.Proofs.Ytimjccfpobhpeaa
open Go.RowKit Go.Shelf
set_option maxRecDepth 100000
attribute [local go_sem] Oper.semAt_some
def chunkV (b o sz n : Nat) (j : Nat) : Value := .slice (some ⟨b, o + j * 64 * sz, none⟩) (min 64 (n - j * 64)) (min 64 (n - j * 64))
def Keep2 (b1 : Nat) (W W' : World) : Prop := W'.heap[b1]? = W.heap[b1]? ∧ W'.heap[b1 + 1]? = W.heap[b1 + 1]?
theorem Keep2.trans {b1 : Nat} {A B C : World} (h : Keep2 b1 A B) (k : Keep2 b1 B C) : Keep2 b1 A C := ⟨k.1.trans h.1, k.2.trans h.2⟩
theorem Keep2.cell {b1 : Nat} {A B : World} (h : Keep2 b1 A B) (o : Nat) : B.cell? ⟨b1, o, none⟩ = A.cell? ⟨b1, o, none⟩ ∧ B.cell? ⟨b1 + 1, o, none⟩ = A.cell? ⟨b1 + 1, o, none⟩ :=
  ⟨World.cell?_of_block (a := ⟨b1, o, none⟩) h.1, World.cell?_of_block (a := ⟨b1 + 1, o, none⟩) h.2⟩
def Qu (n : Nat) : Nat := (n + 63) / 64
theorem chunks_lt {n k : Nat} (h : k * 64 < n) : k < Qu n := by unfold Qu; omega
theorem chunks_ge {n k : Nat} (h : ¬ k * 64 < n) (hk : k ≤ Qu n) : k = Qu n := by unfold Qu at *; omega
theorem finRange_take_succ {n k : Nat} (h : k < n) : (List.finRange n).take k ++ [⟨k, h⟩] = (List.finRange n).take (k + 1) := by
  rw [List.take_succ_eq_append_getElem (by simpa using h)]
  simp
set_option maxHeartbeats 4000000 in
theorem chunk1_in (d : Nat) (l b1 b o n cap : Nat) (A : Option Addr) (hA : 0 < n → A = some ⟨b, o, none⟩) (hnc : n ≤ cap) (hn1 : n ≤ 140737488355328) (J Jx : List (Fin (Qu n)) → World → Prop) (B : Nat) (hJ : AbidesFrom B J)
    (hY : ∀ pre x W, J pre W → pre.length < Qu n → YieldAt Fence.wide (d - 1) Try.prog l #[chunkV b o 2 n x.val] W fun e W' =>
      (e = .returned (.bool true) ∧ J (pre ++ [x]) W' ∧ Keep2 b1 W W') ∨ (e = .returned (.bool false) ∧ Jx (pre ++ [x]) W'))
    (W : World) (hs : W.cell? ⟨b1, 0, none⟩ = some (.slice A n cap)) (hkk : W.cell? ⟨b1 + 1, 0, none⟩ = some (.int .i64 64)) (h0 : J [] W) :
    CallsIn Fence.wide d Try.prog 60 #[.func (.yield l) #[] #[], .pointer (some ⟨b1, 0, none⟩), .pointer (some ⟨b1 + 1, 0, none⟩)] W fun e W' => (∃ v, e = .returned v) ∧
      ((∃ ys, ys = List.finRange (Qu n) ∧ J ys W') ∨ (∃ pre, pre <+: List.finRange (Qu n) ∧ Jx pre W')) := by
  refine callsIn_of_wp Try.func60 rfl trivial ?_ rfl
  simp only [Try.ntmps60, List.size_toArray, List.length_cons, List.length_nil, Nat.reduceAdd, Nat.reduceSub, Array.replicate_succ, Array.replicate_zero, List.push_toArray, List.append_toArray, List.nil_append, List.cons_append]
  gi_wp2
  gi_loopw [4] (fun i wr => ∃ k : Nat, k ≤ Qu n ∧ i = .int .i64 ((k * 64 : Nat) : Int) ∧ J ((List.finRange (Qu n)).take k) wr ∧ Keep2 b1 W wr)
    (fun i _ => n - (intOf i).toNat)
  case atStart => exact ⟨0, Nat.zero_le _, rfl, h0, rfl, rfl⟩
  case round =>
    obtain ⟨k, hk, rfl, hJs, hnx⟩ := hrel
    have hcs := (hnx.cell 0).1.trans hs
    have hck := (hnx.cell 0).2.trans hkk
    by_cases hlt : k * 64 < n
    · obtain rfl := hA (by omega)
      have hcne : ¬ cap = k * 64 := by omega
      have hJl : ((List.finRange (Qu n)).take k).length = k := by simp; omega
      have hYk := fun W1 (h : J ((List.finRange (Qu n)).take k) W1) => hY _ ⟨k, chunks_lt hlt⟩ W1 h (by rw [hJl]; exact chunks_lt hlt)
      rw [finRange_take_succ] at hYk
      have hYk := Lib.hid hYk
      clear hY
      gi_wp2
      refine wpIn_wide.2 ?_
      go_quiet (fail)
      have hq : (wr.drewN nq).heap = wr.heap := rfl
      have hgr : wr.grownBy (wr.drewN nq) none := ⟨rfl, rfl, rfl, Nat.le_refl _, fun _ _ _ => rfl⟩
      have hJ2 := hJ _ _ _ none hJs hgr (fun r e => by cases e)
      obtain ⟨fn, tmps, assign, body, hy, hR⟩ := hYk.out _ hJ2
      clear hYk
      dsimp only [chunkV] at hy
      have hcs2 : (wr.drewN nq).cell? ⟨b1, 0, none⟩ = some (.slice (some ⟨b, o, none⟩) n cap) := hcs
      have hck2 : (wr.drewN nq).cell? ⟨b1 + 1, 0, none⟩ = some (.int .i64 64) := hck
      have hE : (if ((n - k * 64 : Nat) : Int) < 64 then ((n - k * 64 : Nat) : Int) else 64) = ((min 64 (n - k * 64) : Nat) : Int) := by split <;> omega
      rw [hE]
      obtain ⟨m, hm⟩ : ∃ m, min 64 (n - k * 64) = m := ⟨_, rfl⟩
      rw [hm] at hy ⊢
      have m1 : m ≤ 64 := by omega
      have m2 : k * 64 + m ≤ n := by omega
      have hs1 : ((k : Int) * 64 + (m : Int)).toNat - k * 64 = m := by omega
      have hs2 : ((k : Int) * 64 + (m : Int)).toNat = k * 64 + m := by omega
      have hs3 : k * 64 + m - k * 64 = m := by omega
      clear hE
      gi_wp2
      refine ⟨(fun h => by cases h), hR.mono ?_⟩
      rintro e W3 (⟨rfl, hJ3, hk3⟩ | ⟨rfl, hJx3⟩)
      · have hcs3 := (hk3.cell 0).1.trans hcs2
        have hck3 := (hk3.cell 0).2.trans hck2
        gi_wp2
        go_roundw
        case rel => exact ⟨k + 1, chunks_lt hlt, by congr 1; omega, hJ3, hnx.trans hk3⟩
        case measure => simp [intOf]; omega
      · gi_wp2
        refine bodyPost_ret (results_none rfl _ _ _) rfl ?_
        exact ⟨⟨_, rfl⟩, .inr ⟨_, List.take_prefix _ _, hJx3⟩⟩
    · obtain rfl := chunks_ge hlt hk
      gi_wp2
      go_end0
      exact ⟨⟨_, rfl⟩, .inl ⟨_, rfl, by rw [List.take_of_length_le (by simp)] at hJs; exact hJs⟩⟩
set_option maxHeartbeats 4000000 in
theorem chunk_calls (A : Option Addr) (n cap : Nat) (w : World) : Calls Try.prog 48 #[.slice A n cap, .int .i64 64] w fun e w' =>
    e = .returned (.func (.func 60) #[] #[.pointer (some ⟨w.heap.size, 0, none⟩), .pointer (some ⟨w.heap.size + 1, 0, none⟩)]) ∧
      w' = (w.alloc (.cells #[.slice A n cap] 49)).alloc (.cells #[.int .i64 64] 3) := by
  go_enter Try.func48, Try.ntmps48
  go_wp2
  go_ret
  exact ⟨rfl, rfl⟩
theorem chunk_stops (d b1 b o n cap : Nat) (A : Option Addr) (hA : 0 < n → A = some ⟨b, o, none⟩) (hnc : n ≤ cap) (hn1 : n ≤ 140737488355328) (w : World) (hb1 : b1 + 1 < w.heap.size)
    (hs : w.cell? ⟨b1, 0, none⟩ = some (.slice A n cap)) (hk : w.cell? ⟨b1 + 1, 0, none⟩ = some (.int .i64 64)) :
    SeqStopsK Fence.wide d Try.prog 60 #[.pointer (some ⟨b1, 0, none⟩), .pointer (some ⟨b1 + 1, 0, none⟩)]
      (fun x : Fin (Qu n) => #[chunkV b o 2 n x.val]) (Keep2 b1) (fun ys => ys = List.finRange (Qu n)) (fun pre => pre <+: List.finRange (Qu n)) (Qu n) w :=
  fun l J Jx W hW hJ _ hY h0 => chunk1_in d l b1 b o n cap A hA hnc hn1 J Jx _ hJ hY W ((hW.cell (p := ⟨b1, 0, none⟩) (by show b1 < _; omega)).trans hs) ((hW.cell (p := ⟨b1 + 1, 0, none⟩) hb1).trans hk) h0
end Go.Proofs.Ytimjccfpobhpeaa
namespace Go.Proofs.Ytimjccfpobhpeaa
open Go.RowKit
section
variable {P : Program} {ops : Array Oper} {Q : Exit → Act → World → Prop} {md : Region.Mode} {n : Nat} {l : Nat}
theorem opIn_of {o : Oper} {a : Act} {w : World} {K : Act → World → Prop} (hd : ∀ c, o.op ≠ .defer c) (h : o.wp P a w K Q) : o.wpIn (Fence.wide.inRound l) n P a w K Q := by
  unfold Oper.wp at h
  refine ⟨fun _ _ => trivial, ?_⟩
  rw [Fence.inRound_round, Oper.semAt_some l _ _ hd]
  generalize (execOp a.eval o).run P w = r at *
  cases r with
  | ok x w' =>
    cases x with
    | value v => exact h
    | skip => exact h
    | «defer» d => exact h
    | enter f args => exact ⟨(fun e => by cases e), CallsIn.inRound l (callsIn_wide.2 h)⟩
    | row row args => exact ⟨(fun e => by cases e), fun c cs _ => by obtain ⟨v, w2, r, s⟩ := h c cs; exact ⟨v, w2, r, stepsIn_wide.2 s⟩⟩
    | _ => exact h.elim
  | halt x w' =>
    cases x with
    | panic v => exact h
    | _ => exact h.elim
def noDefer (ops : Array Oper) : Bool := ops.all fun o => match o.op with | .defer _ => false | _ => true
theorem noDefer_at {i : Nat} {o : Oper} (h : noDefer ops = true) (ho : ops[i]? = some o) : ∀ c, o.op ≠ .defer c := by
  intro c hc
  obtain ⟨hi, rfl⟩ := Array.getElem?_eq_some_iff.1 ho
  have h1 := (Array.all_eq_true.1 h) i hi
  rw [hc] at h1
  cases h1
theorem opsIn_of {i : Nat} {a : Act} {w : World} {K : Act → World → Prop} (hnd : noDefer ops = true) (hL : ¬ LetsOut Q) (h : wpOp P ops Q i K a w) : wpOpIn (Fence.wide.inRound l) n P ops Q i K a w := by
  unfold wpOp at h
  unfold wpOpIn
  split at h
  · rename_i hn; rw [hn]; exact h
  · rename_i o ho
    rw [ho]
    dsimp only
    split at h
    · rename_i hw
      rw [if_pos hw]
      rcases h with h | h
      · exact opIn_of (noDefer_at hnd ho) h
      · exact absurd h.2 hL
    · rename_i hw
      rw [if_neg hw]
      exact ⟨fun _ _ => trivial, h⟩
theorem anyIn_of (hnd : noDefer ops = true) (hL : ¬ LetsOut Q) : ∀ (fuel : Nat) (listed : Array Bool) (a : Act) (w : World), wpAny P md ops Q fuel listed a w → wpAnyIn (Fence.wide.inRound l) n P md ops Q fuel listed a w
  | 0, _, _, _, h => h
  | fuel + 1, _, _, _, h => ⟨h.1, fun i hi => wpOpIn_mono (fun a' w' h' => anyIn_of hnd hL fuel _ a' w' h') (opsIn_of hnd hL (h.2 i hi))⟩
theorem wpIn_region_split {id : Nat} {a : Act} {w : World} {l' : List Oper} (S : World → Prop) (m : List Bool) (hm : P.follows .mixedOrders = true) (hB : splitB .any l'.toArray m = true) (hnd : noDefer l'.toArray = true) (hL : ¬ LetsOut Q) (hS : S w.drew)
    (hQ : ∀ c a d v w, Q (.panic c) (Act.put a d v) w → Q (.panic c) a w)
    (h : wpQuiet P l'.toArray S (fun a' => wpListS P l'.toArray S Q (dropB m l') a' w.drew) (pickB m l') a) : (Code.region id l'.toArray true).wpIn (Fence.wide.inRound l) n P Q a w := by
  simp only [splitB, Bool.and_eq_true, beq_iff_eq] at hB
  obtain ⟨⟨⟨hs, hlen⟩, hR⟩, hE⟩ := hB
  refine wpIn_region_any hm (anyIn_of hnd hL _ _ _ _ (wpAny_of_held (S := S) _ _ _ _ ?_))
  have hlen' : m.length = l'.length := by simpa using hlen
  have key := mix_readers (P := P) (Q := Q) (md := .any) (w := w.drew) (n := (m.filter (!·)).length) hs hS hQ m l' 0 (Array.replicate l'.toArray.size false) a (fun j => by simp) hR
    (fun a' ha' => mix_effects m l' 0 _ a' w.drew hlen' (fun j => by simp) hS hE ha') h
  rw [filter_both, hlen] at key
  exact key
theorem wpIn_region_splitT {id : Nat} {a : Act} {w : World} {l' : List Oper} (S : World → Prop) (m : List Bool) (hm : P.follows .mixedOrders = true) (hB : splitT .any l'.toArray m = true) (hla : m.getLast? ≠ some true) (hnd : noDefer l'.toArray = true) (hL : ¬ LetsOut Q) (hS : S w.drew)
    (hQ : ∀ c a d v w, Q (.panic c) (Act.put a d v) w → Q (.panic c) a w)
    (h : wpQuiet P l'.toArray S (fun a' => wpListT P l'.toArray S Q (dropB m l') a' w.drew) (pickB m l') a) : (Code.region id l'.toArray true).wpIn (Fence.wide.inRound l) n P Q a w := by
  simp only [splitT, Bool.and_eq_true, beq_iff_eq] at hB
  obtain ⟨⟨⟨hs, hlen⟩, hR⟩, hE⟩ := hB
  have hlen' : m.length = l'.length := by simpa using hlen
  refine wpIn_region_any hm (anyIn_of hnd hL _ _ _ _ (anyT (S := S) (last := l'.toArray.size - 1) _ _ _ _ ?_))
  have key := mixT_readers (P := P) (Q := Q) (md := .any) (last := l'.toArray.size - 1) (w := w.drew) (n := (m.filter (!·)).length) hs hS hQ m l' 0 (Array.replicate l'.toArray.size false) a (fun j => by simp) hlen' hR
    (fun a' ha' => mixT_effects m l' 0 _ a' w.drew hlen' (fun j => by simp) (by simp) hE hla (.inr hS) ha') h
  rw [filter_both, hlen] at key
  exact key
end
end Go.Proofs.Ytimjccfpobhpeaa
namespace Go.Proofs.Ytimjccfpobhpeaa
open Go.RowKit
namespace Rep
variable {α : Type} {d : Rep α} {e : TypeId} {w w1 : World} {base : Nat} {F : Nat → Prop} {v : Value} {xs ys : List α}
theorem All.one {x : α} {c : List Value} (h : d.rel w F x c) : All d w F [x] c := by
  refine ⟨by simp [d.len h], fun i y hy => ?_⟩
  match i, hy with
  | 0, hy =>
    simp at hy
    subst hy
    rw [Nat.zero_mul, List.drop_zero, List.take_of_length_le (by rw [d.len h]; omega)]
    exact h
theorem All.append {cs ns : List Value} (h : All d w F xs cs) (k : All d w F ys ns) : All d w F (xs ++ ys) (cs ++ ns) := by
  refine ⟨by simp [h.1, k.1, Nat.add_mul], ?_⟩
  intro i y hy
  by_cases hl : i < xs.length
  · rw [List.getElem?_append_left hl] at hy
    have hle : i * d.sz + d.sz ≤ xs.length * d.sz := by rw [← Nat.succ_mul]; exact Nat.mul_le_mul_right _ hl
    rw [List.drop_append_of_le_length (by rw [h.1]; omega), List.take_append_of_le_length (by rw [List.length_drop, h.1]; omega)]
    exact h.2 i y hy
  · rw [List.getElem?_append_right (by omega)] at hy
    have := k.2 _ y hy
    rw [show i * d.sz = cs.length + (i - xs.length) * d.sz by rw [h.1, ← Nat.add_mul]; congr 1; omega, ← List.drop_drop, List.drop_left]
    exact this
theorem All.one1 {cs : List Value} (h : All d w F xs cs) : ∀ u ∈ cs, u.oneCell' = true := by
  intro u hu
  obtain ⟨j, hj, rfl⟩ := List.getElem_of_mem hu
  by_cases hz : d.sz = 0
  · rw [h.1, hz] at hj; omega
  have hd : j / d.sz < xs.length := by rw [Nat.div_lt_iff_lt_mul (by omega)]; rw [h.1] at hj; exact hj
  have hr := h.2 _ _ (List.getElem?_eq_getElem hd)
  refine d.one hr _ ?_
  have hm : j % d.sz < d.sz := Nat.mod_lt _ (by omega)
  have he : j / d.sz * d.sz + j % d.sz = j := by rw [Nat.mul_comm]; exact Nat.div_add_mod j d.sz
  have hh : ((cs.drop (j / d.sz * d.sz)).take d.sz)[j % d.sz]? = some cs[j] := by
    rw [List.getElem?_take, if_pos hm, List.getElem?_drop, he, List.getElem?_eq_getElem hj]
  exact List.mem_of_getElem? hh
theorem Own.appended {v1 : Value} {cs ns : List Value} (hA : All d w F xs cs) (hF : ∀ k, v.ownBlock = some k → ¬ F k) (hn : All d w F ys ns) (hF2 : ∀ k, F k → k < w.heap.size) (hg : w.grownBy w1 v.ownBlock)
    (ho : w1.ownsRow base e d.sz v1 (xs.length + ys.length) (cs ++ ns)) (hv : v1.ownBlock = v.ownBlock ∨ v1.ownBlock = some w.heap.size) : Own d e w1 base F v1 (xs ++ ys) := by
  have hm : ∀ k, F k → k < w.heap.size → F k ∧ w1.heap[k]? = w.heap[k]? := fun k hk hl => ⟨hk, hg.block k hl (fun e => hF k e.symm hk)⟩
  refine ⟨cs ++ ns, by simpa using ho, (hA.append hn).step hm, ?_⟩
  intro k hk hFk
  rcases hv with hv | hv
  · rw [hv] at hk; exact hF k hk hFk
  · rw [hv] at hk
    have := hF2 k hFk
    simp only [Option.some.injEq] at hk
    omega
end Rep
theorem le_maxLen {n : Nat} (h : n ≤ 9223372036854775807) : n ≤ maxLen := h
def NoB : Nat → Prop := fun _ => False
structure Grew (w w' : World) (v v' : Value) : Prop where
  by_ : w.grownBy w' v.ownBlock
  at_ : v'.ownBlock = v.ownBlock ∨ ∀ k, v'.ownBlock = some k → w.heap.size ≤ k
theorem Grew.refl (w : World) (v : Value) : Grew w w v v := ⟨World.grownBy.refl w _, .inl rfl⟩
theorem Grew.trans {w w1 w2 : World} {v v1 v2 : Value} (h : Grew w w1 v v1) (k : Grew w1 w2 v1 v2) : Grew w w2 v v2 := by
  refine ⟨⟨k.by_.os.trans h.by_.os, k.by_.tape.trans h.by_.tape, k.by_.output.trans h.by_.output, Nat.le_trans h.by_.size k.by_.size, fun b hb hne => ?_⟩, ?_⟩
  · refine (k.by_.block b (Nat.lt_of_lt_of_le hb h.by_.size) ?_).trans (h.by_.block b hb hne)
    rcases h.at_ with h1 | h1
    · rw [h1]; exact hne
    · intro e; have := h1 b e.symm; omega
  · rcases k.at_ with k1 | k1
    · rcases h.at_ with h1 | h1
      · exact .inl (k1.trans h1)
      · exact .inr fun b hb => h1 b (k1 ▸ hb)
    · exact .inr fun b hb => Nat.le_trans h.by_.size (k1 b hb)
theorem Grew.alloc {w w1 : World} {v v1 : Value} (h : Grew w w1 v v1) (o : Obj) : Grew w (w1.alloc o) v v1 :=
  h.trans ⟨World.grownBy_alloc w1 o _, .inl rfl⟩
theorem Grew.mk' {w w' : World} {v v' : Value} (hg : w.grownBy w' v.ownBlock) (hv : v'.ownBlock = v.ownBlock ∨ v'.ownBlock = some w.heap.size) : Grew w w' v v' :=
  ⟨hg, hv.imp id fun h k hk => by rw [h] at hk; simp only [Option.some.injEq] at hk; omega⟩
structure SlT (P : Program) (t e : TypeId) (z : Value) (size bytes : Nat) : Prop where
  ht : P.underlying t = some (.slice e)
  info : (P.info? e).map (fun i => (i.zero, i.size, i.bytes)) = some (some z, size, bytes)
  zs : z.cells.size = size
  pos : 0 < size
section
variable {P : Program} {t e : TypeId} {z : Value} {bytes : Nat} {α : Type} {d : Rep α} {w : World} {base : Nat} {F : Nat → Prop} {v : Value} {xs ys : List α}
theorem run_append_nilsrc {size : Nat} (T : SlT P t e z size bytes) (ty : TypeId) {n : Nat} {cs : List Value} (h : w.ownsRow base e size v n cs) (c : Nat) (hn : n ≤ maxLen) : (Builtin.append_ #[t, t] ty #[v, .slice none 0 c]).run P w = .ok v w := by
  obtain ⟨i, hi, _⟩ := info_parts T.info
  rcases h.2 with ⟨rfl, rfl⟩ | ⟨g, cap, cur, rfl, hbg, hg, hnc, hcm, hcs, htake⟩
  · simp [Builtin.append_, run_underlying T.ht, sizeOf, typeInfo, hi, Builtin.lenOf, Builtin.firstCells]
  · simp [Builtin.append_, run_underlying T.ht, sizeOf, typeInfo, hi, Builtin.lenOf, Builtin.firstCells, loadCells, hnc, storeCells, Addr.add_lit]
theorem run_append_one (T : SlT P t e z d.sz bytes) (ty : TypeId) {w0 : World} (h : Rep.Own d e w0 base F v xs) {y : α} {c : List Value} {te : TypeId} (hy : d.rel w0 F y c) (hF : ∀ k, F k → k < w0.heap.size)
    (h63 : xs.length + 1 ≤ maxLen) (hbytes : (xs.length + 1) * bytes ≤ 140737488355328) (hbase : base ≤ w0.heap.size) :
    ∃ v' w', (Builtin.append_ #[t, t] ty #[v, .slice (some ⟨w0.heap.size, 0, none⟩) 1 1]).run P (w0.alloc (.cells c.toArray te)) = .ok v' w' ∧ Rep.Own d e w' base F v' (xs ++ [y]) ∧ Grew w0 w' v v' := by
  obtain ⟨i, hi, hz, hs, hb⟩ := info_parts T.info
  have hst : ∀ k, k < w0.heap.size → (w0.alloc (.cells c.toArray te)).heap[k]? = w0.heap[k]? := fun k hk => Below.heap_alloc w0 _ k hk
  obtain ⟨cs, h1, h2, h3⟩ := h.step (w1 := w0.alloc (.cells c.toArray te)) (fun k _ hl => hst k hl)
  have hy' := d.step (w1 := w0.alloc (.cells c.toArray te)) (G := F) (fun k hk hl => ⟨hk, hst k hl⟩) hy
  have hsz : w0.heap.size ≤ (w0.alloc (.cells c.toArray te)).heap.size := by simp
  obtain ⟨v', w', hr, ho, hg, _, hat⟩ := run_append_own_at (P := P) (w0.alloc (.cells c.toArray te)) base t ty e i z d.sz bytes T.ht hi hz hs hb T.zs T.pos v xs.length cs h1 ⟨w0.heap.size, 0, none⟩ 1 1 c
    (by rw [d.len hy, Nat.one_mul]) (fun j u hu => by rw [Addr.add_lit, Nat.zero_add, cell_of_row _ w0.heap.size j c.toArray te (0, 0) (heap_alloc_new w0 _)]; simpa using hu) (d.one hy) h63 hbytes (Nat.le_trans hbase hsz)
  refine ⟨v', w', hr, Rep.Own.appended (ys := [y]) h2 h3 (Rep.All.one hy') (fun k hk => Nat.lt_of_lt_of_le (hF k hk) hsz) hg ho hat, ?_⟩
  exact ((Grew.refl w0 v).alloc (.cells c.toArray te)).trans (Grew.mk' hg hat)
theorem wpList_one {ops : Array Oper} {rest : List Oper} {o : Oper} {a : Act} {Q : Exit → Act → World → Prop} (hgd : o.guard = none) (s x : Operand)
    (ho : o.op = .call { callee := .builtin .append, args := #[s, x], argTypes := #[t, t] }) (T : SlT P t e z d.sz bytes) {w0 : World} (hs : a.eval s = v) {c : List Value} {te : TypeId} (hx : a.eval x = .slice (some ⟨w0.heap.size, 0, none⟩) 1 1)
    (h : Rep.Own d e w0 base F v xs) {y : α} (hy : d.rel w0 F y c) (hF : ∀ k, F k → k < w0.heap.size)
    (h63 : xs.length + 1 ≤ maxLen) (hbytes : (xs.length + 1) * bytes ≤ 140737488355328) (hbase : base ≤ w0.heap.size)
    (k : ∀ v' w', Rep.Own d e w' base F v' (xs ++ [y]) → Grew w0 w' v v' → wpList P ops Q rest (a.put o.dst v') w') : wpList P ops Q (o :: rest) a (w0.alloc (.cells c.toArray te)) := by
  refine wpList_plain hgd fun K hK => ?_
  obtain ⟨v', w', hr, h2, h3⟩ := run_append_one T o.type h hy hF h63 hbytes hbase (te := te)
  unfold Oper.wp execOp
  simp only [ho, resolve, invoke, builtin, Sem.run_bind, Sem.run_pure, Result.andThen_ok, List.map_toArray, List.map_cons, List.map_nil, hs, hx, hr]
  exact hK _ _ (k v' w' h2 h3)
end
end Go.Proofs.Ytimjccfpobhpeaa
namespace Go.Proofs.Ytimjccfpobhpeaa
open Go.RowKit
theorem Rep.Own.lower {α : Type} {d : Rep α} {e : TypeId} {w : World} {base base' : Nat} {F : Nat → Prop} {v : Value} {xs : List α} (h : Rep.Own d e w base F v xs) (hb : base' ≤ base) : Rep.Own d e w base' F v xs := by
  obtain ⟨cs, ⟨h1, h2⟩, h3, h4⟩ := h
  refine ⟨cs, ⟨h1, ?_⟩, h3, h4⟩
  rcases h2 with h2 | ⟨g, cap, cur, hv, hg, r⟩
  · exact .inl h2
  · exact .inr ⟨g, cap, cur, hv, Nat.le_trans hb hg, r⟩
section
variable {P : Program} {t e : TypeId} {z : Value} {bytes : Nat} {α : Type} {d : Rep α} {w : World} {base : Nat} {F : Nat → Prop} {v : Value} {xs ys : List α} {xs' : List Int}
theorem Rep.Own.sl (h : Rep.Own d e w base F v xs) : ∃ A cap, v = .slice A xs.length cap ∧ Rep.Sl d w (fun k => F k ∨ v.ownBlock = some k) A cap xs := by
  obtain ⟨A, cap, he, hs⟩ := Rep.Own.rel h (G := fun k => F k ∨ v.ownBlock = some k) (fun _ hk => hk)
  exact ⟨A, cap, by simpa using he, hs⟩
end
end Go.Proofs.Ytimjccfpobhpeaa
namespace Go.Proofs.Ytimjccfpobhpeaa
open Go.RowKit Go.Shelf
set_option maxRecDepth 100000
attribute [local go_sem] Oper.semAt_some
theorem boolT : SlT Try.prog 53 4 (.bool false) 1 1 := by
  exact ⟨Try.underlying53, by kernel_rfl, rfl, by omega⟩
variable {α β : Type} {B : Nat} {f : β → List Bool}
def Stays (p : World → Prop) : Prop := ∀ W W', p W → Below W.heap.size W W' → p W'
instance (w : World) (G : Nat → Prop) : Nonempty (But w G) := ⟨But.refl w G⟩
def VarD (w : World) (g : Nat) (v : Value) (t : TypeId) : Prop := w.heap[g]? = some (.cells #[v] t (0, 0))
theorem VarD.cell {w : World} {g : Nat} {v : Value} {t : TypeId} (h : VarD w g v t) : w.cell? ⟨g, 0, none⟩ = some v := by
  rw [show (⟨g, 0, none⟩ : Addr) = ⟨g, 0, none⟩ from rfl, cell_of_row w g 0 _ _ _ h]; rfl
theorem VarD.free {w : World} {g : Nat} {v : Value} {t : TypeId} (h : VarD w g v t) : w.frozen? ⟨g, 0, none⟩ = false := frozen_of_row _ _ _ _ _ h
theorem VarD.lt {w : World} {g : Nat} {v : Value} {t : TypeId} (h : VarD w g v t) : g < w.heap.size := (Array.getElem?_eq_some_iff.1 h).1
theorem VarD.set {w : World} {g : Nat} {v : Value} {t : TypeId} (h : VarD w g v t) (u : Value) : VarD (w.setCell ⟨g, 0, none⟩ u) g u t := by
  exact heap_setCell_same w g 0 _ _ u h
theorem VarD.step {w w1 : World} {g : Nat} {v : Value} {t : TypeId} (h : VarD w g v t) (hb : w1.heap[g]? = w.heap[g]?) : VarD w1 g v t := hb.trans h
theorem VarD.kept {w w1 : World} {g : Nat} {v : Value} {t : TypeId} {row : Option Nat} (h : VarD w g v t) (hg : w.grownBy w1 row) (hr : ∀ r, row = some r → ∃ o : Obj, w.heap[r]? = some o ∧ o.isCells = false) : VarD w1 g v t :=
  h.step (hg.block g h.lt fun e => by obtain ⟨o, ho, hc⟩ := hr g e.symm; rw [show w.heap[g]? = _ from h] at ho; cases ho; cases hc)
theorem VarD.ne {w : World} {g g' : Nat} {v v' : Value} {t t' : TypeId} (h : VarD w g v t) (k : VarD w g' v' t') (ht : t ≠ t') : g ≠ g' := by
  rintro rfl
  have := (show w.heap[g]? = _ from h).symm.trans k
  simp at this
  exact ht this.2
structure DInv (w : World) (g : Nat) (c49 : Value) (out : List Bool) (W : World) : Prop where
  bel : Below w.heap.size w W
  b1 : VarD W (g + 1) c49 49
  b2 : VarD W (g + 1 + 1) (.int .i64 64) 3
  row : ∃ v, VarD W g v 53 ∧ Rep.Own Rep.bool 4 W w.heap.size NoB v out
theorem own_not {d : Rep α} {e : TypeId} {W : World} {base : Nat} {F : Nat → Prop} {v : Value} {xs : List α} (h : Rep.Own d e W base F v xs) {g : Nat} {u : Value} {t : TypeId} (hg : VarD W g u t) (ht : t ≠ e) : v.ownBlock ≠ some g := by
  intro hk
  obtain ⟨cs, h1, _⟩ := h
  rcases h1.2 with ⟨rfl, _⟩ | ⟨g', cap, cur, rfl, _, hh, _⟩
  · simp [Value.ownBlock] at hk
  · have : g' = g := by simpa [Value.ownBlock] using hk
    subst this
    have := (show W.heap[g']? = _ from hg).symm.trans hh
    simp at this
    exact ht this.2
theorem own_cells {d : Rep α} {e : TypeId} {W : World} {base : Nat} {F : Nat → Prop} {v : Value} {xs : List α} (h : Rep.Own d e W base F v xs) {g : Nat} (hk : v.ownBlock = some g) : ∃ o : Obj, W.heap[g]? = some o ∧ o.isCells = true := by
  obtain ⟨cs, h1, _⟩ := h
  rcases h1.2 with ⟨rfl, _⟩ | ⟨g', cap, cur, rfl, _, hh, _⟩
  · simp [Value.ownBlock] at hk
  · have : g' = g := by simpa [Value.ownBlock] using hk
    subst this
    exact ⟨_, hh, rfl⟩
section
variable {w W W' : World} {g : Nat} {c : Value} {out : List Bool}
theorem DInv.later (h : DInv w g c out W) (hb : Below W.heap.size W W') : DInv w g c out W' := by
  obtain ⟨v, hv, ho⟩ := h.row
  exact ⟨h.bel.trans (hb.mono h.bel.size), h.b1.step (hb.block _ h.b1.lt), h.b2.step (hb.block _ h.b2.lt), v, hv.step (hb.block _ hv.lt), ho.below hb⟩
theorem DInv.own (hB : w.heap.size ≤ B) : OwnFrom B (fun (s : β) W => DInv w g c (f s) W) := by
  intro s W W' row h hg hr
  obtain ⟨v, hv, ho⟩ := h.row
  have hr' : ∀ r, row = some r → ∃ o : Obj, W.heap[r]? = some o ∧ o.isCells = false := fun r e => (hr r e).2
  refine ⟨h.bel.grown hg h.bel.size (fun k e => Nat.le_trans hB (hr k e).1), h.b1.kept hg hr', h.b2.kept hg hr', v, hv.kept hg hr', ho.step fun k hk hl => hg.block k hl fun e => ?_⟩
  rcases hk with hk | hk
  · exact hk
  · obtain ⟨o, ho1, hc1⟩ := own_cells ho hk
    obtain ⟨o', ho2, hc2⟩ := hr' k e.symm
    rw [ho1] at ho2
    cases ho2
    rw [hc1] at hc2
    cases hc2
theorem keepsFrom_below {W W' : World} (hb : Below W.heap.size W W') (B : Nat) : KeepsFrom B W W' := ⟨hb.size, fun k _ _ hk _ => (hb.block k (Array.getElem?_eq_some_iff.1 hk).1).trans hk⟩
theorem DInv.keep2 (h : DInv w g c out W) (hb : Below W.heap.size W W') : Keep2 (g + 1) W W' := ⟨hb.block _ h.b1.lt, hb.block _ h.b2.lt⟩
theorem DInv.push (h : DInv w g c out W) (hgw : w.heap.size ≤ g) {v v' : Value} {b : Bool} (hv : VarD W g v 53) (ho : Rep.Own Rep.bool 4 W w.heap.size NoB v out) (hg : Grew W W' v v') (ho' : Rep.Own Rep.bool 4 W' w.heap.size NoB v' (out ++ [b])) :
    DInv w g c (out ++ [b]) (W'.setCell ⟨g, 0, none⟩ v') ∧ Keep2 (g + 1) W (W'.setCell ⟨g, 0, none⟩ v') ∧ ∀ B, KeepsFrom B W (W'.setCell ⟨g, 0, none⟩ v') := by
  have n0 : v.ownBlock ≠ some g := own_not ho hv (by decide)
  have n1 : v.ownBlock ≠ some (g + 1) := own_not ho h.b1 (by decide)
  have n2 : v.ownBlock ≠ some (g + 1 + 1) := own_not ho h.b2 (by decide)
  have e0 : W'.heap[g]? = W.heap[g]? := hg.by_.block g hv.lt (Ne.symm n0)
  have e1 : W'.heap[g + 1]? = W.heap[g + 1]? := hg.by_.block _ h.b1.lt (Ne.symm n1)
  have e2 : W'.heap[g + 1 + 1]? = W.heap[g + 1 + 1]? := hg.by_.block _ h.b2.lt (Ne.symm n2)
  have s1 : (W'.setCell ⟨g, 0, none⟩ v').heap[g + 1]? = W'.heap[g + 1]? := Below.heap_setCell _ ⟨g, 0, none⟩ _ _ (by show g + 1 ≠ g; omega)
  have s2 : (W'.setCell ⟨g, 0, none⟩ v').heap[g + 1 + 1]? = W'.heap[g + 1 + 1]? := Below.heap_setCell _ ⟨g, 0, none⟩ _ _ (by show g + 1 + 1 ≠ g; omega)
  have hv1 : VarD W' g v 53 := hv.step e0
  have n3 : v'.ownBlock ≠ some g := own_not ho' hv1 (by decide)
  refine ⟨⟨?_, h.b1.step (s1.trans e1), h.b2.step (s2.trans e2), v', hv1.set v', ho'.step fun k hk _ => Below.heap_setCell _ ⟨g, 0, none⟩ _ k ?_⟩, ⟨s1.trans e1, s2.trans e2⟩, fun B => ?_⟩
  · exact (h.bel.grown hg.by_ h.bel.size (fun k e => (ho.lt k e).1)).setCell (p := ⟨g, 0, none⟩) hgw v'
  · rcases hk with hk | hk
    · exact hk.elim
    · exact fun e => n3 (by rw [hk]; exact congrArg some e)
  · refine KeepsFrom.trans ((KeepsOthers.of_grownBy hg.by_ fun j o e ho1 => ?_).from B) ((KeepsOthers.setCell _ _ _).from B)
    obtain ⟨o', h1, h2⟩ := own_cells ho e
    rw [ho1] at h1
    cases h1
    exact h2
end
structure Net5 where
  A0 : Option Addr
  A1 : Option Addr
  A2 : Option Addr
  A3 : Option Addr
  A4 : Option Addr
  n0 : Nat
  n1 : Nat
  n2 : Nat
  n3 : Nat
  n4 : Nat
  c0 : Nat
  c1 : Nat
  c2 : Nat
  c3 : Nat
  c4 : Nat
def Net5.arr (x : Net5) : Array Value := #[.slice x.A0 x.n0 x.c0, .slice x.A1 x.n1 x.c1, .slice x.A2 x.n2 x.c2, .slice x.A3 x.n3 x.c3, .slice x.A4 x.n4 x.c4]
end Go.Proofs.Ytimjccfpobhpeaa
