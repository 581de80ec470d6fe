/- Joined by this session's own program out of its texts: PFx19 PFx20. -/
import Derived.Test.YtimjccfpobhpeaaD1
import Derived.Test.YtimjccfpobhpeaaD5
namespace Go.Proofs.Ytimjccfpobhpeaa.PF
open Go.RowKit Go.Proofs.YtimjccfpobhpeaaW.PrintWords Go.Proofs.YtimjccfpobhpeaaW.PrintLast Go.Proofs.YtimjccfpobhpeaaW.PrintMore
attribute [local go_sem] Qq Kt
set_option linter.unusedVariables false
set_option linter.unusedSimpArgs false
mutual
def Xp.l0 : Nat → List (List (S77)) → List (S29) → Int → Option ((List (S29)) × Int)
  | 0, _, _, _ => none
  | k + 1, x4, x6, x7 => if x7 < (x4.length : Int) then (if 0 ≤ x7 then (Xp.l1 k x4 x6 x7 ((Qy x4 x7).length : Int) (-1)) else (none)) else (some (x6, 0))
def Xp.l1 : Nat → List (List (S77)) → List (S29) → Int → Int → Int → Option ((List (S29)) × Int)
  | 0, _, _, _, _, _ => none
  | k + 1, x4, x6, x7, x8, x9 => if x9 < x8 then (if x8 > 0 then (if x9 < 0 then ((some (([(⟨x7, x9, false⟩ : S29), (⟨x7, x9, true⟩ : S29)] : List (S29)) : List (S29))).bind fun y141 => (if x6.length + y141.length < 5864062014805 then (Xp.l1 k x4 (x6 ++ y141) x7 x8 (wrap64 (x9 + 1))) else (none))) else (if x8 > 1 then ((some (([(⟨x7, x9, false⟩ : S29), (⟨x7, x9, true⟩ : S29)] : List (S29)) : List (S29))).bind fun y147 => (if x6.length + y147.length < 5864062014805 then (Xp.l1 k x4 (x6 ++ y147) x7 x8 (wrap64 (x9 + 1))) else (none))) else (Xp.l1 k x4 x6 x7 x8 (wrap64 (x9 + 1))))) else (Xp.l1 k x4 x6 x7 x8 (wrap64 (x9 + 1)))) else (Xp.l0 k x4 x6 (wrap64 (x7 + 1)))
end
def Xp.f (k : Nat) (l0_0 : List ByteArray) (l0_1 : List ByteArray) (l0_2 : List (S82)) (l0_3 : List (Kr)) (l0_4 : List Int) : Option ((List (S29)) × Int) := (Xe.f k l0_0 l0_1 l0_2 l0_3 l0_4).bind fun bt136 => (if bt136.2 = 0 then (Xp.l0 k bt136.1 ([] : List (S29)) 2) else (some (([] : List (S29)), bt136.2)))
theorem Xp.mono_l : ∀ k, (∀ y0 y1 y2, Xw (Xp.l0 k y0 y1 y2) (Xp.l0 (k + 1) y0 y1 y2)) ∧ (∀ y0 y1 y2 y3 y4, Xw (Xp.l1 k y0 y1 y2 y3 y4) (Xp.l1 (k + 1) y0 y1 y2 y3 y4))
  | 0 => ⟨fun _ _ _ r h => by simp [Xp.l0] at h, fun _ _ _ _ _ r h => by simp [Xp.l1] at h⟩
  | k + 1 => by
    obtain ⟨ih0, ih1⟩ := Xp.mono_l k
    refine ⟨?_, ?_⟩
    · intro y0 y1 y2
      unfold Xp.l0
      repeat' first
      | (with_reducible exact ih0 _ _ _)
      | (with_reducible exact ih1 _ _ _ _ _)
      | (with_reducible exact Xe.mono _ _ _ _ _ _)
      | (with_reducible exact Xw.refl _)
      | (with_reducible exact Xw.none _)
      | (with_reducible refine Xw.ite ?_ ?_)
      | (with_reducible refine Xw.bind ?_ (fun _ => ?_))
      | exact ih0 _ _ _
      | exact ih1 _ _ _ _ _
      | exact Xe.mono _ _ _ _ _ _
      | exact Xw.none _
      | refine Xw.ite ?_ ?_
      | refine Xw.bind ?_ (fun _ => ?_)
    · intro y0 y1 y2 y3 y4
      unfold Xp.l1
      repeat' first
      | (with_reducible exact ih0 _ _ _)
      | (with_reducible exact ih1 _ _ _ _ _)
      | (with_reducible exact Xe.mono _ _ _ _ _ _)
      | (with_reducible exact Xw.refl _)
      | (with_reducible exact Xw.none _)
      | (with_reducible refine Xw.ite ?_ ?_)
      | (with_reducible refine Xw.bind ?_ (fun _ => ?_))
      | exact ih0 _ _ _
      | exact ih1 _ _ _ _ _
      | exact Xe.mono _ _ _ _ _ _
      | exact Xw.none _
      | refine Xw.ite ?_ ?_
      | refine Xw.bind ?_ (fun _ => ?_)
theorem Xp.mono : ∀ a0 a1 a2 a3 a4 k, Xw (Xp.f k a0 a1 a2 a3 a4) (Xp.f (k + 1) a0 a1 a2 a3 a4) := by
  intro a0 a1 a2 a3 a4 k
  obtain ⟨ih0, ih1⟩ := Xp.mono_l k
  unfold Xp.f
  repeat' first
      | (with_reducible exact ih0 _ _ _)
      | (with_reducible exact ih1 _ _ _ _ _)
      | (with_reducible exact Xe.mono _ _ _ _ _ _)
      | (with_reducible exact Xw.refl _)
      | (with_reducible exact Xw.none _)
      | (with_reducible refine Xw.ite ?_ ?_)
      | (with_reducible refine Xw.bind ?_ (fun _ => ?_))
      | exact ih0 _ _ _
      | exact ih1 _ _ _ _ _
      | exact Xe.mono _ _ _ _ _ _
      | exact Xw.none _
      | refine Xw.ite ?_ ?_
      | refine Xw.bind ?_ (fun _ => ?_)
set_option maxHeartbeats 8000000 in
set_option maxRecDepth 100000 in
theorem Xp.calls (k : Nat) (A0_0 : Option Addr) (c0_0 : Nat) (l0_0 : List ByteArray) (A0_1 : Option Addr) (c0_1 : Nat) (l0_1 : List ByteArray) (A0_2 : Option Addr) (c0_2 : Nat) (l0_2 : List (S82)) (A0_3 : Option Addr) (c0_3 : Nat) (l0_3 : List (Kr)) (A0_4 : Option Addr) (c0_4 : Nat) (l0_4 : List Int) (r1 : List (S29)) (r2 : Int) (w : World) (hr0_0 : Kd.C Kd.string w A0_0 l0_0.length l0_0) (hc0_0 : l0_0.length ≤ c0_0) (hr0_1 : Kd.C Kd.string w A0_1 l0_1.length l0_1) (hc0_1 : l0_1.length ≤ c0_1) (hr0_2 : Kd.C k82 w A0_2 l0_2.length l0_2) (hc0_2 : l0_2.length ≤ c0_2) (hr0_3 : Kd.C k80 w A0_3 l0_3.length l0_3) (hc0_3 : l0_3.length ≤ c0_3) (hr0_4 : Kd.C (Kd.int .i64) w A0_4 l0_4.length l0_4) (hc0_4 : l0_4.length ≤ c0_4) (h : Xp.f k l0_0 l0_1 l0_2 l0_3 l0_4 = some (r1, r2)) :
 Calls Try.prog 14 #[.agg #[.slice A0_0 l0_0.length c0_0, .slice A0_1 l0_1.length c0_1, .slice A0_2 l0_2.length c0_2, .slice A0_3 l0_3.length c0_3, .slice A0_4 l0_4.length c0_4]] w fun e w' => ∃ v0_ : Value, e = .returned (.tuple #[v0_, .int .i64 r2]) ∧ Kd.R k29 29 w' w.heap.size (fun _ => True) v0_ r1 ∧ Below w.heap.size w w' := by
 have hu27 := Try.underlying27
 have hu29 := Try.underlying29
 have HR0_0 := Za.mk hr0_0
 have HC0_0 := Za.mk hc0_0
 clear hr0_0 hc0_0
 have HR0_1 := Za.mk hr0_1
 have HC0_1 := Za.mk hc0_1
 clear hr0_1 hc0_1
 have HR0_2 := Za.mk hr0_2
 have HC0_2 := Za.mk hc0_2
 clear hr0_2 hc0_2
 have HR0_3 := Za.mk hr0_3
 have HC0_3 := Za.mk hc0_3
 clear hr0_3 hc0_3
 have HR0_4 := Za.mk hr0_4
 have HC0_4 := Za.mk hc0_4
 clear hr0_4 hc0_4
 have HB := Za.mk (Below.refl w.heap.size w)
 have H : ((Xe.f k l0_0 l0_1 l0_2 l0_3 l0_4).bind fun bt136 => (if bt136.2 = 0 then (Xp.l0 k bt136.1 ([] : List (S29)) 2) else (some (([] : List (S29)), bt136.2)))) = some (r1, r2) := h
 clear h
 replace H := Option.bind_eq_some_iff.mp H
 obtain ⟨⟨t136, t139⟩, A20, H⟩ := H
 replace H : (if t139 = 0 then (Xp.l0 k t136 ([] : List (S29)) 2) else (some (([] : List (S29)), t139))) = some (r1, r2) := H
 have A2 := Za.mk A20
 clear A20
 by_cases c3 : t139 = 0
 ·rw [if_pos c3] at H
  have c3b0 : (t139 == 0) = true := beq_iff_eq.mpr c3
  have c3b1 : (t139 != 0) = false := bne_eq_false_iff_eq.mpr c3
  clear c3
  have H' := Za.mk H
  clear H
  go_enter Try.func14, Try.ntmps14
  go_wp2_with (first | ((with_reducible refine Xg (N := 1) rfl ?_); refine Xk ?hg (N := 1) ?hd (cs := #[.slice A0_0 l0_0.length c0_0, .slice A0_1 l0_1.length c0_1, .slice A0_2 l0_2.length c0_2, .slice A0_3 l0_3.length c0_3, .slice A0_4 l0_4.length c0_4]) (t := 27) ?hr ?_; (case hd => rfl); (case hg => rfl); (case hr => first | (go_simp; done) | (go_simp; rfl)); intro gb135 hg w4 hbox hb; have n0_ := Za.mk (Zh HB.out hb); have n1_ := Za.mk (hbox); have n2_ := Za.mk ((by rw [hg]; exact (Zg HB.out) : w.heap.size ≤ gb135)); have n3_ := n2_; clear HB; have HB := n0_; have BK135 := n1_; have GW135 := n2_; have GE135 := n3_; clear n0_ n1_ n2_ n3_; clear hb hbox hg; have hcz5_0 : w4.cell? ⟨gb135, 0, none⟩ = some (.slice A0_0 l0_0.length c0_0) := (Zc BK135.out 0).trans rfl; have hcz5_1 : w4.cell? ⟨gb135, 1, none⟩ = some (.slice A0_1 l0_1.length c0_1) := (Zc BK135.out 1).trans rfl; have hcz5_2 : w4.cell? ⟨gb135, 2, none⟩ = some (.slice A0_2 l0_2.length c0_2) := (Zc BK135.out 2).trans rfl; have hcz5_3 : w4.cell? ⟨gb135, 3, none⟩ = some (.slice A0_3 l0_3.length c0_3) := (Zc BK135.out 3).trans rfl; have hcz5_4 : w4.cell? ⟨gb135, 4, none⟩ = some (.slice A0_4 l0_4.length c0_4) := (Zc BK135.out 4).trans rfl; have hfz5_0 := Zb BK135.out 0; have hfz5_1 := Zb BK135.out 1; have hfz5_2 := Zb BK135.out 2; have hfz5_3 := Zb BK135.out 3; have hfz5_4 := Zb BK135.out 4) | ((with_reducible refine Xi (f := 27) rfl ?_); refine Qo (some 12) rfl rfl Try.func27 (by kernel_rfl) rfl #[.agg #[.slice A0_0 l0_0.length c0_0, .slice A0_1 l0_1.length c0_1, .slice A0_2 l0_2.length c0_2, .slice A0_3 l0_3.length c0_3, .slice A0_4 l0_4.length c0_4]] rfl (by (try simp only [List.map_toArray, List.map_cons, List.map_nil]); first | done | rfl | (simp only [List.length_drop, List.length_take]; rfl)) ?_; (with_reducible refine (Xe.calls k _ _ l0_0 _ _ l0_1 _ _ l0_2 _ _ l0_3 _ _ l0_4 t136 t139 _ ?side1 ?side2 ?side3 ?side4 ?side5 ?side6 ?side7 ?side8 ?side9 ?side10 A2.out).mono ?_); (case side1 => exact (Kd.Zf HR0_0.out HB.out)); (case side2 => exact HC0_0.out); (case side3 => exact (Kd.Zf HR0_1.out HB.out)); (case side4 => exact HC0_1.out); (case side5 => exact (Kd.Zf HR0_2.out HB.out)); (case side6 => exact HC0_2.out); (case side7 => exact (Kd.Zf HR0_3.out HB.out)); (case side8 => exact HC0_3.out); (case side9 => exact (Kd.Zf HR0_4.out HB.out)); (case side10 => exact HC0_4.out); rintro e w6 ⟨v137, rfl, ho0, hb⟩; refine ⟨_, rfl, ?_⟩; have n0_ := Za.mk (Kd.S_lower ho0 (Zg HB.out)); have n1_ := Za.mk (Zo BK135.out hb); have n2_ := Za.mk (Zh HB.out hb); clear BK135; clear HB; have HO138 := n0_; have BK135 := n1_; have HB := n2_; clear n0_ n1_ n2_; (try clear hb); (try clear hb2); (try clear hk); (try clear hi); (try clear ho0)))
  go_loopg [6, 7] k (fun kq v6 v7 w' => ∃ (x6_1 : List (S29)) (x7_1 : Int), v7 = .int .i64 x7_1 ∧ Za (Xp.l0 kq t136 x6_1 x7_1 = some (r1, r2)) ∧ Za (kq ≤ k) ∧ Za (Kd.S (Kd.slice 77 k77) 75 w' w.heap.size (fun _ => True) v137 t136) ∧ Za (Kd.R k29 29 w' w.heap.size (fun _ => True) v6 x6_1) ∧ Za (w'.heap[gb135]? = some (.cells #[(.slice A0_0 l0_0.length c0_0), (.slice A0_1 l0_1.length c0_1), (.slice A0_2 l0_2.length c0_2), (.slice A0_3 l0_3.length c0_3), (.slice A0_4 l0_4.length c0_4)] 27 (0, 0))) ∧ Za (Below w.heap.size w w'))
  case atStart => exact ⟨(([] : List (S29))), (2), (by first | rfl | (simp; done) | (simp [*]; done)), H', ⟨Nat.le_refl _⟩, ⟨HO138.out⟩, ⟨by first | exact Kd.R_nil _ _ _ _ _ | exact Kd.N_nil _ _ _ _ _ | exact Kd.V_nil _ _ _ _ _ | exact Kd.Q_nil _ _ _ _ _ | exact Kd.S_nil _ _ _ _ _⟩, ⟨BK135.out⟩, ⟨HB.out⟩⟩
  case round =>
   clear H'
   try clear c3b0
   try clear c3b1
   try clear hcz5_0
   try clear hcz5_1
   try clear hcz5_2
   try clear hcz5_3
   try clear hcz5_4
   try clear hfz5_0
   try clear hfz5_1
   try clear hfz5_2
   try clear hfz5_3
   try clear hfz5_4
   obtain ⟨x6_1, x7_1, rfl, HA, HK1, HO_4, HO_6, BK135, HB⟩ := hrel
   cases gk with
   | zero => exact absurd HA.out (by simp [Xp.l0])
   | succ k1 =>
    have H := HA.out
    clear HA
    simp only [Xp.l0] at H
    by_cases c7 : x7_1 < (t136.length : Int)
    ·rw [if_pos c7] at H
     have c7b0 : decide (x7_1 < (t136.length : Int)) = true := decide_eq_true c7
     clear c7
     by_cases c8 : 0 ≤ x7_1
     ·rw [if_pos c8] at H
      have c8b0 : decide (0 ≤ x7_1) = true := decide_eq_true c8
      clear c8
      have H' := Za.mk H
      clear H
      obtain ⟨Ao9, co9, eo9⟩ := Kd.S_slice HO_4.out
      subst eo9
      have p140 : 0 ≤ (x7_1 : Int) := of_decide_eq_true (by first | (with_reducible assumption) | assumption)
      have q140 : x7_1 < (t136.length : Int) := of_decide_eq_true (by first | (with_reducible assumption) | assumption)
      obtain ⟨ad140, A140_0, c140_0, e140, hx140_0, hl140_0, hi140_0⟩ := at_L12 (Kd.S_reads' HO_4.out).2.2 x7_1 p140 q140
      cases e140
      obtain ⟨ce140, hce140, hMe140, hcc140⟩ := Kd.S_get HO_4.out [] x7_1 p140 (by first | exact q140 | exact of_decide_eq_true (by first | (with_reducible assumption) | assumption) | (have e_ := (Kd.S_reads' HO_4.out).1; omega))
      obtain ⟨ve140_0, rfl, ge140_0⟩ := hMe140
      have hv140_0 := hcc140 0 _ rfl
      rw [Nat.add_zero, show ((Kd.slice 77 k77)).sz = 1 from rfl, Nat.mul_one] at hv140_0
      replace hv140_0 := Option.some.inj (hv140_0.symm.trans hx140_0)
      rw [hv140_0] at ge140_0
      have HL140_0 := Za.mk (show Kd.R k77 77 _ _ _ _ (Qy t136 x7_1) from ge140_0)
      clear hv140_0 ge140_0
      clear hcc140 hce140
      have HR140_0 := Za.mk hi140_0
      have HC140_0 := Za.mk hl140_0
      clear hi140_0 hl140_0
      replace p140 := eq_true p140
      replace q140 := eq_true q140
      go_wp2
      go_loopg [6, 9] k1 (fun kq v6 v9 w' => ∃ (x6_2 : List (S29)) (x9_2 : Int), v9 = .int .i64 x9_2 ∧ Za (Xp.l1 kq t136 x6_2 x7_1 ((Qy t136 x7_1).length : Int) x9_2 = some (r1, r2)) ∧ Za (kq ≤ k1) ∧ Za (Kd.S (Kd.slice 77 k77) 75 w' w.heap.size (fun _ => True) (.slice (some ad140) t136.length co9) t136) ∧ Za (Kd.R k29 29 w' w.heap.size (fun _ => True) v6 x6_2) ∧ Za (w'.heap[gb135]? = some (.cells #[(.slice A0_0 l0_0.length c0_0), (.slice A0_1 l0_1.length c0_1), (.slice A0_2 l0_2.length c0_2), (.slice A0_3 l0_3.length c0_3), (.slice A0_4 l0_4.length c0_4)] 27 (0, 0))) ∧ Za (Below w.heap.size w w'))
      case atStart => exact ⟨(x6_1), ((-1)), (by first | rfl | (simp; done) | (simp [*]; done)), H', ⟨Nat.le_refl _⟩, ⟨HO_4.out⟩, ⟨HO_6.out⟩, ⟨BK135.out⟩, ⟨HB.out⟩⟩
      case round =>
       clear H'
       try clear c7b0
       try clear c8b0
       try clear hx140_0
       try clear p140
       try clear q140
       obtain ⟨x6_2, x9_2, rfl, HA, HK2, HO_4, HO_6, BK135, HB⟩ := hrel
       cases gk with
       | zero => exact absurd HA.out (by simp [Xp.l1])
       | succ k2 =>
        have H := HA.out
        clear HA
        simp only [Xp.l1] at H
        by_cases c10 : x9_2 < ((Qy t136 x7_1).length : Int)
        ·rw [if_pos c10] at H
         have c10b0 : decide (x9_2 < ((Qy t136 x7_1).length : Int)) = true := decide_eq_true c10
         clear c10
         by_cases c11 : ((Qy t136 x7_1).length : Int) > 0
         ·rw [if_pos c11] at H
          have c11b0 : decide (0 < ((Qy t136 x7_1).length : Int)) = true := decide_eq_true c11
          have c11b1 : decide (0 < (Qy t136 x7_1).length) = true := decide_eq_true (by omega)
          clear c11
          by_cases c12 : x9_2 < 0
          ·rw [if_pos c12] at H
           have c12b0 : decide (x9_2 < 0) = true := decide_eq_true c12
           clear c12
           obtain ⟨y141, hy141⟩ : ∃ y_ : List (S29), y_ = (([(⟨x7_1, x9_2, false⟩ : S29), (⟨x7_1, x9_2, true⟩ : S29)] : List (S29))) := ⟨_, rfl⟩
           replace H : (if x6_2.length + y141.length < 5864062014805 then (Xp.l1 k2 t136 (x6_2 ++ y141) x7_1 ((Qy t136 x7_1).length : Int) (wrap64 (x9_2 + 1))) else (none)) = some (r1, r2) := by first | (rw [hy141]; with_reducible exact H) | (have H2_ := (Option.bind_some _ _).symm.trans H; rw [hy141]; with_reducible exact H2_) | (have H2_ := (Option.bind_some _ _).symm.trans H; with_reducible exact H2_) | with_reducible exact H | (rw [hy141]; exact H) | exact H
           have Ny141 := Za.mk hy141
           clear hy141
           by_cases c13 : x6_2.length + y141.length < 5864062014805
           ·rw [if_pos c13] at H
            have LMc13 := Za.mk c13
            clear c13
            obtain ⟨y144, hy144⟩ : ∃ y_ : List (S29), y_ = (x6_2 ++ y141) := ⟨_, rfl⟩
            replace H : (Xp.l1 k2 t136 y144 x7_1 ((Qy t136 x7_1).length : Int) (wrap64 (x9_2 + 1))) = some (r1, r2) := by first | (rw [hy144]; with_reducible exact H) | (have H2_ := (Option.bind_some _ _).symm.trans H; rw [hy144]; with_reducible exact H2_) | (have H2_ := (Option.bind_some _ _).symm.trans H; with_reducible exact H2_) | with_reducible exact H | (rw [hy144]; exact H) | exact H
            have Ny144 := Za.mk hy144
            clear hy144
            have H' := Za.mk H
            clear H
            go_wp2_with (first | ((with_reducible refine Xg (N := 51) rfl ?_); refine Kd.R_lit k29 _ 29 ?hg (N := 51) ?hd (xs := ([(⟨x7_1, x9_2, false⟩ : S29), (⟨x7_1, x9_2, true⟩ : S29)] : List (S29))) (inner := [.int .i64 x7_1, .int .i64 x9_2, .bool false, .int .i64 x7_1, .int .i64 x9_2, .bool true]) (ok := fun _ => True) (okp := fun _ => True) ?hr ?hp (fun _ hk => hk) trivial (Below.refl _ _) (Nat.le_refl _) (by simp) ?_; (case hd => rfl); (case hg => rfl); (case hr => first | (go_simp; done) | (go_simp; rfl)); (case hp => exact (Reps.c3 (show Kd.M k29 _ _ _ (⟨x7_1, x9_2, false⟩ : S29) [.int .i64 x7_1, .int .i64 x9_2, .bool false] from (k29_mkM _ _ _ (⟨x7_1, x9_2, false⟩ : S29) )) (Reps.c3 (show Kd.M k29 _ _ _ (⟨x7_1, x9_2, true⟩ : S29) [.int .i64 x7_1, .int .i64 x9_2, .bool true] from (k29_mkM _ _ _ (⟨x7_1, x9_2, true⟩ : S29) )) (Reps.none _ _)))); intro v142 w14 ho15 hb hg_ hnew_; clear hg_ hnew_; (first | rw [← Ny141.out] at ho15 | (simp only [Int.reduceToNat] at ho15; rw [← Ny141.out] at ho15)); have n0_ := Za.mk (Kd.S_below HO_4.out hb); have n1_ := Za.mk (Kd.R_elder' HO_6.out (Kd.Xu ho15) hb); have n2_ := Za.mk (Kd.Xn (Kd.R_new' ho15 (Kd.R_lt HO_6.out)) (Zg HB.out)); have n3_ := Za.mk (Zo BK135.out hb); have n4_ := Za.mk (Zh HB.out hb); clear HO_4; clear HO_6; clear BK135; clear HB; have HO_4 := n0_; have HO_6 := n1_; have HO143 := n2_; have BK135 := n3_; have HB := n4_; clear n0_ n1_ n2_ n3_ n4_; clear hb ho15; obtain ⟨Ao17, co17, eo17⟩ := Kd.Xd HO143.out; subst eo17) | ((with_reducible refine gate_builtin (b := .append) (xs := #[.tmp 44, .tmp 51]) rfl ?_); at_builtin; refine Kd.R_append_rows k29 (w0 := w) w.heap.size rfl (.tmp 44) (.tmp 51) 39 29 (.agg #[(.int .i64 0), (.int .i64 0), (.bool false)]) 24 rfl Try.underlying39 info29 rfl (by decide) (by omega) u6 x6_2 y141 _ _ _ (fun k_ => some k_ ≠ (.slice Ao17 y141.length co17 : Value).ownBlock) (fun _ => False) rfl rfl ?aO ?aR (fun _ _ h => h) (fun _ h => h.elim) ?aF ?aB ?aS ?aL ?_; (case aR => repeat (first | exact (Kd.Xl HO143.out).2.2 | (with_reducible refine Kd.C_alloc ?_ _) | (with_reducible refine Kd.C_drewN ?_ _) | (with_reducible refine Kd.C_drew ?_))); (case aB => exact HB.out); (case aF => exact (fun k_ hk => Kd.fresh' (Kd.R_lt HO143.out) k_ hk)); (case aO => exact (by (with_reducible repeat (first | apply Kd.R_alloc | apply Kd.Xx | apply Kd.Qa)); exact Kd.Xj HO_6.out (fun _ hk => hk.2))); (case aS => exact (Zg HB.out)); (case aL => have := LMc13.out; omega); intro v145 w16 ho hb hg hat; rw [← Ny144.out] at ho; have n0_ := Za.mk (Kd.S_over' HO_4.out (Kd.R_typed HO_6.out) (by decide) hg); have n1_ := Za.mk (blk_grown BK135.out hg (Kd.R_ne HO_6.out BK135.out (by decide))); have n2_ := Za.mk (Kd.R_after (ok := (fun _ => True)) HO143.out hg hat); have n3_ := Za.mk (hb); have n4_ := Za.mk (ho); clear HO_4; clear BK135; clear HO143; clear HB; clear HO_6; have HO_4 := n0_; have BK135 := n1_; have HO143 := n2_; have HB := n3_; have HO146 := n4_; clear n0_ n1_ n2_ n3_ n4_; clear ho hb hg hat))
            go_roundg k2
            case measure => have := HK1.out; have := HK2.out; omega
            case rel => exact ⟨(y144), (wrap64 (x9_2 + 1)), (by first | rfl | (simp; done) | (simp [*]; done)), H', ⟨by have := HK1.out; have := HK2.out; omega⟩, ⟨HO_4.out⟩, ⟨by (with_reducible repeat (first | apply Kd.R_alloc | apply Kd.Xx | apply Kd.Qa)); exact Kd.Xj HO146.out (fun _ hk => trivial)⟩, ⟨BK135.out⟩, ⟨HB.out⟩⟩
           ·rw [if_neg c13] at H
            exact absurd H (by simp)
          ·rw [if_neg c12] at H
           have c12b0 : decide (x9_2 < 0) = false := decide_eq_false c12
           clear c12
           by_cases c18 : ((Qy t136 x7_1).length : Int) > 1
           ·rw [if_pos c18] at H
            have c18b0 : decide (1 < ((Qy t136 x7_1).length : Int)) = true := decide_eq_true c18
            have c18b1 : decide (1 < (Qy t136 x7_1).length) = true := decide_eq_true (by omega)
            clear c18
            obtain ⟨y147, hy147⟩ : ∃ y_ : List (S29), y_ = (([(⟨x7_1, x9_2, false⟩ : S29), (⟨x7_1, x9_2, true⟩ : S29)] : List (S29))) := ⟨_, rfl⟩
            replace H : (if x6_2.length + y147.length < 5864062014805 then (Xp.l1 k2 t136 (x6_2 ++ y147) x7_1 ((Qy t136 x7_1).length : Int) (wrap64 (x9_2 + 1))) else (none)) = some (r1, r2) := by first | (rw [hy147]; with_reducible exact H) | (have H2_ := (Option.bind_some _ _).symm.trans H; rw [hy147]; with_reducible exact H2_) | (have H2_ := (Option.bind_some _ _).symm.trans H; with_reducible exact H2_) | with_reducible exact H | (rw [hy147]; exact H) | exact H
            have Ny147 := Za.mk hy147
            clear hy147
            by_cases c19 : x6_2.length + y147.length < 5864062014805
            ·rw [if_pos c19] at H
             have LMc19 := Za.mk c19
             clear c19
             obtain ⟨y150, hy150⟩ : ∃ y_ : List (S29), y_ = (x6_2 ++ y147) := ⟨_, rfl⟩
             replace H : (Xp.l1 k2 t136 y150 x7_1 ((Qy t136 x7_1).length : Int) (wrap64 (x9_2 + 1))) = some (r1, r2) := by first | (rw [hy150]; with_reducible exact H) | (have H2_ := (Option.bind_some _ _).symm.trans H; rw [hy150]; with_reducible exact H2_) | (have H2_ := (Option.bind_some _ _).symm.trans H; with_reducible exact H2_) | with_reducible exact H | (rw [hy150]; exact H) | exact H
             have Ny150 := Za.mk hy150
             clear hy150
             have H' := Za.mk H
             clear H
             go_wp2_with (first | ((with_reducible refine Xg (N := 51) rfl ?_); refine Kd.R_lit k29 _ 29 ?hg (N := 51) ?hd (xs := ([(⟨x7_1, x9_2, false⟩ : S29), (⟨x7_1, x9_2, true⟩ : S29)] : List (S29))) (inner := [.int .i64 x7_1, .int .i64 x9_2, .bool false, .int .i64 x7_1, .int .i64 x9_2, .bool true]) (ok := fun _ => True) (okp := fun _ => True) ?hr ?hp (fun _ hk => hk) trivial (Below.refl _ _) (Nat.le_refl _) (by simp) ?_; (case hd => rfl); (case hg => rfl); (case hr => first | (go_simp; done) | (go_simp; rfl)); (case hp => exact (Reps.c3 (show Kd.M k29 _ _ _ (⟨x7_1, x9_2, false⟩ : S29) [.int .i64 x7_1, .int .i64 x9_2, .bool false] from (k29_mkM _ _ _ (⟨x7_1, x9_2, false⟩ : S29) )) (Reps.c3 (show Kd.M k29 _ _ _ (⟨x7_1, x9_2, true⟩ : S29) [.int .i64 x7_1, .int .i64 x9_2, .bool true] from (k29_mkM _ _ _ (⟨x7_1, x9_2, true⟩ : S29) )) (Reps.none _ _)))); intro v148 w20 ho21 hb hg_ hnew_; clear hg_ hnew_; (first | rw [← Ny147.out] at ho21 | (simp only [Int.reduceToNat] at ho21; rw [← Ny147.out] at ho21)); have n0_ := Za.mk (Kd.S_below HO_4.out hb); have n1_ := Za.mk (Kd.R_elder' HO_6.out (Kd.Xu ho21) hb); have n2_ := Za.mk (Kd.Xn (Kd.R_new' ho21 (Kd.R_lt HO_6.out)) (Zg HB.out)); have n3_ := Za.mk (Zo BK135.out hb); have n4_ := Za.mk (Zh HB.out hb); clear HO_4; clear HO_6; clear BK135; clear HB; have HO_4 := n0_; have HO_6 := n1_; have HO149 := n2_; have BK135 := n3_; have HB := n4_; clear n0_ n1_ n2_ n3_ n4_; clear hb ho21; obtain ⟨Ao23, co23, eo23⟩ := Kd.Xd HO149.out; subst eo23) | ((with_reducible refine gate_builtin (b := .append) (xs := #[.tmp 44, .tmp 51]) rfl ?_); at_builtin; refine Kd.R_append_rows k29 (w0 := w) w.heap.size rfl (.tmp 44) (.tmp 51) 39 29 (.agg #[(.int .i64 0), (.int .i64 0), (.bool false)]) 24 rfl Try.underlying39 info29 rfl (by decide) (by omega) u6 x6_2 y147 _ _ _ (fun k_ => some k_ ≠ (.slice Ao23 y147.length co23 : Value).ownBlock) (fun _ => False) rfl rfl ?aO ?aR (fun _ _ h => h) (fun _ h => h.elim) ?aF ?aB ?aS ?aL ?_; (case aR => repeat (first | exact (Kd.Xl HO149.out).2.2 | (with_reducible refine Kd.C_alloc ?_ _) | (with_reducible refine Kd.C_drewN ?_ _) | (with_reducible refine Kd.C_drew ?_))); (case aB => exact HB.out); (case aF => exact (fun k_ hk => Kd.fresh' (Kd.R_lt HO149.out) k_ hk)); (case aO => exact (by (with_reducible repeat (first | apply Kd.R_alloc | apply Kd.Xx | apply Kd.Qa)); exact Kd.Xj HO_6.out (fun _ hk => hk.2))); (case aS => exact (Zg HB.out)); (case aL => have := LMc19.out; omega); intro v151 w22 ho hb hg hat; rw [← Ny150.out] at ho; have n0_ := Za.mk (Kd.S_over' HO_4.out (Kd.R_typed HO_6.out) (by decide) hg); have n1_ := Za.mk (blk_grown BK135.out hg (Kd.R_ne HO_6.out BK135.out (by decide))); have n2_ := Za.mk (Kd.R_after (ok := (fun _ => True)) HO149.out hg hat); have n3_ := Za.mk (hb); have n4_ := Za.mk (ho); clear HO_4; clear BK135; clear HO149; clear HB; clear HO_6; have HO_4 := n0_; have BK135 := n1_; have HO149 := n2_; have HB := n3_; have HO152 := n4_; clear n0_ n1_ n2_ n3_ n4_; clear ho hb hg hat))
             go_roundg k2
             case measure => have := HK1.out; have := HK2.out; omega
             case rel => exact ⟨(y150), (wrap64 (x9_2 + 1)), (by first | rfl | (simp; done) | (simp [*]; done)), H', ⟨by have := HK1.out; have := HK2.out; omega⟩, ⟨HO_4.out⟩, ⟨by (with_reducible repeat (first | apply Kd.R_alloc | apply Kd.Xx | apply Kd.Qa)); exact Kd.Xj HO152.out (fun _ hk => trivial)⟩, ⟨BK135.out⟩, ⟨HB.out⟩⟩
            ·rw [if_neg c19] at H
             exact absurd H (by simp)
           ·rw [if_neg c18] at H
            have c18b0 : decide (1 < ((Qy t136 x7_1).length : Int)) = false := decide_eq_false c18
            have c18b1 : decide (1 < (Qy t136 x7_1).length) = false := decide_eq_false (by omega)
            clear c18
            have H' := Za.mk H
            clear H
            go_wp2
            go_roundg k2
            case measure => have := HK1.out; have := HK2.out; omega
            case rel => exact ⟨(x6_2), (wrap64 (x9_2 + 1)), (by first | rfl | (simp; done) | (simp [*]; done)), H', ⟨by have := HK1.out; have := HK2.out; omega⟩, ⟨HO_4.out⟩, ⟨HO_6.out⟩, ⟨BK135.out⟩, ⟨HB.out⟩⟩
         ·rw [if_neg c11] at H
          have c11b0 : decide (0 < ((Qy t136 x7_1).length : Int)) = false := decide_eq_false c11
          have c11b1 : decide (0 < (Qy t136 x7_1).length) = false := decide_eq_false (by omega)
          clear c11
          have H' := Za.mk H
          clear H
          go_wp2
          go_roundg k2
          case measure => have := HK1.out; have := HK2.out; omega
          case rel => exact ⟨(x6_2), (wrap64 (x9_2 + 1)), (by first | rfl | (simp; done) | (simp [*]; done)), H', ⟨by have := HK1.out; have := HK2.out; omega⟩, ⟨HO_4.out⟩, ⟨HO_6.out⟩, ⟨BK135.out⟩, ⟨HB.out⟩⟩
        ·rw [if_neg c10] at H
         have c10b0 : decide (x9_2 < ((Qy t136 x7_1).length : Int)) = false := decide_eq_false c10
         clear c10
         have H' := Za.mk H
         clear H
         go_wp2
         go_roundg k2
         case measure => have := HK1.out; have := HK2.out; omega
         case rel => exact ⟨(x6_2), (wrap64 (x7_1 + 1)), (by first | rfl | (simp; done) | (simp [*]; done)), H', ⟨by have := HK1.out; have := HK2.out; omega⟩, ⟨HO_4.out⟩, ⟨HO_6.out⟩, ⟨BK135.out⟩, ⟨HB.out⟩⟩
     ·rw [if_neg c8] at H
      exact absurd H (by simp)
    ·rw [if_neg c7] at H
     have c7b0 : decide (x7_1 < (t136.length : Int)) = false := decide_eq_false c7
     clear c7
     simp only [Option.some.injEq, Prod.mk.injEq] at H
     obtain ⟨rfl, rfl⟩ := H
     obtain ⟨Ao24, co24, eo24⟩ := Kd.S_slice HO_4.out
     subst eo24
     go_wp2
     go_ret2
     exact ⟨_, by first | rfl | (simp [errW_none, errW_some] <;> rfl) | (simp [*, errW_none, errW_some] <;> rfl), by (with_reducible repeat (first | apply Kd.R_alloc | apply Kd.Xx | apply Kd.Qa)); exact HO_6.out, HB.out⟩
 ·rw [if_neg c3] at H
  have c3b0 : (t139 == 0) = false := beq_eq_false_iff_ne.mpr c3
  have c3b1 : (t139 != 0) = true := bne_iff_ne.mpr c3
  simp only [Option.some.injEq, Prod.mk.injEq] at H
  obtain ⟨rfl, rfl⟩ := H
  go_enter Try.func14, Try.ntmps14
  go_wp2_with (first | ((with_reducible refine Xg (N := 1) rfl ?_); refine Xk ?hg (N := 1) ?hd (cs := #[.slice A0_0 l0_0.length c0_0, .slice A0_1 l0_1.length c0_1, .slice A0_2 l0_2.length c0_2, .slice A0_3 l0_3.length c0_3, .slice A0_4 l0_4.length c0_4]) (t := 27) ?hr ?_; (case hd => rfl); (case hg => rfl); (case hr => first | (go_simp; done) | (go_simp; rfl)); intro gb135 hg w25 hbox hb; have n0_ := Za.mk (Zh HB.out hb); have n1_ := Za.mk (hbox); have n2_ := Za.mk ((by rw [hg]; exact (Zg HB.out) : w.heap.size ≤ gb135)); have n3_ := n2_; clear HB; have HB := n0_; have BK135 := n1_; have GW135 := n2_; have GE135 := n3_; clear n0_ n1_ n2_ n3_; clear hb hbox hg; have hcz26_0 : w25.cell? ⟨gb135, 0, none⟩ = some (.slice A0_0 l0_0.length c0_0) := (Zc BK135.out 0).trans rfl; have hcz26_1 : w25.cell? ⟨gb135, 1, none⟩ = some (.slice A0_1 l0_1.length c0_1) := (Zc BK135.out 1).trans rfl; have hcz26_2 : w25.cell? ⟨gb135, 2, none⟩ = some (.slice A0_2 l0_2.length c0_2) := (Zc BK135.out 2).trans rfl; have hcz26_3 : w25.cell? ⟨gb135, 3, none⟩ = some (.slice A0_3 l0_3.length c0_3) := (Zc BK135.out 3).trans rfl; have hcz26_4 : w25.cell? ⟨gb135, 4, none⟩ = some (.slice A0_4 l0_4.length c0_4) := (Zc BK135.out 4).trans rfl; have hfz26_0 := Zb BK135.out 0; have hfz26_1 := Zb BK135.out 1; have hfz26_2 := Zb BK135.out 2; have hfz26_3 := Zb BK135.out 3; have hfz26_4 := Zb BK135.out 4) | ((with_reducible refine Xi (f := 27) rfl ?_); refine Qo (some 12) rfl rfl Try.func27 (by kernel_rfl) rfl #[.agg #[.slice A0_0 l0_0.length c0_0, .slice A0_1 l0_1.length c0_1, .slice A0_2 l0_2.length c0_2, .slice A0_3 l0_3.length c0_3, .slice A0_4 l0_4.length c0_4]] rfl (by (try simp only [List.map_toArray, List.map_cons, List.map_nil]); first | done | rfl | (simp only [List.length_drop, List.length_take]; rfl)) ?_; (with_reducible refine (Xe.calls k _ _ l0_0 _ _ l0_1 _ _ l0_2 _ _ l0_3 _ _ l0_4 t136 t139 _ ?side1 ?side2 ?side3 ?side4 ?side5 ?side6 ?side7 ?side8 ?side9 ?side10 A2.out).mono ?_); (case side1 => exact (Kd.Zf HR0_0.out HB.out)); (case side2 => exact HC0_0.out); (case side3 => exact (Kd.Zf HR0_1.out HB.out)); (case side4 => exact HC0_1.out); (case side5 => exact (Kd.Zf HR0_2.out HB.out)); (case side6 => exact HC0_2.out); (case side7 => exact (Kd.Zf HR0_3.out HB.out)); (case side8 => exact HC0_3.out); (case side9 => exact (Kd.Zf HR0_4.out HB.out)); (case side10 => exact HC0_4.out); rintro e w27 ⟨v137, rfl, ho0, hb⟩; refine ⟨_, rfl, ?_⟩; have n0_ := Za.mk (Kd.S_lower ho0 (Zg HB.out)); have n1_ := Za.mk (Zo BK135.out hb); have n2_ := Za.mk (Zh HB.out hb); clear BK135; clear HB; have HO138 := n0_; have BK135 := n1_; have HB := n2_; clear n0_ n1_ n2_; (try clear hb); (try clear hb2); (try clear hk); (try clear hi); (try clear ho0)))
  go_ret2
  exact ⟨_, by first | rfl | (simp [errW_none, errW_some] <;> rfl) | (simp [*, errW_none, errW_some] <;> rfl), by first | exact Kd.R_nil _ _ _ _ _ | exact Kd.N_nil _ _ _ _ _ | exact Kd.V_nil _ _ _ _ _ | exact Kd.Q_nil _ _ _ _ _ | exact Kd.S_nil _ _ _ _ _, HB.out⟩
end Go.Proofs.Ytimjccfpobhpeaa.PF
namespace Go.Proofs.Ytimjccfpobhpeaa.PF
open Go.RowKit Go.Proofs.YtimjccfpobhpeaaW.PrintWords Go.Proofs.YtimjccfpobhpeaaW.PrintLast Go.Proofs.YtimjccfpobhpeaaW.PrintMore
attribute [local go_sem] Qq Kt
set_option linter.unusedVariables false
set_option linter.unusedSimpArgs false
def Xb.l0 : Nat → List Int → List Int → Int → Int → Option (Bool)
  | 0, _, _, _, _ => none
  | k + 1, x0, x1, x12, x13 => if x13 < x12 then (if 0 ≤ x13 then (if x13 < (x0.length : Int) then (if x13 < (x1.length : Int) then (if (rd x0 x13) = (rd x1 x13) then (Xb.l0 k x0 x1 x12 (wrap64 (x13 + 1))) else (some false)) else (none)) else (none)) else (none)) else (some true)
def Xb.f (k : Nat) (l0 : List Int) (l1 : List Int) : Option (Bool) := if (l0.length : Int) = (l1.length : Int) then (Xb.l0 k l0 l1 (l0.length : Int) 0) else (some false)
theorem Xb.mono_l : ∀ k, (∀ y0 y1 y2 y3, Xw (Xb.l0 k y0 y1 y2 y3) (Xb.l0 (k + 1) y0 y1 y2 y3))
  | 0 => fun _ _ _ _ r h => by simp [Xb.l0] at h
  | k + 1 => by
    have ih0 := Xb.mono_l k
    · intro y0 y1 y2 y3
      unfold Xb.l0
      repeat' first
      | (with_reducible exact ih0 _ _ _ _)
      | (with_reducible exact Xw.refl _)
      | (with_reducible exact Xw.none _)
      | (with_reducible refine Xw.ite ?_ ?_)
      | (with_reducible refine Xw.bind ?_ (fun _ => ?_))
      | exact ih0 _ _ _ _
      | exact Xw.none _
      | refine Xw.ite ?_ ?_
      | refine Xw.bind ?_ (fun _ => ?_)
theorem Xb.mono : ∀ a0 a1 k, Xw (Xb.f k a0 a1) (Xb.f (k + 1) a0 a1) := by
  intro a0 a1 k
  have ih0 := Xb.mono_l k
  unfold Xb.f
  repeat' first
      | (with_reducible exact ih0 _ _ _ _)
      | (with_reducible exact Xw.refl _)
      | (with_reducible exact Xw.none _)
      | (with_reducible refine Xw.ite ?_ ?_)
      | (with_reducible refine Xw.bind ?_ (fun _ => ?_))
      | exact ih0 _ _ _ _
      | exact Xw.none _
      | refine Xw.ite ?_ ?_
      | refine Xw.bind ?_ (fun _ => ?_)
set_option maxHeartbeats 8000000 in
set_option maxRecDepth 100000 in
theorem Xb.calls (k : Nat) (A0 : Option Addr) (c0 : Nat) (l0 : List Int) (A1 : Option Addr) (c1 : Nat) (l1 : List Int) (r : Bool) (w : World) (hr0 : Kd.C (Kd.int .i64) w A0 l0.length l0) (hc0 : l0.length ≤ c0) (hr1 : Kd.C (Kd.int .i64) w A1 l1.length l1) (hc1 : l1.length ≤ c1) (h : Xb.f k l0 l1 = some r) :
 Calls Try.prog 18 #[.slice A0 l0.length c0, .slice A1 l1.length c1] w fun e w' => e = .returned (.bool r) ∧ Qh w w' := by
 have HR0 := Za.mk hr0
 have HC0 := Za.mk hc0
 clear hr0 hc0
 have HR1 := Za.mk hr1
 have HC1 := Za.mk hc1
 clear hr1 hc1
 have H : (if (l0.length : Int) = (l1.length : Int) then (Xb.l0 k l0 l1 (l0.length : Int) 0) else (some false)) = some r := h
 clear h
 by_cases c3 : (l0.length : Int) = (l1.length : Int)
 ·rw [if_pos c3] at H
  have c3b0 : ((l0.length : Int) == (l1.length : Int)) = true := beq_iff_eq.mpr c3
  have c3b1 : ((l0.length : Int) != (l1.length : Int)) = false := bne_eq_false_iff_eq.mpr c3
  have c3b2 : (l0.length == l1.length) = true := by first | simpa using c3 | (simp at c3 ⊢; omega)
  clear c3
  have H' := Za.mk H
  clear H
  go_enter Try.func18, Try.ntmps18
  go_wp2
  repeat (go_quiet (fail); try go_wp2)
  go_loopg [13] k (fun kq v13 w' => ∃ (x13_1 : Int), v13 = .int .i64 x13_1 ∧ Za (Xb.l0 kq l0 l1 (l0.length : Int) x13_1 = some r) ∧ Za (kq ≤ k) ∧ Qh w w')
  case atStart => exact ⟨(0), (by first | rfl | (simp; done) | (simp [*]; done)), H', ⟨Nat.le_refl _⟩, by repeat (first | exact Qh.refl _ | apply Qh.step)⟩
  case round =>
   clear H'
   try clear c3b0
   try clear c3b1
   try clear c3b2
   obtain ⟨x13_1, rfl, HA, HK1, ⟨m1, rfl⟩⟩ := hrel
   cases gk with
   | zero => exact absurd HA.out (by simp [Xb.l0])
   | succ k1 =>
    have H := HA.out
    clear HA
    simp only [Xb.l0] at H
    by_cases c4 : x13_1 < (l0.length : Int)
    ·rw [if_pos c4] at H
     have c4b0 : decide (x13_1 < (l0.length : Int)) = true := decide_eq_true c4
     clear c4
     by_cases c5 : 0 ≤ x13_1
     ·rw [if_pos c5] at H
      have c5b0 : decide (0 ≤ x13_1) = true := decide_eq_true c5
      clear c5
      by_cases c6 : x13_1 < (l0.length : Int)
      ·rw [if_pos c6] at H
       have c6b0 : decide (x13_1 < (l0.length : Int)) = true := decide_eq_true c6
       clear c6
       by_cases c7 : x13_1 < (l1.length : Int)
       ·rw [if_pos c7] at H
        have c7b0 : decide (x13_1 < (l1.length : Int)) = true := decide_eq_true c7
        clear c7
        by_cases c8 : (rd l0 x13_1) = (rd l1 x13_1)
        ·rw [if_pos c8] at H
         have c8b0 : ((rd l0 x13_1) == (rd l1 x13_1)) = true := beq_iff_eq.mpr c8
         have c8b1 : ((rd l0 x13_1) != (rd l1 x13_1)) = false := bne_eq_false_iff_eq.mpr c8
         clear c8
         have H' := Za.mk H
         clear H
         have p153 : 0 ≤ (x13_1 : Int) := of_decide_eq_true (by first | (with_reducible assumption) | assumption)
         have q153 : x13_1 < (l0.length : Int) := of_decide_eq_true (by first | (with_reducible assumption) | assumption)
         obtain ⟨ad153, e153, hx153_0⟩ := Kd.at_int HR0.out x13_1 p153 q153
         cases e153
         replace p153 := eq_true p153
         replace q153 := eq_true q153
         have p154 : 0 ≤ (x13_1 : Int) := of_decide_eq_true (by first | (with_reducible assumption) | assumption)
         have q154 : x13_1 < (l1.length : Int) := of_decide_eq_true (by first | (with_reducible assumption) | assumption)
         obtain ⟨ad154, e154, hx154_0⟩ := Kd.at_int HR1.out x13_1 p154 q154
         cases e154
         replace p154 := eq_true p154
         replace q154 := eq_true q154
         go_wp2
         repeat (go_quiet (fail); try go_wp2)
         go_roundg k1
         case measure => have := HK1.out; omega
         case rel => exact ⟨(wrap64 (x13_1 + 1)), (by first | rfl | (simp; done) | (simp [*]; done)), H', ⟨by have := HK1.out; omega⟩, by repeat (first | exact Qh.refl _ | apply Qh.step)⟩
        ·rw [if_neg c8] at H
         have c8b0 : ((rd l0 x13_1) == (rd l1 x13_1)) = false := beq_eq_false_iff_ne.mpr c8
         have c8b1 : ((rd l0 x13_1) != (rd l1 x13_1)) = true := bne_iff_ne.mpr c8
         obtain rfl := Option.some.inj H
         have p153 : 0 ≤ (x13_1 : Int) := of_decide_eq_true (by first | (with_reducible assumption) | assumption)
         have q153 : x13_1 < (l0.length : Int) := of_decide_eq_true (by first | (with_reducible assumption) | assumption)
         obtain ⟨ad153, e153, hx153_0⟩ := Kd.at_int HR0.out x13_1 p153 q153
         cases e153
         replace p153 := eq_true p153
         replace q153 := eq_true q153
         have p154 : 0 ≤ (x13_1 : Int) := of_decide_eq_true (by first | (with_reducible assumption) | assumption)
         have q154 : x13_1 < (l1.length : Int) := of_decide_eq_true (by first | (with_reducible assumption) | assumption)
         obtain ⟨ad154, e154, hx154_0⟩ := Kd.at_int HR1.out x13_1 p154 q154
         cases e154
         replace p154 := eq_true p154
         replace q154 := eq_true q154
         go_wp2
         repeat (go_quiet (fail); try go_wp2)
         go_ret
         exact ⟨by first | rfl | (simp; done) | (simp [*]; done), by repeat (first | exact Qh.refl _ | apply Qh.step)⟩
       ·rw [if_neg c7] at H
        exact absurd H (by simp)
      ·rw [if_neg c6] at H
       exact absurd H (by simp)
     ·rw [if_neg c5] at H
      exact absurd H (by simp)
    ·rw [if_neg c4] at H
     have c4b0 : decide (x13_1 < (l0.length : Int)) = false := decide_eq_false c4
     clear c4
     obtain rfl := Option.some.inj H
     go_wp2
     repeat (go_quiet (fail); try go_wp2)
     go_ret
     exact ⟨by first | rfl | (simp; done) | (simp [*]; done), by repeat (first | exact Qh.refl _ | apply Qh.step)⟩
 ·rw [if_neg c3] at H
  have c3b0 : ((l0.length : Int) == (l1.length : Int)) = false := beq_eq_false_iff_ne.mpr c3
  have c3b1 : ((l0.length : Int) != (l1.length : Int)) = true := bne_iff_ne.mpr c3
  have c3b2 : (l0.length == l1.length) = false := by first | simpa using c3 | (simp at c3 ⊢; omega)
  obtain rfl := Option.some.inj H
  go_enter Try.func18, Try.ntmps18
  go_wp2
  repeat (go_quiet (fail); try go_wp2)
  go_ret
  exact ⟨by first | rfl | (simp; done) | (simp [*]; done), by repeat (first | exact Qh.refl _ | apply Qh.step)⟩
def masklaw2_single.f  : Option (List ByteArray × List ByteArray × (List (S82)) × (List (Kr)) × List Int) := some ((([(⟨#[97]⟩ : ByteArray)] : List ByteArray)), (([(⟨#[113]⟩ : ByteArray)] : List ByteArray)), (([(⟨(⟨#[114]⟩ : ByteArray), (-1), 4, 1, false⟩ : S82)] : List (S82))), (([(⟨(-1), 1, (([2] : List Int))⟩ : Kr)] : List (Kr))), (([3] : List Int)))
set_option maxHeartbeats 8000000 in
set_option maxRecDepth 100000 in
theorem masklaw2_single.calls  (r1 : List ByteArray) (r2 : List ByteArray) (r3 : List (S82)) (r4 : List (Kr)) (r5 : List Int) (w : World) (h : masklaw2_single.f  = some (r1, r2, r3, r4, r5)) :
 Calls Try.prog 35 #[] w fun e w' => ∃ v0_ v1_ v2_ v3_ v4_ : Value, e = .returned (.agg #[v0_, v1_, v2_, v3_, v4_]) ∧ Kd.R Kd.string 9 w' w.heap.size (fun k_ => (w.heap.size ≤ k_) ∧ some k_ ≠ (v1_ : Value).ownBlock) v0_ r1 ∧ Kd.R Kd.string 9 w' w.heap.size (fun k_ => (w.heap.size ≤ k_) ∧ some k_ ≠ (v0_ : Value).ownBlock) v1_ r2 ∧ Kd.R k82 82 w' w.heap.size (fun k_ => (w.heap.size ≤ k_)) v2_ r3 ∧ Kd.N k80 80 w' w.heap.size (fun k_ => (w.heap.size ≤ k_) ∧ some k_ ≠ (v0_ : Value).ownBlock ∧ some k_ ≠ (v1_ : Value).ownBlock ∧ some k_ ≠ (v2_ : Value).ownBlock ∧ some k_ ≠ (v4_ : Value).ownBlock) v3_ r4 ∧ Kd.R (Kd.int .i64) 3 w' w.heap.size (fun k_ => (w.heap.size ≤ k_)) v4_ r5 ∧ Below w.heap.size w w' := by
 have hu27 := Try.underlying27
 have hu82 := Try.underlying82
 have hu80 := Try.underlying80
 have HB := Za.mk (Below.refl w.heap.size w)
 have H : (some ((([(⟨#[97]⟩ : ByteArray)] : List ByteArray)), (([(⟨#[113]⟩ : ByteArray)] : List ByteArray)), (([(⟨(⟨#[114]⟩ : ByteArray), (-1), 4, 1, false⟩ : S82)] : List (S82))), (([(⟨(-1), 1, (([2] : List Int))⟩ : Kr)] : List (Kr))), (([3] : List Int)))) = some (r1, r2, r3, r4, r5) := h
 clear h
 obtain ⟨y156, hy156⟩ : ∃ y_ : List ByteArray, y_ = (([(⟨#[97]⟩ : ByteArray)] : List ByteArray)) := ⟨_, rfl⟩
 replace H : (some (y156, (([(⟨#[113]⟩ : ByteArray)] : List ByteArray)), (([(⟨(⟨#[114]⟩ : ByteArray), (-1), 4, 1, false⟩ : S82)] : List (S82))), (([(⟨(-1), 1, (([2] : List Int))⟩ : Kr)] : List (Kr))), (([3] : List Int)))) = some (r1, r2, r3, r4, r5) := by first | (rw [hy156]; with_reducible exact H) | (have H2_ := (Option.bind_some _ _).symm.trans H; rw [hy156]; with_reducible exact H2_) | (have H2_ := (Option.bind_some _ _).symm.trans H; with_reducible exact H2_) | with_reducible exact H | (rw [hy156]; exact H) | exact H
 have Ny156 := Za.mk hy156
 clear hy156
 obtain ⟨y159, hy159⟩ : ∃ y_ : List ByteArray, y_ = (([(⟨#[113]⟩ : ByteArray)] : List ByteArray)) := ⟨_, rfl⟩
 replace H : (some (y156, y159, (([(⟨(⟨#[114]⟩ : ByteArray), (-1), 4, 1, false⟩ : S82)] : List (S82))), (([(⟨(-1), 1, (([2] : List Int))⟩ : Kr)] : List (Kr))), (([3] : List Int)))) = some (r1, r2, r3, r4, r5) := by first | (rw [hy159]; with_reducible exact H) | (have H2_ := (Option.bind_some _ _).symm.trans H; rw [hy159]; with_reducible exact H2_) | (have H2_ := (Option.bind_some _ _).symm.trans H; with_reducible exact H2_) | with_reducible exact H | (rw [hy159]; exact H) | exact H
 have Ny159 := Za.mk hy159
 clear hy159
 obtain ⟨y162, hy162⟩ : ∃ y_ : List (S82), y_ = (([(⟨(⟨#[114]⟩ : ByteArray), (-1), 4, 1, false⟩ : S82)] : List (S82))) := ⟨_, rfl⟩
 replace H : (some (y156, y159, y162, (([(⟨(-1), 1, (([2] : List Int))⟩ : Kr)] : List (Kr))), (([3] : List Int)))) = some (r1, r2, r3, r4, r5) := by first | (rw [hy162]; with_reducible exact H) | (have H2_ := (Option.bind_some _ _).symm.trans H; rw [hy162]; with_reducible exact H2_) | (have H2_ := (Option.bind_some _ _).symm.trans H; with_reducible exact H2_) | with_reducible exact H | (rw [hy162]; exact H) | exact H
 have Ny162 := Za.mk hy162
 clear hy162
 obtain ⟨y165, hy165⟩ : ∃ y_ : List Int, y_ = (([2] : List Int)) := ⟨_, rfl⟩
 replace H : (some (y156, y159, y162, (([(⟨(-1), 1, y165⟩ : Kr)] : List (Kr))), (([3] : List Int)))) = some (r1, r2, r3, r4, r5) := by first | (rw [hy165]; with_reducible exact H) | (have H2_ := (Option.bind_some _ _).symm.trans H; rw [hy165]; with_reducible exact H2_) | (have H2_ := (Option.bind_some _ _).symm.trans H; with_reducible exact H2_) | with_reducible exact H | (rw [hy165]; exact H) | exact H
 have Ny165 := Za.mk hy165
 clear hy165
 obtain ⟨y168, hy168⟩ : ∃ y_ : List (Kr), y_ = (([(⟨(-1), 1, y165⟩ : Kr)] : List (Kr))) := ⟨_, rfl⟩
 replace H : (some (y156, y159, y162, y168, (([3] : List Int)))) = some (r1, r2, r3, r4, r5) := by first | (rw [hy168]; with_reducible exact H) | (have H2_ := (Option.bind_some _ _).symm.trans H; rw [hy168]; with_reducible exact H2_) | (have H2_ := (Option.bind_some _ _).symm.trans H; with_reducible exact H2_) | with_reducible exact H | (rw [hy168]; exact H) | exact H
 have Ny168 := Za.mk hy168
 clear hy168
 obtain ⟨y171, hy171⟩ : ∃ y_ : List Int, y_ = (([3] : List Int)) := ⟨_, rfl⟩
 replace H : (some (y156, y159, y162, y168, y171)) = some (r1, r2, r3, r4, r5) := by first | (rw [hy171]; with_reducible exact H) | (have H2_ := (Option.bind_some _ _).symm.trans H; rw [hy171]; with_reducible exact H2_) | (have H2_ := (Option.bind_some _ _).symm.trans H; with_reducible exact H2_) | with_reducible exact H | (rw [hy171]; exact H) | exact H
 have Ny171 := Za.mk hy171
 clear hy171
 simp only [Option.some.injEq, Prod.mk.injEq] at H
 obtain ⟨rfl, rfl, rfl, rfl, rfl⟩ := H
 go_enter Try.func35, Try.ntmps35
 go_wp2_with (first | ((with_reducible refine Xg (N := 0) rfl ?_); refine Xk ?hg (N := 0) ?hd (cs := #[.slice none 0 0, .slice none 0 0, .slice none 0 0, .slice none 0 0, .slice none 0 0]) (t := 27) ?hr ?_; (case hd => rfl); (case hg => rfl); (case hr => first | (go_simp; done) | (go_simp; rfl)); intro gb155 hg w1 hbox hb; have n0_ := Za.mk (Zh HB.out hb); have n1_ := Za.mk (hbox); have n2_ := Za.mk ((by rw [hg]; exact (Zg HB.out) : w.heap.size ≤ gb155)); have n3_ := n2_; clear HB; have HB := n0_; have BK155 := n1_; have GW155 := n2_; have GE155 := n3_; clear n0_ n1_ n2_ n3_; clear hb hbox hg) | ((with_reducible refine Xg (N := 1) rfl ?_); refine Kd.R_lit Kd.string _ 9 ?hg (N := 1) ?hd (xs := ([(⟨#[97]⟩ : ByteArray)] : List ByteArray)) (inner := [.string (⟨#[97]⟩ : ByteArray)]) (ok := fun _ => True) (okp := fun _ => True) ?hr ?hp (fun _ hk => hk) trivial (Below.refl _ _) (Nat.le_refl _) (by simp) ?_; (case hd => rfl); (case hg => rfl); (case hr => first | (go_simp; done) | (go_simp; rfl)); (case hp => exact (Reps.one (show Kd.M Kd.string _ _ _ (⟨#[97]⟩ : ByteArray) [.string (⟨#[97]⟩ : ByteArray)] from rfl) (Reps.none _ _))); intro v157 w2 ho3 hb hg_ hnew_; clear hg_ hnew_; (first | rw [← Ny156.out] at ho3 | (simp only [Int.reduceToNat] at ho3; rw [← Ny156.out] at ho3)); have n0_ := Za.mk (Kd.Xn (Kd.R_newM (M := fun k_ => (w.heap.size ≤ k_)) ho3 (Zg HB.out) (fun k_ h_ => h_)) (Zg HB.out)); have n1_ := Za.mk (Zo BK155.out hb); have n2_ := Za.mk (Zh HB.out hb); clear BK155; clear HB; have HO158 := n0_; have BK155 := n1_; have HB := n2_; clear n0_ n1_ n2_; clear hb ho3) | ((with_reducible refine Xg (N := 2) rfl ?_); refine Kd.R_lit Kd.string _ 9 ?hg (N := 2) ?hd (xs := ([(⟨#[113]⟩ : ByteArray)] : List ByteArray)) (inner := [.string (⟨#[113]⟩ : ByteArray)]) (ok := fun _ => True) (okp := fun _ => True) ?hr ?hp (fun _ hk => hk) trivial (Below.refl _ _) (Nat.le_refl _) (by simp) ?_; (case hd => rfl); (case hg => rfl); (case hr => first | (go_simp; done) | (go_simp; rfl)); (case hp => exact (Reps.one (show Kd.M Kd.string _ _ _ (⟨#[113]⟩ : ByteArray) [.string (⟨#[113]⟩ : ByteArray)] from rfl) (Reps.none _ _))); intro v160 w4 ho5 hb hg_ hnew_; clear hg_ hnew_; (first | rw [← Ny159.out] at ho5 | (simp only [Int.reduceToNat] at ho5; rw [← Ny159.out] at ho5)); have n0_ := Za.mk (Kd.R_elder' HO158.out (Kd.Xu ho5) hb); have n1_ := Za.mk (Kd.Xn (Kd.R_new' (Kd.R_newM (M := fun k_ => (w.heap.size ≤ k_)) ho5 (Zg HB.out) (fun k_ h_ => h_)) (Kd.R_lt HO158.out)) (Zg HB.out)); have n2_ := Za.mk (Zo BK155.out hb); have n3_ := Za.mk (Zh HB.out hb); clear HO158; clear BK155; clear HB; have HO158 := n0_; have HO161 := n1_; have BK155 := n2_; have HB := n3_; clear n0_ n1_ n2_ n3_; clear hb ho5) | ((with_reducible refine Xg (N := 4) rfl ?_); refine Kd.R_lit k82 _ 82 ?hg (N := 4) ?hd (xs := ([(⟨(⟨#[114]⟩ : ByteArray), (-1), 4, 1, false⟩ : S82)] : List (S82))) (inner := [.string (⟨#[114]⟩ : ByteArray), .int .i64 (-1), .int .i64 4, .int .i64 1, .bool false]) (ok := fun _ => True) (okp := fun _ => True) ?hr ?hp (fun _ hk => hk) trivial (Below.refl _ _) (Nat.le_refl _) (by simp) ?_; (case hd => rfl); (case hg => rfl); (case hr => first | (go_simp; done) | (go_simp; rfl)); (case hp => exact (Reps.c5 (show Kd.M k82 _ _ _ (⟨(⟨#[114]⟩ : ByteArray), (-1), 4, 1, false⟩ : S82) [.string (⟨#[114]⟩ : ByteArray), .int .i64 (-1), .int .i64 4, .int .i64 1, .bool false] from (k82_mkM _ _ _ (⟨(⟨#[114]⟩ : ByteArray), (-1), 4, 1, false⟩ : S82) )) (Reps.none _ _))); intro v163 w6 ho7 hb hg_ hnew_; clear hg_ hnew_; (first | rw [← Ny162.out] at ho7 | (simp only [Int.reduceToNat] at ho7; rw [← Ny162.out] at ho7)); have n0_ := Za.mk (Kd.Zr HO158.out hb); have n1_ := Za.mk (Kd.Zr HO161.out hb); have n2_ := Za.mk (Kd.Xn (Kd.R_newM (M := fun k_ => (w.heap.size ≤ k_)) ho7 (Zg HB.out) (fun k_ h_ => h_)) (Zg HB.out)); have n3_ := Za.mk (Zo BK155.out hb); have n4_ := Za.mk (Zh HB.out hb); clear HO158; clear HO161; clear BK155; clear HB; have HO158 := n0_; have HO161 := n1_; have HO164 := n2_; have BK155 := n3_; have HB := n4_; clear n0_ n1_ n2_ n3_ n4_; clear hb ho7) | ((with_reducible refine Xg (N := 5) rfl ?_); refine Kd.R_lit (Kd.int .i64) _ 3 ?hg (N := 5) ?hd (xs := ([2] : List Int)) (inner := [.int .i64 2]) (ok := fun _ => True) (okp := fun _ => True) ?hr ?hp (fun _ hk => hk) trivial (Below.refl _ _) (Nat.le_refl _) (by simp) ?_; (case hd => rfl); (case hg => rfl); (case hr => first | (go_simp; done) | (go_simp; rfl)); (case hp => exact (Reps.one (show Kd.M (Kd.int .i64) _ _ _ 2 [.int .i64 2] from rfl) (Reps.none _ _))); intro v166 w8 ho9 hb hg_ hnew_; clear hg_ hnew_; (first | rw [← Ny165.out] at ho9 | (simp only [Int.reduceToNat] at ho9; rw [← Ny165.out] at ho9)); have n0_ := Za.mk (Kd.Zr HO158.out hb); have n1_ := Za.mk (Kd.Zr HO161.out hb); have n2_ := Za.mk (Kd.Zr HO164.out hb); have n3_ := Za.mk (Kd.Xn (Kd.R_newM (M := fun k_ => (w.heap.size ≤ k_)) ho9 (Zg HB.out) (fun k_ h_ => h_)) (Zg HB.out)); have n4_ := Za.mk (Zo BK155.out hb); have n5_ := Za.mk (Zh HB.out hb); clear HO158; clear HO161; clear HO164; clear BK155; clear HB; have HO158 := n0_; have HO161 := n1_; have HO164 := n2_; have HO167 := n3_; have BK155 := n4_; have HB := n5_; clear n0_ n1_ n2_ n3_ n4_ n5_; clear hb ho9; obtain ⟨Ao10, co10, eo10⟩ := Kd.Xd HO167.out; subst eo10) | ((with_reducible refine Xg (N := 7) rfl ?_); refine Kd.N_lit k80 _ 80 ?hg (N' := 7) ?hd (xs := ([(⟨(-1), 1, y165⟩ : Kr)] : List (Kr))) (inner := [.int .i64 (-1), .int .u64 1, .slice Ao10 y165.length co10]) (ok := (fun k_ => (w.heap.size ≤ k_) ∧ some k_ ≠ (v157 : Value).ownBlock ∧ some k_ ≠ (v160 : Value).ownBlock ∧ some k_ ≠ (v163 : Value).ownBlock ∧ k_ ≠ gb155)) (okp := (fun k_ => (w.heap.size ≤ k_) ∧ some k_ ≠ (v157 : Value).ownBlock ∧ some k_ ≠ (v160 : Value).ownBlock ∧ some k_ ≠ (v163 : Value).ownBlock ∧ k_ ≠ gb155)) ?hr ?hp (fun _ hk => hk) ((show ∀ k_, w8.heap.size ≤ k_ → (fun k_ => (w.heap.size ≤ k_) ∧ some k_ ≠ (v157 : Value).ownBlock ∧ some k_ ≠ (v160 : Value).ownBlock ∧ some k_ ≠ (v163 : Value).ownBlock ∧ k_ ≠ gb155) k_ from fun k_ hk => ⟨(Nat.le_trans (Zg HB.out) hk), Kd.fresh' (Kd.R_lt HO158.out) k_ hk, Kd.fresh' (Kd.R_lt HO161.out) k_ hk, Kd.fresh' (Kd.R_lt HO164.out) k_ hk, Kd.freshB BK155.out k_ hk⟩) _ (Nat.le_refl _)) (Below.refl _ _) (Nat.le_refl _) (by simp) ?_; (case hd => rfl); (case hg => rfl); (case hr => first | (go_simp; done) | (go_simp; rfl)); (case hp => exact (Reps.c3 (show Kd.FK k80 _ _ (⟨(-1), 1, y165⟩ : Kr) [.int .i64 (-1), .int .u64 1, .slice Ao10 y165.length co10] from (k80_mkF _ _ (⟨(-1), 1, y165⟩ : Kr) (Kd.Xl (Kd.Xj (ok' := (fun k_ => (w.heap.size ≤ k_) ∧ some k_ ≠ (v157 : Value).ownBlock ∧ some k_ ≠ (v160 : Value).ownBlock ∧ some k_ ≠ (v163 : Value).ownBlock ∧ k_ ≠ gb155)) (Kd.Qz (Kd.R_apart' (Kd.R_apart' (Kd.R_apart' HO167.out (Kd.R_typed HO158.out) (by decide)) (Kd.R_typed HO161.out) (by decide)) (Kd.R_typed HO164.out) (by decide)) BK155.out (by decide)) (fun k_ hk => ⟨hk.1.1.1.1.1, ⟨hk.1.1.1.2, ⟨hk.1.1.2, ⟨hk.1.2, hk.2⟩⟩⟩⟩))).2.1 (Kd.R_F (Kd.Xj (ok' := (fun k_ => (w.heap.size ≤ k_) ∧ some k_ ≠ (v157 : Value).ownBlock ∧ some k_ ≠ (v160 : Value).ownBlock ∧ some k_ ≠ (v163 : Value).ownBlock ∧ k_ ≠ gb155)) (Kd.Qz (Kd.R_apart' (Kd.R_apart' (Kd.R_apart' HO167.out (Kd.R_typed HO158.out) (by decide)) (Kd.R_typed HO161.out) (by decide)) (Kd.R_typed HO164.out) (by decide)) BK155.out (by decide)) (fun k_ hk => ⟨hk.1.1.1.1.1, ⟨hk.1.1.1.2, ⟨hk.1.1.2, ⟨hk.1.2, hk.2⟩⟩⟩⟩))))) (Reps.none _ _))); intro v169 w11 ho12 hb hg_ hnew_; clear hg_ hnew_; (first | rw [← Ny168.out] at ho12 | (simp only [Int.reduceToNat] at ho12; rw [← Ny168.out] at ho12)); have n0_ := Za.mk (Kd.Zr HO158.out hb); have n1_ := Za.mk (Kd.Zr HO161.out hb); have n2_ := Za.mk (Kd.Zr HO164.out hb); have n3_ := Za.mk (Kd.N_lower ho12 (Zg HB.out)); have n4_ := Za.mk (Zo BK155.out hb); have n5_ := Za.mk (Zh HB.out hb); clear HO158; clear HO161; clear HO164; clear BK155; clear HB; clear HO167; have HO158 := n0_; have HO161 := n1_; have HO164 := n2_; have HO170 := n3_; have BK155 := n4_; have HB := n5_; clear n0_ n1_ n2_ n3_ n4_ n5_; clear hb ho12) | ((with_reducible refine Xg (N := 8) rfl ?_); refine Kd.R_lit (Kd.int .i64) _ 3 ?hg (N := 8) ?hd (xs := ([3] : List Int)) (inner := [.int .i64 3]) (ok := fun _ => True) (okp := fun _ => True) ?hr ?hp (fun _ hk => hk) trivial (Below.refl _ _) (Nat.le_refl _) (by simp) ?_; (case hd => rfl); (case hg => rfl); (case hr => first | (go_simp; done) | (go_simp; rfl)); (case hp => exact (Reps.one (show Kd.M (Kd.int .i64) _ _ _ 3 [.int .i64 3] from rfl) (Reps.none _ _))); intro v172 w13 ho14 hb hg_ hnew_; clear hg_ hnew_; (first | rw [← Ny171.out] at ho14 | (simp only [Int.reduceToNat] at ho14; rw [← Ny171.out] at ho14)); have n0_ := Za.mk (Kd.Zr HO158.out hb); have n1_ := Za.mk (Kd.Zr HO161.out hb); have n2_ := Za.mk (Kd.Zr HO164.out hb); have n3_ := Za.mk (Kd.N_elder' HO170.out (Kd.Xu ho14) hb); have n4_ := Za.mk (Kd.Xn (Kd.R_newM (M := fun k_ => (w.heap.size ≤ k_)) ho14 (Zg HB.out) (fun k_ h_ => h_)) (Zg HB.out)); have n5_ := Za.mk (Zo BK155.out hb); have n6_ := Za.mk (Zh HB.out hb); clear HO158; clear HO161; clear HO164; clear HO170; clear BK155; clear HB; have HO158 := n0_; have HO161 := n1_; have HO164 := n2_; have HO170 := n3_; have HO173 := n4_; have BK155 := n5_; have HB := n6_; clear n0_ n1_ n2_ n3_ n4_ n5_ n6_; clear hb ho14; obtain ⟨Ao15, co15, eo15⟩ := Kd.Xd HO173.out; subst eo15; obtain ⟨Ao16, co16, eo16⟩ := Kd.N_slice HO170.out; subst eo16; obtain ⟨Ao17, co17, eo17⟩ := Kd.Xd HO164.out; subst eo17; obtain ⟨Ao18, co18, eo18⟩ := Kd.Xd HO161.out; subst eo18; obtain ⟨Ao19, co19, eo19⟩ := Kd.Xd HO158.out; subst eo19; have hcz20_0 : w13.cell? ⟨gb155, 0, none⟩ = some (.slice none 0 0) := (Zc BK155.out 0).trans rfl; have hcz20_1 : w13.cell? ⟨gb155, 1, none⟩ = some (.slice none 0 0) := (Zc BK155.out 1).trans rfl; have hcz20_2 : w13.cell? ⟨gb155, 2, none⟩ = some (.slice none 0 0) := (Zc BK155.out 2).trans rfl; have hcz20_3 : w13.cell? ⟨gb155, 3, none⟩ = some (.slice none 0 0) := (Zc BK155.out 3).trans rfl; have hcz20_4 : w13.cell? ⟨gb155, 4, none⟩ = some (.slice none 0 0) := (Zc BK155.out 4).trans rfl; have hfz20_0 := Zb BK155.out 0; have hfz20_1 := Zb BK155.out 1; have hfz20_2 := Zb BK155.out 2; have hfz20_3 := Zb BK155.out 3; have hfz20_4 := Zb BK155.out 4))
 refine bodyPost_ret (results_cell_row rfl _ _ gb155 27 #[.slice Ao19 y156.length co19, .slice Ao18 y159.length co18, .slice Ao17 y162.length co17, .slice Ao16 y168.length co16, .slice Ao15 y171.length co15] (0, 0) _ rfl (by (with_reducible repeat (first | refine Zk ?_ _ | refine Zm ?_ | refine Zj ?_ _)); refine Ql (cs := #[.slice Ao19 y156.length co19, .slice Ao18 y159.length co18, .slice Ao17 y162.length co17, .slice Ao16 y168.length co16, .slice none 0 0]) ?_ 4 _ rfl; (with_reducible repeat (first | refine Zk ?_ _ | refine Zm ?_ | refine Zj ?_ _)); refine Ql (cs := #[.slice Ao19 y156.length co19, .slice Ao18 y159.length co18, .slice Ao17 y162.length co17, .slice none 0 0, .slice none 0 0]) ?_ 3 _ rfl; (with_reducible repeat (first | refine Zk ?_ _ | refine Zm ?_ | refine Zj ?_ _)); refine Ql (cs := #[.slice Ao19 y156.length co19, .slice Ao18 y159.length co18, .slice none 0 0, .slice none 0 0, .slice none 0 0]) ?_ 2 _ rfl; (with_reducible repeat (first | refine Zk ?_ _ | refine Zm ?_ | refine Zj ?_ _)); refine Ql (cs := #[.slice Ao19 y156.length co19, .slice none 0 0, .slice none 0 0, .slice none 0 0, .slice none 0 0]) ?_ 1 _ rfl; (with_reducible repeat (first | refine Zk ?_ _ | refine Zm ?_ | refine Zj ?_ _)); refine Ql (cs := #[.slice none 0 0, .slice none 0 0, .slice none 0 0, .slice none 0 0, .slice none 0 0]) ?_ 0 _ rfl; (with_reducible repeat (first | refine Zk ?_ _ | refine Zm ?_ | refine Zj ?_ _)); exact BK155.out) Try.underlying27 rfl (by kernel_rfl)) rfl ?_
 exact ⟨_, _, _, _, _, by first | rfl | (simp [errW_none, errW_some] <;> rfl) | (simp [*, errW_none, errW_some] <;> rfl), by (with_reducible repeat (first | apply Kd.R_alloc | apply Kd.Xx | apply Kd.Qa)); exact Kd.Xj (Kd.Xt (p := ⟨gb155, 4, none⟩) (Kd.Xt (p := ⟨gb155, 3, none⟩) (Kd.Xt (p := ⟨gb155, 2, none⟩) (Kd.Xt (p := ⟨gb155, 1, none⟩) (Kd.Xt (p := ⟨gb155, 0, none⟩) (Kd.Qz HO158.out BK155.out (by decide)) (fun _ hk => hk.2) (.slice Ao19 y156.length co19)) (fun _ hk => hk.2) (.slice Ao18 y159.length co18)) (fun _ hk => hk.2) (.slice Ao17 y162.length co17)) (fun _ hk => hk.2) (.slice Ao16 y168.length co16)) (fun _ hk => hk.2) (.slice Ao15 y171.length co15)) (fun _ hk => ⟨hk.1.1.1, hk.1.2⟩), by (with_reducible repeat (first | apply Kd.R_alloc | apply Kd.Xx | apply Kd.Qa)); exact Kd.Xj (Kd.Xt (p := ⟨gb155, 4, none⟩) (Kd.Xt (p := ⟨gb155, 3, none⟩) (Kd.Xt (p := ⟨gb155, 2, none⟩) (Kd.Xt (p := ⟨gb155, 1, none⟩) (Kd.Xt (p := ⟨gb155, 0, none⟩) (Kd.Qz HO161.out BK155.out (by decide)) (fun _ hk => hk.2) (.slice Ao19 y156.length co19)) (fun _ hk => hk.2) (.slice Ao18 y159.length co18)) (fun _ hk => hk.2) (.slice Ao17 y162.length co17)) (fun _ hk => hk.2) (.slice Ao16 y168.length co16)) (fun _ hk => hk.2) (.slice Ao15 y171.length co15)) (fun _ hk => ⟨hk.1.1.1, hk.1.2⟩), by (with_reducible repeat (first | apply Kd.R_alloc | apply Kd.Xx | apply Kd.Qa)); exact Kd.Xj (Kd.Xt (p := ⟨gb155, 4, none⟩) (Kd.Xt (p := ⟨gb155, 3, none⟩) (Kd.Xt (p := ⟨gb155, 2, none⟩) (Kd.Xt (p := ⟨gb155, 1, none⟩) (Kd.Xt (p := ⟨gb155, 0, none⟩) (Kd.Qz HO164.out BK155.out (by decide)) (fun _ hk => hk.2) (.slice Ao19 y156.length co19)) (fun _ hk => hk.2) (.slice Ao18 y159.length co18)) (fun _ hk => hk.2) (.slice Ao17 y162.length co17)) (fun _ hk => hk.2) (.slice Ao16 y168.length co16)) (fun _ hk => hk.2) (.slice Ao15 y171.length co15)) (fun _ hk => hk.1.1), by (with_reducible repeat (first | apply Kd.N_alloc | apply Kd.N_drewN | apply Kd.N_drew)); exact Kd.N_mono (Kd.N_far (p := ⟨gb155, 4, none⟩) (Kd.N_far (p := ⟨gb155, 3, none⟩) (Kd.N_far (p := ⟨gb155, 2, none⟩) (Kd.N_far (p := ⟨gb155, 1, none⟩) (Kd.N_far (p := ⟨gb155, 0, none⟩) (Kd.N_mono HO170.out (fun k_ hk => (⟨hk, hk.1.2.2.2.2⟩ : _ ∧ k_ ≠ gb155))) (fun _ hk => hk.2) (.slice Ao19 y156.length co19)) (fun _ hk => hk.2) (.slice Ao18 y159.length co18)) (fun _ hk => hk.2) (.slice Ao17 y162.length co17)) (fun _ hk => hk.2) (.slice Ao16 y168.length co16)) (fun _ hk => hk.2) (.slice Ao15 y171.length co15)) (fun _ hk => ⟨hk.1.1.1, ⟨hk.1.1.2.1, ⟨hk.1.1.2.2.1, ⟨hk.1.1.2.2.2.1, hk.1.2⟩⟩⟩⟩), by (with_reducible repeat (first | apply Kd.R_alloc | apply Kd.Xx | apply Kd.Qa)); exact Kd.Xj (Kd.Xt (p := ⟨gb155, 4, none⟩) (Kd.Xt (p := ⟨gb155, 3, none⟩) (Kd.Xt (p := ⟨gb155, 2, none⟩) (Kd.Xt (p := ⟨gb155, 1, none⟩) (Kd.Xt (p := ⟨gb155, 0, none⟩) (Kd.Qz HO173.out BK155.out (by decide)) (fun _ hk => hk.2) (.slice Ao19 y156.length co19)) (fun _ hk => hk.2) (.slice Ao18 y159.length co18)) (fun _ hk => hk.2) (.slice Ao17 y162.length co17)) (fun _ hk => hk.2) (.slice Ao16 y168.length co16)) (fun _ hk => hk.2) (.slice Ao15 y171.length co15)) (fun _ hk => hk.1.1), by repeat (first | (with_reducible first | exact HB.out | apply Zn | apply Zq | apply Zv | refine Zl ?_ GE155.out) | exact HB.out)⟩
def Qm.f (k : Nat)  : Option (Bool) := (masklaw2_single.f).bind fun bt174 => ((Xp.f k bt174.1 bt174.2.1 bt174.2.2.1 bt174.2.2.2.1 bt174.2.2.2.2).bind fun bt189 => ((masklaw2_single.f).bind fun bt193 => ((Qb.f k bt193.1 bt193.2.1 bt193.2.2.1 bt193.2.2.2.1 bt193.2.2.2.2 2 (-1) true).bind fun bt208 => (if bt189.2 = 0 then (if bt208.2.2.2.2.2 = 0 then (if (bt189.1.length : Int) = 6 then (if (bt208.2.2.2.1.length : Int) = 1 then (if 0 < (bt208.2.2.2.1.length : Int) then ((Xb.f k ((Zy bt208.2.2.2.1 0).f2) (([1] : List Int))).bind fun t229 => (some t229)) else (none)) else (none)) else (none)) else (none)) else (none)))))
theorem Qm.mono : ∀ k, Xw (Qm.f k ) (Qm.f (k + 1) ) := by
  intro  k
  unfold Qm.f
  repeat' first
      | (with_reducible exact Qb.mono _ _ _ _ _ _ _ _ _)
      | (with_reducible exact Xp.mono _ _ _ _ _ _)
      | (with_reducible exact Xb.mono _ _ _)
      | (with_reducible exact Xw.refl _)
      | (with_reducible exact Xw.none _)
      | (with_reducible refine Xw.ite ?_ ?_)
      | (with_reducible refine Xw.bind ?_ (fun _ => ?_))
      | exact Qb.mono _ _ _ _ _ _ _ _ _
      | exact Xp.mono _ _ _ _ _ _
      | exact Xb.mono _ _ _
      | exact Xw.none _
      | refine Xw.ite ?_ ?_
      | refine Xw.bind ?_ (fun _ => ?_)
set_option maxHeartbeats 8000000 in
set_option maxRecDepth 100000 in
theorem Qm.calls (k : Nat)  (r : Bool) (w : World) (h : Qm.f k  = some r) :
 Calls Try.prog 11 #[] w fun e w' => e = .returned (.bool r) ∧ Below w.heap.size w w' := by
 have hu29 := Try.underlying29
 have hu27 := Try.underlying27
 have HB := Za.mk (Below.refl w.heap.size w)
 have H : ((masklaw2_single.f).bind fun bt174 => ((Xp.f k bt174.1 bt174.2.1 bt174.2.2.1 bt174.2.2.2.1 bt174.2.2.2.2).bind fun bt189 => ((masklaw2_single.f).bind fun bt193 => ((Qb.f k bt193.1 bt193.2.1 bt193.2.2.1 bt193.2.2.2.1 bt193.2.2.2.2 2 (-1) true).bind fun bt208 => (if bt189.2 = 0 then (if bt208.2.2.2.2.2 = 0 then (if (bt189.1.length : Int) = 6 then (if (bt208.2.2.2.1.length : Int) = 1 then (if 0 < (bt208.2.2.2.1.length : Int) then ((Xb.f k ((Zy bt208.2.2.2.1 0).f2) (([1] : List Int))).bind fun t229 => (some t229)) else (none)) else (none)) else (none)) else (none)) else (none)))))) = some r := h
 clear h
 replace H := Option.bind_eq_some_iff.mp H
 obtain ⟨⟨t174, t177, t180, t183, t186⟩, A10, H⟩ := H
 replace H : ((Xp.f k t174 t177 t180 t183 t186).bind fun bt189 => ((masklaw2_single.f).bind fun bt193 => ((Qb.f k bt193.1 bt193.2.1 bt193.2.2.1 bt193.2.2.2.1 bt193.2.2.2.2 2 (-1) true).bind fun bt208 => (if bt189.2 = 0 then (if bt208.2.2.2.2.2 = 0 then (if (bt189.1.length : Int) = 6 then (if (bt208.2.2.2.1.length : Int) = 1 then (if 0 < (bt208.2.2.2.1.length : Int) then ((Xb.f k ((Zy bt208.2.2.2.1 0).f2) (([1] : List Int))).bind fun t229 => (some t229)) else (none)) else (none)) else (none)) else (none)) else (none))))) = some r := H
 have A1 := Za.mk A10
 clear A10
 replace H := Option.bind_eq_some_iff.mp H
 obtain ⟨⟨t189, t192⟩, A20, H⟩ := H
 replace H : ((masklaw2_single.f).bind fun bt193 => ((Qb.f k bt193.1 bt193.2.1 bt193.2.2.1 bt193.2.2.2.1 bt193.2.2.2.2 2 (-1) true).bind fun bt208 => (if t192 = 0 then (if bt208.2.2.2.2.2 = 0 then (if (t189.length : Int) = 6 then (if (bt208.2.2.2.1.length : Int) = 1 then (if 0 < (bt208.2.2.2.1.length : Int) then ((Xb.f k ((Zy bt208.2.2.2.1 0).f2) (([1] : List Int))).bind fun t229 => (some t229)) else (none)) else (none)) else (none)) else (none)) else (none)))) = some r := H
 have A2 := Za.mk A20
 clear A20
 replace H := Option.bind_eq_some_iff.mp H
 obtain ⟨⟨t193, t196, t199, t202, t205⟩, A30, H⟩ := H
 replace H : ((Qb.f k t193 t196 t199 t202 t205 2 (-1) true).bind fun bt208 => (if t192 = 0 then (if bt208.2.2.2.2.2 = 0 then (if (t189.length : Int) = 6 then (if (bt208.2.2.2.1.length : Int) = 1 then (if 0 < (bt208.2.2.2.1.length : Int) then ((Xb.f k ((Zy bt208.2.2.2.1 0).f2) (([1] : List Int))).bind fun t229 => (some t229)) else (none)) else (none)) else (none)) else (none)) else (none))) = some r := H
 have A3 := Za.mk A30
 clear A30
 replace H := Option.bind_eq_some_iff.mp H
 obtain ⟨⟨t208, t211, t214, t217, t220, t223⟩, A40, H⟩ := H
 replace H : (if t192 = 0 then (if t223 = 0 then (if (t189.length : Int) = 6 then (if (t217.length : Int) = 1 then (if 0 < (t217.length : Int) then ((Xb.f k ((Zy t217 0).f2) (([1] : List Int))).bind fun t229 => (some t229)) else (none)) else (none)) else (none)) else (none)) else (none)) = some r := H
 have A4 := Za.mk A40
 clear A40
 by_cases c5 : t192 = 0
 ·rw [if_pos c5] at H
  have c5b0 : (t192 == 0) = true := beq_iff_eq.mpr c5
  have c5b1 : (t192 != 0) = false := bne_eq_false_iff_eq.mpr c5
  clear c5
  by_cases c6 : t223 = 0
  ·rw [if_pos c6] at H
   have c6b0 : (t223 == 0) = true := beq_iff_eq.mpr c6
   have c6b1 : (t223 != 0) = false := bne_eq_false_iff_eq.mpr c6
   clear c6
   by_cases c7 : (t189.length : Int) = 6
   ·rw [if_pos c7] at H
    have c7b0 : ((t189.length : Int) == 6) = true := beq_iff_eq.mpr c7
    have c7b1 : ((t189.length : Int) != 6) = false := bne_eq_false_iff_eq.mpr c7
    clear c7
    by_cases c8 : (t217.length : Int) = 1
    ·rw [if_pos c8] at H
     have c8b0 : ((t217.length : Int) == 1) = true := beq_iff_eq.mpr c8
     have c8b1 : ((t217.length : Int) != 1) = false := bne_eq_false_iff_eq.mpr c8
     clear c8
     by_cases c9 : 0 < (t217.length : Int)
     ·rw [if_pos c9] at H
      have c9b0 : decide (0 < (t217.length : Int)) = true := decide_eq_true c9
      have c9b1 : decide (0 < t217.length) = true := decide_eq_true (by omega)
      clear c9
      obtain ⟨y226, hy226⟩ : ∃ y_ : List Int, y_ = (([1] : List Int)) := ⟨_, rfl⟩
      replace H : ((Xb.f k ((Zy t217 0).f2) y226).bind fun t229 => (some t229)) = some r := by first | (rw [hy226]; with_reducible exact H) | (have H2_ := (Option.bind_some _ _).symm.trans H; rw [hy226]; with_reducible exact H2_) | (have H2_ := (Option.bind_some _ _).symm.trans H; with_reducible exact H2_) | with_reducible exact H | (rw [hy226]; exact H) | exact H
      have Ny226 := Za.mk hy226
      clear hy226
      replace H := Option.bind_eq_some_iff.mp H
      obtain ⟨t229, A100, H⟩ := H
      replace H : (some t229) = some r := H
      have A10 := Za.mk A100
      clear A100
      obtain rfl := Option.some.inj H
      go_enter Try.func11, Try.ntmps11
      go_wp2_with (first | ((with_reducible refine Xi (f := 35) rfl ?_); refine Qo (some 6) rfl rfl Try.func35 (by kernel_rfl) rfl #[] rfl (by (try simp only [List.map_toArray, List.map_cons, List.map_nil]); first | done | rfl | (simp only [List.length_drop, List.length_take]; rfl)) ?_; (with_reducible refine (masklaw2_single.calls  t174 t177 t180 t183 t186 _ A1.out).mono ?_); rintro e w11 ⟨v175, v178, v181, v184, v187, rfl, ho0, ho1, ho2, ho3, ho4, hb⟩; refine ⟨_, rfl, ?_⟩; have n0_ := Za.mk (Kd.Xn (Kd.Xj (ok' := fun k_ => some k_ ≠ (v178 : Value).ownBlock) ho0 (fun _ hk_ => hk_.2)) (Zg HB.out)); have n1_ := Za.mk (Kd.Xn (Kd.Xj (ok' := fun k_ => some k_ ≠ (v175 : Value).ownBlock) ho1 (fun _ hk_ => hk_.2)) (Zg HB.out)); have n2_ := Za.mk (Kd.Xn (Kd.Xj (ok' := fun k_ => True) ho2 (fun _ hk_ => trivial)) (Zg HB.out)); have n3_ := Za.mk (Kd.N_lower (Kd.N_mono (ok' := fun k_ => some k_ ≠ (v175 : Value).ownBlock ∧ some k_ ≠ (v178 : Value).ownBlock ∧ some k_ ≠ (v181 : Value).ownBlock ∧ some k_ ≠ (v187 : Value).ownBlock) ho3 (fun k_ hk_ => ⟨hk_.2.1, hk_.2.2.1, hk_.2.2.2.1, hk_.2.2.2.2⟩)) (Zg HB.out)); have n4_ := Za.mk (Kd.Xn (Kd.Xj (ok' := fun k_ => True) ho4 (fun _ hk_ => trivial)) (Zg HB.out)); have n5_ := Za.mk (Zh HB.out hb); clear HB; have HO176 := n0_; have HO179 := n1_; have HO182 := n2_; have HO185 := n3_; have HO188 := n4_; have HB := n5_; clear n0_ n1_ n2_ n3_ n4_ n5_; (try clear hb); (try clear hb2); (try clear hk); (try clear hi); (try clear ho0); (try clear ho1); (try clear ho2); (try clear ho3); (try clear ho4); obtain ⟨Ao12, co12, eo12⟩ := Kd.Xd HO176.out; subst eo12; obtain ⟨Ao13, co13, eo13⟩ := Kd.Xd HO179.out; subst eo13; obtain ⟨Ao14, co14, eo14⟩ := Kd.Xd HO182.out; subst eo14; obtain ⟨Ao15, co15, eo15⟩ := Kd.N_slice HO185.out; subst eo15; obtain ⟨Ao16, co16, eo16⟩ := Kd.Xd HO188.out; subst eo16) | ((with_reducible refine Xi (f := 14) rfl ?_); refine Qo (some 7) rfl rfl Try.func14 (by kernel_rfl) rfl #[.agg #[.slice Ao12 t174.length co12, .slice Ao13 t177.length co13, .slice Ao14 t180.length co14, .slice Ao15 t183.length co15, .slice Ao16 t186.length co16]] rfl (by (try simp only [List.map_toArray, List.map_cons, List.map_nil]); first | done | rfl | (simp only [List.length_drop, List.length_take]; rfl)) ?_; (with_reducible refine (Xp.calls k _ _ t174 _ _ t177 _ _ t180 _ _ t183 _ _ t186 t189 t192 _ ?side1 ?side2 ?side3 ?side4 ?side5 ?side6 ?side7 ?side8 ?side9 ?side10 A2.out).mono ?_); (case side1 => repeat (first | exact (Kd.Xl HO176.out).2.2 | (with_reducible refine Kd.C_alloc ?_ _) | (with_reducible refine Kd.C_drewN ?_ _) | (with_reducible refine Kd.C_drew ?_))); (case side2 => exact (Kd.Xl HO176.out).2.1); (case side3 => repeat (first | exact (Kd.Xl HO179.out).2.2 | (with_reducible refine Kd.C_alloc ?_ _) | (with_reducible refine Kd.C_drewN ?_ _) | (with_reducible refine Kd.C_drew ?_))); (case side4 => exact (Kd.Xl HO179.out).2.1); (case side5 => repeat (first | exact (Kd.Xl HO182.out).2.2 | (with_reducible refine Kd.C_alloc ?_ _) | (with_reducible refine Kd.C_drewN ?_ _) | (with_reducible refine Kd.C_drew ?_))); (case side6 => exact (Kd.Xl HO182.out).2.1); (case side7 => repeat (first | exact (Kd.N_reads' HO185.out).2.2 | (with_reducible refine Kd.C_alloc ?_ _) | (with_reducible refine Kd.C_drewN ?_ _) | (with_reducible refine Kd.C_drew ?_))); (case side8 => exact (Kd.N_reads' HO185.out).2.1); (case side9 => repeat (first | exact (Kd.Xl HO188.out).2.2 | (with_reducible refine Kd.C_alloc ?_ _) | (with_reducible refine Kd.C_drewN ?_ _) | (with_reducible refine Kd.C_drew ?_))); (case side10 => exact (Kd.Xl HO188.out).2.1); rintro e w17 ⟨v190, rfl, ho0, hb⟩; refine ⟨_, rfl, ?_⟩; have n0_ := Za.mk (Kd.Zr HO176.out hb); have n1_ := Za.mk (Kd.Zr HO179.out hb); have n2_ := Za.mk (Kd.Zr HO182.out hb); have n3_ := Za.mk (Kd.N_elder' HO185.out (Kd.Xu ho0) hb); have n4_ := Za.mk (Kd.Zr HO188.out hb); have n5_ := Za.mk (Kd.Xn ho0 (Zg HB.out)); have n6_ := Za.mk (Zh HB.out hb); clear HO176; clear HO179; clear HO182; clear HO185; clear HO188; clear HB; have HO176 := n0_; have HO179 := n1_; have HO182 := n2_; have HO185 := n3_; have HO188 := n4_; have HO191 := n5_; have HB := n6_; clear n0_ n1_ n2_ n3_ n4_ n5_ n6_; (try clear hb); (try clear hb2); (try clear hk); (try clear hi); (try clear ho0)) | ((with_reducible refine Xi (f := 35) rfl ?_); refine Qo (some 11) rfl rfl Try.func35 (by kernel_rfl) rfl #[] rfl (by (try simp only [List.map_toArray, List.map_cons, List.map_nil]); first | done | rfl | (simp only [List.length_drop, List.length_take]; rfl)) ?_; (with_reducible refine (masklaw2_single.calls  t193 t196 t199 t202 t205 _ A3.out).mono ?_); rintro e w18 ⟨v194, v197, v200, v203, v206, rfl, ho0, ho1, ho2, ho3, ho4, hb⟩; refine ⟨_, rfl, ?_⟩; have n0_ := Za.mk (Kd.Xj (Kd.R_told (Kd.R_told (Kd.R_old HO176.out hb) (Kd.Xu ho0)) (Kd.Xu ho1)) (fun _ h_ => h_.1)); have n1_ := Za.mk (Kd.Xj (Kd.R_told (Kd.R_told (Kd.R_old HO179.out hb) (Kd.Xu ho0)) (Kd.Xu ho1)) (fun _ h_ => h_.1)); have n2_ := Za.mk (Kd.R_elder' HO182.out (Kd.Xu ho2) hb); have n3_ := Za.mk (Kd.N_mono (Kd.N_told (Kd.N_told (Kd.N_told (Kd.N_told (Kd.N_told (Kd.N_old HO185.out hb) (Kd.Xu ho0)) (Kd.Xu ho1)) (Kd.Xu ho2)) (Kd.N_base ho3)) (Kd.Xu ho4)) (fun _ h_ => h_.1)); have n4_ := Za.mk (Kd.R_elder' HO188.out (Kd.Xu ho4) hb); have n5_ := Za.mk (Kd.Zr HO191.out hb); have n6_ := Za.mk (Kd.Xn (Kd.R_new' (Kd.R_new' (Kd.Xj (ok' := fun k_ => some k_ ≠ (v197 : Value).ownBlock) ho0 (fun _ hk_ => hk_.2)) (Kd.R_lt HO176.out)) (Kd.R_lt HO179.out)) (Zg HB.out)); have n7_ := Za.mk (Kd.Xn (Kd.R_new' (Kd.R_new' (Kd.Xj (ok' := fun k_ => some k_ ≠ (v194 : Value).ownBlock) ho1 (fun _ hk_ => hk_.2)) (Kd.R_lt HO176.out)) (Kd.R_lt HO179.out)) (Zg HB.out)); have n8_ := Za.mk (Kd.Xn (Kd.R_new' (Kd.Xj (ok' := fun k_ => True) ho2 (fun _ hk_ => trivial)) (Kd.R_lt HO182.out)) (Zg HB.out)); have n9_ := Za.mk (Kd.N_lower (Kd.N_mono (ok' := fun k_ => some k_ ≠ (v194 : Value).ownBlock ∧ some k_ ≠ (v197 : Value).ownBlock ∧ some k_ ≠ (v200 : Value).ownBlock ∧ some k_ ≠ (v206 : Value).ownBlock ∧ some k_ ≠ (.slice Ao12 t174.length co12 : Value).ownBlock ∧ some k_ ≠ (.slice Ao13 t177.length co13 : Value).ownBlock ∧ some k_ ≠ (.slice Ao14 t180.length co14 : Value).ownBlock ∧ some k_ ≠ (.slice Ao15 t183.length co15 : Value).ownBlock ∧ some k_ ≠ (.slice Ao16 t186.length co16 : Value).ownBlock ∧ some k_ ≠ (v190 : Value).ownBlock) ho3 (fun k_ hk_ => ⟨hk_.2.1, hk_.2.2.1, hk_.2.2.2.1, hk_.2.2.2.2, (Kd.fresh' (Kd.R_lt HO176.out) k_ hk_.1), (Kd.fresh' (Kd.R_lt HO179.out) k_ hk_.1), (Kd.fresh' (Kd.R_lt HO182.out) k_ hk_.1), (Kd.fresh' (Kd.N_lt HO185.out) k_ hk_.1), (Kd.fresh' (Kd.R_lt HO188.out) k_ hk_.1), (Kd.fresh' (Kd.R_lt HO191.out) k_ hk_.1)⟩)) (Zg HB.out)); have n10_ := Za.mk (Kd.Xn (Kd.R_new' (Kd.Xj (ok' := fun k_ => True) ho4 (fun _ hk_ => trivial)) (Kd.R_lt HO188.out)) (Zg HB.out)); have n11_ := Za.mk (Zh HB.out hb); clear HO176; clear HO179; clear HO182; clear HO185; clear HO188; clear HO191; clear HB; have HO176 := n0_; have HO179 := n1_; have HO182 := n2_; have HO185 := n3_; have HO188 := n4_; have HO191 := n5_; have HO195 := n6_; have HO198 := n7_; have HO201 := n8_; have HO204 := n9_; have HO207 := n10_; have HB := n11_; clear n0_ n1_ n2_ n3_ n4_ n5_ n6_ n7_ n8_ n9_ n10_ n11_; (try clear hb); (try clear hb2); (try clear hk); (try clear hi); (try clear ho0); (try clear ho1); (try clear ho2); (try clear ho3); (try clear ho4); obtain ⟨Ao19, co19, eo19⟩ := Kd.Xd HO195.out; subst eo19; obtain ⟨Ao20, co20, eo20⟩ := Kd.Xd HO198.out; subst eo20; obtain ⟨Ao21, co21, eo21⟩ := Kd.Xd HO201.out; subst eo21; obtain ⟨Ao22, co22, eo22⟩ := Kd.N_slice HO204.out; subst eo22; obtain ⟨Ao23, co23, eo23⟩ := Kd.Xd HO207.out; subst eo23) | ((with_reducible refine Xi (f := 8) rfl ?_); refine Qo (some 13) rfl rfl Try.func8 (by kernel_rfl) rfl #[.agg #[.slice Ao19 t193.length co19, .slice Ao20 t196.length co20, .slice Ao21 t199.length co21, .slice Ao22 t202.length co22, .slice Ao23 t205.length co23], .agg #[.int .i64 2, .int .i64 (-1), .bool true]] rfl (by (try simp only [List.map_toArray, List.map_cons, List.map_nil]); first | done | rfl | (simp only [List.length_drop, List.length_take]; rfl)) ?_; (with_reducible refine (Qb.calls k _ _ t193 _ _ t196 _ _ t199 _ _ t202 _ _ t205 2 (-1) true t208 t211 t214 t217 t220 t223 _ ?side1 ?side2 ?side3 ?side4 ?side5 ?side6 ?side7 ?side8 ?side9 ?side10 A4.out).mono ?_); (case side1 => repeat (first | exact (Kd.Xl HO195.out).2.2 | (with_reducible refine Kd.C_alloc ?_ _) | (with_reducible refine Kd.C_drewN ?_ _) | (with_reducible refine Kd.C_drew ?_))); (case side2 => exact (Kd.Xl HO195.out).2.1); (case side3 => repeat (first | exact (Kd.Xl HO198.out).2.2 | (with_reducible refine Kd.C_alloc ?_ _) | (with_reducible refine Kd.C_drewN ?_ _) | (with_reducible refine Kd.C_drew ?_))); (case side4 => exact (Kd.Xl HO198.out).2.1); (case side5 => repeat (first | exact (Kd.Xl HO201.out).2.2 | (with_reducible refine Kd.C_alloc ?_ _) | (with_reducible refine Kd.C_drewN ?_ _) | (with_reducible refine Kd.C_drew ?_))); (case side6 => exact (Kd.Xl HO201.out).2.1); (case side7 => repeat (first | exact (Kd.N_reads' HO204.out).2.2 | (with_reducible refine Kd.C_alloc ?_ _) | (with_reducible refine Kd.C_drewN ?_ _) | (with_reducible refine Kd.C_drew ?_))); (case side8 => exact (Kd.N_reads' HO204.out).2.1); (case side9 => repeat (first | exact (Kd.Xl HO207.out).2.2 | (with_reducible refine Kd.C_alloc ?_ _) | (with_reducible refine Kd.C_drewN ?_ _) | (with_reducible refine Kd.C_drew ?_))); (case side10 => exact (Kd.Xl HO207.out).2.1); rintro e w24 ⟨v209, v212, v215, v218, v221, rfl, ho0, ho1, ho2, ho3, ho4, hb⟩; refine ⟨_, rfl, ?_⟩; have n0_ := Za.mk (Kd.Xj (Kd.R_told (Kd.R_told (Kd.R_old HO176.out hb) (Kd.Xu ho0)) (Kd.Xu ho1)) (fun _ h_ => h_.1)); have n1_ := Za.mk (Kd.Xj (Kd.R_told (Kd.R_told (Kd.R_old HO179.out hb) (Kd.Xu ho0)) (Kd.Xu ho1)) (fun _ h_ => h_.1)); have n2_ := Za.mk (Kd.R_elder' HO182.out (Kd.Xu ho2) hb); have n3_ := Za.mk (Kd.N_mono (Kd.N_told (Kd.N_told (Kd.N_told (Kd.N_told (Kd.N_told (Kd.N_old HO185.out hb) (Kd.Xu ho0)) (Kd.Xu ho1)) (Kd.Xu ho2)) (Kd.S_base ho3)) (Kd.Xu ho4)) (fun _ h_ => h_.1)); have n4_ := Za.mk (Kd.R_elder' HO188.out (Kd.Xu ho4) hb); have n5_ := Za.mk (Kd.Zr HO191.out hb); have n6_ := Za.mk (Kd.Xj (Kd.R_told (Kd.R_told (Kd.R_old HO195.out hb) (Kd.Xu ho0)) (Kd.Xu ho1)) (fun _ h_ => h_.1)); have n7_ := Za.mk (Kd.Xj (Kd.R_told (Kd.R_told (Kd.R_old HO198.out hb) (Kd.Xu ho0)) (Kd.Xu ho1)) (fun _ h_ => h_.1)); have n8_ := Za.mk (Kd.R_elder' HO201.out (Kd.Xu ho2) hb); have n9_ := Za.mk (Kd.N_mono (Kd.N_told (Kd.N_told (Kd.N_told (Kd.N_told (Kd.N_told (Kd.N_old HO204.out hb) (Kd.Xu ho0)) (Kd.Xu ho1)) (Kd.Xu ho2)) (Kd.S_base ho3)) (Kd.Xu ho4)) (fun _ h_ => h_.1)); have n10_ := Za.mk (Kd.R_elder' HO207.out (Kd.Xu ho4) hb); have n11_ := Za.mk (Kd.Xn (Kd.R_new' (Kd.R_new' (Kd.R_new' (Kd.R_new' ho0 (Kd.R_lt HO176.out)) (Kd.R_lt HO179.out)) (Kd.R_lt HO195.out)) (Kd.R_lt HO198.out)) (Zg HB.out)); have n12_ := Za.mk (Kd.Xn (Kd.R_new' (Kd.R_new' (Kd.R_new' (Kd.R_new' ho1 (Kd.R_lt HO176.out)) (Kd.R_lt HO179.out)) (Kd.R_lt HO195.out)) (Kd.R_lt HO198.out)) (Zg HB.out)); have n13_ := Za.mk (Kd.Xn (Kd.R_new' (Kd.R_new' ho2 (Kd.R_lt HO182.out)) (Kd.R_lt HO201.out)) (Zg HB.out)); have n14_ := Za.mk (Kd.N_lower (Kd.N_mono (ok' := fun k_ => some k_ ≠ (v209 : Value).ownBlock ∧ some k_ ≠ (v212 : Value).ownBlock ∧ some k_ ≠ (v215 : Value).ownBlock ∧ some k_ ≠ (v221 : Value).ownBlock ∧ some k_ ≠ (.slice Ao12 t174.length co12 : Value).ownBlock ∧ some k_ ≠ (.slice Ao13 t177.length co13 : Value).ownBlock ∧ some k_ ≠ (.slice Ao14 t180.length co14 : Value).ownBlock ∧ some k_ ≠ (.slice Ao15 t183.length co15 : Value).ownBlock ∧ some k_ ≠ (.slice Ao16 t186.length co16 : Value).ownBlock ∧ some k_ ≠ (v190 : Value).ownBlock ∧ some k_ ≠ (.slice Ao19 t193.length co19 : Value).ownBlock ∧ some k_ ≠ (.slice Ao20 t196.length co20 : Value).ownBlock ∧ some k_ ≠ (.slice Ao21 t199.length co21 : Value).ownBlock ∧ some k_ ≠ (.slice Ao22 t202.length co22 : Value).ownBlock ∧ some k_ ≠ (.slice Ao23 t205.length co23 : Value).ownBlock) (Kd.S_N (Kd.S_bound (Kd.S_apart' (Kd.S_apart' (Kd.S_apart' ho3 (Kd.R_typed ho0) (by decide)) (Kd.R_typed ho1) (by decide)) (Kd.R_typed ho2) (by decide)))) (fun k_ hk_ => ⟨hk_.1.1.1.2, hk_.1.1.2, hk_.1.2, hk_.1.1.1.1, (Kd.fresh' (Kd.R_lt HO176.out) k_ hk_.2.1), (Kd.fresh' (Kd.R_lt HO179.out) k_ hk_.2.1), (Kd.fresh' (Kd.R_lt HO182.out) k_ hk_.2.1), (Kd.fresh' (Kd.N_lt HO185.out) k_ hk_.2.1), (Kd.fresh' (Kd.R_lt HO188.out) k_ hk_.2.1), (Kd.fresh' (Kd.R_lt HO191.out) k_ hk_.2.1), (Kd.fresh' (Kd.R_lt HO195.out) k_ hk_.2.1), (Kd.fresh' (Kd.R_lt HO198.out) k_ hk_.2.1), (Kd.fresh' (Kd.R_lt HO201.out) k_ hk_.2.1), (Kd.fresh' (Kd.N_lt HO204.out) k_ hk_.2.1), (Kd.fresh' (Kd.R_lt HO207.out) k_ hk_.2.1)⟩)) (Zg HB.out)); have n15_ := Za.mk (Kd.Xn (Kd.R_new' (Kd.R_new' ho4 (Kd.R_lt HO188.out)) (Kd.R_lt HO207.out)) (Zg HB.out)); have n16_ := Za.mk (Zh HB.out hb); clear HO176; clear HO179; clear HO182; clear HO185; clear HO188; clear HO191; clear HO195; clear HO198; clear HO201; clear HO204; clear HO207; clear HB; have HO176 := n0_; have HO179 := n1_; have HO182 := n2_; have HO185 := n3_; have HO188 := n4_; have HO191 := n5_; have HO195 := n6_; have HO198 := n7_; have HO201 := n8_; have HO204 := n9_; have HO207 := n10_; have HO210 := n11_; have HO213 := n12_; have HO216 := n13_; have HO219 := n14_; have HO222 := n15_; have HB := n16_; clear n0_ n1_ n2_ n3_ n4_ n5_ n6_ n7_ n8_ n9_ n10_ n11_ n12_ n13_ n14_ n15_ n16_; (try clear hb); (try clear hb2); (try clear hk); (try clear hi); (try clear ho0); (try clear ho1); (try clear ho2); (try clear ho3); (try clear ho4)) | ((with_reducible refine Xg (N := 3) rfl ?_); (try (refine Qe (by rfl) ?_; dsimp only)); refine Xk ?hg (N := 3) ?hd (cs := #[.slice none 0 0, .slice none 0 0, .slice none 0 0, .slice none 0 0, .slice none 0 0]) (t := 27) ?hr ?_; (case hd => rfl); (case hg => rfl); (case hr => first | (go_simp; done) | (go_simp; rfl)); intro gb224 hg w25 hbox hb; have n0_ := Za.mk (Kd.Zr HO176.out hb); have n1_ := Za.mk (Kd.Zr HO179.out hb); have n2_ := Za.mk (Kd.Zr HO182.out hb); have n3_ := Za.mk (Kd.N_below (Kd.N_elderB HO185.out gb224 (Nat.le_of_eq hg.symm)) hb); have n4_ := Za.mk (Kd.Zr HO188.out hb); have n5_ := Za.mk (Kd.Zr HO191.out hb); have n6_ := Za.mk (Kd.Zr HO195.out hb); have n7_ := Za.mk (Kd.Zr HO198.out hb); have n8_ := Za.mk (Kd.Zr HO201.out hb); have n9_ := Za.mk (Kd.N_below (Kd.N_elderB HO204.out gb224 (Nat.le_of_eq hg.symm)) hb); have n10_ := Za.mk (Kd.Zr HO207.out hb); have n11_ := Za.mk (Kd.Zr HO210.out hb); have n12_ := Za.mk (Kd.Zr HO213.out hb); have n13_ := Za.mk (Kd.Zr HO216.out hb); have n14_ := Za.mk (Kd.N_below (Kd.N_elderB HO219.out gb224 (Nat.le_of_eq hg.symm)) hb); have n15_ := Za.mk (Kd.Zr HO222.out hb); have n16_ := Za.mk (Zh HB.out hb); have n17_ := Za.mk (hbox); have n18_ := Za.mk ((by rw [hg]; exact (Zg HB.out) : w.heap.size ≤ gb224)); have n19_ := n18_; clear HO176; clear HO179; clear HO182; clear HO185; clear HO188; clear HO191; clear HO195; clear HO198; clear HO201; clear HO204; clear HO207; clear HO210; clear HO213; clear HO216; clear HO219; clear HO222; clear HB; have HO176 := n0_; have HO179 := n1_; have HO182 := n2_; have HO185 := n3_; have HO188 := n4_; have HO191 := n5_; have HO195 := n6_; have HO198 := n7_; have HO201 := n8_; have HO204 := n9_; have HO207 := n10_; have HO210 := n11_; have HO213 := n12_; have HO216 := n13_; have HO219 := n14_; have HO222 := n15_; have HB := n16_; have BK224 := n17_; have GW224 := n18_; have GE224 := n19_; clear n0_ n1_ n2_ n3_ n4_ n5_ n6_ n7_ n8_ n9_ n10_ n11_ n12_ n13_ n14_ n15_ n16_ n17_ n18_ n19_; clear hb hbox hg; obtain ⟨Ao26, co26, eo26⟩ := Kd.Xd HO210.out; subst eo26; have hcz27_0 : w25.cell? ⟨gb224, 0, none⟩ = some (.slice none 0 0) := (Zc BK224.out 0).trans rfl; have hcz27_1 : w25.cell? ⟨gb224, 1, none⟩ = some (.slice none 0 0) := (Zc BK224.out 1).trans rfl; have hcz27_2 : w25.cell? ⟨gb224, 2, none⟩ = some (.slice none 0 0) := (Zc BK224.out 2).trans rfl; have hcz27_3 : w25.cell? ⟨gb224, 3, none⟩ = some (.slice none 0 0) := (Zc BK224.out 3).trans rfl; have hcz27_4 : w25.cell? ⟨gb224, 4, none⟩ = some (.slice none 0 0) := (Zc BK224.out 4).trans rfl; have hfz27_0 := Zb BK224.out 0; have hfz27_1 := Zb BK224.out 1; have hfz27_2 := Zb BK224.out 2; have hfz27_3 := Zb BK224.out 3; have hfz27_4 := Zb BK224.out 4; obtain ⟨Ao28, co28, eo28⟩ := Kd.Xd HO213.out; subst eo28; obtain ⟨Ao29, co29, eo29⟩ := Kd.Xd HO216.out; subst eo29; obtain ⟨Ao30, co30, eo30⟩ := Kd.N_slice HO219.out; subst eo30; obtain ⟨Ao31, co31, eo31⟩ := Kd.Xd HO222.out; subst eo31) | ((with_reducible refine gate_store (t := 27) (p := 3) rfl ?_); refine store_event (t := 27) (p := 3) (v := ?vo_w32) (w1 := (((((w25.setCell ⟨gb224, 0, none⟩ (.slice Ao26 t208.length co26)).setCell ⟨gb224, 1, none⟩ (.slice Ao28 t211.length co28)).setCell ⟨gb224, 2, none⟩ (.slice Ao29 t214.length co29)).setCell ⟨gb224, 3, none⟩ (.slice Ao30 t217.length co30)).setCell ⟨gb224, 4, none⟩ (.slice Ao31 t220.length co31))) ?hg ?ho ?hn ?hr ?_; (case ho => rfl); (case hg => rfl); (case hn => rfl); (case hr => first | (go_simp; done) | (go_simp; rfl)); intro w32 hw; have n0_ : Za (Kd.R Kd.string 9 w32 w.heap.size (fun k_ => some k_ ≠ (.slice Ao13 t177.length co13 : Value).ownBlock ∧ some k_ ≠ (.slice Ao19 t193.length co19 : Value).ownBlock ∧ some k_ ≠ (.slice Ao20 t196.length co20 : Value).ownBlock ∧ some k_ ≠ (.slice Ao26 t208.length co26 : Value).ownBlock ∧ some k_ ≠ (.slice Ao28 t211.length co28 : Value).ownBlock) (.slice Ao12 t174.length co12) t174) := ⟨(by rw [hw]; exact (by (with_reducible repeat (first | apply Kd.R_alloc | apply Kd.Xx | apply Kd.Qa)); exact Kd.Xj (Kd.Xt (p := ⟨gb224, 4, none⟩) (Kd.Xt (p := ⟨gb224, 3, none⟩) (Kd.Xt (p := ⟨gb224, 2, none⟩) (Kd.Xt (p := ⟨gb224, 1, none⟩) (Kd.Xt (p := ⟨gb224, 0, none⟩) (Kd.Qz HO176.out BK224.out (by decide)) (fun _ hk => hk.2) (.slice Ao26 t208.length co26)) (fun _ hk => hk.2) (.slice Ao28 t211.length co28)) (fun _ hk => hk.2) (.slice Ao29 t214.length co29)) (fun _ hk => hk.2) (.slice Ao30 t217.length co30)) (fun _ hk => hk.2) (.slice Ao31 t220.length co31)) (fun _ hk => ⟨hk.1.1.1.1.1, ⟨hk.1.1.1.1.2, ⟨hk.1.1.1.2, ⟨hk.1.1.2, hk.1.2⟩⟩⟩⟩)))⟩; have n1_ : Za (Kd.R Kd.string 9 w32 w.heap.size (fun k_ => some k_ ≠ (.slice Ao12 t174.length co12 : Value).ownBlock ∧ some k_ ≠ (.slice Ao19 t193.length co19 : Value).ownBlock ∧ some k_ ≠ (.slice Ao20 t196.length co20 : Value).ownBlock ∧ some k_ ≠ (.slice Ao26 t208.length co26 : Value).ownBlock ∧ some k_ ≠ (.slice Ao28 t211.length co28 : Value).ownBlock) (.slice Ao13 t177.length co13) t177) := ⟨(by rw [hw]; exact (by (with_reducible repeat (first | apply Kd.R_alloc | apply Kd.Xx | apply Kd.Qa)); exact Kd.Xj (Kd.Xt (p := ⟨gb224, 4, none⟩) (Kd.Xt (p := ⟨gb224, 3, none⟩) (Kd.Xt (p := ⟨gb224, 2, none⟩) (Kd.Xt (p := ⟨gb224, 1, none⟩) (Kd.Xt (p := ⟨gb224, 0, none⟩) (Kd.Qz HO179.out BK224.out (by decide)) (fun _ hk => hk.2) (.slice Ao26 t208.length co26)) (fun _ hk => hk.2) (.slice Ao28 t211.length co28)) (fun _ hk => hk.2) (.slice Ao29 t214.length co29)) (fun _ hk => hk.2) (.slice Ao30 t217.length co30)) (fun _ hk => hk.2) (.slice Ao31 t220.length co31)) (fun _ hk => ⟨hk.1.1.1.1.1, ⟨hk.1.1.1.1.2, ⟨hk.1.1.1.2, ⟨hk.1.1.2, hk.1.2⟩⟩⟩⟩)))⟩; have n2_ : Za (Kd.R k82 82 w32 w.heap.size (fun k_ => some k_ ≠ (.slice Ao21 t199.length co21 : Value).ownBlock ∧ some k_ ≠ (.slice Ao29 t214.length co29 : Value).ownBlock) (.slice Ao14 t180.length co14) t180) := ⟨(by rw [hw]; exact (by (with_reducible repeat (first | apply Kd.R_alloc | apply Kd.Xx | apply Kd.Qa)); exact Kd.Xj (Kd.Xt (p := ⟨gb224, 4, none⟩) (Kd.Xt (p := ⟨gb224, 3, none⟩) (Kd.Xt (p := ⟨gb224, 2, none⟩) (Kd.Xt (p := ⟨gb224, 1, none⟩) (Kd.Xt (p := ⟨gb224, 0, none⟩) (Kd.Qz HO182.out BK224.out (by decide)) (fun _ hk => hk.2) (.slice Ao26 t208.length co26)) (fun _ hk => hk.2) (.slice Ao28 t211.length co28)) (fun _ hk => hk.2) (.slice Ao29 t214.length co29)) (fun _ hk => hk.2) (.slice Ao30 t217.length co30)) (fun _ hk => hk.2) (.slice Ao31 t220.length co31)) (fun _ hk => ⟨hk.1.1.2, hk.1.2⟩)))⟩; have n3_ : Za (Kd.N k80 80 w32 w.heap.size (fun k_ => some k_ ≠ (.slice Ao12 t174.length co12 : Value).ownBlock ∧ some k_ ≠ (.slice Ao13 t177.length co13 : Value).ownBlock ∧ some k_ ≠ (.slice Ao14 t180.length co14 : Value).ownBlock ∧ some k_ ≠ (.slice Ao16 t186.length co16 : Value).ownBlock ∧ some k_ ≠ (v190 : Value).ownBlock ∧ some k_ ≠ (.slice Ao19 t193.length co19 : Value).ownBlock ∧ some k_ ≠ (.slice Ao20 t196.length co20 : Value).ownBlock ∧ some k_ ≠ (.slice Ao21 t199.length co21 : Value).ownBlock ∧ some k_ ≠ (.slice Ao22 t202.length co22 : Value).ownBlock ∧ some k_ ≠ (.slice Ao23 t205.length co23 : Value).ownBlock ∧ some k_ ≠ (.slice Ao26 t208.length co26 : Value).ownBlock ∧ some k_ ≠ (.slice Ao28 t211.length co28 : Value).ownBlock ∧ some k_ ≠ (.slice Ao29 t214.length co29 : Value).ownBlock ∧ some k_ ≠ (.slice Ao30 t217.length co30 : Value).ownBlock ∧ some k_ ≠ (.slice Ao31 t220.length co31 : Value).ownBlock ∧ k_ ≠ gb224) (.slice Ao15 t183.length co15) t183) := ⟨(by rw [hw]; exact (by (with_reducible repeat (first | apply Kd.N_alloc | apply Kd.N_drewN | apply Kd.N_drew)); exact Kd.N_mono (Kd.N_far (p := ⟨gb224, 4, none⟩) (Kd.N_far (p := ⟨gb224, 3, none⟩) (Kd.N_far (p := ⟨gb224, 2, none⟩) (Kd.N_far (p := ⟨gb224, 1, none⟩) (Kd.N_far (p := ⟨gb224, 0, none⟩) (Kd.N_mono HO185.out (fun k_ hk => (⟨hk, hk.2⟩ : _ ∧ k_ ≠ gb224))) (fun _ hk => hk.2) (.slice Ao26 t208.length co26)) (fun _ hk => hk.2) (.slice Ao28 t211.length co28)) (fun _ hk => hk.2) (.slice Ao29 t214.length co29)) (fun _ hk => hk.2) (.slice Ao30 t217.length co30)) (fun _ hk => hk.2) (.slice Ao31 t220.length co31)) (fun _ hk => ⟨hk.1.1.1.1.1.1.1.1.1.1.1.1.1.1, ⟨hk.1.1.1.1.1.1.1.1.1.1.1.1.1.2.1, ⟨hk.1.1.1.1.1.1.1.1.1.1.1.1.1.2.2.1, ⟨hk.1.1.1.1.1.1.1.1.1.1.1.1.1.2.2.2, ⟨hk.1.1.1.1.1.1.1.1.1.1.1.1.2, ⟨hk.1.1.1.1.1.1.1.1.1.1.1.2, ⟨hk.1.1.1.1.1.1.1.1.1.1.2, ⟨hk.1.1.1.1.1.1.1.1.1.2, ⟨hk.1.1.1.1.1.1.1.1.2, ⟨hk.1.1.1.1.1.1.1.2, ⟨hk.1.1.1.1.1.1.2, ⟨hk.1.1.1.1.1.2, ⟨hk.1.1.1.1.2, ⟨hk.1.1.1.2, ⟨hk.1.1.2, hk.1.2⟩⟩⟩⟩⟩⟩⟩⟩⟩⟩⟩⟩⟩⟩⟩)))⟩; have n4_ : Za (Kd.R (Kd.int .i64) 3 w32 w.heap.size (fun k_ => some k_ ≠ (.slice Ao23 t205.length co23 : Value).ownBlock ∧ some k_ ≠ (.slice Ao31 t220.length co31 : Value).ownBlock) (.slice Ao16 t186.length co16) t186) := ⟨(by rw [hw]; exact (by (with_reducible repeat (first | apply Kd.R_alloc | apply Kd.Xx | apply Kd.Qa)); exact Kd.Xj (Kd.Xt (p := ⟨gb224, 4, none⟩) (Kd.Xt (p := ⟨gb224, 3, none⟩) (Kd.Xt (p := ⟨gb224, 2, none⟩) (Kd.Xt (p := ⟨gb224, 1, none⟩) (Kd.Xt (p := ⟨gb224, 0, none⟩) (Kd.Qz HO188.out BK224.out (by decide)) (fun _ hk => hk.2) (.slice Ao26 t208.length co26)) (fun _ hk => hk.2) (.slice Ao28 t211.length co28)) (fun _ hk => hk.2) (.slice Ao29 t214.length co29)) (fun _ hk => hk.2) (.slice Ao30 t217.length co30)) (fun _ hk => hk.2) (.slice Ao31 t220.length co31)) (fun _ hk => ⟨hk.1.1.2, hk.1.2⟩)))⟩; have n5_ : Za (Kd.R k29 29 w32 w.heap.size (fun _ => True) v190 t189) := ⟨(by rw [hw]; exact (by (with_reducible repeat (first | apply Kd.R_alloc | apply Kd.Xx | apply Kd.Qa)); exact Kd.Xj (Kd.Xt (p := ⟨gb224, 4, none⟩) (Kd.Xt (p := ⟨gb224, 3, none⟩) (Kd.Xt (p := ⟨gb224, 2, none⟩) (Kd.Xt (p := ⟨gb224, 1, none⟩) (Kd.Xt (p := ⟨gb224, 0, none⟩) (Kd.Qz HO191.out BK224.out (by decide)) (fun _ hk => hk.2) (.slice Ao26 t208.length co26)) (fun _ hk => hk.2) (.slice Ao28 t211.length co28)) (fun _ hk => hk.2) (.slice Ao29 t214.length co29)) (fun _ hk => hk.2) (.slice Ao30 t217.length co30)) (fun _ hk => hk.2) (.slice Ao31 t220.length co31)) (fun _ hk => trivial)))⟩; have n6_ : Za (Kd.R Kd.string 9 w32 w.heap.size (fun k_ => some k_ ≠ (.slice Ao12 t174.length co12 : Value).ownBlock ∧ some k_ ≠ (.slice Ao13 t177.length co13 : Value).ownBlock ∧ some k_ ≠ (.slice Ao20 t196.length co20 : Value).ownBlock ∧ some k_ ≠ (.slice Ao26 t208.length co26 : Value).ownBlock ∧ some k_ ≠ (.slice Ao28 t211.length co28 : Value).ownBlock) (.slice Ao19 t193.length co19) t193) := ⟨(by rw [hw]; exact (by (with_reducible repeat (first | apply Kd.R_alloc | apply Kd.Xx | apply Kd.Qa)); exact Kd.Xj (Kd.Xt (p := ⟨gb224, 4, none⟩) (Kd.Xt (p := ⟨gb224, 3, none⟩) (Kd.Xt (p := ⟨gb224, 2, none⟩) (Kd.Xt (p := ⟨gb224, 1, none⟩) (Kd.Xt (p := ⟨gb224, 0, none⟩) (Kd.Qz HO195.out BK224.out (by decide)) (fun _ hk => hk.2) (.slice Ao26 t208.length co26)) (fun _ hk => hk.2) (.slice Ao28 t211.length co28)) (fun _ hk => hk.2) (.slice Ao29 t214.length co29)) (fun _ hk => hk.2) (.slice Ao30 t217.length co30)) (fun _ hk => hk.2) (.slice Ao31 t220.length co31)) (fun _ hk => ⟨hk.1.1.1.1.2, ⟨hk.1.1.1.2, ⟨hk.1.1.1.1.1, ⟨hk.1.1.2, hk.1.2⟩⟩⟩⟩)))⟩; have n7_ : Za (Kd.R Kd.string 9 w32 w.heap.size (fun k_ => some k_ ≠ (.slice Ao12 t174.length co12 : Value).ownBlock ∧ some k_ ≠ (.slice Ao13 t177.length co13 : Value).ownBlock ∧ some k_ ≠ (.slice Ao19 t193.length co19 : Value).ownBlock ∧ some k_ ≠ (.slice Ao26 t208.length co26 : Value).ownBlock ∧ some k_ ≠ (.slice Ao28 t211.length co28 : Value).ownBlock) (.slice Ao20 t196.length co20) t196) := ⟨(by rw [hw]; exact (by (with_reducible repeat (first | apply Kd.R_alloc | apply Kd.Xx | apply Kd.Qa)); exact Kd.Xj (Kd.Xt (p := ⟨gb224, 4, none⟩) (Kd.Xt (p := ⟨gb224, 3, none⟩) (Kd.Xt (p := ⟨gb224, 2, none⟩) (Kd.Xt (p := ⟨gb224, 1, none⟩) (Kd.Xt (p := ⟨gb224, 0, none⟩) (Kd.Qz HO198.out BK224.out (by decide)) (fun _ hk => hk.2) (.slice Ao26 t208.length co26)) (fun _ hk => hk.2) (.slice Ao28 t211.length co28)) (fun _ hk => hk.2) (.slice Ao29 t214.length co29)) (fun _ hk => hk.2) (.slice Ao30 t217.length co30)) (fun _ hk => hk.2) (.slice Ao31 t220.length co31)) (fun _ hk => ⟨hk.1.1.1.1.2, ⟨hk.1.1.1.2, ⟨hk.1.1.1.1.1, ⟨hk.1.1.2, hk.1.2⟩⟩⟩⟩)))⟩; have n8_ : Za (Kd.R k82 82 w32 w.heap.size (fun k_ => some k_ ≠ (.slice Ao14 t180.length co14 : Value).ownBlock ∧ some k_ ≠ (.slice Ao29 t214.length co29 : Value).ownBlock) (.slice Ao21 t199.length co21) t199) := ⟨(by rw [hw]; exact (by (with_reducible repeat (first | apply Kd.R_alloc | apply Kd.Xx | apply Kd.Qa)); exact Kd.Xj (Kd.Xt (p := ⟨gb224, 4, none⟩) (Kd.Xt (p := ⟨gb224, 3, none⟩) (Kd.Xt (p := ⟨gb224, 2, none⟩) (Kd.Xt (p := ⟨gb224, 1, none⟩) (Kd.Xt (p := ⟨gb224, 0, none⟩) (Kd.Qz HO201.out BK224.out (by decide)) (fun _ hk => hk.2) (.slice Ao26 t208.length co26)) (fun _ hk => hk.2) (.slice Ao28 t211.length co28)) (fun _ hk => hk.2) (.slice Ao29 t214.length co29)) (fun _ hk => hk.2) (.slice Ao30 t217.length co30)) (fun _ hk => hk.2) (.slice Ao31 t220.length co31)) (fun _ hk => ⟨hk.1.1.2, hk.1.2⟩)))⟩; have n9_ : Za (Kd.N k80 80 w32 w.heap.size (fun k_ => some k_ ≠ (.slice Ao12 t174.length co12 : Value).ownBlock ∧ some k_ ≠ (.slice Ao13 t177.length co13 : Value).ownBlock ∧ some k_ ≠ (.slice Ao14 t180.length co14 : Value).ownBlock ∧ some k_ ≠ (.slice Ao15 t183.length co15 : Value).ownBlock ∧ some k_ ≠ (.slice Ao16 t186.length co16 : Value).ownBlock ∧ some k_ ≠ (v190 : Value).ownBlock ∧ some k_ ≠ (.slice Ao19 t193.length co19 : Value).ownBlock ∧ some k_ ≠ (.slice Ao20 t196.length co20 : Value).ownBlock ∧ some k_ ≠ (.slice Ao21 t199.length co21 : Value).ownBlock ∧ some k_ ≠ (.slice Ao23 t205.length co23 : Value).ownBlock ∧ some k_ ≠ (.slice Ao26 t208.length co26 : Value).ownBlock ∧ some k_ ≠ (.slice Ao28 t211.length co28 : Value).ownBlock ∧ some k_ ≠ (.slice Ao29 t214.length co29 : Value).ownBlock ∧ some k_ ≠ (.slice Ao30 t217.length co30 : Value).ownBlock ∧ some k_ ≠ (.slice Ao31 t220.length co31 : Value).ownBlock ∧ k_ ≠ gb224) (.slice Ao22 t202.length co22) t202) := ⟨(by rw [hw]; exact (by (with_reducible repeat (first | apply Kd.N_alloc | apply Kd.N_drewN | apply Kd.N_drew)); exact Kd.N_mono (Kd.N_far (p := ⟨gb224, 4, none⟩) (Kd.N_far (p := ⟨gb224, 3, none⟩) (Kd.N_far (p := ⟨gb224, 2, none⟩) (Kd.N_far (p := ⟨gb224, 1, none⟩) (Kd.N_far (p := ⟨gb224, 0, none⟩) (Kd.N_mono HO204.out (fun k_ hk => (⟨hk, hk.2⟩ : _ ∧ k_ ≠ gb224))) (fun _ hk => hk.2) (.slice Ao26 t208.length co26)) (fun _ hk => hk.2) (.slice Ao28 t211.length co28)) (fun _ hk => hk.2) (.slice Ao29 t214.length co29)) (fun _ hk => hk.2) (.slice Ao30 t217.length co30)) (fun _ hk => hk.2) (.slice Ao31 t220.length co31)) (fun _ hk => ⟨hk.1.1.1.1.1.1.1.2.2.2.2.1, ⟨hk.1.1.1.1.1.1.1.2.2.2.2.2.1, ⟨hk.1.1.1.1.1.1.1.2.2.2.2.2.2.1, ⟨hk.1.1.1.1.1.1.1.2.2.2.2.2.2.2.1, ⟨hk.1.1.1.1.1.1.1.2.2.2.2.2.2.2.2.1, ⟨hk.1.1.1.1.1.1.1.2.2.2.2.2.2.2.2.2, ⟨hk.1.1.1.1.1.1.1.1, ⟨hk.1.1.1.1.1.1.1.2.1, ⟨hk.1.1.1.1.1.1.1.2.2.1, ⟨hk.1.1.1.1.1.1.1.2.2.2.1, ⟨hk.1.1.1.1.1.1.2, ⟨hk.1.1.1.1.1.2, ⟨hk.1.1.1.1.2, ⟨hk.1.1.1.2, ⟨hk.1.1.2, hk.1.2⟩⟩⟩⟩⟩⟩⟩⟩⟩⟩⟩⟩⟩⟩⟩)))⟩; have n10_ : Za (Kd.R (Kd.int .i64) 3 w32 w.heap.size (fun k_ => some k_ ≠ (.slice Ao16 t186.length co16 : Value).ownBlock ∧ some k_ ≠ (.slice Ao31 t220.length co31 : Value).ownBlock) (.slice Ao23 t205.length co23) t205) := ⟨(by rw [hw]; exact (by (with_reducible repeat (first | apply Kd.R_alloc | apply Kd.Xx | apply Kd.Qa)); exact Kd.Xj (Kd.Xt (p := ⟨gb224, 4, none⟩) (Kd.Xt (p := ⟨gb224, 3, none⟩) (Kd.Xt (p := ⟨gb224, 2, none⟩) (Kd.Xt (p := ⟨gb224, 1, none⟩) (Kd.Xt (p := ⟨gb224, 0, none⟩) (Kd.Qz HO207.out BK224.out (by decide)) (fun _ hk => hk.2) (.slice Ao26 t208.length co26)) (fun _ hk => hk.2) (.slice Ao28 t211.length co28)) (fun _ hk => hk.2) (.slice Ao29 t214.length co29)) (fun _ hk => hk.2) (.slice Ao30 t217.length co30)) (fun _ hk => hk.2) (.slice Ao31 t220.length co31)) (fun _ hk => ⟨hk.1.1.2, hk.1.2⟩)))⟩; have n11_ : Za (Kd.R Kd.string 9 w32 w.heap.size (fun k_ => some k_ ≠ (.slice Ao12 t174.length co12 : Value).ownBlock ∧ some k_ ≠ (.slice Ao13 t177.length co13 : Value).ownBlock ∧ some k_ ≠ (.slice Ao19 t193.length co19 : Value).ownBlock ∧ some k_ ≠ (.slice Ao20 t196.length co20 : Value).ownBlock ∧ some k_ ≠ (.slice Ao28 t211.length co28 : Value).ownBlock) (.slice Ao26 t208.length co26) t208) := ⟨(by rw [hw]; exact (by (with_reducible repeat (first | apply Kd.R_alloc | apply Kd.Xx | apply Kd.Qa)); exact Kd.Xj (Kd.Xt (p := ⟨gb224, 4, none⟩) (Kd.Xt (p := ⟨gb224, 3, none⟩) (Kd.Xt (p := ⟨gb224, 2, none⟩) (Kd.Xt (p := ⟨gb224, 1, none⟩) (Kd.Xt (p := ⟨gb224, 0, none⟩) (Kd.Qz HO210.out BK224.out (by decide)) (fun _ hk => hk.2) (.slice Ao26 t208.length co26)) (fun _ hk => hk.2) (.slice Ao28 t211.length co28)) (fun _ hk => hk.2) (.slice Ao29 t214.length co29)) (fun _ hk => hk.2) (.slice Ao30 t217.length co30)) (fun _ hk => hk.2) (.slice Ao31 t220.length co31)) (fun _ hk => ⟨hk.1.1.1.1.2, ⟨hk.1.1.1.2, ⟨hk.1.1.2, ⟨hk.1.2, hk.1.1.1.1.1⟩⟩⟩⟩)))⟩; have n12_ : Za (Kd.R Kd.string 9 w32 w.heap.size (fun k_ => some k_ ≠ (.slice Ao12 t174.length co12 : Value).ownBlock ∧ some k_ ≠ (.slice Ao13 t177.length co13 : Value).ownBlock ∧ some k_ ≠ (.slice Ao19 t193.length co19 : Value).ownBlock ∧ some k_ ≠ (.slice Ao20 t196.length co20 : Value).ownBlock ∧ some k_ ≠ (.slice Ao26 t208.length co26 : Value).ownBlock) (.slice Ao28 t211.length co28) t211) := ⟨(by rw [hw]; exact (by (with_reducible repeat (first | apply Kd.R_alloc | apply Kd.Xx | apply Kd.Qa)); exact Kd.Xj (Kd.Xt (p := ⟨gb224, 4, none⟩) (Kd.Xt (p := ⟨gb224, 3, none⟩) (Kd.Xt (p := ⟨gb224, 2, none⟩) (Kd.Xt (p := ⟨gb224, 1, none⟩) (Kd.Xt (p := ⟨gb224, 0, none⟩) (Kd.Qz HO213.out BK224.out (by decide)) (fun _ hk => hk.2) (.slice Ao26 t208.length co26)) (fun _ hk => hk.2) (.slice Ao28 t211.length co28)) (fun _ hk => hk.2) (.slice Ao29 t214.length co29)) (fun _ hk => hk.2) (.slice Ao30 t217.length co30)) (fun _ hk => hk.2) (.slice Ao31 t220.length co31)) (fun _ hk => ⟨hk.1.1.1.1.2, ⟨hk.1.1.1.2, ⟨hk.1.1.2, ⟨hk.1.2, hk.1.1.1.1.1⟩⟩⟩⟩)))⟩; have n13_ : Za (Kd.R k82 82 w32 w.heap.size (fun k_ => some k_ ≠ (.slice Ao14 t180.length co14 : Value).ownBlock ∧ some k_ ≠ (.slice Ao21 t199.length co21 : Value).ownBlock) (.slice Ao29 t214.length co29) t214) := ⟨(by rw [hw]; exact (by (with_reducible repeat (first | apply Kd.R_alloc | apply Kd.Xx | apply Kd.Qa)); exact Kd.Xj (Kd.Xt (p := ⟨gb224, 4, none⟩) (Kd.Xt (p := ⟨gb224, 3, none⟩) (Kd.Xt (p := ⟨gb224, 2, none⟩) (Kd.Xt (p := ⟨gb224, 1, none⟩) (Kd.Xt (p := ⟨gb224, 0, none⟩) (Kd.Qz HO216.out BK224.out (by decide)) (fun _ hk => hk.2) (.slice Ao26 t208.length co26)) (fun _ hk => hk.2) (.slice Ao28 t211.length co28)) (fun _ hk => hk.2) (.slice Ao29 t214.length co29)) (fun _ hk => hk.2) (.slice Ao30 t217.length co30)) (fun _ hk => hk.2) (.slice Ao31 t220.length co31)) (fun _ hk => ⟨hk.1.1.2, hk.1.2⟩)))⟩; have n14_ : Za (Kd.N k80 80 w32 w.heap.size (fun k_ => some k_ ≠ (.slice Ao12 t174.length co12 : Value).ownBlock ∧ some k_ ≠ (.slice Ao13 t177.length co13 : Value).ownBlock ∧ some k_ ≠ (.slice Ao14 t180.length co14 : Value).ownBlock ∧ some k_ ≠ (.slice Ao15 t183.length co15 : Value).ownBlock ∧ some k_ ≠ (.slice Ao16 t186.length co16 : Value).ownBlock ∧ some k_ ≠ (v190 : Value).ownBlock ∧ some k_ ≠ (.slice Ao19 t193.length co19 : Value).ownBlock ∧ some k_ ≠ (.slice Ao20 t196.length co20 : Value).ownBlock ∧ some k_ ≠ (.slice Ao21 t199.length co21 : Value).ownBlock ∧ some k_ ≠ (.slice Ao22 t202.length co22 : Value).ownBlock ∧ some k_ ≠ (.slice Ao23 t205.length co23 : Value).ownBlock ∧ some k_ ≠ (.slice Ao26 t208.length co26 : Value).ownBlock ∧ some k_ ≠ (.slice Ao28 t211.length co28 : Value).ownBlock ∧ some k_ ≠ (.slice Ao29 t214.length co29 : Value).ownBlock ∧ some k_ ≠ (.slice Ao31 t220.length co31 : Value).ownBlock ∧ k_ ≠ gb224) (.slice Ao30 t217.length co30) t217) := ⟨(by rw [hw]; exact (by (with_reducible repeat (first | apply Kd.N_alloc | apply Kd.N_drewN | apply Kd.N_drew)); exact Kd.N_mono (Kd.N_far (p := ⟨gb224, 4, none⟩) (Kd.N_far (p := ⟨gb224, 3, none⟩) (Kd.N_far (p := ⟨gb224, 2, none⟩) (Kd.N_far (p := ⟨gb224, 1, none⟩) (Kd.N_far (p := ⟨gb224, 0, none⟩) (Kd.N_mono HO219.out (fun k_ hk => (⟨hk, hk.2⟩ : _ ∧ k_ ≠ gb224))) (fun _ hk => hk.2) (.slice Ao26 t208.length co26)) (fun _ hk => hk.2) (.slice Ao28 t211.length co28)) (fun _ hk => hk.2) (.slice Ao29 t214.length co29)) (fun _ hk => hk.2) (.slice Ao30 t217.length co30)) (fun _ hk => hk.2) (.slice Ao31 t220.length co31)) (fun _ hk => ⟨hk.1.1.2.2.2.2.1, ⟨hk.1.1.2.2.2.2.2.1, ⟨hk.1.1.2.2.2.2.2.2.1, ⟨hk.1.1.2.2.2.2.2.2.2.1, ⟨hk.1.1.2.2.2.2.2.2.2.2.1, ⟨hk.1.1.2.2.2.2.2.2.2.2.2.1, ⟨hk.1.1.2.2.2.2.2.2.2.2.2.2.1, ⟨hk.1.1.2.2.2.2.2.2.2.2.2.2.2.1, ⟨hk.1.1.2.2.2.2.2.2.2.2.2.2.2.2.1, ⟨hk.1.1.2.2.2.2.2.2.2.2.2.2.2.2.2.1, ⟨hk.1.1.2.2.2.2.2.2.2.2.2.2.2.2.2.2, ⟨hk.1.1.1, ⟨hk.1.1.2.1, ⟨hk.1.1.2.2.1, ⟨hk.1.1.2.2.2.1, hk.1.2⟩⟩⟩⟩⟩⟩⟩⟩⟩⟩⟩⟩⟩⟩⟩)))⟩; have n15_ : Za (Kd.R (Kd.int .i64) 3 w32 w.heap.size (fun k_ => some k_ ≠ (.slice Ao16 t186.length co16 : Value).ownBlock ∧ some k_ ≠ (.slice Ao23 t205.length co23 : Value).ownBlock) (.slice Ao31 t220.length co31) t220) := ⟨(by rw [hw]; exact (by (with_reducible repeat (first | apply Kd.R_alloc | apply Kd.Xx | apply Kd.Qa)); exact Kd.Xj (Kd.Xt (p := ⟨gb224, 4, none⟩) (Kd.Xt (p := ⟨gb224, 3, none⟩) (Kd.Xt (p := ⟨gb224, 2, none⟩) (Kd.Xt (p := ⟨gb224, 1, none⟩) (Kd.Xt (p := ⟨gb224, 0, none⟩) (Kd.Qz HO222.out BK224.out (by decide)) (fun _ hk => hk.2) (.slice Ao26 t208.length co26)) (fun _ hk => hk.2) (.slice Ao28 t211.length co28)) (fun _ hk => hk.2) (.slice Ao29 t214.length co29)) (fun _ hk => hk.2) (.slice Ao30 t217.length co30)) (fun _ hk => hk.2) (.slice Ao31 t220.length co31)) (fun _ hk => ⟨hk.1.1.2, hk.1.2⟩)))⟩; have n16_ : Za (w32.heap[gb224]? = some (.cells #[.slice Ao26 t208.length co26, .slice Ao28 t211.length co28, .slice Ao29 t214.length co29, .slice Ao30 t217.length co30, .slice Ao31 t220.length co31] 27 (0, 0))) := ⟨(by rw [hw]; exact (by (with_reducible repeat (first | refine Zk ?_ _ | refine Zm ?_ | refine Zj ?_ _)); refine Ql (cs := #[.slice Ao26 t208.length co26, .slice Ao28 t211.length co28, .slice Ao29 t214.length co29, .slice Ao30 t217.length co30, .slice none 0 0]) ?_ 4 _ rfl; (with_reducible repeat (first | refine Zk ?_ _ | refine Zm ?_ | refine Zj ?_ _)); refine Ql (cs := #[.slice Ao26 t208.length co26, .slice Ao28 t211.length co28, .slice Ao29 t214.length co29, .slice none 0 0, .slice none 0 0]) ?_ 3 _ rfl; (with_reducible repeat (first | refine Zk ?_ _ | refine Zm ?_ | refine Zj ?_ _)); refine Ql (cs := #[.slice Ao26 t208.length co26, .slice Ao28 t211.length co28, .slice none 0 0, .slice none 0 0, .slice none 0 0]) ?_ 2 _ rfl; (with_reducible repeat (first | refine Zk ?_ _ | refine Zm ?_ | refine Zj ?_ _)); refine Ql (cs := #[.slice Ao26 t208.length co26, .slice none 0 0, .slice none 0 0, .slice none 0 0, .slice none 0 0]) ?_ 1 _ rfl; (with_reducible repeat (first | refine Zk ?_ _ | refine Zm ?_ | refine Zj ?_ _)); refine Ql (cs := #[.slice none 0 0, .slice none 0 0, .slice none 0 0, .slice none 0 0, .slice none 0 0]) ?_ 0 _ rfl; (with_reducible repeat (first | refine Zk ?_ _ | refine Zm ?_ | refine Zj ?_ _)); exact BK224.out))⟩; have n17_ : Za (Below w.heap.size w w32) := ⟨(by rw [hw]; exact (by repeat (first | (with_reducible first | exact HB.out | apply Zn | apply Zq | apply Zv | refine Zl ?_ GE224.out) | exact HB.out)))⟩; clear hw; clear HO176; clear HO179; clear HO182; clear HO185; clear HO188; clear HO191; clear HO195; clear HO198; clear HO201; clear HO204; clear HO207; clear HO210; clear HO213; clear HO216; clear HO219; clear HO222; clear BK224; clear HB; have HO176 := n0_; have HO179 := n1_; have HO182 := n2_; have HO185 := n3_; have HO188 := n4_; have HO191 := n5_; have HO195 := n6_; have HO198 := n7_; have HO201 := n8_; have HO204 := n9_; have HO207 := n10_; have HO210 := n11_; have HO213 := n12_; have HO216 := n13_; have HO219 := n14_; have HO222 := n15_; have BK224 := n16_; have HB := n17_; clear n0_ n1_ n2_ n3_ n4_ n5_ n6_ n7_ n8_ n9_ n10_ n11_ n12_ n13_ n14_ n15_ n16_ n17_; obtain ⟨Ao33, co33, eo33⟩ := Kd.Xd HO191.out; subst eo33; have hcz34_0 : w32.cell? ⟨gb224, 0, none⟩ = some (.slice Ao26 t208.length co26) := (Zc BK224.out 0).trans rfl; have hcz34_1 : w32.cell? ⟨gb224, 1, none⟩ = some (.slice Ao28 t211.length co28) := (Zc BK224.out 1).trans rfl; have hcz34_2 : w32.cell? ⟨gb224, 2, none⟩ = some (.slice Ao29 t214.length co29) := (Zc BK224.out 2).trans rfl; have hcz34_3 : w32.cell? ⟨gb224, 3, none⟩ = some (.slice Ao30 t217.length co30) := (Zc BK224.out 3).trans rfl; have hcz34_4 : w32.cell? ⟨gb224, 4, none⟩ = some (.slice Ao31 t220.length co31) := (Zc BK224.out 4).trans rfl; have hfz34_0 := Zb BK224.out 0; have hfz34_1 := Zb BK224.out 1; have hfz34_2 := Zb BK224.out 2; have hfz34_3 := Zb BK224.out 3; have hfz34_4 := Zb BK224.out 4; have p225 : 0 ≤ (0 : Int) := (by omega); have q225 : 0 < (t217.length : Int) := of_decide_eq_true (by first | (with_reducible assumption) | assumption); obtain ⟨ad225, A225_2, c225_2, e225, hx225_0, hx225_1, hx225_2, hl225_2, hi225_2⟩ := at_T80 (Kd.N_reads' HO219.out).2.2 0 p225 q225; cases e225; obtain ⟨ce225, hce225, hMe225, hcc225⟩ := Kd.N_get HO219.out z80 0 p225 (by first | exact q225 | exact of_decide_eq_true (by first | (with_reducible assumption) | assumption) | (have e_ := (Kd.N_reads' HO219.out).1; omega)); obtain ⟨ua225_2, uc225_2, rfl, ul225_2, ge225_2⟩ := k80_openF hMe225; have hv225_2 := hcc225 2 _ rfl; rw [add_field _ _ 2 (by omega)] at hv225_2; replace hv225_2 := Option.some.inj (hv225_2.symm.trans hx225_2); injection hv225_2 with hva_ hvn_ hvc_; rw [hva_] at ge225_2; rw [hvc_] at ul225_2; have HL225_2 := Za.mk (show Kd.V (Kd.int .i64) 3 _ w.heap.size _ _ ((Zy t217 0).f2) from Kd.V_mk ul225_2 ge225_2); clear hva_ hvn_ hvc_ ge225_2 ul225_2; clear hcc225 hce225; have qi225 : (0 < t217.length) = True := eq_true (by omega); (try rw [show ((0 : Int)).toNat = 0 from rfl] at hx225_0); (try rw [show 0 * 3 = 0 from rfl] at hx225_0); (try rw [Addr.add_zero'] at hx225_0); (try rw [show ((0 : Int)).toNat = 0 from rfl] at hx225_1); (try rw [show 0 * 3 = 0 from rfl] at hx225_1); (try rw [Addr.add_zero'] at hx225_1); (try rw [show ((0 : Int)).toNat = 0 from rfl] at hx225_2); (try rw [show 0 * 3 = 0 from rfl] at hx225_2); (try rw [Addr.add_zero'] at hx225_2); have HR225_2 := Za.mk hi225_2; have HC225_2 := Za.mk hl225_2; clear hi225_2 hl225_2; replace p225 := eq_true p225; replace q225 := eq_true q225) | ((with_reducible refine Xg (N := 39) rfl ?_); (try (refine Qe (by rfl) ?_; dsimp only)); refine Kd.R_lit (Kd.int .i64) _ 3 ?hg (N := 39) ?hd (xs := ([1] : List Int)) (inner := [.int .i64 1]) (ok := fun _ => True) (okp := fun _ => True) ?hr ?hp (fun _ hk => hk) trivial (Below.refl _ _) (Nat.le_refl _) (by simp) ?_; (case hd => rfl); (case hg => rfl); (case hr => first | (go_simp; done) | (go_simp; rfl)); (case hp => exact (Reps.one (show Kd.M (Kd.int .i64) _ _ _ 1 [.int .i64 1] from rfl) (Reps.none _ _))); intro v227 w35 ho36 hb hg_ hnew_; clear hg_ hnew_; (first | rw [← Ny226.out] at ho36 | (simp only [Int.reduceToNat] at ho36; rw [← Ny226.out] at ho36)); have n0_ := Za.mk (Kd.Zr HO176.out hb); have n1_ := Za.mk (Kd.Zr HO179.out hb); have n2_ := Za.mk (Kd.Zr HO182.out hb); have n3_ := Za.mk (Kd.N_elder' HO185.out (Kd.Xu ho36) hb); have n4_ := Za.mk (Kd.R_elder' HO188.out (Kd.Xu ho36) hb); have n5_ := Za.mk (Kd.Zr HO191.out hb); have n6_ := Za.mk (Kd.Zr HO195.out hb); have n7_ := Za.mk (Kd.Zr HO198.out hb); have n8_ := Za.mk (Kd.Zr HO201.out hb); have n9_ := Za.mk (Kd.N_elder' HO204.out (Kd.Xu ho36) hb); have n10_ := Za.mk (Kd.R_elder' HO207.out (Kd.Xu ho36) hb); have n11_ := Za.mk (Kd.Zr HO210.out hb); have n12_ := Za.mk (Kd.Zr HO213.out hb); have n13_ := Za.mk (Kd.Zr HO216.out hb); have n14_ := Za.mk (Kd.N_elder' HO219.out (Kd.Xu ho36) hb); have n15_ := Za.mk (Kd.R_elder' HO222.out (Kd.Xu ho36) hb); have n16_ := Za.mk (Kd.V_elder' HL225_2.out (Kd.Xu ho36) hb); have n17_ := Za.mk (Kd.Xn (Kd.R_new' (Kd.R_new' (Kd.R_new' ho36 (Kd.R_lt HO188.out)) (Kd.R_lt HO207.out)) (Kd.R_lt HO222.out)) (Zg HB.out)); have n18_ := Za.mk (Zo BK224.out hb); have n19_ := Za.mk (Kd.Zf (by repeat (first | (with_reducible exact HR225_2.out) | (with_reducible refine Kd.C_alloc ?_ _) | (with_reducible refine Kd.C_drewN ?_ _) | (with_reducible refine Kd.C_drew ?_) | exact HR225_2.out)) hb); have n20_ := Za.mk (Zh HB.out hb); clear HO176; clear HO179; clear HO182; clear HO185; clear HO188; clear HO191; clear HO195; clear HO198; clear HO201; clear HO204; clear HO207; clear HO210; clear HO213; clear HO216; clear HO219; clear HO222; clear HL225_2; clear BK224; clear HR225_2; clear HB; have HO176 := n0_; have HO179 := n1_; have HO182 := n2_; have HO185 := n3_; have HO188 := n4_; have HO191 := n5_; have HO195 := n6_; have HO198 := n7_; have HO201 := n8_; have HO204 := n9_; have HO207 := n10_; have HO210 := n11_; have HO213 := n12_; have HO216 := n13_; have HO219 := n14_; have HO222 := n15_; have HL225_2 := n16_; have HO228 := n17_; have BK224 := n18_; have HR225_2 := n19_; have HB := n20_; clear n0_ n1_ n2_ n3_ n4_ n5_ n6_ n7_ n8_ n9_ n10_ n11_ n12_ n13_ n14_ n15_ n16_ n17_ n18_ n19_ n20_; clear hb ho36; obtain ⟨Ao37, co37, eo37⟩ := Kd.Xd HO228.out; subst eo37) | (go_at_call 18; (with_reducible refine (Xb.calls k _ _ ((Zy t217 0).f2) _ _ y226 t229 _ ?side1 ?side2 ?side3 ?side4 A10.out).mono ?_); (case side1 => repeat (first | exact (by repeat (first | (with_reducible exact HR225_2.out) | (with_reducible refine Kd.C_alloc ?_ _) | (with_reducible refine Kd.C_drewN ?_ _) | (with_reducible refine Kd.C_drew ?_) | exact HR225_2.out)) | (with_reducible refine Kd.C_alloc ?_ _) | (with_reducible refine Kd.C_drewN ?_ _) | (with_reducible refine Kd.C_drew ?_))); (case side2 => exact HC225_2.out); (case side3 => repeat (first | exact (Kd.Xl HO228.out).2.2 | (with_reducible refine Kd.C_alloc ?_ _) | (with_reducible refine Kd.C_drewN ?_ _) | (with_reducible refine Kd.C_drew ?_))); (case side4 => exact (Kd.Xl HO228.out).2.1); rintro e w' ⟨rfl, ⟨nd, rfl⟩⟩))
      go_ret
      exact ⟨by first | rfl | (simp [errW_none, errW_some] <;> rfl) | (simp [*, errW_none, errW_some] <;> rfl), by repeat (first | (with_reducible first | exact HB.out | apply Zn | apply Zq | apply Zv | refine Zl ?_ GE224.out) | exact HB.out)⟩
     ·rw [if_neg c9] at H
      exact absurd H (by simp)
    ·rw [if_neg c8] at H
     exact absurd H (by simp)
   ·rw [if_neg c7] at H
    exact absurd H (by simp)
  ·rw [if_neg c6] at H
   exact absurd H (by simp)
 ·rw [if_neg c5] at H
  exact absurd H (by simp)
end Go.Proofs.Ytimjccfpobhpeaa.PF
