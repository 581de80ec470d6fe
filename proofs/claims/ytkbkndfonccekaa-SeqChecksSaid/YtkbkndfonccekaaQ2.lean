/- Joined by this session's own program out of its texts: PFx8 Sizes PFx4 Shape PFx5 Trees. -/
import Derived.Test.YtkbkndfonccekaaQ1
namespace Go.Proofs.Ytkbkndfonccekaa.PF
open Go.RowKit Go.Proofs.YtkbkndfonccekaaW.PrintWords Go.Proofs.YtkbkndfonccekaaW.PrintLast Go.Proofs.YtkbkndfonccekaaW.PrintMore
attribute [local go_sem] Qn Qp Kq Kt
set_option linter.unusedVariables false
set_option linter.unusedSimpArgs false
mutual
def Xh.j0 : Nat → Int → Int → Int → Int → Int → Int → Int → Bool → Int → Int → Int → Int → Bool → Int → List (Qh) → Int → Int → List (Vd) → Option (Int × Int × Int)
  | 0, _, _, _, _, _, _, _, _, _, _, _, _, _, _, _, _, _, _ => none
  | k + 1, x1, x4, x5, x6, x139000, x139001, x139002, x139003, x139004, x139005, x139006, x139007, x139008, x139009, x139010, x139011, x139012, Jw => if x1 > 10 then (some (x4, x5, x6)) else (Xh.l0 k x1 x4 x5 x6 Jw (Jw.length : Int) 0)
def Xh.l0 : Nat → Int → Int → Int → Int → List (Vd) → Int → Int → Option (Int × Int × Int)
  | 0, _, _, _, _, _, _, _ => none
  | k + 1, x1, x4, x5, x6, x22, x23, x24 => if x24 < x23 then (if 0 ≤ x24 then (if x24 < (x22.length : Int) then ((Xh.f k ((Zc x22 x24).f0) ((Zc x22 x24).f1.f0) ((Zc x22 x24).f1.f1) ((Zc x22 x24).f1.f2) ((Zc x22 x24).f1.f3.f0) ((Zc x22 x24).f1.f3.f1) ((Zc x22 x24).f1.f3.f2) ((Zc x22 x24).f1.f4) ((Zc x22 x24).f1.f5) ((Zc x22 x24).f1.f6) ((Zc x22 x24).f1.f7) ((Zc x22 x24).f2) ((Zc x22 x24).f3) ((Zc x22 x24).f4) (wrap64 (x1 + 1))).bind fun bt141 => (if (wrap64 (x4 + bt141.1)) > 48 then (some (wrap64 (x4 + bt141.1), mx x5 bt141.2.1, wrap64 (x6 + bt141.2.2))) else (Xh.l0 k x1 (wrap64 (x4 + bt141.1)) (mx x5 bt141.2.1) (wrap64 (x6 + bt141.2.2)) x22 x23 (wrap64 (x24 + 1))))) else (none)) else (none)) else (some (x4, x5, x6))
def Xh.f : Nat → Int → Int → Int → Bool → Int → Int → Int → Int → Bool → Int → List (Qh) → Int → Int → List (Vd) → Int → Option (Int × Int × Int)
  | 0, _, _, _, _, _, _, _, _, _, _, _, _, _, _, _ => none
  | k + 1, J7, Je, Jj, Ja, J9, J8, Jd, Jg, Jb, Jq, Jf, Jo, Jk, J0, a1 => if J7 = 0 then (Xh.j0 k a1 1 a1 1 J7 Je Jj Ja J9 J8 Jd Jg Jb Jq Jf Jo Jk J0) else (Xh.j0 k a1 1 a1 0 J7 Je Jj Ja J9 J8 Jd Jg Jb Jq Jf Jo Jk J0)
end
theorem Xh.mono_l : ∀ k, (∀ y0 y1 y2 y3 y4 y5 y6 y7 y8 y9 y10 y11 y12 y13 y14, Xo (Xh.f k y0 y1 y2 y3 y4 y5 y6 y7 y8 y9 y10 y11 y12 y13 y14) (Xh.f (k + 1) y0 y1 y2 y3 y4 y5 y6 y7 y8 y9 y10 y11 y12 y13 y14)) ∧ (∀ y0 y1 y2 y3 y4 y5 y6 y7 y8 y9 y10 y11 y12 y13 y14 y15 y16 y17, Xo (Xh.j0 k y0 y1 y2 y3 y4 y5 y6 y7 y8 y9 y10 y11 y12 y13 y14 y15 y16 y17) (Xh.j0 (k + 1) y0 y1 y2 y3 y4 y5 y6 y7 y8 y9 y10 y11 y12 y13 y14 y15 y16 y17)) ∧ (∀ y0 y1 y2 y3 y4 y5 y6, Xo (Xh.l0 k y0 y1 y2 y3 y4 y5 y6) (Xh.l0 (k + 1) y0 y1 y2 y3 y4 y5 y6))
  | 0 => ⟨fun _ _ _ _ _ _ _ _ _ _ _ _ _ _ _ r h => by simp [Xh.f] at h, fun _ _ _ _ _ _ _ _ _ _ _ _ _ _ _ _ _ _ r h => by simp [Xh.j0] at h, fun _ _ _ _ _ _ _ r h => by simp [Xh.l0] at h⟩
  | k + 1 => by
    obtain ⟨ih0, ih1, ih2⟩ := Xh.mono_l k
    refine ⟨?_, ?_, ?_⟩
    · intro y0 y1 y2 y3 y4 y5 y6 y7 y8 y9 y10 y11 y12 y13 y14
      unfold Xh.f
      repeat' first
      | (with_reducible exact ih0 _ _ _ _ _ _ _ _ _ _ _ _ _ _ _)
      | (with_reducible exact ih1 _ _ _ _ _ _ _ _ _ _ _ _ _ _ _ _ _ _)
      | (with_reducible exact ih2 _ _ _ _ _ _ _)
      | (with_reducible exact Xo.refl _)
      | (with_reducible exact Xo.none _)
      | (with_reducible refine Xo.ite ?_ ?_)
      | (with_reducible refine Xo.bind ?_ (fun _ => ?_))
      | exact ih0 _ _ _ _ _ _ _ _ _ _ _ _ _ _ _
      | exact ih1 _ _ _ _ _ _ _ _ _ _ _ _ _ _ _ _ _ _
      | exact ih2 _ _ _ _ _ _ _
      | exact Xo.none _
      | refine Xo.ite ?_ ?_
      | refine Xo.bind ?_ (fun _ => ?_)
    · intro y0 y1 y2 y3 y4 y5 y6 y7 y8 y9 y10 y11 y12 y13 y14 y15 y16 y17
      unfold Xh.j0
      repeat' first
      | (with_reducible exact ih0 _ _ _ _ _ _ _ _ _ _ _ _ _ _ _)
      | (with_reducible exact ih1 _ _ _ _ _ _ _ _ _ _ _ _ _ _ _ _ _ _)
      | (with_reducible exact ih2 _ _ _ _ _ _ _)
      | (with_reducible exact Xo.refl _)
      | (with_reducible exact Xo.none _)
      | (with_reducible refine Xo.ite ?_ ?_)
      | (with_reducible refine Xo.bind ?_ (fun _ => ?_))
      | exact ih0 _ _ _ _ _ _ _ _ _ _ _ _ _ _ _
      | exact ih1 _ _ _ _ _ _ _ _ _ _ _ _ _ _ _ _ _ _
      | exact ih2 _ _ _ _ _ _ _
      | exact Xo.none _
      | refine Xo.ite ?_ ?_
      | refine Xo.bind ?_ (fun _ => ?_)
    · intro y0 y1 y2 y3 y4 y5 y6
      unfold Xh.l0
      repeat' first
      | (with_reducible exact ih0 _ _ _ _ _ _ _ _ _ _ _ _ _ _ _)
      | (with_reducible exact ih1 _ _ _ _ _ _ _ _ _ _ _ _ _ _ _ _ _ _)
      | (with_reducible exact ih2 _ _ _ _ _ _ _)
      | (with_reducible exact Xo.refl _)
      | (with_reducible exact Xo.none _)
      | (with_reducible refine Xo.ite ?_ ?_)
      | (with_reducible refine Xo.bind ?_ (fun _ => ?_))
      | exact ih0 _ _ _ _ _ _ _ _ _ _ _ _ _ _ _
      | exact ih1 _ _ _ _ _ _ _ _ _ _ _ _ _ _ _ _ _ _
      | exact ih2 _ _ _ _ _ _ _
      | exact Xo.none _
      | refine Xo.ite ?_ ?_
      | refine Xo.bind ?_ (fun _ => ?_)
theorem Xh.mono : ∀ a0 a1 a2 a3 a4 a5 a6 a7 a8 a9 a10 a11 a12 a13 a14 k, Xo (Xh.f k a0 a1 a2 a3 a4 a5 a6 a7 a8 a9 a10 a11 a12 a13 a14) (Xh.f (k + 1) a0 a1 a2 a3 a4 a5 a6 a7 a8 a9 a10 a11 a12 a13 a14) := by
  intro a0 a1 a2 a3 a4 a5 a6 a7 a8 a9 a10 a11 a12 a13 a14 k
  obtain ⟨ih0, ih1, ih2⟩ := Xh.mono_l k
  exact ih0 a0 a1 a2 a3 a4 a5 a6 a7 a8 a9 a10 a11 a12 a13 a14
set_option maxHeartbeats 8000000 in
set_option maxRecDepth 100000 in
theorem Xh.calls (k : Nat) : ∀ (J7 : Int) (Je : Int) (Jj : Int) (Ja : Bool) (J9 : Int) (J8 : Int) (Jd : Int) (Jg : Int) (Jb : Bool) (Jq : Int) (A0_10 : Option Addr) (c0_10 : Nat) (Jf : List (Qh)) (Jo : Int) (Jk : Int) (A0_13 : Option Addr) (c0_13 : Nat) (J0 : List (Vd)) (a1 : Int) (r1 : Int) (r2 : Int) (r3 : Int) (w : World) (hr0_10 : Kd.C k27 w A0_10 Jf.length Jf) (hc0_10 : Jf.length ≤ c0_10) (hr0_13 : Kd.C k30 w A0_13 J0.length J0) (hc0_13 : J0.length ≤ c0_13) (h : Xh.f k J7 Je Jj Ja J9 J8 Jd Jg Jb Jq Jf Jo Jk J0 a1 = some (r1, r2, r3)),
 Calls Try.prog 23 #[.agg #[.int .i64 J7, .int .i64 Je, .int .i64 Jj, .bool Ja, .int .i64 J9, .int .u64 J8, .int .u64 Jd, .int .i64 Jg, .bool Jb, .int .i64 Jq, .slice A0_10 Jf.length c0_10, .int .i64 Jo, .int .i64 Jk, .slice A0_13 J0.length c0_13], .int .i64 a1] w fun e w' => e = .returned (.tuple #[.int .i64 r1, .int .i64 r2, .int .i64 r3]) ∧ Below w.heap.size w w' := by
 induction k using Nat.strongRecOn with
 | _ k ih =>
 intro J7 Je Jj Ja J9 J8 Jd Jg Jb Jq A0_10 c0_10 Jf Jo Jk A0_13 c0_13 J0 a1 r1 r2 r3 w hr0_10 hc0_10 hr0_13 hc0_13 h
 cases k with
 | zero => exact absurd h (by simp [Xh.f])
 | succ k =>
 simp only [Xh.f] at h
 have hu30 := Try.underlying30
 have HR0_10 := Zd.mk hr0_10
 have HC0_10 := Zd.mk hc0_10
 clear hr0_10 hc0_10
 have HR0_13 := Zd.mk hr0_13
 have HC0_13 := Zd.mk hc0_13
 clear hr0_13 hc0_13
 have HB := Zd.mk (Below.refl w.heap.size w)
 have H : (if J7 = 0 then (Xh.j0 k a1 1 a1 1 J7 Je Jj Ja J9 J8 Jd Jg Jb Jq Jf Jo Jk J0) else (Xh.j0 k a1 1 a1 0 J7 Je Jj Ja J9 J8 Jd Jg Jb Jq Jf Jo Jk J0)) = some (r1, r2, r3) := h
 clear h
 have HC3 := Zd.mk H
 clear H
 go_enter Try.func23, Try.ntmps23
 go_upto_if 15 with (((with_reducible refine Xd (N := 2) rfl ?_); refine Xe ?hg (N := 2) ?hd (cs := #[.int .i64 J7, .int .i64 Je, .int .i64 Jj, .bool Ja, .int .i64 J9, .int .u64 J8, .int .u64 Jd, .int .i64 Jg, .bool Jb, .int .i64 Jq, .slice A0_10 Jf.length c0_10, .int .i64 Jo, .int .i64 Jk, .slice A0_13 J0.length c0_13]) (t := 30) ?hr ?_; (case hd => rfl); (case hg => rfl); (case hr => first | (go_simp; done) | (go_simp; rfl)); intro Ji hg w4 hbox hb; have n0_ := Zd.mk (Zj HB.out hb); have n1_ := Zd.mk (hbox); have n2_ := Zd.mk ((by rw [hg]; exact (Zl HB.out) : w.heap.size ≤ Ji)); have n3_ := n2_; clear HB; have HB := n0_; have J5 := n1_; have GW138 := n2_; have GE138 := n3_; clear n0_ n1_ n2_ n3_; clear hb hbox hg; have hcz5_0 : w4.cell? ⟨Ji, 0, none⟩ = some (.int .i64 J7) := (Za J5.out 0).trans rfl; have hcz5_1 : w4.cell? ⟨Ji, 1, none⟩ = some (.int .i64 Je) := (Za J5.out 1).trans rfl; have hcz5_2 : w4.cell? ⟨Ji, 2, none⟩ = some (.int .i64 Jj) := (Za J5.out 2).trans rfl; have hcz5_3 : w4.cell? ⟨Ji, 3, none⟩ = some (.bool Ja) := (Za J5.out 3).trans rfl; have hcz5_4 : w4.cell? ⟨Ji, 4, none⟩ = some (.int .i64 J9) := (Za J5.out 4).trans rfl; have hcz5_5 : w4.cell? ⟨Ji, 5, none⟩ = some (.int .u64 J8) := (Za J5.out 5).trans rfl; have hcz5_6 : w4.cell? ⟨Ji, 6, none⟩ = some (.int .u64 Jd) := (Za J5.out 6).trans rfl; have hcz5_7 : w4.cell? ⟨Ji, 7, none⟩ = some (.int .i64 Jg) := (Za J5.out 7).trans rfl; have hcz5_8 : w4.cell? ⟨Ji, 8, none⟩ = some (.bool Jb) := (Za J5.out 8).trans rfl; have hcz5_9 : w4.cell? ⟨Ji, 9, none⟩ = some (.int .i64 Jq) := (Za J5.out 9).trans rfl; have hcz5_10 : w4.cell? ⟨Ji, 10, none⟩ = some (.slice A0_10 Jf.length c0_10) := (Za J5.out 10).trans rfl; have hcz5_11 : w4.cell? ⟨Ji, 11, none⟩ = some (.int .i64 Jo) := (Za J5.out 11).trans rfl; have hcz5_12 : w4.cell? ⟨Ji, 12, none⟩ = some (.int .i64 Jk) := (Za J5.out 12).trans rfl; have hcz5_13 : w4.cell? ⟨Ji, 13, none⟩ = some (.slice A0_13 J0.length c0_13) := (Za J5.out 13).trans rfl; have hfz5_0 := Zb J5.out 0; have hfz5_1 := Zb J5.out 1; have hfz5_2 := Zb J5.out 2; have hfz5_3 := Zb J5.out 3; have hfz5_4 := Zb J5.out 4; have hfz5_5 := Zb J5.out 5; have hfz5_6 := Zb J5.out 6; have hfz5_7 := Zb J5.out 7; have hfz5_8 := Zb J5.out 8; have hfz5_9 := Zb J5.out 9; have hfz5_10 := Zb J5.out 10; have hfz5_11 := Zb J5.out 11; have hfz5_12 := Zb J5.out 12; have hfz5_13 := Zb J5.out 13))
 (try simp only [Act.put, List.setIfInBounds_toArray, List.set_cons_zero, List.set_cons_succ])
 go_cut [6] (fun v6 wc => ∃ (kq : Nat) (Jr : Int), v6 = .int .i64 Jr ∧ Zd (Xh.j0 kq a1 1 a1 Jr J7 Je Jj Ja J9 J8 Jd Jg Jb Jq Jf Jo Jk J0 = some (r1, r2, r3)) ∧ Zd (kq ≤ k) ∧ Zd (wc.heap[Ji]? = some (.cells #[.int .i64 J7, .int .i64 Je, .int .i64 Jj, .bool Ja, .int .i64 J9, .int .u64 J8, .int .u64 Jd, .int .i64 Jg, .bool Jb, .int .i64 Jq, (.slice A0_10 Jf.length c0_10), .int .i64 Jo, .int .i64 Jk, (.slice A0_13 J0.length c0_13)] 30 (0, 0))) ∧ Zd (Below w.heap.size w wc))
 case first =>
  have H := HC3.out
  clear HC3
  by_cases c6 : J7 = 0
  ·rw [if_pos c6] at H
   have c6b0 : (J7 == 0) = true := beq_iff_eq.mpr c6
   have c6b1 : (J7 != 0) = false := bne_eq_false_iff_eq.mpr c6
   clear c6
   (first | rw [c6b0] | (simp only [Xk]; rw [c6b0]) | skip)
   have H' := Zd.mk H
   clear H
   go_wp2
   go_meet
   case rel => exact ⟨_, (1), (by first | rfl | (simp; done) | (simp [*]; done)), H', ⟨by first | omega | exact Nat.le_refl _⟩, ⟨J5.out⟩, ⟨HB.out⟩⟩
  ·rw [if_neg c6] at H
   have c6b0 : (J7 == 0) = false := beq_eq_false_iff_ne.mpr c6
   have c6b1 : (J7 != 0) = true := bne_iff_ne.mpr c6
   (first | rw [c6b0] | (simp only [Xk]; rw [c6b0]) | skip)
   have H' := Zd.mk H
   clear H
   go_wp2
   go_meet
   case rel => exact ⟨_, (0), (by first | rfl | (simp; done) | (simp [*]; done)), H', ⟨by first | omega | exact Nat.le_refl _⟩, ⟨J5.out⟩, ⟨HB.out⟩⟩
 case rest =>
  clear HC3
  try clear hcz5_0
  try clear hcz5_1
  try clear hcz5_10
  try clear hcz5_11
  try clear hcz5_12
  try clear hcz5_13
  try clear hcz5_2
  try clear hcz5_3
  try clear hcz5_4
  try clear hcz5_5
  try clear hcz5_6
  try clear hcz5_7
  try clear hcz5_8
  try clear hcz5_9
  try clear hfz5_0
  try clear hfz5_1
  try clear hfz5_10
  try clear hfz5_11
  try clear hfz5_12
  try clear hfz5_13
  try clear hfz5_2
  try clear hfz5_3
  try clear hfz5_4
  try clear hfz5_5
  try clear hfz5_6
  try clear hfz5_7
  try clear hfz5_8
  try clear hfz5_9
  obtain ⟨kq, Jr, rfl, HA, HJ2, J5, HB⟩ := hcut
  cases kq with
  | zero => exact absurd HA.out (by simp [Xh.j0])
  | succ kj2 =>
   have H := HA.out
   clear HA
   simp only [Xh.j0] at H
   by_cases c7 : a1 > 10
   ·rw [if_pos c7] at H
    have c7b0 : decide (10 < a1) = true := decide_eq_true c7
    clear c7
    simp only [Option.some.injEq, Prod.mk.injEq] at H
    obtain ⟨rfl, rfl, rfl⟩ := H
    go_wp2
    go_ret3
    exact ⟨by first | rfl | (simp [errW_none, errW_some] <;> rfl) | (simp [*, errW_none, errW_some] <;> rfl), HB.out⟩
   ·rw [if_neg c7] at H
    have c7b0 : decide (10 < a1) = false := decide_eq_false c7
    clear c7
    have H' := Zd.mk H
    clear H
    obtain ⟨hcz8_0, hcz8_1, hcz8_2, hcz8_3, hcz8_4, hcz8_5, hcz8_6, hcz8_7, hcz8_8, hcz8_9, hcz8_10, hcz8_11, hcz8_12, hcz8_13⟩ := zc14 J5.out
    obtain ⟨hfz8_0, hfz8_1, hfz8_2, hfz8_3, hfz8_4, hfz8_5, hfz8_6, hfz8_7, hfz8_8, hfz8_9, hfz8_10, hfz8_11, hfz8_12, hfz8_13⟩ := zf14 J5.out
    go_wp2
    go_loopg [4, 5, 6, 24] kj2 (fun kq v4 v5 v6 v24 w' => ∃ (Js : Int) (Jt : Int) (Jr : Int) (J1 : Int), v4 = .int .i64 Js ∧ v5 = .int .i64 Jt ∧ v6 = .int .i64 Jr ∧ v24 = .int .i64 J1 ∧ Zd (Xh.l0 kq a1 Js Jt Jr J0 (J0.length : Int) J1 = some (r1, r2, r3)) ∧ Zd (kq ≤ kj2) ∧ Zd (w'.heap[Ji]? = some (.cells #[.int .i64 J7, .int .i64 Je, .int .i64 Jj, .bool Ja, .int .i64 J9, .int .u64 J8, .int .u64 Jd, .int .i64 Jg, .bool Jb, .int .i64 Jq, (.slice A0_10 Jf.length c0_10), .int .i64 Jo, .int .i64 Jk, (.slice A0_13 J0.length c0_13)] 30 (0, 0))) ∧ Zd (Below w.heap.size w w'))
    case atStart => exact ⟨(1), (a1), (Jr), (0), (by first | rfl | (simp; done) | (simp [*]; done)), (by first | rfl | (simp; done) | (simp [*]; done)), (by first | rfl | (simp; done) | (simp [*]; done)), (by first | rfl | (simp; done) | (simp [*]; done)), H', ⟨Nat.le_refl _⟩, ⟨J5.out⟩, ⟨HB.out⟩⟩
    case round =>
     clear H'
     try clear c7b0
     try clear hcz8_0
     try clear hcz8_1
     try clear hcz8_10
     try clear hcz8_11
     try clear hcz8_12
     try clear hcz8_13
     try clear hcz8_2
     try clear hcz8_3
     try clear hcz8_4
     try clear hcz8_5
     try clear hcz8_6
     try clear hcz8_7
     try clear hcz8_8
     try clear hcz8_9
     try clear hfz8_0
     try clear hfz8_1
     try clear hfz8_10
     try clear hfz8_11
     try clear hfz8_12
     try clear hfz8_13
     try clear hfz8_2
     try clear hfz8_3
     try clear hfz8_4
     try clear hfz8_5
     try clear hfz8_6
     try clear hfz8_7
     try clear hfz8_8
     try clear hfz8_9
     obtain ⟨Js, Jt, Jr, J1, rfl, rfl, rfl, rfl, HA, HK2, J5, HB⟩ := hrel
     cases gk with
     | zero => exact absurd HA.out (by simp [Xh.l0])
     | succ k2 =>
      have H := HA.out
      clear HA
      simp only [Xh.l0] at H
      by_cases c9 : J1 < (J0.length : Int)
      ·rw [if_pos c9] at H
       have c9b0 : decide (J1 < (J0.length : Int)) = true := decide_eq_true c9
       clear c9
       by_cases c10 : 0 ≤ J1
       ·rw [if_pos c10] at H
        have c10b0 : decide (0 ≤ J1) = true := decide_eq_true c10
        clear c10
        by_cases c11 : J1 < (J0.length : Int)
        ·rw [if_pos c11] at H
         have c11b0 : decide (J1 < (J0.length : Int)) = true := decide_eq_true c11
         clear c11
         replace H := Option.bind_eq_some_iff.mp H
         obtain ⟨⟨t141, t142, t143⟩, A120, H⟩ := H
         replace H : (if (wrap64 (Js + t141)) > 48 then (some (wrap64 (Js + t141), mx Jt t142, wrap64 (Jr + t143))) else (Xh.l0 k2 a1 (wrap64 (Js + t141)) (mx Jt t142) (wrap64 (Jr + t143)) J0 (J0.length : Int) (wrap64 (J1 + 1)))) = some (r1, r2, r3) := H
         have A12 := Zd.mk A120
         clear A120
         obtain ⟨ji13, hji13⟩ : ∃ j_ : Int, (mx Jt t142) = j_ := ⟨_, rfl⟩
         replace H : (if (wrap64 (Js + t141)) > 48 then (some (wrap64 (Js + t141), ji13, wrap64 (Jr + t143))) else (Xh.l0 k2 a1 (wrap64 (Js + t141)) ji13 (wrap64 (Jr + t143)) J0 (J0.length : Int) (wrap64 (J1 + 1)))) = some (r1, r2, r3) := by first | (rw [hji13] at H; exact H) | (simp only [hji13] at H ⊢; exact H)
         (try rw [hji13] at A12)
         have hji13_ : (if Jt < t142 then t142 else Jt) = ji13 := hji13
         by_cases c14 : (wrap64 (Js + t141)) > 48
         ·rw [if_pos c14] at H
          have c14b0 : decide (48 < (wrap64 (Js + t141))) = true := decide_eq_true c14
          clear c14
          simp only [Option.some.injEq, Prod.mk.injEq] at H
          obtain ⟨rfl, rfl, rfl⟩ := H
          have p139 : 0 ≤ (J1 : Int) := of_decide_eq_true (by first | (with_reducible assumption) | assumption)
          have q139 : J1 < (J0.length : Int) := of_decide_eq_true (by first | (with_reducible assumption) | assumption)
          obtain ⟨ad139, A139_10, c139_10, A139_13, c139_13, e139, hx139_0, hx139_1, hx139_2, hx139_3, hx139_4, hx139_5, hx139_6, hx139_7, hx139_8, hx139_9, hx139_10, hx139_11, hx139_12, hx139_13, hl139_10, hi139_10, hl139_13, hi139_13⟩ := Jc HR0_13.out J1 p139 q139
          cases e139
          replace hx139_0 := zb HB.out hx139_0
          replace hx139_1 := zb HB.out hx139_1
          replace hx139_2 := zb HB.out hx139_2
          replace hx139_3 := zb HB.out hx139_3
          replace hx139_4 := zb HB.out hx139_4
          replace hx139_5 := zb HB.out hx139_5
          replace hx139_6 := zb HB.out hx139_6
          replace hx139_7 := zb HB.out hx139_7
          replace hx139_8 := zb HB.out hx139_8
          replace hx139_9 := zb HB.out hx139_9
          replace hx139_10 := zb HB.out hx139_10
          replace hx139_11 := zb HB.out hx139_11
          replace hx139_12 := zb HB.out hx139_12
          replace hx139_13 := zb HB.out hx139_13
          have HR139_10 := Zd.mk hi139_10
          have HC139_10 := Zd.mk hl139_10
          clear hi139_10 hl139_10
          have HR139_13 := Zd.mk hi139_13
          have HC139_13 := Zd.mk hl139_13
          clear hi139_13 hl139_13
          replace p139 := eq_true p139
          replace q139 := eq_true q139
          go_wp2_with (first | ((with_reducible refine Xd (N := 8) rfl ?_); refine Xe ?hg (N := 8) ?hd (cs := #[.int .i64 0, .int .i64 0, .int .i64 0, .bool false, .int .i64 0, .int .u64 0, .int .u64 0, .int .i64 0, .bool false, .int .i64 0, .slice none 0 0, .int .i64 0, .int .i64 0, .slice none 0 0]) (t := 30) ?hr ?_; (case hd => rfl); (case hg => rfl); (case hr => first | (go_simp; done) | (go_simp; rfl)); intro J6 hg w15 hbox hb; have n0_ := Zd.mk (Zp J5.out hb); have n1_ := Zd.mk (Zj HB.out hb); have n2_ := Zd.mk (hbox); have n3_ := Zd.mk ((by rw [hg]; exact (Zl HB.out) : w.heap.size ≤ J6)); have n4_ := n3_; have n5_ := Zd.mk ((by rw [hg]; exact Nat.ne_of_lt (Kv J5.out) : Ji ≠ J6)); have n6_ := Zd.mk ((by rw [hg]; exact Nat.ne_of_gt (Kv J5.out) : J6 ≠ Ji)); clear J5; clear HB; have J5 := n0_; have HB := n1_; have J4 := n2_; have GW140 := n3_; have GE140 := n4_; have NB138_140 := n5_; have NB140_138 := n6_; clear n0_ n1_ n2_ n3_ n4_ n5_ n6_; clear hb hbox hg; have hnb16 := NB140_138.out; have hnc16 := NB138_140.out; have hcz17_0 : w15.cell? ⟨J6, 0, none⟩ = some (.int .i64 0) := (Za J4.out 0).trans rfl; have hcz17_1 : w15.cell? ⟨J6, 1, none⟩ = some (.int .i64 0) := (Za J4.out 1).trans rfl; have hcz17_2 : w15.cell? ⟨J6, 2, none⟩ = some (.int .i64 0) := (Za J4.out 2).trans rfl; have hcz17_3 : w15.cell? ⟨J6, 3, none⟩ = some (.bool false) := (Za J4.out 3).trans rfl; have hcz17_4 : w15.cell? ⟨J6, 4, none⟩ = some (.int .i64 0) := (Za J4.out 4).trans rfl; have hcz17_5 : w15.cell? ⟨J6, 5, none⟩ = some (.int .u64 0) := (Za J4.out 5).trans rfl; have hcz17_6 : w15.cell? ⟨J6, 6, none⟩ = some (.int .u64 0) := (Za J4.out 6).trans rfl; have hcz17_7 : w15.cell? ⟨J6, 7, none⟩ = some (.int .i64 0) := (Za J4.out 7).trans rfl; have hcz17_8 : w15.cell? ⟨J6, 8, none⟩ = some (.bool false) := (Za J4.out 8).trans rfl; have hcz17_9 : w15.cell? ⟨J6, 9, none⟩ = some (.int .i64 0) := (Za J4.out 9).trans rfl; have hcz17_10 : w15.cell? ⟨J6, 10, none⟩ = some (.slice none 0 0) := (Za J4.out 10).trans rfl; have hcz17_11 : w15.cell? ⟨J6, 11, none⟩ = some (.int .i64 0) := (Za J4.out 11).trans rfl; have hcz17_12 : w15.cell? ⟨J6, 12, none⟩ = some (.int .i64 0) := (Za J4.out 12).trans rfl; have hcz17_13 : w15.cell? ⟨J6, 13, none⟩ = some (.slice none 0 0) := (Za J4.out 13).trans rfl; have hfz17_0 := Zb J4.out 0; have hfz17_1 := Zb J4.out 1; have hfz17_2 := Zb J4.out 2; have hfz17_3 := Zb J4.out 3; have hfz17_4 := Zb J4.out 4; have hfz17_5 := Zb J4.out 5; have hfz17_6 := Zb J4.out 6; have hfz17_7 := Zb J4.out 7; have hfz17_8 := Zb J4.out 8; have hfz17_9 := Zb J4.out 9; have hfz17_10 := Zb J4.out 10; have hfz17_11 := Zb J4.out 11; have hfz17_12 := Zb J4.out 12; have hfz17_13 := Zb J4.out 13) | ((with_reducible refine Zx (f := 23) rfl ?_); refine Xz (some 32) rfl rfl Try.func23 (by kernel_rfl) rfl #[.agg #[.int .i64 ((Zc J0 J1).f0), .int .i64 ((Zc J0 J1).f1.f0), .int .i64 ((Zc J0 J1).f1.f1), .bool ((Zc J0 J1).f1.f2), .int .i64 ((Zc J0 J1).f1.f3.f0), .int .u64 ((Zc J0 J1).f1.f3.f1), .int .u64 ((Zc J0 J1).f1.f3.f2), .int .i64 ((Zc J0 J1).f1.f4), .bool ((Zc J0 J1).f1.f5), .int .i64 ((Zc J0 J1).f1.f6), .slice A139_10 ((Zc J0 J1).f1.f7).length c139_10, .int .i64 ((Zc J0 J1).f2), .int .i64 ((Zc J0 J1).f3), .slice A139_13 ((Zc J0 J1).f4).length c139_13], .int .i64 (wrap64 (a1 + 1))] rfl (by (try simp only [List.map_toArray, List.map_cons, List.map_nil]); first | done | rfl | (simp only [List.length_drop, List.length_take]; rfl)) ?_; (with_reducible refine (ih k2 (by have := HJ2.out; have := HK2.out; omega) ((Zc J0 J1).f0) ((Zc J0 J1).f1.f0) ((Zc J0 J1).f1.f1) ((Zc J0 J1).f1.f2) ((Zc J0 J1).f1.f3.f0) ((Zc J0 J1).f1.f3.f1) ((Zc J0 J1).f1.f3.f2) ((Zc J0 J1).f1.f4) ((Zc J0 J1).f1.f5) ((Zc J0 J1).f1.f6) _ _ ((Zc J0 J1).f1.f7) ((Zc J0 J1).f2) ((Zc J0 J1).f3) _ _ ((Zc J0 J1).f4) (wrap64 (a1 + 1)) t141 t142 t143 _ ?side1 ?side2 ?side3 ?side4 A12.out).mono ?_); (case side1 => exact Kd.Zw HR139_10.out (by repeat (first | (with_reducible first | exact HB.out | apply Xm | apply Xi | apply Xj | refine Xc ?_ GE138.out | refine Xc ?_ GE140.out) | exact HB.out))); (case side2 => exact HC139_10.out); (case side3 => exact Kd.Zw HR139_13.out (by repeat (first | (with_reducible first | exact HB.out | apply Xm | apply Xi | apply Xj | refine Xc ?_ GE138.out | refine Xc ?_ GE140.out) | exact HB.out))); (case side4 => exact HC139_13.out); rintro e w18 ⟨rfl, hb⟩; refine ⟨_, rfl, ?_⟩; have n0_ := Zd.mk (Zp (g := Ji) (o := .cells #[.int .i64 J7, .int .i64 Je, .int .i64 Jj, .bool Ja, .int .i64 J9, .int .u64 J8, .int .u64 Jd, .int .i64 Jg, .bool Jb, .int .i64 Jq, .slice A0_10 Jf.length c0_10, .int .i64 Jo, .int .i64 Jk, .slice (some ad139) J0.length c0_13] 30 (0, 0)) (by (with_reducible repeat (first | refine Zf ?_ _ | refine Zg ?_ | refine Ze ?_ _)); refine Zm ?_ NB138_140.out _; (with_reducible repeat (first | refine Zf ?_ _ | refine Zg ?_ | refine Ze ?_ _)); refine Zm ?_ NB138_140.out _; (with_reducible repeat (first | refine Zf ?_ _ | refine Zg ?_ | refine Ze ?_ _)); refine Zm ?_ NB138_140.out _; (with_reducible repeat (first | refine Zf ?_ _ | refine Zg ?_ | refine Ze ?_ _)); refine Zm ?_ NB138_140.out _; (with_reducible repeat (first | refine Zf ?_ _ | refine Zg ?_ | refine Ze ?_ _)); refine Zm ?_ NB138_140.out _; (with_reducible repeat (first | refine Zf ?_ _ | refine Zg ?_ | refine Ze ?_ _)); refine Zm ?_ NB138_140.out _; (with_reducible repeat (first | refine Zf ?_ _ | refine Zg ?_ | refine Ze ?_ _)); refine Zm ?_ NB138_140.out _; (with_reducible repeat (first | refine Zf ?_ _ | refine Zg ?_ | refine Ze ?_ _)); refine Zm ?_ NB138_140.out _; (with_reducible repeat (first | refine Zf ?_ _ | refine Zg ?_ | refine Ze ?_ _)); refine Zm ?_ NB138_140.out _; (with_reducible repeat (first | refine Zf ?_ _ | refine Zg ?_ | refine Ze ?_ _)); refine Zm ?_ NB138_140.out _; (with_reducible repeat (first | refine Zf ?_ _ | refine Zg ?_ | refine Ze ?_ _)); refine Zm ?_ NB138_140.out _; (with_reducible repeat (first | refine Zf ?_ _ | refine Zg ?_ | refine Ze ?_ _)); refine Zm ?_ NB138_140.out _; (with_reducible repeat (first | refine Zf ?_ _ | refine Zg ?_ | refine Ze ?_ _)); refine Zm ?_ NB138_140.out _; (with_reducible repeat (first | refine Zf ?_ _ | refine Zg ?_ | refine Ze ?_ _)); refine Zm ?_ NB138_140.out _; (with_reducible repeat (first | refine Zf ?_ _ | refine Zg ?_ | refine Ze ?_ _)); exact J5.out) hb); have n1_ := Zd.mk (Zp (g := J6) (o := .cells #[.int .i64 ((Zc J0 J1).f0), .int .i64 ((Zc J0 J1).f1.f0), .int .i64 ((Zc J0 J1).f1.f1), .bool ((Zc J0 J1).f1.f2), .int .i64 ((Zc J0 J1).f1.f3.f0), .int .u64 ((Zc J0 J1).f1.f3.f1), .int .u64 ((Zc J0 J1).f1.f3.f2), .int .i64 ((Zc J0 J1).f1.f4), .bool ((Zc J0 J1).f1.f5), .int .i64 ((Zc J0 J1).f1.f6), .slice A139_10 ((Zc J0 J1).f1.f7).length c139_10, .int .i64 ((Zc J0 J1).f2), .int .i64 ((Zc J0 J1).f3), .slice A139_13 ((Zc J0 J1).f4).length c139_13] 30 (0, 0)) (by (with_reducible repeat (first | refine Zf ?_ _ | refine Zg ?_ | refine Ze ?_ _)); refine Zk (cs := #[.int .i64 ((Zc J0 J1).f0), .int .i64 ((Zc J0 J1).f1.f0), .int .i64 ((Zc J0 J1).f1.f1), .bool ((Zc J0 J1).f1.f2), .int .i64 ((Zc J0 J1).f1.f3.f0), .int .u64 ((Zc J0 J1).f1.f3.f1), .int .u64 ((Zc J0 J1).f1.f3.f2), .int .i64 ((Zc J0 J1).f1.f4), .bool ((Zc J0 J1).f1.f5), .int .i64 ((Zc J0 J1).f1.f6), .slice A139_10 ((Zc J0 J1).f1.f7).length c139_10, .int .i64 ((Zc J0 J1).f2), .int .i64 ((Zc J0 J1).f3), .slice none 0 0]) ?_ 13 _ rfl; (with_reducible repeat (first | refine Zf ?_ _ | refine Zg ?_ | refine Ze ?_ _)); refine Zk (cs := #[.int .i64 ((Zc J0 J1).f0), .int .i64 ((Zc J0 J1).f1.f0), .int .i64 ((Zc J0 J1).f1.f1), .bool ((Zc J0 J1).f1.f2), .int .i64 ((Zc J0 J1).f1.f3.f0), .int .u64 ((Zc J0 J1).f1.f3.f1), .int .u64 ((Zc J0 J1).f1.f3.f2), .int .i64 ((Zc J0 J1).f1.f4), .bool ((Zc J0 J1).f1.f5), .int .i64 ((Zc J0 J1).f1.f6), .slice A139_10 ((Zc J0 J1).f1.f7).length c139_10, .int .i64 ((Zc J0 J1).f2), .int .i64 0, .slice none 0 0]) ?_ 12 _ rfl; (with_reducible repeat (first | refine Zf ?_ _ | refine Zg ?_ | refine Ze ?_ _)); refine Zk (cs := #[.int .i64 ((Zc J0 J1).f0), .int .i64 ((Zc J0 J1).f1.f0), .int .i64 ((Zc J0 J1).f1.f1), .bool ((Zc J0 J1).f1.f2), .int .i64 ((Zc J0 J1).f1.f3.f0), .int .u64 ((Zc J0 J1).f1.f3.f1), .int .u64 ((Zc J0 J1).f1.f3.f2), .int .i64 ((Zc J0 J1).f1.f4), .bool ((Zc J0 J1).f1.f5), .int .i64 ((Zc J0 J1).f1.f6), .slice A139_10 ((Zc J0 J1).f1.f7).length c139_10, .int .i64 0, .int .i64 0, .slice none 0 0]) ?_ 11 _ rfl; (with_reducible repeat (first | refine Zf ?_ _ | refine Zg ?_ | refine Ze ?_ _)); refine Zk (cs := #[.int .i64 ((Zc J0 J1).f0), .int .i64 ((Zc J0 J1).f1.f0), .int .i64 ((Zc J0 J1).f1.f1), .bool ((Zc J0 J1).f1.f2), .int .i64 ((Zc J0 J1).f1.f3.f0), .int .u64 ((Zc J0 J1).f1.f3.f1), .int .u64 ((Zc J0 J1).f1.f3.f2), .int .i64 ((Zc J0 J1).f1.f4), .bool ((Zc J0 J1).f1.f5), .int .i64 ((Zc J0 J1).f1.f6), .slice none 0 0, .int .i64 0, .int .i64 0, .slice none 0 0]) ?_ 10 _ rfl; (with_reducible repeat (first | refine Zf ?_ _ | refine Zg ?_ | refine Ze ?_ _)); refine Zk (cs := #[.int .i64 ((Zc J0 J1).f0), .int .i64 ((Zc J0 J1).f1.f0), .int .i64 ((Zc J0 J1).f1.f1), .bool ((Zc J0 J1).f1.f2), .int .i64 ((Zc J0 J1).f1.f3.f0), .int .u64 ((Zc J0 J1).f1.f3.f1), .int .u64 ((Zc J0 J1).f1.f3.f2), .int .i64 ((Zc J0 J1).f1.f4), .bool ((Zc J0 J1).f1.f5), .int .i64 0, .slice none 0 0, .int .i64 0, .int .i64 0, .slice none 0 0]) ?_ 9 _ rfl; (with_reducible repeat (first | refine Zf ?_ _ | refine Zg ?_ | refine Ze ?_ _)); refine Zk (cs := #[.int .i64 ((Zc J0 J1).f0), .int .i64 ((Zc J0 J1).f1.f0), .int .i64 ((Zc J0 J1).f1.f1), .bool ((Zc J0 J1).f1.f2), .int .i64 ((Zc J0 J1).f1.f3.f0), .int .u64 ((Zc J0 J1).f1.f3.f1), .int .u64 ((Zc J0 J1).f1.f3.f2), .int .i64 ((Zc J0 J1).f1.f4), .bool false, .int .i64 0, .slice none 0 0, .int .i64 0, .int .i64 0, .slice none 0 0]) ?_ 8 _ rfl; (with_reducible repeat (first | refine Zf ?_ _ | refine Zg ?_ | refine Ze ?_ _)); refine Zk (cs := #[.int .i64 ((Zc J0 J1).f0), .int .i64 ((Zc J0 J1).f1.f0), .int .i64 ((Zc J0 J1).f1.f1), .bool ((Zc J0 J1).f1.f2), .int .i64 ((Zc J0 J1).f1.f3.f0), .int .u64 ((Zc J0 J1).f1.f3.f1), .int .u64 ((Zc J0 J1).f1.f3.f2), .int .i64 0, .bool false, .int .i64 0, .slice none 0 0, .int .i64 0, .int .i64 0, .slice none 0 0]) ?_ 7 _ rfl; (with_reducible repeat (first | refine Zf ?_ _ | refine Zg ?_ | refine Ze ?_ _)); refine Zk (cs := #[.int .i64 ((Zc J0 J1).f0), .int .i64 ((Zc J0 J1).f1.f0), .int .i64 ((Zc J0 J1).f1.f1), .bool ((Zc J0 J1).f1.f2), .int .i64 ((Zc J0 J1).f1.f3.f0), .int .u64 ((Zc J0 J1).f1.f3.f1), .int .u64 0, .int .i64 0, .bool false, .int .i64 0, .slice none 0 0, .int .i64 0, .int .i64 0, .slice none 0 0]) ?_ 6 _ rfl; (with_reducible repeat (first | refine Zf ?_ _ | refine Zg ?_ | refine Ze ?_ _)); refine Zk (cs := #[.int .i64 ((Zc J0 J1).f0), .int .i64 ((Zc J0 J1).f1.f0), .int .i64 ((Zc J0 J1).f1.f1), .bool ((Zc J0 J1).f1.f2), .int .i64 ((Zc J0 J1).f1.f3.f0), .int .u64 0, .int .u64 0, .int .i64 0, .bool false, .int .i64 0, .slice none 0 0, .int .i64 0, .int .i64 0, .slice none 0 0]) ?_ 5 _ rfl; (with_reducible repeat (first | refine Zf ?_ _ | refine Zg ?_ | refine Ze ?_ _)); refine Zk (cs := #[.int .i64 ((Zc J0 J1).f0), .int .i64 ((Zc J0 J1).f1.f0), .int .i64 ((Zc J0 J1).f1.f1), .bool ((Zc J0 J1).f1.f2), .int .i64 0, .int .u64 0, .int .u64 0, .int .i64 0, .bool false, .int .i64 0, .slice none 0 0, .int .i64 0, .int .i64 0, .slice none 0 0]) ?_ 4 _ rfl; (with_reducible repeat (first | refine Zf ?_ _ | refine Zg ?_ | refine Ze ?_ _)); refine Zk (cs := #[.int .i64 ((Zc J0 J1).f0), .int .i64 ((Zc J0 J1).f1.f0), .int .i64 ((Zc J0 J1).f1.f1), .bool false, .int .i64 0, .int .u64 0, .int .u64 0, .int .i64 0, .bool false, .int .i64 0, .slice none 0 0, .int .i64 0, .int .i64 0, .slice none 0 0]) ?_ 3 _ rfl; (with_reducible repeat (first | refine Zf ?_ _ | refine Zg ?_ | refine Ze ?_ _)); refine Zk (cs := #[.int .i64 ((Zc J0 J1).f0), .int .i64 ((Zc J0 J1).f1.f0), .int .i64 0, .bool false, .int .i64 0, .int .u64 0, .int .u64 0, .int .i64 0, .bool false, .int .i64 0, .slice none 0 0, .int .i64 0, .int .i64 0, .slice none 0 0]) ?_ 2 _ rfl; (with_reducible repeat (first | refine Zf ?_ _ | refine Zg ?_ | refine Ze ?_ _)); refine Zk (cs := #[.int .i64 ((Zc J0 J1).f0), .int .i64 0, .int .i64 0, .bool false, .int .i64 0, .int .u64 0, .int .u64 0, .int .i64 0, .bool false, .int .i64 0, .slice none 0 0, .int .i64 0, .int .i64 0, .slice none 0 0]) ?_ 1 _ rfl; (with_reducible repeat (first | refine Zf ?_ _ | refine Zg ?_ | refine Ze ?_ _)); refine Zk (cs := #[.int .i64 0, .int .i64 0, .int .i64 0, .bool false, .int .i64 0, .int .u64 0, .int .u64 0, .int .i64 0, .bool false, .int .i64 0, .slice none 0 0, .int .i64 0, .int .i64 0, .slice none 0 0]) ?_ 0 _ rfl; (with_reducible repeat (first | refine Zf ?_ _ | refine Zg ?_ | refine Ze ?_ _)); exact J4.out) hb); have n2_ := Zd.mk (Zj (by repeat (first | (with_reducible first | exact HB.out | apply Xm | apply Xi | apply Xj | refine Xc ?_ GE138.out | refine Xc ?_ GE140.out) | exact HB.out)) hb); clear J5; clear J4; clear HB; have J5 := n0_; have J4 := n1_; have HB := n2_; clear n0_ n1_ n2_; (try clear hb); (try clear hb2); (try clear hk); (try clear hi)))
          go_ret3
          exact ⟨by first | rfl | (simp [errW_none, errW_some] <;> rfl) | (simp only [← hji13]; first | rfl | (simp [errW_none, errW_some] <;> rfl)) | (simp [*, errW_none, errW_some] <;> rfl), HB.out⟩
         ·rw [if_neg c14] at H
          have c14b0 : decide (48 < (wrap64 (Js + t141))) = false := decide_eq_false c14
          clear c14
          have H' := Zd.mk H
          clear H
          have p139 : 0 ≤ (J1 : Int) := of_decide_eq_true (by first | (with_reducible assumption) | assumption)
          have q139 : J1 < (J0.length : Int) := of_decide_eq_true (by first | (with_reducible assumption) | assumption)
          obtain ⟨ad139, A139_10, c139_10, A139_13, c139_13, e139, hx139_0, hx139_1, hx139_2, hx139_3, hx139_4, hx139_5, hx139_6, hx139_7, hx139_8, hx139_9, hx139_10, hx139_11, hx139_12, hx139_13, hl139_10, hi139_10, hl139_13, hi139_13⟩ := Jc HR0_13.out J1 p139 q139
          cases e139
          replace hx139_0 := zb HB.out hx139_0
          replace hx139_1 := zb HB.out hx139_1
          replace hx139_2 := zb HB.out hx139_2
          replace hx139_3 := zb HB.out hx139_3
          replace hx139_4 := zb HB.out hx139_4
          replace hx139_5 := zb HB.out hx139_5
          replace hx139_6 := zb HB.out hx139_6
          replace hx139_7 := zb HB.out hx139_7
          replace hx139_8 := zb HB.out hx139_8
          replace hx139_9 := zb HB.out hx139_9
          replace hx139_10 := zb HB.out hx139_10
          replace hx139_11 := zb HB.out hx139_11
          replace hx139_12 := zb HB.out hx139_12
          replace hx139_13 := zb HB.out hx139_13
          have HR139_10 := Zd.mk hi139_10
          have HC139_10 := Zd.mk hl139_10
          clear hi139_10 hl139_10
          have HR139_13 := Zd.mk hi139_13
          have HC139_13 := Zd.mk hl139_13
          clear hi139_13 hl139_13
          replace p139 := eq_true p139
          replace q139 := eq_true q139
          go_wp2_with (first | ((with_reducible refine Xd (N := 8) rfl ?_); refine Xe ?hg (N := 8) ?hd (cs := #[.int .i64 0, .int .i64 0, .int .i64 0, .bool false, .int .i64 0, .int .u64 0, .int .u64 0, .int .i64 0, .bool false, .int .i64 0, .slice none 0 0, .int .i64 0, .int .i64 0, .slice none 0 0]) (t := 30) ?hr ?_; (case hd => rfl); (case hg => rfl); (case hr => first | (go_simp; done) | (go_simp; rfl)); intro J6 hg w19 hbox hb; have n0_ := Zd.mk (Zp J5.out hb); have n1_ := Zd.mk (Zj HB.out hb); have n2_ := Zd.mk (hbox); have n3_ := Zd.mk ((by rw [hg]; exact (Zl HB.out) : w.heap.size ≤ J6)); have n4_ := n3_; have n5_ := Zd.mk ((by rw [hg]; exact Nat.ne_of_lt (Kv J5.out) : Ji ≠ J6)); have n6_ := Zd.mk ((by rw [hg]; exact Nat.ne_of_gt (Kv J5.out) : J6 ≠ Ji)); clear J5; clear HB; have J5 := n0_; have HB := n1_; have J4 := n2_; have GW140 := n3_; have GE140 := n4_; have NB138_140 := n5_; have NB140_138 := n6_; clear n0_ n1_ n2_ n3_ n4_ n5_ n6_; clear hb hbox hg; have hnb20 := NB140_138.out; have hnc20 := NB138_140.out; have hcz21_0 : w19.cell? ⟨J6, 0, none⟩ = some (.int .i64 0) := (Za J4.out 0).trans rfl; have hcz21_1 : w19.cell? ⟨J6, 1, none⟩ = some (.int .i64 0) := (Za J4.out 1).trans rfl; have hcz21_2 : w19.cell? ⟨J6, 2, none⟩ = some (.int .i64 0) := (Za J4.out 2).trans rfl; have hcz21_3 : w19.cell? ⟨J6, 3, none⟩ = some (.bool false) := (Za J4.out 3).trans rfl; have hcz21_4 : w19.cell? ⟨J6, 4, none⟩ = some (.int .i64 0) := (Za J4.out 4).trans rfl; have hcz21_5 : w19.cell? ⟨J6, 5, none⟩ = some (.int .u64 0) := (Za J4.out 5).trans rfl; have hcz21_6 : w19.cell? ⟨J6, 6, none⟩ = some (.int .u64 0) := (Za J4.out 6).trans rfl; have hcz21_7 : w19.cell? ⟨J6, 7, none⟩ = some (.int .i64 0) := (Za J4.out 7).trans rfl; have hcz21_8 : w19.cell? ⟨J6, 8, none⟩ = some (.bool false) := (Za J4.out 8).trans rfl; have hcz21_9 : w19.cell? ⟨J6, 9, none⟩ = some (.int .i64 0) := (Za J4.out 9).trans rfl; have hcz21_10 : w19.cell? ⟨J6, 10, none⟩ = some (.slice none 0 0) := (Za J4.out 10).trans rfl; have hcz21_11 : w19.cell? ⟨J6, 11, none⟩ = some (.int .i64 0) := (Za J4.out 11).trans rfl; have hcz21_12 : w19.cell? ⟨J6, 12, none⟩ = some (.int .i64 0) := (Za J4.out 12).trans rfl; have hcz21_13 : w19.cell? ⟨J6, 13, none⟩ = some (.slice none 0 0) := (Za J4.out 13).trans rfl; have hfz21_0 := Zb J4.out 0; have hfz21_1 := Zb J4.out 1; have hfz21_2 := Zb J4.out 2; have hfz21_3 := Zb J4.out 3; have hfz21_4 := Zb J4.out 4; have hfz21_5 := Zb J4.out 5; have hfz21_6 := Zb J4.out 6; have hfz21_7 := Zb J4.out 7; have hfz21_8 := Zb J4.out 8; have hfz21_9 := Zb J4.out 9; have hfz21_10 := Zb J4.out 10; have hfz21_11 := Zb J4.out 11; have hfz21_12 := Zb J4.out 12; have hfz21_13 := Zb J4.out 13) | ((with_reducible refine Zx (f := 23) rfl ?_); refine Xz (some 32) rfl rfl Try.func23 (by kernel_rfl) rfl #[.agg #[.int .i64 ((Zc J0 J1).f0), .int .i64 ((Zc J0 J1).f1.f0), .int .i64 ((Zc J0 J1).f1.f1), .bool ((Zc J0 J1).f1.f2), .int .i64 ((Zc J0 J1).f1.f3.f0), .int .u64 ((Zc J0 J1).f1.f3.f1), .int .u64 ((Zc J0 J1).f1.f3.f2), .int .i64 ((Zc J0 J1).f1.f4), .bool ((Zc J0 J1).f1.f5), .int .i64 ((Zc J0 J1).f1.f6), .slice A139_10 ((Zc J0 J1).f1.f7).length c139_10, .int .i64 ((Zc J0 J1).f2), .int .i64 ((Zc J0 J1).f3), .slice A139_13 ((Zc J0 J1).f4).length c139_13], .int .i64 (wrap64 (a1 + 1))] rfl (by (try simp only [List.map_toArray, List.map_cons, List.map_nil]); first | done | rfl | (simp only [List.length_drop, List.length_take]; rfl)) ?_; (with_reducible refine (ih k2 (by have := HJ2.out; have := HK2.out; omega) ((Zc J0 J1).f0) ((Zc J0 J1).f1.f0) ((Zc J0 J1).f1.f1) ((Zc J0 J1).f1.f2) ((Zc J0 J1).f1.f3.f0) ((Zc J0 J1).f1.f3.f1) ((Zc J0 J1).f1.f3.f2) ((Zc J0 J1).f1.f4) ((Zc J0 J1).f1.f5) ((Zc J0 J1).f1.f6) _ _ ((Zc J0 J1).f1.f7) ((Zc J0 J1).f2) ((Zc J0 J1).f3) _ _ ((Zc J0 J1).f4) (wrap64 (a1 + 1)) t141 t142 t143 _ ?side1 ?side2 ?side3 ?side4 A12.out).mono ?_); (case side1 => exact Kd.Zw HR139_10.out (by repeat (first | (with_reducible first | exact HB.out | apply Xm | apply Xi | apply Xj | refine Xc ?_ GE138.out | refine Xc ?_ GE140.out) | exact HB.out))); (case side2 => exact HC139_10.out); (case side3 => exact Kd.Zw HR139_13.out (by repeat (first | (with_reducible first | exact HB.out | apply Xm | apply Xi | apply Xj | refine Xc ?_ GE138.out | refine Xc ?_ GE140.out) | exact HB.out))); (case side4 => exact HC139_13.out); rintro e w22 ⟨rfl, hb⟩; refine ⟨_, rfl, ?_⟩; have n0_ := Zd.mk (Zp (g := Ji) (o := .cells #[.int .i64 J7, .int .i64 Je, .int .i64 Jj, .bool Ja, .int .i64 J9, .int .u64 J8, .int .u64 Jd, .int .i64 Jg, .bool Jb, .int .i64 Jq, .slice A0_10 Jf.length c0_10, .int .i64 Jo, .int .i64 Jk, .slice (some ad139) J0.length c0_13] 30 (0, 0)) (by (with_reducible repeat (first | refine Zf ?_ _ | refine Zg ?_ | refine Ze ?_ _)); refine Zm ?_ NB138_140.out _; (with_reducible repeat (first | refine Zf ?_ _ | refine Zg ?_ | refine Ze ?_ _)); refine Zm ?_ NB138_140.out _; (with_reducible repeat (first | refine Zf ?_ _ | refine Zg ?_ | refine Ze ?_ _)); refine Zm ?_ NB138_140.out _; (with_reducible repeat (first | refine Zf ?_ _ | refine Zg ?_ | refine Ze ?_ _)); refine Zm ?_ NB138_140.out _; (with_reducible repeat (first | refine Zf ?_ _ | refine Zg ?_ | refine Ze ?_ _)); refine Zm ?_ NB138_140.out _; (with_reducible repeat (first | refine Zf ?_ _ | refine Zg ?_ | refine Ze ?_ _)); refine Zm ?_ NB138_140.out _; (with_reducible repeat (first | refine Zf ?_ _ | refine Zg ?_ | refine Ze ?_ _)); refine Zm ?_ NB138_140.out _; (with_reducible repeat (first | refine Zf ?_ _ | refine Zg ?_ | refine Ze ?_ _)); refine Zm ?_ NB138_140.out _; (with_reducible repeat (first | refine Zf ?_ _ | refine Zg ?_ | refine Ze ?_ _)); refine Zm ?_ NB138_140.out _; (with_reducible repeat (first | refine Zf ?_ _ | refine Zg ?_ | refine Ze ?_ _)); refine Zm ?_ NB138_140.out _; (with_reducible repeat (first | refine Zf ?_ _ | refine Zg ?_ | refine Ze ?_ _)); refine Zm ?_ NB138_140.out _; (with_reducible repeat (first | refine Zf ?_ _ | refine Zg ?_ | refine Ze ?_ _)); refine Zm ?_ NB138_140.out _; (with_reducible repeat (first | refine Zf ?_ _ | refine Zg ?_ | refine Ze ?_ _)); refine Zm ?_ NB138_140.out _; (with_reducible repeat (first | refine Zf ?_ _ | refine Zg ?_ | refine Ze ?_ _)); refine Zm ?_ NB138_140.out _; (with_reducible repeat (first | refine Zf ?_ _ | refine Zg ?_ | refine Ze ?_ _)); exact J5.out) hb); have n1_ := Zd.mk (Zp (g := J6) (o := .cells #[.int .i64 ((Zc J0 J1).f0), .int .i64 ((Zc J0 J1).f1.f0), .int .i64 ((Zc J0 J1).f1.f1), .bool ((Zc J0 J1).f1.f2), .int .i64 ((Zc J0 J1).f1.f3.f0), .int .u64 ((Zc J0 J1).f1.f3.f1), .int .u64 ((Zc J0 J1).f1.f3.f2), .int .i64 ((Zc J0 J1).f1.f4), .bool ((Zc J0 J1).f1.f5), .int .i64 ((Zc J0 J1).f1.f6), .slice A139_10 ((Zc J0 J1).f1.f7).length c139_10, .int .i64 ((Zc J0 J1).f2), .int .i64 ((Zc J0 J1).f3), .slice A139_13 ((Zc J0 J1).f4).length c139_13] 30 (0, 0)) (by (with_reducible repeat (first | refine Zf ?_ _ | refine Zg ?_ | refine Ze ?_ _)); refine Zk (cs := #[.int .i64 ((Zc J0 J1).f0), .int .i64 ((Zc J0 J1).f1.f0), .int .i64 ((Zc J0 J1).f1.f1), .bool ((Zc J0 J1).f1.f2), .int .i64 ((Zc J0 J1).f1.f3.f0), .int .u64 ((Zc J0 J1).f1.f3.f1), .int .u64 ((Zc J0 J1).f1.f3.f2), .int .i64 ((Zc J0 J1).f1.f4), .bool ((Zc J0 J1).f1.f5), .int .i64 ((Zc J0 J1).f1.f6), .slice A139_10 ((Zc J0 J1).f1.f7).length c139_10, .int .i64 ((Zc J0 J1).f2), .int .i64 ((Zc J0 J1).f3), .slice none 0 0]) ?_ 13 _ rfl; (with_reducible repeat (first | refine Zf ?_ _ | refine Zg ?_ | refine Ze ?_ _)); refine Zk (cs := #[.int .i64 ((Zc J0 J1).f0), .int .i64 ((Zc J0 J1).f1.f0), .int .i64 ((Zc J0 J1).f1.f1), .bool ((Zc J0 J1).f1.f2), .int .i64 ((Zc J0 J1).f1.f3.f0), .int .u64 ((Zc J0 J1).f1.f3.f1), .int .u64 ((Zc J0 J1).f1.f3.f2), .int .i64 ((Zc J0 J1).f1.f4), .bool ((Zc J0 J1).f1.f5), .int .i64 ((Zc J0 J1).f1.f6), .slice A139_10 ((Zc J0 J1).f1.f7).length c139_10, .int .i64 ((Zc J0 J1).f2), .int .i64 0, .slice none 0 0]) ?_ 12 _ rfl; (with_reducible repeat (first | refine Zf ?_ _ | refine Zg ?_ | refine Ze ?_ _)); refine Zk (cs := #[.int .i64 ((Zc J0 J1).f0), .int .i64 ((Zc J0 J1).f1.f0), .int .i64 ((Zc J0 J1).f1.f1), .bool ((Zc J0 J1).f1.f2), .int .i64 ((Zc J0 J1).f1.f3.f0), .int .u64 ((Zc J0 J1).f1.f3.f1), .int .u64 ((Zc J0 J1).f1.f3.f2), .int .i64 ((Zc J0 J1).f1.f4), .bool ((Zc J0 J1).f1.f5), .int .i64 ((Zc J0 J1).f1.f6), .slice A139_10 ((Zc J0 J1).f1.f7).length c139_10, .int .i64 0, .int .i64 0, .slice none 0 0]) ?_ 11 _ rfl; (with_reducible repeat (first | refine Zf ?_ _ | refine Zg ?_ | refine Ze ?_ _)); refine Zk (cs := #[.int .i64 ((Zc J0 J1).f0), .int .i64 ((Zc J0 J1).f1.f0), .int .i64 ((Zc J0 J1).f1.f1), .bool ((Zc J0 J1).f1.f2), .int .i64 ((Zc J0 J1).f1.f3.f0), .int .u64 ((Zc J0 J1).f1.f3.f1), .int .u64 ((Zc J0 J1).f1.f3.f2), .int .i64 ((Zc J0 J1).f1.f4), .bool ((Zc J0 J1).f1.f5), .int .i64 ((Zc J0 J1).f1.f6), .slice none 0 0, .int .i64 0, .int .i64 0, .slice none 0 0]) ?_ 10 _ rfl; (with_reducible repeat (first | refine Zf ?_ _ | refine Zg ?_ | refine Ze ?_ _)); refine Zk (cs := #[.int .i64 ((Zc J0 J1).f0), .int .i64 ((Zc J0 J1).f1.f0), .int .i64 ((Zc J0 J1).f1.f1), .bool ((Zc J0 J1).f1.f2), .int .i64 ((Zc J0 J1).f1.f3.f0), .int .u64 ((Zc J0 J1).f1.f3.f1), .int .u64 ((Zc J0 J1).f1.f3.f2), .int .i64 ((Zc J0 J1).f1.f4), .bool ((Zc J0 J1).f1.f5), .int .i64 0, .slice none 0 0, .int .i64 0, .int .i64 0, .slice none 0 0]) ?_ 9 _ rfl; (with_reducible repeat (first | refine Zf ?_ _ | refine Zg ?_ | refine Ze ?_ _)); refine Zk (cs := #[.int .i64 ((Zc J0 J1).f0), .int .i64 ((Zc J0 J1).f1.f0), .int .i64 ((Zc J0 J1).f1.f1), .bool ((Zc J0 J1).f1.f2), .int .i64 ((Zc J0 J1).f1.f3.f0), .int .u64 ((Zc J0 J1).f1.f3.f1), .int .u64 ((Zc J0 J1).f1.f3.f2), .int .i64 ((Zc J0 J1).f1.f4), .bool false, .int .i64 0, .slice none 0 0, .int .i64 0, .int .i64 0, .slice none 0 0]) ?_ 8 _ rfl; (with_reducible repeat (first | refine Zf ?_ _ | refine Zg ?_ | refine Ze ?_ _)); refine Zk (cs := #[.int .i64 ((Zc J0 J1).f0), .int .i64 ((Zc J0 J1).f1.f0), .int .i64 ((Zc J0 J1).f1.f1), .bool ((Zc J0 J1).f1.f2), .int .i64 ((Zc J0 J1).f1.f3.f0), .int .u64 ((Zc J0 J1).f1.f3.f1), .int .u64 ((Zc J0 J1).f1.f3.f2), .int .i64 0, .bool false, .int .i64 0, .slice none 0 0, .int .i64 0, .int .i64 0, .slice none 0 0]) ?_ 7 _ rfl; (with_reducible repeat (first | refine Zf ?_ _ | refine Zg ?_ | refine Ze ?_ _)); refine Zk (cs := #[.int .i64 ((Zc J0 J1).f0), .int .i64 ((Zc J0 J1).f1.f0), .int .i64 ((Zc J0 J1).f1.f1), .bool ((Zc J0 J1).f1.f2), .int .i64 ((Zc J0 J1).f1.f3.f0), .int .u64 ((Zc J0 J1).f1.f3.f1), .int .u64 0, .int .i64 0, .bool false, .int .i64 0, .slice none 0 0, .int .i64 0, .int .i64 0, .slice none 0 0]) ?_ 6 _ rfl; (with_reducible repeat (first | refine Zf ?_ _ | refine Zg ?_ | refine Ze ?_ _)); refine Zk (cs := #[.int .i64 ((Zc J0 J1).f0), .int .i64 ((Zc J0 J1).f1.f0), .int .i64 ((Zc J0 J1).f1.f1), .bool ((Zc J0 J1).f1.f2), .int .i64 ((Zc J0 J1).f1.f3.f0), .int .u64 0, .int .u64 0, .int .i64 0, .bool false, .int .i64 0, .slice none 0 0, .int .i64 0, .int .i64 0, .slice none 0 0]) ?_ 5 _ rfl; (with_reducible repeat (first | refine Zf ?_ _ | refine Zg ?_ | refine Ze ?_ _)); refine Zk (cs := #[.int .i64 ((Zc J0 J1).f0), .int .i64 ((Zc J0 J1).f1.f0), .int .i64 ((Zc J0 J1).f1.f1), .bool ((Zc J0 J1).f1.f2), .int .i64 0, .int .u64 0, .int .u64 0, .int .i64 0, .bool false, .int .i64 0, .slice none 0 0, .int .i64 0, .int .i64 0, .slice none 0 0]) ?_ 4 _ rfl; (with_reducible repeat (first | refine Zf ?_ _ | refine Zg ?_ | refine Ze ?_ _)); refine Zk (cs := #[.int .i64 ((Zc J0 J1).f0), .int .i64 ((Zc J0 J1).f1.f0), .int .i64 ((Zc J0 J1).f1.f1), .bool false, .int .i64 0, .int .u64 0, .int .u64 0, .int .i64 0, .bool false, .int .i64 0, .slice none 0 0, .int .i64 0, .int .i64 0, .slice none 0 0]) ?_ 3 _ rfl; (with_reducible repeat (first | refine Zf ?_ _ | refine Zg ?_ | refine Ze ?_ _)); refine Zk (cs := #[.int .i64 ((Zc J0 J1).f0), .int .i64 ((Zc J0 J1).f1.f0), .int .i64 0, .bool false, .int .i64 0, .int .u64 0, .int .u64 0, .int .i64 0, .bool false, .int .i64 0, .slice none 0 0, .int .i64 0, .int .i64 0, .slice none 0 0]) ?_ 2 _ rfl; (with_reducible repeat (first | refine Zf ?_ _ | refine Zg ?_ | refine Ze ?_ _)); refine Zk (cs := #[.int .i64 ((Zc J0 J1).f0), .int .i64 0, .int .i64 0, .bool false, .int .i64 0, .int .u64 0, .int .u64 0, .int .i64 0, .bool false, .int .i64 0, .slice none 0 0, .int .i64 0, .int .i64 0, .slice none 0 0]) ?_ 1 _ rfl; (with_reducible repeat (first | refine Zf ?_ _ | refine Zg ?_ | refine Ze ?_ _)); refine Zk (cs := #[.int .i64 0, .int .i64 0, .int .i64 0, .bool false, .int .i64 0, .int .u64 0, .int .u64 0, .int .i64 0, .bool false, .int .i64 0, .slice none 0 0, .int .i64 0, .int .i64 0, .slice none 0 0]) ?_ 0 _ rfl; (with_reducible repeat (first | refine Zf ?_ _ | refine Zg ?_ | refine Ze ?_ _)); exact J4.out) hb); have n2_ := Zd.mk (Zj (by repeat (first | (with_reducible first | exact HB.out | apply Xm | apply Xi | apply Xj | refine Xc ?_ GE138.out | refine Xc ?_ GE140.out) | exact HB.out)) hb); clear J5; clear J4; clear HB; have J5 := n0_; have J4 := n1_; have HB := n2_; clear n0_ n1_ n2_; (try clear hb); (try clear hb2); (try clear hk); (try clear hi)))
          go_roundg k2
          case measure => have := HJ2.out; have := HK2.out; omega
          case rel => exact ⟨(wrap64 (Js + t141)), (ji13), (wrap64 (Jr + t143)), (wrap64 (J1 + 1)), (by first | rfl | (simp; done) | (simp [*]; done)), (by first | rfl | (simp; done) | (simp only [← hji13] <;> (first | rfl | simp)) | (simp [*]; done)), (by first | rfl | (simp; done) | (simp [*]; done)), (by first | rfl | (simp; done) | (simp [*]; done)), H', ⟨by have := HJ2.out; have := HK2.out; omega⟩, ⟨J5.out⟩, ⟨HB.out⟩⟩
        ·rw [if_neg c11] at H
         exact absurd H (by simp)
       ·rw [if_neg c10] at H
        exact absurd H (by simp)
      ·rw [if_neg c9] at H
       have c9b0 : decide (J1 < (J0.length : Int)) = false := decide_eq_false c9
       clear c9
       simp only [Option.some.injEq, Prod.mk.injEq] at H
       obtain ⟨rfl, rfl, rfl⟩ := H
       go_wp2
       go_ret3
       exact ⟨by first | rfl | (simp [errW_none, errW_some] <;> rfl) | (simp [*, errW_none, errW_some] <;> rfl), HB.out⟩
end Go.Proofs.Ytkbkndfonccekaa.PF
namespace Go.Proofs.Ytkbkndfonccekaa
open Go.RowKit Go.Proofs.YtkbkndfonccekaaW.PrintWords Go.Proofs.Ytkbkndfonccekaa.PF
set_option maxRecDepth 100000
theorem Vf {x : Int} (h1 : -9223372036854775808 ≤ x) (h2 : x ≤ 9223372036854775807) : wrap64 x = x := by
  unfold wrap64
  omega
theorem upO {α : Type} {f : Nat → Option α} (hm : ∀ k, Xo (f k) (f (k + 1))) {k : Nat} {r : α} (h : f k = some r) : ∀ n, f (k + n) = some r
  | 0 => h
  | n + 1 => hm _ _ (upO hm h n)
theorem upM {α : Type} {f : Nat → Option α} (hm : ∀ k, Xo (f k) (f (k + 1))) {k n : Nat} {r : α} (h : f k = some r) (hn : k ≤ n) : f n = some r := by
  obtain ⟨j, rfl⟩ := Nat.exists_eq_add_of_le hn
  exact upO hm h j
theorem mx_eq (a b : Int) : mx a b = max a b := by
  unfold mx
  split <;> omega
theorem Jl {l : List Vp} {i : Nat} {x : Vp} (h : l[i]? = some x) : Zc l (i : Int) = x := by
  unfold Zc
  rw [Int.toNat_natCast, List.getD_eq_getElem?_getD, h]
  rfl
theorem Jm {α : Type} {l : List α} {i : Nat} {x : α} {r : List α} (h : l.drop i = x :: r) : i < l.length ∧ l[i]? = some x ∧ l.drop (i + 1) = r := by
  have h0 : l[i]? = some x := by
    have := congrArg (fun z => z[0]?) h
    simpa using this
  refine ⟨(List.getElem?_eq_some_iff.1 h0).1, h0, ?_⟩
  have := congrArg (fun z => z.drop 1) h
  simpa [List.drop_drop, Nat.add_comm] using this
theorem drop_nil {α : Type} {l : List α} {i : Nat} (h : l.drop i = []) : l.length ≤ i := by
  have := congrArg List.length h
  simp only [List.length_drop, List.length_nil] at this
  omega
abbrev Vm {β : Type} (F : Int → Int → Int → Bool → Int → Int → Int → Int → Bool → Int → List Jn → Int → Int → List Vp → β) (t : Vp) : β := F t.f0 t.f1.f0 t.f1.f1 t.f1.f2 t.f1.f3.f0 t.f1.f3.f1 t.f1.f3.f2 t.f1.f4 t.f1.f5 t.f1.f6 t.f1.f7 t.f2 t.f3 t.f4
def lv (t : Vp) : Int := if t.f0 = 0 then 1 else 0
def nN : Nat → Vp → Int
  | 0, _ => 1
  | d + 1, t => 1 + (t.f4.map (nN d)).sum
def lN : Nat → Vp → Int
  | 0, t => lv t
  | d + 1, t => lv t + (t.f4.map (lN d)).sum
def dN : Nat → Vp → Int
  | 0, _ => 1
  | d + 1, t => t.f4.foldl (fun a x => max a (1 + dN d x)) 1
theorem lv_01 (t : Vp) : 0 ≤ lv t ∧ lv t ≤ 1 := by
  unfold lv
  split <;> omega
theorem sum_pos {α : Type} {f : α → Int} (h : ∀ x, 0 ≤ f x) : ∀ l : List α, 0 ≤ (l.map f).sum
  | [] => by simp
  | x :: l => by
    have := sum_pos h l
    have := h x
    simp only [List.map_cons, List.sum_cons]
    omega
theorem sum_le {α : Type} {f g : α → Int} (h : ∀ x, f x ≤ g x) : ∀ l : List α, (l.map f).sum ≤ (l.map g).sum
  | [] => by simp
  | x :: l => by
    have := sum_le h l
    have := h x
    simp only [List.map_cons, List.sum_cons]
    omega
theorem nN_pos : ∀ d t, 1 ≤ nN d t
  | 0, _ => by rw [nN]; omega
  | d + 1, t => by
    have := sum_pos (f := nN d) (fun x => by have := nN_pos d x; omega) t.f4
    rw [nN]
    omega
theorem lN_pos : ∀ d t, 0 ≤ lN d t
  | 0, t => (lv_01 t).1
  | d + 1, t => by
    have := sum_pos (f := lN d) (fun x => lN_pos d x) t.f4
    have := (lv_01 t).1
    rw [lN]
    omega
theorem lN_le : ∀ d t, lN d t ≤ nN d t
  | 0, t => (lv_01 t).2
  | d + 1, t => by
    have := sum_le (f := lN d) (g := nN d) (fun x => lN_le d x) t.f4
    have := (lv_01 t).2
    rw [lN, nN]
    omega
theorem foldmax_ge {α : Type} (g : α → Int) : ∀ (l : List α) (a : Int), a ≤ l.foldl (fun a x => max a (g x)) a
  | [], a => by simp
  | x :: l, a => by
    have := foldmax_ge g l (max a (g x))
    simp only [List.foldl_cons]
    omega
theorem foldmax_mem {α : Type} (g : α → Int) : ∀ (l : List α) (a : Int) (x : α), x ∈ l → g x ≤ l.foldl (fun a x => max a (g x)) a
  | y :: l, a, x, h => by
    simp only [List.foldl_cons]
    rcases List.mem_cons.1 h with rfl | h
    · have := foldmax_ge g l (max a (g x))
      omega
    · exact foldmax_mem g l _ x h
theorem foldmax_le {α : Type} (g : α → Int) (b : Int) : ∀ (l : List α) (a : Int), a ≤ b → (∀ x ∈ l, g x ≤ b) → l.foldl (fun a x => max a (g x)) a ≤ b
  | [], a, h, _ => h
  | x :: l, a, h, hx => by
    simp only [List.foldl_cons]
    have := hx x List.mem_cons_self
    exact foldmax_le g b l _ (by omega) (fun y hy => hx y (List.mem_cons_of_mem _ hy))
theorem foldmax_mono {α : Type} {g g' : α → Int} (h : ∀ x, g x ≤ g' x) : ∀ (l : List α) (a a' : Int), a ≤ a' → l.foldl (fun a x => max a (g x)) a ≤ l.foldl (fun a x => max a (g' x)) a'
  | [], a, a', ha => ha
  | x :: l, a, a', ha => by
    simp only [List.foldl_cons]
    have := h x
    exact foldmax_mono h l _ _ (by omega)
theorem foldmax_shift {α : Type} (g : α → Int) (c : Int) : ∀ (l : List α) (a : Int), l.foldl (fun a x => max a (c + 1 + g x)) (c + a) = c + l.foldl (fun a x => max a (1 + g x)) a
  | [], a => rfl
  | x :: l, a => by
    simp only [List.foldl_cons]
    rw [show max (c + a) (c + 1 + g x) = c + max a (1 + g x) by omega]
    exact foldmax_shift g c l _
theorem dN_pos : ∀ d t, 1 ≤ dN d t
  | 0, _ => by rw [dN]; omega
  | d + 1, t => by rw [dN]; exact foldmax_ge _ _ _
theorem dN_le : ∀ (d : Nat) t, dN d t ≤ d + 1
  | 0, _ => by rw [dN]; omega
  | d + 1, t => by
    rw [dN]
    refine foldmax_le _ _ _ _ (by omega) (fun x _ => ?_)
    have := dN_le d x
    omega
theorem nN_mono : ∀ d t, nN d t ≤ nN (d + 1) t
  | 0, t => by
    have := nN_pos 1 t
    show (1 : Int) ≤ _
    omega
  | d + 1, t => by
    have := sum_le (f := nN d) (g := nN (d + 1)) (fun x => nN_mono d x) t.f4
    rw [nN, nN]
    omega
theorem dN_mono : ∀ d t, dN d t ≤ dN (d + 1) t
  | 0, t => by
    have := dN_pos 1 t
    show (1 : Int) ≤ _
    omega
  | d + 1, t => by
    rw [dN, dN]
    exact foldmax_mono (fun x => by have := dN_mono d x; omega) _ _ _ (Int.le_refl _)
def Sh : Nat → Vp → Prop
  | 0, _ => False
  | d + 1, t => ∀ x ∈ t.f4, Sh d x
theorem sh_of : ∀ (d : Nat) t, dN d t ≤ d → Sh d t
  | 0, t, h => by
    rw [dN] at h
    omega
  | d + 1, t, h => fun x hx => by
    rw [dN] at h
    have := foldmax_mem (fun x => 1 + dN d x) t.f4 1 x hx
    exact sh_of d x (by omega)
theorem map_sum_eq {α : Type} {f g : α → Int} {l : List α} (h : ∀ x ∈ l, f x = g x) : (l.map f).sum = (l.map g).sum := by
  rw [List.map_congr_left h]
theorem stable : ∀ d t, Sh d t → nN (d + 1) t = nN d t ∧ lN (d + 1) t = lN d t
  | 0, t, h => h.elim
  | d + 1, t, h => by
    rw [nN, nN, lN, lN, map_sum_eq (fun x hx => (stable d x (h x hx)).1), map_sum_eq (fun x hx => (stable d x (h x hx)).2)]
    exact ⟨rfl, rfl⟩
theorem foldmax_congr {α : Type} {g g' : α → Int} : ∀ (l : List α) (a : Int), (∀ x ∈ l, g x = g' x) → l.foldl (fun a x => max a (g x)) a = l.foldl (fun a x => max a (g' x)) a
  | [], _, _ => rfl
  | x :: l, a, h => by
    simp only [List.foldl_cons]
    rw [h x List.mem_cons_self]
    exact foldmax_congr l _ (fun y hy => h y (List.mem_cons_of_mem _ hy))
theorem dN_stable : ∀ d t, Sh d t → dN (d + 1) t = dN d t
  | 0, t, h => h.elim
  | d + 1, t, h => by
    rw [dN, dN]
    exact foldmax_congr _ _ (fun x hx => by rw [dN_stable d x (h x hx)])
def SizeOk (lim : Int) (d : Nat) (base : Int) (t : Vp) (n dp l : Int) : Prop :=
  (nN d t ≤ lim ∧ n = nN d t ∧ dp = base + dN d t ∧ l = lN d t) ∨ (lim < nN d t ∧ lim < n ∧ n ≤ (lim + 1) * (d + 1) ∧ 0 ≤ l ∧ l ≤ n ∧ 0 ≤ dp ∧ dp ≤ base + d + 1)
theorem SizeOk.bound {lim : Int} {d : Nat} {base : Int} {t : Vp} {n dp l : Int} (h : SizeOk lim d base t n dp l) (hl : 0 ≤ lim) (hb : 0 ≤ base) : 1 ≤ n ∧ n ≤ (lim + 1) * (d + 1) ∧ 0 ≤ l ∧ l ≤ n ∧ 0 ≤ dp ∧ dp ≤ base + d + 1 := by
  have hm : (lim + 1) * 1 ≤ (lim + 1) * (d + 1) := Int.mul_le_mul_of_nonneg_left (by omega) (by omega)
  rcases h with ⟨h1, rfl, rfl, rfl⟩ | ⟨h1, h2, h3, h4, h5, h6, h7⟩
  · have := nN_pos d t
    have := lN_pos d t
    have := lN_le d t
    have := dN_pos d t
    have := dN_le d t
    exact ⟨by omega, by omega, by omega, by omega, by omega, by omega⟩
  · exact ⟨by omega, h3, h4, h5, h6, h7⟩
theorem size_mono (k : Nat) (t : Vp) (a : Int) : Xo (Vm (Xh.f k) t a) (Vm (Xh.f (k + 1)) t a) := (Xh.mono_l k).1 _ _ _ _ _ _ _ _ _ _ _ _ _ _ _
set_option maxHeartbeats 1600000 in
theorem size_loop (d : Nat) (hd : d ≤ 11) (a1 : Int) (h1 : 1 ≤ a1) (h2 : a1 ≤ 11) (hda : a1 + d ≤ 10 ∨ True) (kids : List Vp) (IH : ∀ x, ∃ k n dp l, Vm (Xh.f k) x (a1 + 1) = some (n, dp, l) ∧ SizeOk 48 d a1 x n dp l) :
    ∀ (rest : List Vp) (i : Nat), kids.drop i = rest → ∀ na da la : Int, (i : Int) + 1 ≤ na → na ≤ 48 → 0 ≤ la → la ≤ na → 0 ≤ da → da ≤ a1 + d + 1 → ∃ k n dp l, Xh.l0 k a1 na da la kids kids.length i = some (n, dp, l) ∧
      ((na + (rest.map (nN d)).sum ≤ 48 ∧ n = na + (rest.map (nN d)).sum ∧ dp = rest.foldl (fun a x => max a (a1 + dN d x)) da ∧ l = la + (rest.map (lN d)).sum) ∨ (48 < na + (rest.map (nN d)).sum ∧ 48 < n ∧ n ≤ 48 + (48 + 1) * (d + 1) ∧ 0 ≤ l ∧ l ≤ n ∧ 0 ≤ dp ∧ dp ≤ a1 + d + 1))
  | [], i, hr, na, da, la, g1, g2, g3, g4, g5, g6 => by
    have hi := drop_nil hr
    refine ⟨1, na, da, la, ?_, .inl ⟨by simpa using g2, by simp, by simp, by simp⟩⟩
    rw [Xh.l0, if_neg (by omega)]
  | x :: r, i, hr, na, da, la, g1, g2, g3, g4, g5, g6 => by
    obtain ⟨hi, hx, hr'⟩ := Jm hr
    obtain ⟨k0, n, dp, l, hk0, hok⟩ := IH x
    obtain ⟨b1, b2, b3, b4, b5, b6⟩ := hok.bound (by omega) (by omega)
    have hdp := dN_le d x
    have hdp1 := dN_pos d x
    have hbd : (48 + 1) * ((d : Int) + 1) ≤ (48 + 1) * 12 := Int.mul_le_mul_of_nonneg_left (by omega) (by omega)
    have hw := Lib.hid (show wrap64 ((i : Int) + 1) = ((i + 1 : Nat) : Int) from by rw [Vf (by omega) (by omega)]; rfl)
    have hwa := Lib.hid (show wrap64 (a1 + 1) = a1 + 1 from Vf (by omega) (by omega))
    have hwn := Lib.hid (show wrap64 (na + n) = na + n from Vf (by omega) (by omega))
    have hwl := Lib.hid (show wrap64 (la + l) = la + l from Vf (by omega) (by omega))
    have hwd : (0 : Int) ≤ a1 := by omega
    have hsr := sum_pos (f := nN d) (fun x => by have := nN_pos d x; omega) r
    have step : ∀ K, k0 ≤ K → Xh.l0 (K + 1) a1 na da la kids kids.length i = if na + n > 48 then some (na + n, max da (dp), la + l) else Xh.l0 K a1 (na + n) (max da (dp)) (la + l) kids kids.length ((i + 1 : Nat) : Int) := fun K hK => by
      rw [Xh.l0, if_pos (by omega), if_pos (by omega), if_pos (by omega), Jl hx, hwa.out]
      have h0 := upM (f := fun k => Vm (Xh.f k) x (a1 + 1)) (fun k => size_mono k x (a1 + 1)) hk0 hK
      simp only [Vm] at h0
      rw [h0]
      show (if wrap64 (na + n) > 48 then some (wrap64 (na + n), mx da (dp), wrap64 (la + l)) else Xh.l0 K a1 (wrap64 (na + n)) (mx da (dp)) (wrap64 (la + l)) kids kids.length (wrap64 ((i : Int) + 1))) = _
      rw [hwn.out, hwl.out, hw.out, mx_eq]
    simp only [List.map_cons, List.sum_cons, List.foldl_cons]
    by_cases hbr : na + n > 48
    · refine ⟨k0 + 1, na + n, max da (dp), la + l, by rw [step k0 (Nat.le_refl _), if_pos hbr], .inr ⟨?_, by omega, by omega, by omega, by omega, by omega, by omega⟩⟩
      rcases hok with ⟨e1, e2, _⟩ | ⟨e1, _⟩ <;> omega
    · rcases hok with ⟨e1, e2, e3, e4⟩ | ⟨e1, e2, _⟩
      · obtain ⟨kl, n', dp', l', hl, hres⟩ := size_loop d hd a1 h1 h2 hda kids IH r (i + 1) hr' (na + n) (max da (dp)) (la + l) (by omega) (by omega) (by omega) (by omega) (by omega) (by omega)
        refine ⟨max k0 kl + 1, n', dp', l', ?_, ?_⟩
        · rw [step _ (Nat.le_max_left _ _), if_neg hbr]
          exact upM (f := fun k => Xh.l0 k a1 (na + n) (max da (dp)) (la + l) kids kids.length ((i + 1 : Nat) : Int)) (fun k => (Xh.mono_l k).2.2 _ _ _ _ _ _ _) hl (Nat.le_max_right _ _)
        · rw [e2, e4, e3] at hres
          rcases hres with ⟨f1, f2, f3, f4⟩ | ⟨f1, f2⟩
          · exact .inl ⟨by omega, by omega, f3, by omega⟩
          · exact .inr ⟨by omega, f2⟩
      · omega
theorem rsize_mono (k : Nat) (t : Vp) (a : Int) : Xo (Vm (Zo.f k) t a) (Vm (Zo.f (k + 1)) t a) := (Zo.mono_l k).1 _ _ _ _ _ _ _ _ _ _ _ _ _ _ _
set_option maxHeartbeats 1600000 in
theorem rsize_loop (d : Nat) (hd : d ≤ 11) (a1 : Int) (h1 : 0 ≤ a1) (h2 : a1 ≤ 11) (hda : a1 + d ≤ 30 ∨ True) (kids : List Vp) (IH : ∀ x, ∃ k n dp l, Vm (Zo.f k) x (a1 - 1) = some (n, dp, l) ∧ SizeOk 1000 d (0 : Int) x n dp l) :
    ∀ (rest : List Vp) (i : Nat), kids.drop i = rest → ∀ na da la : Int, (i : Int) + 1 ≤ na → na ≤ 1000 → 0 ≤ la → la ≤ na → 0 ≤ da → da ≤ (0 : Int) + d + 2 → ∃ k n dp l, Zo.l0 k a1 na da la kids kids.length i = some (n, dp, l) ∧
      ((na + (rest.map (nN d)).sum ≤ 1000 ∧ n = na + (rest.map (nN d)).sum ∧ dp = rest.foldl (fun a x => max a (1 + dN d x)) da ∧ l = la + (rest.map (lN d)).sum) ∨ (1000 < na + (rest.map (nN d)).sum ∧ 1000 < n ∧ n ≤ 1000 + (1000 + 1) * (d + 1) ∧ 0 ≤ l ∧ l ≤ n ∧ 0 ≤ dp ∧ dp ≤ (0 : Int) + d + 2))
  | [], i, hr, na, da, la, g1, g2, g3, g4, g5, g6 => by
    have hi := drop_nil hr
    refine ⟨1, na, da, la, ?_, .inl ⟨by simpa using g2, by simp, by simp, by simp⟩⟩
    rw [Zo.l0, if_neg (by omega)]
  | x :: r, i, hr, na, da, la, g1, g2, g3, g4, g5, g6 => by
    obtain ⟨hi, hx, hr'⟩ := Jm hr
    obtain ⟨k0, n, dp, l, hk0, hok⟩ := IH x
    obtain ⟨b1, b2, b3, b4, b5, b6⟩ := hok.bound (by omega) (by omega)
    have hdp := dN_le d x
    have hdp1 := dN_pos d x
    have hbd : (1000 + 1) * ((d : Int) + 1) ≤ (1000 + 1) * 12 := Int.mul_le_mul_of_nonneg_left (by omega) (by omega)
    have hw := Lib.hid (show wrap64 ((i : Int) + 1) = ((i + 1 : Nat) : Int) from by rw [Vf (by omega) (by omega)]; rfl)
    have hwa := Lib.hid (show wrap64 (a1 - 1) = a1 - 1 from Vf (by omega) (by omega))
    have hwn := Lib.hid (show wrap64 (na + n) = na + n from Vf (by omega) (by omega))
    have hwl := Lib.hid (show wrap64 (la + l) = la + l from Vf (by omega) (by omega))
    have hwd := Lib.hid (show wrap64 (dp + 1) = 1 + dp from by rw [Vf (by omega) (by omega)]; omega)
    have hsr := sum_pos (f := nN d) (fun x => by have := nN_pos d x; omega) r
    have step : ∀ K, k0 ≤ K → Zo.l0 (K + 1) a1 na da la kids kids.length i = if na + n > 1000 then some (na + n, max da (1 + dp), la + l) else Zo.l0 K a1 (na + n) (max da (1 + dp)) (la + l) kids kids.length ((i + 1 : Nat) : Int) := fun K hK => by
      rw [Zo.l0, if_pos (by omega), if_pos (by omega), if_pos (by omega), Jl hx, hwa.out]
      have h0 := upM (f := fun k => Vm (Zo.f k) x (a1 - 1)) (fun k => rsize_mono k x (a1 - 1)) hk0 hK
      simp only [Vm] at h0
      rw [h0]
      show (if wrap64 (na + n) > 1000 then some (wrap64 (na + n), mx da (wrap64 (dp + 1)), wrap64 (la + l)) else Zo.l0 K a1 (wrap64 (na + n)) (mx da (wrap64 (dp + 1))) (wrap64 (la + l)) kids kids.length (wrap64 ((i : Int) + 1))) = _
      rw [hwn.out, hwl.out, hw.out, mx_eq, hwd.out]
    simp only [List.map_cons, List.sum_cons, List.foldl_cons]
    by_cases hbr : na + n > 1000
    · refine ⟨k0 + 1, na + n, max da (1 + dp), la + l, by rw [step k0 (Nat.le_refl _), if_pos hbr], .inr ⟨?_, by omega, by omega, by omega, by omega, by omega, by omega⟩⟩
      rcases hok with ⟨e1, e2, _⟩ | ⟨e1, _⟩ <;> omega
    · rcases hok with ⟨e1, e2, e3, e4⟩ | ⟨e1, e2, _⟩
      · obtain ⟨kl, n', dp', l', hl, hres⟩ := rsize_loop d hd a1 h1 h2 hda kids IH r (i + 1) hr' (na + n) (max da (1 + dp)) (la + l) (by omega) (by omega) (by omega) (by omega) (by omega) (by omega)
        refine ⟨max k0 kl + 1, n', dp', l', ?_, ?_⟩
        · rw [step _ (Nat.le_max_left _ _), if_neg hbr]
          exact upM (f := fun k => Zo.l0 k a1 (na + n) (max da (1 + dp)) (la + l) kids kids.length ((i + 1 : Nat) : Int)) (fun k => (Zo.mono_l k).2.2 _ _ _ _ _ _ _) hl (Nat.le_max_right _ _)
        · rw [e2, e4, e3, Int.zero_add] at hres
          rcases hres with ⟨f1, f2, f3, f4⟩ | ⟨f1, f2⟩
          · exact .inl ⟨by omega, by omega, f3, by omega⟩
          · exact .inr ⟨by omega, f2⟩
      · omega
theorem size_ex : ∀ (d : Nat) (t : Vp), d ≤ 10 → ∃ k n dp l, Vm (Xh.f k) t (11 - d : Int) = some (n, dp, l) ∧ SizeOk 48 d (10 - d) t n dp l
  | 0, t, _ => by
    have hv : ∀ z : Int, Xh.j0 1 (11 - (0 : Nat) : Int) 1 (11 - (0 : Nat) : Int) z t.f0 t.f1.f0 t.f1.f1 t.f1.f2 t.f1.f3.f0 t.f1.f3.f1 t.f1.f3.f2 t.f1.f4 t.f1.f5 t.f1.f6 t.f1.f7 t.f2 t.f3 t.f4 = some (1, 11, z) := fun z => by
      rw [Xh.j0, if_pos (by omega)]
      simp
    refine ⟨2, 1, 11, lv t, ?_, .inl ⟨by rw [nN]; omega, rfl, by rw [dN]; omega, rfl⟩⟩
    show Xh.f 2 _ _ _ _ _ _ _ _ _ _ _ _ _ _ _ = _
    rw [Xh.f, hv, hv]
    unfold lv
    split <;> rfl
  | d + 1, t, hd => by
    obtain ⟨k, n, dp, l, hk, hres⟩ := size_loop d (by omega) (10 - d : Int) (by omega) (by omega) (.inr trivial) t.f4 (fun x => by
      obtain ⟨k, n, dp, l, hk, hok⟩ := size_ex d x (by omega)
      refine ⟨k, n, dp, l, ?_, hok⟩
      rw [show (10 - (d : Int)) + 1 = 11 - d by omega]
      exact hk) t.f4 0 rfl 1 (10 - d : Int) (lv t) (by omega) (by omega) (lv_01 t).1 (lv_01 t).2 (by omega) (by omega)
    have ha : (11 - ((d + 1 : Nat) : Int)) = 10 - d := by omega
    have hb : (10 - ((d + 1 : Nat) : Int)) = 9 - d := by omega
    refine ⟨k + 2, n, dp, l, ?_, ?_⟩
    · have hj : ∀ z : Int, z = lv t → Xh.j0 (k + 1) (10 - d : Int) 1 (10 - d : Int) z t.f0 t.f1.f0 t.f1.f1 t.f1.f2 t.f1.f3.f0 t.f1.f3.f1 t.f1.f3.f2 t.f1.f4 t.f1.f5 t.f1.f6 t.f1.f7 t.f2 t.f3 t.f4 = some (n, dp, l) := fun z hz => by
        rw [Xh.j0, if_neg (by omega), hz]
        exact hk
      show Xh.f (k + 2) _ _ _ _ _ _ _ _ _ _ _ _ _ _ _ = _
      rw [ha, Xh.f]
      by_cases h0 : t.f0 = 0
      · rw [if_pos h0]
        exact hj 1 (by unfold lv; rw [if_pos h0])
      · rw [if_neg h0]
        exact hj 0 (by unfold lv; rw [if_neg h0])
    · have hsh := foldmax_shift (dN d) (9 - d : Int) t.f4 1
      rw [show (9 - (d : Int)) + 1 = 10 - d by omega] at hsh
      have hm : ((48 : Int) + 1) * ((d : Int) + 1 + 1) = 48 + (48 + 1) * ((d : Int) + 1) + 1 := by omega
      unfold SizeOk
      rw [hb, nN, lN, dN]
      rcases hres with ⟨f1, f2, f3, f4⟩ | ⟨f1, f2, f3, f4, f5, f6, f7⟩
      · exact .inl ⟨f1, f2, f3.trans hsh, f4⟩
      · refine .inr ⟨f1, f2, ?_, f4, f5, f6, ?_⟩
        · push_cast
          omega
        · push_cast
          omega
theorem rsize_ex : ∀ (d : Nat) (t : Vp), d ≤ 11 → ∃ k n dp l, Vm (Zo.f k) t (d : Int) = some (n, dp, l) ∧ SizeOk 1000 d 0 t n dp l
  | 0, t, _ => by
    have hv : ∀ z : Int, Zo.j0 1 ((0 : Nat) : Int) 1 1 z t.f0 t.f1.f0 t.f1.f1 t.f1.f2 t.f1.f3.f0 t.f1.f3.f1 t.f1.f3.f2 t.f1.f4 t.f1.f5 t.f1.f6 t.f1.f7 t.f2 t.f3 t.f4 = some (1, 1, z) := fun z => by
      rw [Zo.j0, if_pos (by simp)]
    refine ⟨2, 1, 1, lv t, ?_, .inl ⟨by rw [nN]; omega, rfl, by rw [dN]; omega, rfl⟩⟩
    show Zo.f 2 _ _ _ _ _ _ _ _ _ _ _ _ _ _ _ = _
    rw [Zo.f, hv, hv]
    unfold lv
    split <;> rfl
  | d + 1, t, hd => by
    obtain ⟨k, n, dp, l, hk, hres⟩ := rsize_loop d (by omega) (d + 1 : Int) (by omega) (by omega) (.inr trivial) t.f4 (fun x => by
      obtain ⟨k, n, dp, l, hk, hok⟩ := rsize_ex d x (by omega)
      refine ⟨k, n, dp, l, ?_, hok⟩
      rw [show ((d : Int) + 1) - 1 = d by omega]
      exact hk) t.f4 0 rfl 1 1 (lv t) (by omega) (by omega) (lv_01 t).1 (lv_01 t).2 (by omega) (by omega)
    refine ⟨k + 2, n, dp, l, ?_, ?_⟩
    · have hj : ∀ z : Int, z = lv t → Zo.j0 (k + 1) ((d + 1 : Nat) : Int) 1 1 z t.f0 t.f1.f0 t.f1.f1 t.f1.f2 t.f1.f3.f0 t.f1.f3.f1 t.f1.f3.f2 t.f1.f4 t.f1.f5 t.f1.f6 t.f1.f7 t.f2 t.f3 t.f4 = some (n, dp, l) := fun z hz => by
        rw [Zo.j0, if_neg (by omega), hz]
        exact hk
      show Zo.f (k + 2) _ _ _ _ _ _ _ _ _ _ _ _ _ _ _ = _
      rw [Zo.f]
      by_cases h0 : t.f0 = 0
      · rw [if_pos h0]
        exact hj 1 (by unfold lv; rw [if_pos h0])
      · rw [if_neg h0]
        exact hj 0 (by unfold lv; rw [if_neg h0])
    · unfold SizeOk
      rw [nN, lN, dN]
      rcases hres with ⟨f1, f2, f3, f4⟩ | ⟨f1, f2, f3, f4, f5, f6, f7⟩
      · exact .inl ⟨f1, f2, by rw [f3, Int.zero_add], f4⟩
      · refine .inr ⟨f1, f2, ?_, f4, f5, f6, ?_⟩
        · push_cast
          omega
        · push_cast
          omega
def Big (n dp l : Int) : Prop := 48 < n ∨ 10 < dp ∨ 12 < l
theorem big_iff (t : Vp) {n dp l n' dp' l' : Int} (h : SizeOk 48 10 0 t n dp l) (h' : SizeOk 1000 11 0 t n' dp' l') : (Big n dp l ↔ Big n' dp' l') ∧ (¬ Big n dp l → Sh 10 t ∧ nN 10 t ≤ 48 ∧ l = lN 10 t ∧ l' = l) := by
  have m1 : nN 10 t ≤ nN 11 t := nN_mono 10 t
  have m2 : dN 10 t ≤ dN 11 t := dN_mono 10 t
  unfold Big
  rcases h with ⟨a1, a2, a3, a4⟩ | ⟨a1, a2, _⟩
  · by_cases hd : dN 10 t ≤ 10
    · have hs := sh_of 10 t hd
      have s1 : nN 11 t = nN 10 t ∧ lN 11 t = lN 10 t := stable 10 t hs
      have s2 : dN 11 t = dN 10 t := dN_stable 10 t hs
      rcases h' with ⟨b1, b2, b3, b4⟩ | ⟨b1, b2, _⟩
      · refine ⟨?_, fun _ => ⟨hs, a1, a4, by omega⟩⟩
        constructor <;> intro hh <;> omega
      · omega
    · refine ⟨⟨fun _ => ?_, fun _ => by omega⟩, fun hh => by omega⟩
      rcases h' with ⟨b1, b2, b3, b4⟩ | ⟨b1, b2, _⟩ <;> omega
  · refine ⟨⟨fun _ => ?_, fun _ => by omega⟩, fun hh => by omega⟩
    rcases h' with ⟨b1, b2, b3, b4⟩ | ⟨b1, b2, _⟩ <;> omega
end Go.Proofs.Ytkbkndfonccekaa
namespace Go.Proofs.Ytkbkndfonccekaa.PF
open Go.RowKit Go.Proofs.YtkbkndfonccekaaW.PrintWords Go.Proofs.YtkbkndfonccekaaW.PrintLast Go.Proofs.YtkbkndfonccekaaW.PrintMore
attribute [local go_sem] Qn Qp Kq Kt
set_option linter.unusedVariables false
set_option linter.unusedSimpArgs false
attribute [local go_sem high] eqA24
def Wu.f (J7 : Int) (Je : Int) (Jj : Bool) (Ja : Int) (J9 : Int) (J8 : Int) (Jd : Int) (Jg : Bool) (Jb : Int) (Jp : List (Qh)) : Option (Bool) := if J7 = 0 then (if Je = 0 then (if Jj = true then (some false) else (if (Ja == 0 && (J9 == 0 && (J8 == 0))) = true then (if Jd = 0 then (if Jg = true then (some false) else (if Jb = 0 then (some ((Jp.length : Int) == 0)) else (some false))) else (some false)) else (some false))) else (some false)) else (some false)
set_option maxHeartbeats 8000000 in
set_option maxRecDepth 100000 in
theorem Wu.calls (J7 : Int) (Je : Int) (Jj : Bool) (Ja : Int) (J9 : Int) (J8 : Int) (Jd : Int) (Jg : Bool) (Jb : Int) (A0_9 : Option Addr) (c0_9 : Nat) (Jp : List (Qh)) (r : Bool) (w : World) (hr0_9 : Kd.C k27 w A0_9 Jp.length Jp) (hc0_9 : Jp.length ≤ c0_9) (h : Wu.f J7 Je Jj Ja J9 J8 Jd Jg Jb Jp = some r) :
 Calls Try.prog 26 #[.agg #[.int .i64 J7, .int .i64 Je, .bool Jj, .int .i64 Ja, .int .u64 J9, .int .u64 J8, .int .i64 Jd, .bool Jg, .int .i64 Jb, .slice A0_9 Jp.length c0_9]] w fun e w' => e = .returned (.bool r) ∧ Below w.heap.size w w' := by
 have hu27 := Try.underlying27
 have hu24 := Try.underlying24
 have HR0_9 := Zd.mk hr0_9
 have HC0_9 := Zd.mk hc0_9
 clear hr0_9 hc0_9
 have HB := Zd.mk (Below.refl w.heap.size w)
 have H : (if J7 = 0 then (if Je = 0 then (if Jj = true then (some false) else (if (Ja == 0 && (J9 == 0 && (J8 == 0))) = true then (if Jd = 0 then (if Jg = true then (some false) else (if Jb = 0 then (some ((Jp.length : Int) == 0)) else (some false))) else (some false)) else (some false))) else (some false)) else (some false)) = some r := h
 clear h
 by_cases c2 : J7 = 0
 ·rw [if_pos c2] at H
  have c2b0 : (J7 == 0) = true := beq_iff_eq.mpr c2
  have c2b1 : (J7 != 0) = false := bne_eq_false_iff_eq.mpr c2
  clear c2
  by_cases c3 : Je = 0
  ·rw [if_pos c3] at H
   have c3b0 : (Je == 0) = true := beq_iff_eq.mpr c3
   have c3b1 : (Je != 0) = false := bne_eq_false_iff_eq.mpr c3
   clear c3
   by_cases c4 : Jj = true
   ·subst c4
    have H1 : (some false) = some r := by rw [if_pos rfl] at H; exact H
    clear H
    have H := H1
    clear H1
    obtain rfl := Option.some.inj H
    go_enter Try.func26, Try.ntmps26
    go_wp2_with (((with_reducible refine Xd (N := 1) rfl ?_); (try (refine Qb (by rfl) ?_; dsimp only)); refine Xe ?hg (N := 1) ?hd (cs := #[.int .i64 J7, .int .i64 Je, .bool true, .int .i64 Ja, .int .u64 J9, .int .u64 J8, .int .i64 Jd, .bool Jg, .int .i64 Jb, .slice A0_9 Jp.length c0_9]) (t := 27) ?hr ?_; (case hd => rfl); (case hg => rfl); (case hr => first | (go_simp; done) | (go_simp; rfl)); intro J3 hg w5 hbox hb; have n0_ := Zd.mk (Zj HB.out hb); have n1_ := Zd.mk (hbox); have n2_ := Zd.mk ((by rw [hg]; exact (Zl HB.out) : w.heap.size ≤ J3)); have n3_ := n2_; clear HB; have HB := n0_; have J2 := n1_; have GW115 := n2_; have GE115 := n3_; clear n0_ n1_ n2_ n3_; clear hb hbox hg; have hcz6_0 : w5.cell? ⟨J3, 0, none⟩ = some (.int .i64 J7) := (Za J2.out 0).trans rfl; have hcz6_1 : w5.cell? ⟨J3, 1, none⟩ = some (.int .i64 Je) := (Za J2.out 1).trans rfl; have hcz6_2 : w5.cell? ⟨J3, 2, none⟩ = some (.bool true) := (Za J2.out 2).trans rfl; have hcz6_3 : w5.cell? ⟨J3, 3, none⟩ = some (.int .i64 Ja) := (Za J2.out 3).trans rfl; have hcz6_4 : w5.cell? ⟨J3, 4, none⟩ = some (.int .u64 J9) := (Za J2.out 4).trans rfl; have hcz6_5 : w5.cell? ⟨J3, 5, none⟩ = some (.int .u64 J8) := (Za J2.out 5).trans rfl; have hcz6_6 : w5.cell? ⟨J3, 6, none⟩ = some (.int .i64 Jd) := (Za J2.out 6).trans rfl; have hcz6_7 : w5.cell? ⟨J3, 7, none⟩ = some (.bool Jg) := (Za J2.out 7).trans rfl; have hcz6_8 : w5.cell? ⟨J3, 8, none⟩ = some (.int .i64 Jb) := (Za J2.out 8).trans rfl; have hcz6_9 : w5.cell? ⟨J3, 9, none⟩ = some (.slice A0_9 Jp.length c0_9) := (Za J2.out 9).trans rfl; have hfz6_0 := Zb J2.out 0; have hfz6_1 := Zb J2.out 1; have hfz6_2 := Zb J2.out 2; have hfz6_3 := Zb J2.out 3; have hfz6_4 := Zb J2.out 4; have hfz6_5 := Zb J2.out 5; have hfz6_6 := Zb J2.out 6; have hfz6_7 := Zb J2.out 7; have hfz6_8 := Zb J2.out 8; have hfz6_9 := Zb J2.out 9))
    go_ret
    exact ⟨by first | rfl | (simp [errW_none, errW_some] <;> rfl) | (simp [*, errW_none, errW_some] <;> rfl), HB.out⟩
   ·replace c4 := Bool.eq_false_iff.mpr c4
    subst c4
    have H1 : (if (Ja == 0 && (J9 == 0 && (J8 == 0))) = true then (if Jd = 0 then (if Jg = true then (some false) else (if Jb = 0 then (some ((Jp.length : Int) == 0)) else (some false))) else (some false)) else (some false)) = some r := by rw [if_neg (show ¬ (false = true) by decide)] at H; exact H
    clear H
    have H := H1
    clear H1
    by_cases c7 : (Ja == 0 && (J9 == 0 && (J8 == 0))) = true
    ·rw [if_pos c7] at H
     have c7b0 : (Ja == 0 && (J9 == 0 && (J8 == 0))) = true := c7
     (try (have c7b1 : decide (Ja = 0 && (J9 == 0 && (J8 == 0))) = true := by simpa using c7))
     (try (have c7b2 : (Ja == 0 && (J9 == 0 && (J8 == 0))) = true := by simpa using c7))
     clear c7
     by_cases c8 : Jd = 0
     ·rw [if_pos c8] at H
      have c8b0 : (Jd == 0) = true := beq_iff_eq.mpr c8
      have c8b1 : (Jd != 0) = false := bne_eq_false_iff_eq.mpr c8
      clear c8
      by_cases c9 : Jg = true
      ·subst c9
       have H1 : (some false) = some r := by rw [if_pos rfl] at H; exact H
       clear H
       have H := H1
       clear H1
       obtain rfl := Option.some.inj H
       go_enter Try.func26, Try.ntmps26
       go_wp2_with (((with_reducible refine Xd (N := 1) rfl ?_); (try (refine Qb (by rfl) ?_; dsimp only)); refine Xe ?hg (N := 1) ?hd (cs := #[.int .i64 J7, .int .i64 Je, .bool false, .int .i64 Ja, .int .u64 J9, .int .u64 J8, .int .i64 Jd, .bool true, .int .i64 Jb, .slice A0_9 Jp.length c0_9]) (t := 27) ?hr ?_; (case hd => rfl); (case hg => rfl); (case hr => first | (go_simp; done) | (go_simp; rfl)); intro J3 hg w10 hbox hb; have n0_ := Zd.mk (Zj HB.out hb); have n1_ := Zd.mk (hbox); have n2_ := Zd.mk ((by rw [hg]; exact (Zl HB.out) : w.heap.size ≤ J3)); have n3_ := n2_; clear HB; have HB := n0_; have J2 := n1_; have GW115 := n2_; have GE115 := n3_; clear n0_ n1_ n2_ n3_; clear hb hbox hg; have hcz11_0 : w10.cell? ⟨J3, 0, none⟩ = some (.int .i64 J7) := (Za J2.out 0).trans rfl; have hcz11_1 : w10.cell? ⟨J3, 1, none⟩ = some (.int .i64 Je) := (Za J2.out 1).trans rfl; have hcz11_2 : w10.cell? ⟨J3, 2, none⟩ = some (.bool false) := (Za J2.out 2).trans rfl; have hcz11_3 : w10.cell? ⟨J3, 3, none⟩ = some (.int .i64 Ja) := (Za J2.out 3).trans rfl; have hcz11_4 : w10.cell? ⟨J3, 4, none⟩ = some (.int .u64 J9) := (Za J2.out 4).trans rfl; have hcz11_5 : w10.cell? ⟨J3, 5, none⟩ = some (.int .u64 J8) := (Za J2.out 5).trans rfl; have hcz11_6 : w10.cell? ⟨J3, 6, none⟩ = some (.int .i64 Jd) := (Za J2.out 6).trans rfl; have hcz11_7 : w10.cell? ⟨J3, 7, none⟩ = some (.bool true) := (Za J2.out 7).trans rfl; have hcz11_8 : w10.cell? ⟨J3, 8, none⟩ = some (.int .i64 Jb) := (Za J2.out 8).trans rfl; have hcz11_9 : w10.cell? ⟨J3, 9, none⟩ = some (.slice A0_9 Jp.length c0_9) := (Za J2.out 9).trans rfl; have hfz11_0 := Zb J2.out 0; have hfz11_1 := Zb J2.out 1; have hfz11_2 := Zb J2.out 2; have hfz11_3 := Zb J2.out 3; have hfz11_4 := Zb J2.out 4; have hfz11_5 := Zb J2.out 5; have hfz11_6 := Zb J2.out 6; have hfz11_7 := Zb J2.out 7; have hfz11_8 := Zb J2.out 8; have hfz11_9 := Zb J2.out 9))
       go_ret
       exact ⟨by first | rfl | (simp [errW_none, errW_some] <;> rfl) | (simp [*, errW_none, errW_some] <;> rfl), HB.out⟩
      ·replace c9 := Bool.eq_false_iff.mpr c9
       subst c9
       have H1 : (if Jb = 0 then (some ((Jp.length : Int) == 0)) else (some false)) = some r := by rw [if_neg (show ¬ (false = true) by decide)] at H; exact H
       clear H
       have H := H1
       clear H1
       by_cases c12 : Jb = 0
       ·rw [if_pos c12] at H
        have c12b0 : (Jb == 0) = true := beq_iff_eq.mpr c12
        have c12b1 : (Jb != 0) = false := bne_eq_false_iff_eq.mpr c12
        clear c12
        obtain rfl := Option.some.inj H
        go_enter Try.func26, Try.ntmps26
        go_wp2_with (((with_reducible refine Xd (N := 1) rfl ?_); (try (refine Qb (by rfl) ?_; dsimp only)); refine Xe ?hg (N := 1) ?hd (cs := #[.int .i64 J7, .int .i64 Je, .bool false, .int .i64 Ja, .int .u64 J9, .int .u64 J8, .int .i64 Jd, .bool false, .int .i64 Jb, .slice A0_9 Jp.length c0_9]) (t := 27) ?hr ?_; (case hd => rfl); (case hg => rfl); (case hr => first | (go_simp; done) | (go_simp; rfl)); intro J3 hg w13 hbox hb; have n0_ := Zd.mk (Zj HB.out hb); have n1_ := Zd.mk (hbox); have n2_ := Zd.mk ((by rw [hg]; exact (Zl HB.out) : w.heap.size ≤ J3)); have n3_ := n2_; clear HB; have HB := n0_; have J2 := n1_; have GW115 := n2_; have GE115 := n3_; clear n0_ n1_ n2_ n3_; clear hb hbox hg; have hcz14_0 : w13.cell? ⟨J3, 0, none⟩ = some (.int .i64 J7) := (Za J2.out 0).trans rfl; have hcz14_1 : w13.cell? ⟨J3, 1, none⟩ = some (.int .i64 Je) := (Za J2.out 1).trans rfl; have hcz14_2 : w13.cell? ⟨J3, 2, none⟩ = some (.bool false) := (Za J2.out 2).trans rfl; have hcz14_3 : w13.cell? ⟨J3, 3, none⟩ = some (.int .i64 Ja) := (Za J2.out 3).trans rfl; have hcz14_4 : w13.cell? ⟨J3, 4, none⟩ = some (.int .u64 J9) := (Za J2.out 4).trans rfl; have hcz14_5 : w13.cell? ⟨J3, 5, none⟩ = some (.int .u64 J8) := (Za J2.out 5).trans rfl; have hcz14_6 : w13.cell? ⟨J3, 6, none⟩ = some (.int .i64 Jd) := (Za J2.out 6).trans rfl; have hcz14_7 : w13.cell? ⟨J3, 7, none⟩ = some (.bool false) := (Za J2.out 7).trans rfl; have hcz14_8 : w13.cell? ⟨J3, 8, none⟩ = some (.int .i64 Jb) := (Za J2.out 8).trans rfl; have hcz14_9 : w13.cell? ⟨J3, 9, none⟩ = some (.slice A0_9 Jp.length c0_9) := (Za J2.out 9).trans rfl; have hfz14_0 := Zb J2.out 0; have hfz14_1 := Zb J2.out 1; have hfz14_2 := Zb J2.out 2; have hfz14_3 := Zb J2.out 3; have hfz14_4 := Zb J2.out 4; have hfz14_5 := Zb J2.out 5; have hfz14_6 := Zb J2.out 6; have hfz14_7 := Zb J2.out 7; have hfz14_8 := Zb J2.out 8; have hfz14_9 := Zb J2.out 9))
        go_ret
        exact ⟨by first | rfl | (simp [errW_none, errW_some] <;> rfl) | (simp [*, errW_none, errW_some] <;> rfl), HB.out⟩
       ·rw [if_neg c12] at H
        have c12b0 : (Jb == 0) = false := beq_eq_false_iff_ne.mpr c12
        have c12b1 : (Jb != 0) = true := bne_iff_ne.mpr c12
        obtain rfl := Option.some.inj H
        go_enter Try.func26, Try.ntmps26
        go_wp2_with (((with_reducible refine Xd (N := 1) rfl ?_); (try (refine Qb (by rfl) ?_; dsimp only)); refine Xe ?hg (N := 1) ?hd (cs := #[.int .i64 J7, .int .i64 Je, .bool false, .int .i64 Ja, .int .u64 J9, .int .u64 J8, .int .i64 Jd, .bool false, .int .i64 Jb, .slice A0_9 Jp.length c0_9]) (t := 27) ?hr ?_; (case hd => rfl); (case hg => rfl); (case hr => first | (go_simp; done) | (go_simp; rfl)); intro J3 hg w15 hbox hb; have n0_ := Zd.mk (Zj HB.out hb); have n1_ := Zd.mk (hbox); have n2_ := Zd.mk ((by rw [hg]; exact (Zl HB.out) : w.heap.size ≤ J3)); have n3_ := n2_; clear HB; have HB := n0_; have J2 := n1_; have GW115 := n2_; have GE115 := n3_; clear n0_ n1_ n2_ n3_; clear hb hbox hg; have hcz16_0 : w15.cell? ⟨J3, 0, none⟩ = some (.int .i64 J7) := (Za J2.out 0).trans rfl; have hcz16_1 : w15.cell? ⟨J3, 1, none⟩ = some (.int .i64 Je) := (Za J2.out 1).trans rfl; have hcz16_2 : w15.cell? ⟨J3, 2, none⟩ = some (.bool false) := (Za J2.out 2).trans rfl; have hcz16_3 : w15.cell? ⟨J3, 3, none⟩ = some (.int .i64 Ja) := (Za J2.out 3).trans rfl; have hcz16_4 : w15.cell? ⟨J3, 4, none⟩ = some (.int .u64 J9) := (Za J2.out 4).trans rfl; have hcz16_5 : w15.cell? ⟨J3, 5, none⟩ = some (.int .u64 J8) := (Za J2.out 5).trans rfl; have hcz16_6 : w15.cell? ⟨J3, 6, none⟩ = some (.int .i64 Jd) := (Za J2.out 6).trans rfl; have hcz16_7 : w15.cell? ⟨J3, 7, none⟩ = some (.bool false) := (Za J2.out 7).trans rfl; have hcz16_8 : w15.cell? ⟨J3, 8, none⟩ = some (.int .i64 Jb) := (Za J2.out 8).trans rfl; have hcz16_9 : w15.cell? ⟨J3, 9, none⟩ = some (.slice A0_9 Jp.length c0_9) := (Za J2.out 9).trans rfl; have hfz16_0 := Zb J2.out 0; have hfz16_1 := Zb J2.out 1; have hfz16_2 := Zb J2.out 2; have hfz16_3 := Zb J2.out 3; have hfz16_4 := Zb J2.out 4; have hfz16_5 := Zb J2.out 5; have hfz16_6 := Zb J2.out 6; have hfz16_7 := Zb J2.out 7; have hfz16_8 := Zb J2.out 8; have hfz16_9 := Zb J2.out 9))
        go_ret
        exact ⟨by first | rfl | (simp [errW_none, errW_some] <;> rfl) | (simp [*, errW_none, errW_some] <;> rfl), HB.out⟩
     ·rw [if_neg c8] at H
      have c8b0 : (Jd == 0) = false := beq_eq_false_iff_ne.mpr c8
      have c8b1 : (Jd != 0) = true := bne_iff_ne.mpr c8
      obtain rfl := Option.some.inj H
      go_enter Try.func26, Try.ntmps26
      go_wp2_with (((with_reducible refine Xd (N := 1) rfl ?_); (try (refine Qb (by rfl) ?_; dsimp only)); refine Xe ?hg (N := 1) ?hd (cs := #[.int .i64 J7, .int .i64 Je, .bool false, .int .i64 Ja, .int .u64 J9, .int .u64 J8, .int .i64 Jd, .bool Jg, .int .i64 Jb, .slice A0_9 Jp.length c0_9]) (t := 27) ?hr ?_; (case hd => rfl); (case hg => rfl); (case hr => first | (go_simp; done) | (go_simp; rfl)); intro J3 hg w17 hbox hb; have n0_ := Zd.mk (Zj HB.out hb); have n1_ := Zd.mk (hbox); have n2_ := Zd.mk ((by rw [hg]; exact (Zl HB.out) : w.heap.size ≤ J3)); have n3_ := n2_; clear HB; have HB := n0_; have J2 := n1_; have GW115 := n2_; have GE115 := n3_; clear n0_ n1_ n2_ n3_; clear hb hbox hg; have hcz18_0 : w17.cell? ⟨J3, 0, none⟩ = some (.int .i64 J7) := (Za J2.out 0).trans rfl; have hcz18_1 : w17.cell? ⟨J3, 1, none⟩ = some (.int .i64 Je) := (Za J2.out 1).trans rfl; have hcz18_2 : w17.cell? ⟨J3, 2, none⟩ = some (.bool false) := (Za J2.out 2).trans rfl; have hcz18_3 : w17.cell? ⟨J3, 3, none⟩ = some (.int .i64 Ja) := (Za J2.out 3).trans rfl; have hcz18_4 : w17.cell? ⟨J3, 4, none⟩ = some (.int .u64 J9) := (Za J2.out 4).trans rfl; have hcz18_5 : w17.cell? ⟨J3, 5, none⟩ = some (.int .u64 J8) := (Za J2.out 5).trans rfl; have hcz18_6 : w17.cell? ⟨J3, 6, none⟩ = some (.int .i64 Jd) := (Za J2.out 6).trans rfl; have hcz18_7 : w17.cell? ⟨J3, 7, none⟩ = some (.bool Jg) := (Za J2.out 7).trans rfl; have hcz18_8 : w17.cell? ⟨J3, 8, none⟩ = some (.int .i64 Jb) := (Za J2.out 8).trans rfl; have hcz18_9 : w17.cell? ⟨J3, 9, none⟩ = some (.slice A0_9 Jp.length c0_9) := (Za J2.out 9).trans rfl; have hfz18_0 := Zb J2.out 0; have hfz18_1 := Zb J2.out 1; have hfz18_2 := Zb J2.out 2; have hfz18_3 := Zb J2.out 3; have hfz18_4 := Zb J2.out 4; have hfz18_5 := Zb J2.out 5; have hfz18_6 := Zb J2.out 6; have hfz18_7 := Zb J2.out 7; have hfz18_8 := Zb J2.out 8; have hfz18_9 := Zb J2.out 9))
      go_ret
      exact ⟨by first | rfl | (simp [errW_none, errW_some] <;> rfl) | (simp [*, errW_none, errW_some] <;> rfl), HB.out⟩
    ·rw [if_neg c7] at H
     have c7b0 : (Ja == 0 && (J9 == 0 && (J8 == 0))) = false := by simpa using c7
     (try (have c7b1 : decide (Ja = 0 && (J9 == 0 && (J8 == 0))) = false := by simpa using c7))
     (try (have c7b2 : (Ja == 0 && (J9 == 0 && (J8 == 0))) = false := by simpa using c7))
     (try (have c7b3 : ¬ (Ja = 0 && (J9 == 0 && (J8 == 0))) := by simpa using c7))
     clear c7
     obtain rfl := Option.some.inj H
     go_enter Try.func26, Try.ntmps26
     go_wp2_with (((with_reducible refine Xd (N := 1) rfl ?_); (try (refine Qb (by rfl) ?_; dsimp only)); refine Xe ?hg (N := 1) ?hd (cs := #[.int .i64 J7, .int .i64 Je, .bool false, .int .i64 Ja, .int .u64 J9, .int .u64 J8, .int .i64 Jd, .bool Jg, .int .i64 Jb, .slice A0_9 Jp.length c0_9]) (t := 27) ?hr ?_; (case hd => rfl); (case hg => rfl); (case hr => first | (go_simp; done) | (go_simp; rfl)); intro J3 hg w19 hbox hb; have n0_ := Zd.mk (Zj HB.out hb); have n1_ := Zd.mk (hbox); have n2_ := Zd.mk ((by rw [hg]; exact (Zl HB.out) : w.heap.size ≤ J3)); have n3_ := n2_; clear HB; have HB := n0_; have J2 := n1_; have GW115 := n2_; have GE115 := n3_; clear n0_ n1_ n2_ n3_; clear hb hbox hg; have hcz20_0 : w19.cell? ⟨J3, 0, none⟩ = some (.int .i64 J7) := (Za J2.out 0).trans rfl; have hcz20_1 : w19.cell? ⟨J3, 1, none⟩ = some (.int .i64 Je) := (Za J2.out 1).trans rfl; have hcz20_2 : w19.cell? ⟨J3, 2, none⟩ = some (.bool false) := (Za J2.out 2).trans rfl; have hcz20_3 : w19.cell? ⟨J3, 3, none⟩ = some (.int .i64 Ja) := (Za J2.out 3).trans rfl; have hcz20_4 : w19.cell? ⟨J3, 4, none⟩ = some (.int .u64 J9) := (Za J2.out 4).trans rfl; have hcz20_5 : w19.cell? ⟨J3, 5, none⟩ = some (.int .u64 J8) := (Za J2.out 5).trans rfl; have hcz20_6 : w19.cell? ⟨J3, 6, none⟩ = some (.int .i64 Jd) := (Za J2.out 6).trans rfl; have hcz20_7 : w19.cell? ⟨J3, 7, none⟩ = some (.bool Jg) := (Za J2.out 7).trans rfl; have hcz20_8 : w19.cell? ⟨J3, 8, none⟩ = some (.int .i64 Jb) := (Za J2.out 8).trans rfl; have hcz20_9 : w19.cell? ⟨J3, 9, none⟩ = some (.slice A0_9 Jp.length c0_9) := (Za J2.out 9).trans rfl; have hfz20_0 := Zb J2.out 0; have hfz20_1 := Zb J2.out 1; have hfz20_2 := Zb J2.out 2; have hfz20_3 := Zb J2.out 3; have hfz20_4 := Zb J2.out 4; have hfz20_5 := Zb J2.out 5; have hfz20_6 := Zb J2.out 6; have hfz20_7 := Zb J2.out 7; have hfz20_8 := Zb J2.out 8; have hfz20_9 := Zb J2.out 9))
     go_ret
     exact ⟨by first | rfl | (simp [errW_none, errW_some] <;> rfl) | (simp [*, errW_none, errW_some] <;> rfl), HB.out⟩
  ·rw [if_neg c3] at H
   have c3b0 : (Je == 0) = false := beq_eq_false_iff_ne.mpr c3
   have c3b1 : (Je != 0) = true := bne_iff_ne.mpr c3
   obtain rfl := Option.some.inj H
   go_enter Try.func26, Try.ntmps26
   go_wp2_with (((with_reducible refine Xd (N := 1) rfl ?_); (try (refine Qb (by rfl) ?_; dsimp only)); refine Xe ?hg (N := 1) ?hd (cs := #[.int .i64 J7, .int .i64 Je, .bool Jj, .int .i64 Ja, .int .u64 J9, .int .u64 J8, .int .i64 Jd, .bool Jg, .int .i64 Jb, .slice A0_9 Jp.length c0_9]) (t := 27) ?hr ?_; (case hd => rfl); (case hg => rfl); (case hr => first | (go_simp; done) | (go_simp; rfl)); intro J3 hg w21 hbox hb; have n0_ := Zd.mk (Zj HB.out hb); have n1_ := Zd.mk (hbox); have n2_ := Zd.mk ((by rw [hg]; exact (Zl HB.out) : w.heap.size ≤ J3)); have n3_ := n2_; clear HB; have HB := n0_; have J2 := n1_; have GW115 := n2_; have GE115 := n3_; clear n0_ n1_ n2_ n3_; clear hb hbox hg; have hcz22_0 : w21.cell? ⟨J3, 0, none⟩ = some (.int .i64 J7) := (Za J2.out 0).trans rfl; have hcz22_1 : w21.cell? ⟨J3, 1, none⟩ = some (.int .i64 Je) := (Za J2.out 1).trans rfl; have hcz22_2 : w21.cell? ⟨J3, 2, none⟩ = some (.bool Jj) := (Za J2.out 2).trans rfl; have hcz22_3 : w21.cell? ⟨J3, 3, none⟩ = some (.int .i64 Ja) := (Za J2.out 3).trans rfl; have hcz22_4 : w21.cell? ⟨J3, 4, none⟩ = some (.int .u64 J9) := (Za J2.out 4).trans rfl; have hcz22_5 : w21.cell? ⟨J3, 5, none⟩ = some (.int .u64 J8) := (Za J2.out 5).trans rfl; have hcz22_6 : w21.cell? ⟨J3, 6, none⟩ = some (.int .i64 Jd) := (Za J2.out 6).trans rfl; have hcz22_7 : w21.cell? ⟨J3, 7, none⟩ = some (.bool Jg) := (Za J2.out 7).trans rfl; have hcz22_8 : w21.cell? ⟨J3, 8, none⟩ = some (.int .i64 Jb) := (Za J2.out 8).trans rfl; have hcz22_9 : w21.cell? ⟨J3, 9, none⟩ = some (.slice A0_9 Jp.length c0_9) := (Za J2.out 9).trans rfl; have hfz22_0 := Zb J2.out 0; have hfz22_1 := Zb J2.out 1; have hfz22_2 := Zb J2.out 2; have hfz22_3 := Zb J2.out 3; have hfz22_4 := Zb J2.out 4; have hfz22_5 := Zb J2.out 5; have hfz22_6 := Zb J2.out 6; have hfz22_7 := Zb J2.out 7; have hfz22_8 := Zb J2.out 8; have hfz22_9 := Zb J2.out 9))
   go_ret
   exact ⟨by first | rfl | (simp [errW_none, errW_some] <;> rfl) | (simp [*, errW_none, errW_some] <;> rfl), HB.out⟩
 ·rw [if_neg c2] at H
  have c2b0 : (J7 == 0) = false := beq_eq_false_iff_ne.mpr c2
  have c2b1 : (J7 != 0) = true := bne_iff_ne.mpr c2
  obtain rfl := Option.some.inj H
  go_enter Try.func26, Try.ntmps26
  go_wp2_with (((with_reducible refine Xd (N := 1) rfl ?_); (try (refine Qb (by rfl) ?_; dsimp only)); refine Xe ?hg (N := 1) ?hd (cs := #[.int .i64 J7, .int .i64 Je, .bool Jj, .int .i64 Ja, .int .u64 J9, .int .u64 J8, .int .i64 Jd, .bool Jg, .int .i64 Jb, .slice A0_9 Jp.length c0_9]) (t := 27) ?hr ?_; (case hd => rfl); (case hg => rfl); (case hr => first | (go_simp; done) | (go_simp; rfl)); intro J3 hg w23 hbox hb; have n0_ := Zd.mk (Zj HB.out hb); have n1_ := Zd.mk (hbox); have n2_ := Zd.mk ((by rw [hg]; exact (Zl HB.out) : w.heap.size ≤ J3)); have n3_ := n2_; clear HB; have HB := n0_; have J2 := n1_; have GW115 := n2_; have GE115 := n3_; clear n0_ n1_ n2_ n3_; clear hb hbox hg; have hcz24_0 : w23.cell? ⟨J3, 0, none⟩ = some (.int .i64 J7) := (Za J2.out 0).trans rfl; have hcz24_1 : w23.cell? ⟨J3, 1, none⟩ = some (.int .i64 Je) := (Za J2.out 1).trans rfl; have hcz24_2 : w23.cell? ⟨J3, 2, none⟩ = some (.bool Jj) := (Za J2.out 2).trans rfl; have hcz24_3 : w23.cell? ⟨J3, 3, none⟩ = some (.int .i64 Ja) := (Za J2.out 3).trans rfl; have hcz24_4 : w23.cell? ⟨J3, 4, none⟩ = some (.int .u64 J9) := (Za J2.out 4).trans rfl; have hcz24_5 : w23.cell? ⟨J3, 5, none⟩ = some (.int .u64 J8) := (Za J2.out 5).trans rfl; have hcz24_6 : w23.cell? ⟨J3, 6, none⟩ = some (.int .i64 Jd) := (Za J2.out 6).trans rfl; have hcz24_7 : w23.cell? ⟨J3, 7, none⟩ = some (.bool Jg) := (Za J2.out 7).trans rfl; have hcz24_8 : w23.cell? ⟨J3, 8, none⟩ = some (.int .i64 Jb) := (Za J2.out 8).trans rfl; have hcz24_9 : w23.cell? ⟨J3, 9, none⟩ = some (.slice A0_9 Jp.length c0_9) := (Za J2.out 9).trans rfl; have hfz24_0 := Zb J2.out 0; have hfz24_1 := Zb J2.out 1; have hfz24_2 := Zb J2.out 2; have hfz24_3 := Zb J2.out 3; have hfz24_4 := Zb J2.out 4; have hfz24_5 := Zb J2.out 5; have hfz24_6 := Zb J2.out 6; have hfz24_7 := Zb J2.out 7; have hfz24_8 := Zb J2.out 8; have hfz24_9 := Zb J2.out 9))
  go_ret
  exact ⟨by first | rfl | (simp [errW_none, errW_some] <;> rfl) | (simp [*, errW_none, errW_some] <;> rfl), HB.out⟩
end Go.Proofs.Ytkbkndfonccekaa.PF
namespace Go.Proofs.Ytkbkndfonccekaa
open Go.RowKit Go.Proofs.YtkbkndfonccekaaW.PrintWords Go.Proofs.Ytkbkndfonccekaa.PF
set_option maxRecDepth 100000
theorem blank_some (e : Jn) : Wu.f e.f0 e.f1 e.f2 e.f3.f0 e.f3.f1 e.f3.f2 e.f4 e.f5 e.f6 e.f7 = some (noneB e) := none_some e
def ShapeC (g : Vp → Option Int) : Prop := ∀ (t : Vp) (A1 : Option Addr) (c1 : Nat) (A2 : Option Addr) (c2 : Nat) (W : World) (r : Int), Kd.C k27 W A1 t.f1.f7.length t.f1.f7 → t.f1.f7.length ≤ c1 → Kd.C k30 W A2 t.f4.length t.f4 → g t = some r →
  Calls Try.prog 16 #[.agg (tmC t A1 c1 A2 c2)] W fun e w' => e = .returned (.int .i64 r) ∧ Is W w'
theorem nodeE_bad {op lo hi : Int} {e : Jn} {kids : List Vp} (h : ¬ (op < 0 ∨ 4 < op)) (hb : (!((kids.length : Int) == kidsN op kids.length) || (op != 0 && !noneB e)) = true) : Jh ⟨op, e, lo, hi, kids⟩ = 4 := by
  unfold Jh
  rw [if_neg h, if_pos]
  simp only [Bool.or_eq_true, Bool.not_eq_true', beq_eq_false_iff_ne, Bool.and_eq_true, bne_iff_ne] at hb
  rcases hb with hb | hb
  · exact .inl hb
  · exact .inr (.inl hb)
def NodeR (op lo hi : Int) (e : Jn) (kids : List Vp) : Prop := Jh ⟨op, e, lo, hi, kids⟩ =
    if ranged op = false ∧ (lo ≠ 0 ∨ hi ≠ 0) then 4 else if ranged op = true ∧ (lo < 0 ∨ 16 < lo ∨ hi < -1 ∨ 16 < hi ∨ (op = 4 ∧ lo < 1)) then 2 else if 0 ≤ hi ∧ hi < lo then 5 else 0
section
variable {op lo hi : Int} {e : Jn} {kids : List Vp}
theorem nodeE_n4 (h : NodeR op lo hi e kids) (hg : ranged op = false) (k : lo ≠ 0 ∨ hi ≠ 0) : Jh ⟨op, e, lo, hi, kids⟩ = 4 := by
  rw [h, if_pos ⟨hg, k⟩]
theorem nodeE_n0 (h : NodeR op lo hi e kids) (hg : ranged op = false) (k : lo = 0) (k2 : hi = 0) : Jh ⟨op, e, lo, hi, kids⟩ = 0 := by
  rw [h, if_neg (by omega), if_neg (by rw [hg]; simp), if_neg (by omega)]
theorem nodeE_r2 (h : NodeR op lo hi e kids) (hg : ranged op = true) (k : lo < 0 ∨ 16 < lo ∨ hi < -1 ∨ 16 < hi ∨ (op = 4 ∧ lo < 1)) : Jh ⟨op, e, lo, hi, kids⟩ = 2 := by
  rw [h, if_neg (by rw [hg]; simp), if_pos ⟨hg, k⟩]
theorem nodeE_r5 (h : NodeR op lo hi e kids) (hg : ranged op = true) (k : ¬ (lo < 0 ∨ 16 < lo ∨ hi < -1 ∨ 16 < hi ∨ (op = 4 ∧ lo < 1))) (k2 : 0 ≤ hi ∧ hi < lo) : Jh ⟨op, e, lo, hi, kids⟩ = 5 := by
  rw [h, if_neg (by rw [hg]; simp), if_neg (fun x => k x.2), if_pos k2]
theorem nodeE_r0 (h : NodeR op lo hi e kids) (hg : ranged op = true) (k : ¬ (lo < 0 ∨ 16 < lo ∨ hi < -1 ∨ 16 < hi ∨ (op = 4 ∧ lo < 1))) (k2 : ¬ (0 ≤ hi ∧ hi < lo)) : Jh ⟨op, e, lo, hi, kids⟩ = 0 := by
  rw [h, if_neg (by rw [hg]; simp), if_neg (fun x => k x.2), if_neg k2]
end
theorem nodeE_fit {op lo hi : Int} {e : Jn} {kids : List Vp} (h : ¬ (op < 0 ∨ 4 < op)) (hb : (!((kids.length : Int) == kidsN op kids.length) || (op != 0 && !noneB e)) = false) : NodeR op lo hi e kids := by
  simp only [Bool.or_eq_false_iff, Bool.not_eq_false', beq_iff_eq, Bool.and_eq_false_iff, bne_eq_false_iff_eq] at hb
  unfold NodeR Jh
  rw [if_neg h]
  by_cases c : ranged op = false ∧ (lo ≠ 0 ∨ hi ≠ 0)
  · rw [if_pos (.inr (.inr c)), if_pos c]
  · rw [if_neg, if_neg c]
    rintro (h1 | h1 | h1)
    · exact h1 hb.1
    · rcases hb.2 with h2 | h2
      · exact h1.1 h2
      · rw [h2] at h1; exact absurd h1.2 (by decide)
    · exact c h1
set_option maxHeartbeats 16000000 in
theorem shape_walk (g : Vp → Option Int) (HG : ShapeC g) (op lo hi : Int) (e : Jn) (kids : List Vp) (A1 : Option Addr) (c1 : Nat) (A2 : Option Addr) (c2 : Nat) (W : World) (r : Int) (h1 : Kd.C k27 W A1 e.f7.length e.f7) (hl1 : e.f7.length ≤ c1) (h2 : Kd.C k30 W A2 kids.length kids)
    (hr : (if Jh ⟨op, e, lo, hi, kids⟩ = 0 then Jv g kids else some (Jh ⟨op, e, lo, hi, kids⟩)) = some r) :
    Calls Try.prog 16 #[.agg #[.int .i64 op, .int .i64 e.f0, .int .i64 e.f1, .bool e.f2, .int .i64 e.f3.f0, .int .u64 e.f3.f1, .int .u64 e.f3.f2, .int .i64 e.f4, .bool e.f5, .int .i64 e.f6, .slice A1 e.f7.length c1, .int .i64 lo, .int .i64 hi, .slice A2 kids.length c2]] W fun e w' => e = .returned (.int .i64 r) ∧ Is W w' := by
  have hu := Try.underlying30
  have huE := Try.underlying27
  have hm := (kd_len h2).2
  obtain ⟨W1, hW1⟩ : ∃ W1, W.alloc (.cells #[.int .i64 op, .int .i64 e.f0, .int .i64 e.f1, .bool e.f2, .int .i64 e.f3.f0, .int .u64 e.f3.f1, .int .u64 e.f3.f2, .int .i64 e.f4, .bool e.f5, .int .i64 e.f6, .slice A1 e.f7.length c1, .int .i64 lo, .int .i64 hi, .slice A2 kids.length c2] 30) = W1 := ⟨_, rfl⟩
  have hB : W1.heap[W.heap.size]? = some (.cells #[.int .i64 op, .int .i64 e.f0, .int .i64 e.f1, .bool e.f2, .int .i64 e.f3.f0, .int .u64 e.f3.f1, .int .u64 e.f3.f2, .int .i64 e.f4, .bool e.f5, .int .i64 e.f6, .slice A1 e.f7.length c1, .int .i64 lo, .int .i64 hi, .slice A2 kids.length c2] 30 (0, 0)) := by rw [← hW1]; exact heap_alloc_new W _
  have hs1 : W1.heap.size = W.heap.size + 1 := by rw [← hW1]; simp
  have hI1 : Is W W1 := hW1 ▸ (Is.refl W).alloc _
  have hBh := Lib.hid hB
  have y0 := (cell_of_row W1 W.heap.size 0 _ _ _ hB).trans rfl
  have y1 := (cell_of_row W1 W.heap.size 1 _ _ _ hB).trans rfl
  have y2 := (cell_of_row W1 W.heap.size 2 _ _ _ hB).trans rfl
  have y3 := (cell_of_row W1 W.heap.size 3 _ _ _ hB).trans rfl
  have y4 := (cell_of_row W1 W.heap.size 4 _ _ _ hB).trans rfl
  have y5 := (cell_of_row W1 W.heap.size 5 _ _ _ hB).trans rfl
  have y6 := (cell_of_row W1 W.heap.size 6 _ _ _ hB).trans rfl
  have y7 := (cell_of_row W1 W.heap.size 7 _ _ _ hB).trans rfl
  have y8 := (cell_of_row W1 W.heap.size 8 _ _ _ hB).trans rfl
  have y9 := (cell_of_row W1 W.heap.size 9 _ _ _ hB).trans rfl
  have y10 := (cell_of_row W1 W.heap.size 10 _ _ _ hB).trans rfl
  have y11 := (cell_of_row W1 W.heap.size 11 _ _ _ hB).trans rfl
  have y12 := (cell_of_row W1 W.heap.size 12 _ _ _ hB).trans rfl
  have y13 := (cell_of_row W1 W.heap.size 13 _ _ _ hB).trans rfl
  simp at y0 y1 y2 y3 y4 y5 y6 y7 y8 y9 y10 y11 y12 y13
  have hlt : W.heap.size < W1.heap.size := by omega
  have hle : W.heap.size ≤ W1.heap.size := by omega
  have hnb := Lib.hid (blank_some e)
  have hHG := Lib.hid HG
  have hI1h := Lib.hid hI1
  have hrh := Lib.hid hr
  have h1h := Lib.hid (Ju h1 hI1)
  have h2h := Lib.hid h2
  clear hB hI1 HG hr hs1 h1 h2
  go_enter Try.func16, Try.ntmps16
  by_cases hop : op < 0 ∨ 4 < op
  · have hE : Hid (Jh ⟨op, e, lo, hi, kids⟩ = 8) := Lib.hid (by unfold Jh; rw [if_pos hop])
    rcases hop with hop | hop
    all_goals
      go_wp2
      go_ret
      refine ⟨Ws ?_, hI1h.out⟩
      have hr := hrh.out
      rw [hE.out, if_neg (by decide)] at hr
      exact Option.some.inj hr
  · have q1 : ¬ op < 0 := fun h => hop (.inl h)
    have q2 : ¬ 4 < op := fun h => hop (.inr h)
    have h3 : Hid (op = 0 ∨ op = 1 ∨ op = 2 ∨ op = 3 ∨ op = 4) := Lib.hid (by omega)
    have hoph := Lib.hid hop
    clear hop
    obtain ⟨kk, hkk⟩ : ∃ kk, ((kids.length : Int) == kidsN op kids.length) = kk := ⟨_, rfl⟩
    obtain ⟨rg, hrg⟩ : ∃ rg, ranged op = rg := ⟨_, rfl⟩
    obtain ⟨bb, hbb⟩ : ∃ bb, (!kk || (op != 0 && !noneB e)) = bb := ⟨_, rfl⟩
    obtain ⟨p4, hp4⟩ : ∃ b, (lo != 0) = b := ⟨_, rfl⟩
    obtain ⟨p5, hp5⟩ : ∃ b, (hi != 0) = b := ⟨_, rfl⟩
    obtain ⟨pm, hpm⟩ : ∃ b, (hi != -1) = b := ⟨_, rfl⟩
    have hkkh := Lib.hid hkk
    have hp4h := Lib.hid hp4
    have hp5h := Lib.hid hp5
    have hpmh := Lib.hid hpm
    have hrgh := Lib.hid hrg
    have hbbh := Lib.hid hbb
    clear hkk hrg hbb
    go_upto_region 4 with (fail)
    go_cut [4] from 20 to 34 (fun s wc => s = .bool kk ∧ ∃ y : Under W1, wc = y.val)
    case first =>
      rcases h3.out with rfl | rfl | rfl | rfl | rfl
      all_goals
        go_wp2
        go_meet
        case rel => exact ⟨congrArg Value.bool (by rw [← hkkh.out]; first | rfl | (rw [Bool.eq_iff_iff]; simp [kidsN]; omega)), (Under.refl _).alloc _, rfl⟩
    case rest =>
      obtain ⟨rfl, y, rfl⟩ := hcut
      have hsz : W.heap.size < y.val.heap.size := y.lt _ hlt
      go_upto_region 5 with (fail)
      go_cut [47] from 35 to 46 (fun s wc => s = .bool bb ∧ ∃ y : Under W1, wc = y.val)
      case first =>
        cases kk with
        | false =>
          go_wp2
          go_meet
          case rel => exact ⟨congrArg Value.bool (by rw [← hbbh.out]; rfl), y, rfl⟩
        | true =>
          by_cases h0 : op = 0
          · subst h0
            go_wp2
            go_meet
            case rel => exact ⟨congrArg Value.bool (by rw [← hbbh.out]; rfl), y, rfl⟩
          · have q3 : (op != 0) = true := by simpa using h0
            go_wp2_with (go_at_call 26; refine (Wu.calls _ _ _ _ _ _ _ _ _ A1 _ e.f7 (noneB e) _ (Ju h1h.out (Is.val y)) hl1 hnb.out).mono ?_; rintro e2 w2 ⟨rfl, hIs⟩; obtain ⟨x2, rfl⟩ := Is.of hIs)
            all_goals
              go_meet
              case rel => exact ⟨congrArg Value.bool (by rw [← hbbh.out]; simp [*]), y.trans x2, rfl⟩
      case rest =>
        clear hsz
        obtain ⟨rfl, y, rfl⟩ := hcut
        have hsz : W.heap.size < y.val.heap.size := y.lt _ hlt
        cases bb with
        | true =>
          have hE : Hid (Jh ⟨op, e, lo, hi, kids⟩ = 4) := Lib.hid (nodeE_bad hoph.out (hkkh.out ▸ hbbh.out))
          go_wp2
          go_ret
          refine ⟨Ws ?_, hI1h.out.step y⟩
          have hr := hrh.out
          rw [hE.out, if_neg (by decide)] at hr
          exact Option.some.inj hr
        | false =>
          have hE := Lib.hid (nodeE_fit (lo := lo) (hi := hi) hoph.out (hkkh.out ▸ hbbh.out))
          go_upto_region 7 with (fail)
          go_cut [55] from 48 to 54 (fun s wc => s = .bool (!rg) ∧ wc = y.val)
          case first =>
            by_cases h1 : op = 1
            · subst h1
              go_wp2
              go_meet
              case rel => exact ⟨by rw [← hrgh.out]; rfl, rfl⟩
            · have q3 : (op != 1) = true := by simpa using h1
              have q5 := Lib.hid h1
              clear h1
              by_cases h4 : op = 4
              · subst h4
                go_wp2
                go_meet
                case rel => exact ⟨by rw [← hrgh.out]; rfl, rfl⟩
              · have q4 : (op != 4) = true := by simpa using h4
                have q6 := Lib.hid h4
                clear h4
                go_wp2
                go_meet
                case rel => exact ⟨by rw [← hrgh.out, ranged, decide_eq_false q5.out, decide_eq_false q6.out]; rfl, rfl⟩
          case rest =>
            obtain ⟨rfl, hwc⟩ := hcut
            rw [hwc]
            clear hwc
            go_upto_if 55 with (fail)
            go_cut [5] from 56 to 95 (fun _ wc => wc = y.val ∧ Aside (Jh ⟨op, e, lo, hi, kids⟩ = 0))
            case first =>
              cases rg with
              | false =>
                have k4 := hp4h.out
                have k5 := hp5h.out
                cases p4 with
                | true =>
                  have hv := Lib.hid (nodeE_n4 hE.out hrgh.out (.inl (by simpa using hp4h.out)))
                  go_wp2
                  go_ret
                  refine ⟨Ws ?_, hI1h.out.step y⟩
                  have hr := hrh.out
                  rw [hv.out, if_neg (by decide)] at hr
                  exact Option.some.inj hr
                | false =>
                  cases p5 with
                  | true =>
                    have hv := Lib.hid (nodeE_n4 hE.out hrgh.out (.inr (by simpa using hp5h.out)))
                    go_wp2
                    go_ret
                    refine ⟨Ws ?_, hI1h.out.step y⟩
                    have hr := hrh.out
                    rw [hv.out, if_neg (by decide)] at hr
                    exact Option.some.inj hr
                  | false =>
                    have hv := Lib.hid (nodeE_n0 hE.out hrgh.out (by simpa using hp4h.out) (by simpa using hp5h.out))
                    go_wp2
                    go_meet
                    case rel => exact ⟨rfl, hv.out⟩
              | true =>
                have h14 : Hid (op = 1 ∨ op = 4) := Lib.hid (by simpa [ranged] using hrgh.out)
                have km := hpmh.out
                rcases h14.out with rfl | rfl
                all_goals
                  cases pm with
                  | true =>
                    have hm1 : Hid (¬ hi = -1) := Lib.hid (by simpa using hpmh.out)
                    go_wp2
                    all_goals first
                      | (go_meet
                         case rel => exact ⟨rfl, nodeE_r0 hE.out hrgh.out (by have := hm1.out; omega) (by have := hm1.out; omega)⟩)
                      | (go_ret
                         refine ⟨Ws ?_, hI1h.out.step y⟩
                         have hr := hrh.out
                         rw [nodeE_r2 hE.out hrgh.out (by omega), if_neg (by decide)] at hr
                         exact Option.some.inj hr)
                      | (go_ret
                         refine ⟨Ws ?_, hI1h.out.step y⟩
                         have hr := hrh.out
                         rw [nodeE_r5 hE.out hrgh.out (by omega) (by have := hm1.out; omega), if_neg (by decide)] at hr
                         exact Option.some.inj hr)
                  | false =>
                    have hm1 : Hid (hi = -1) := Lib.hid (by simpa using hpmh.out)
                    go_wp2
                    all_goals first
                      | (go_meet
                         case rel => exact ⟨rfl, nodeE_r0 hE.out hrgh.out (by have := hm1.out; omega) (by have := hm1.out; omega)⟩)
                      | (go_ret
                         refine ⟨Ws ?_, hI1h.out.step y⟩
                         have hr := hrh.out
                         rw [nodeE_r2 hE.out hrgh.out (by omega), if_neg (by decide)] at hr
                         exact Option.some.inj hr)
            case rest =>
              obtain ⟨hwc, hn0⟩ := hcut
              rw [hwc]
              clear hwc
              have hr := hrh.out
              rw [hn0.out, if_pos rfl] at hr
              have hIy : Is W y.val := hI1h.out.step y
              have h2 := h2h.out
              have hlm : W.heap.size < y.val.heap.size := hsz
              have z13 : y.val.cell? ⟨W.heap.size, 13, none⟩ = some (.slice A2 kids.length c2) := by rw [← y13]; exact y.ok.cell hlt
              clear y0 y1 y2 y3 y4 y5 y6 y7 y8 y9 y10 y11 y12 y13 hE hn0 hrh hnb
              have hIyh := Lib.hid hIy
              have hrh := Lib.hid hr
              clear hr hIy
              go_wp2
              go_loopg [7, 8, 99] kids.length (fun d _ _ t wr => ∃ (i : Nat) (z : Under y.val), t = .int .i64 i ∧ wr = z.val ∧ Aside (i + d = kids.length ∧ Jv g (kids.drop i) = some r))
              case atStart => exact ⟨0, Under.refl _, rfl, rfl, ⟨by omega, hrh.out⟩⟩
              case round =>
                obtain ⟨i, z, rfl, rfl, hi⟩ := hrel
                by_cases hlt : i < kids.length
                · obtain ⟨gk, rfl⟩ : ∃ m, gk = m + 1 := ⟨gk - 1, by have := hi.out.1; omega⟩
                  obtain ⟨x, hx⟩ := get_ex hlt
                  have hf := hi.out.2
                  rw [drop_cons hx, Jv] at hf
                  obtain ⟨v, hgx, hf⟩ := Option.bind_eq_some_iff.1 hf
                  obtain ⟨bb, ob, B1, e1, B2, e2, rfl, hbb, hle1, hC1, hle2, hC2, hcs⟩ := kd_temp (Ju h2 (hIyh.out.step z)) hx
                  have q0 := hcs 0 _ rfl
                  have q1 := hcs 1 _ rfl
                  have q2 := hcs 2 _ rfl
                  have q3 := hcs 3 _ rfl
                  have q4 := hcs 4 _ rfl
                  have q5 := hcs 5 _ rfl
                  have q6 := hcs 6 _ rfl
                  have q7 := hcs 7 _ rfl
                  have q8 := hcs 8 _ rfl
                  have q9 := hcs 9 _ rfl
                  have q10 := hcs 10 _ rfl
                  have q11 := hcs 11 _ rfl
                  have q12 := hcs 12 _ rfl
                  have q13 := hcs 13 _ rfl
                  simp only [Nat.add_zero] at q0
                  have n2 : bb ≠ z.val.heap.size := by omega
                  have hih := Lib.hid hi.out.1
                  have hgxh := Lib.hid hgx
                  have hle1h := Lib.hid hle1
                  have hfh := Lib.hid hf
                  have hw1 : Is z.val (z.val.alloc (.cells (tmC x B1 e1 B2 e2) 30)) := (Is.refl _).alloc _
                  clear hcs hx hi hf hgx hle1 hle2
                  by_cases hv : v = 0
                  · subst hv
                    go_wp2_with (go_at_call 16; refine (hHG.out x B1 e1 B2 e2 _ 0 (Ju hC1 hw1) hle1h.out (Ju hC2 hw1) hgxh.out).mono ?_; rintro e3 w2 ⟨rfl, hIs⟩; obtain ⟨x2, rfl⟩ := hIs)
                    go_roundg gk
                    case measure => have := hih.out; omega
                    case rel => exact ⟨i + 1, (z.alloc _).trans x2, by go_num, rfl, ⟨by have := hih.out; omega, by have := hfh.out; simpa using this⟩⟩
                  · have q : (v != 0) = true := by simpa using hv
                    have hvh := Lib.hid hv
                    clear hv
                    go_wp2_with (go_at_call 16; refine (hHG.out x B1 e1 B2 e2 _ v (Ju hC1 hw1) hle1h.out (Ju hC2 hw1) hgxh.out).mono ?_; rintro e3 w2 ⟨rfl, hIs⟩; obtain ⟨x2, rfl⟩ := hIs)
                    go_ret
                    refine ⟨Ws ?_, ((hIyh.out.step z).alloc _).step x2⟩
                    have := hfh.out
                    rw [if_neg hvh.out] at this
                    exact Option.some.inj this
                · obtain rfl : i = kids.length := by have := hi.out.1; omega
                  have hf := hi.out.2
                  rw [drop_end, Jv] at hf
                  obtain rfl := Option.some.inj hf
                  clear hi hf
                  go_wp2
                  go_ret
                  exact ⟨rfl, hIyh.out.step z⟩
theorem shape_all : ∀ k, ShapeC (Qx k)
  | 0 => fun t _ _ _ _ _ _ _ _ _ h => by cases h
  | k + 1 => fun t A1 c1 A2 c2 W r h1 hl h2 h => by
    rw [Qx] at h
    split at h
    · exact shape_walk (Qx k) (shape_all k) t.f0 t.f2 t.f3 t.f1 t.f4 A1 c1 A2 c2 W r h1 hl h2 h
    · cases h
end Go.Proofs.Ytkbkndfonccekaa
namespace Go.Proofs.Ytkbkndfonccekaa.PF
open Go.RowKit Go.Proofs.YtkbkndfonccekaaW.PrintWords Go.Proofs.YtkbkndfonccekaaW.PrintLast Go.Proofs.YtkbkndfonccekaaW.PrintMore
attribute [local go_sem] Qn Qp Kq Kt
set_option linter.unusedVariables false
set_option linter.unusedSimpArgs false
def Qj.f (k : Nat) (J7 : Int) (Je : Int) (Jj : Int) (Ja : Bool) (J9 : Int) (J8 : Int) (Jd : Int) (Jg : Int) (Jb : Bool) (Jq : Int) (Jf : List (Qh)) (Jo : Int) (Jk : Int) (J0 : List (Vd)) : Option (Int) := Qx k ⟨J7, ⟨Je, Jj, Ja, ⟨J9, J8, Jd⟩, Jg, Jb, Jq, Jf⟩, Jo, Jk, J0⟩
theorem Qj.calls (k : Nat) (J7 : Int) (Je : Int) (Jj : Int) (Ja : Bool) (J9 : Int) (J8 : Int) (Jd : Int) (Jg : Int) (Jb : Bool) (Jq : Int) (A0_10 : Option Addr) (c0_10 : Nat) (Jf : List (Qh)) (Jo : Int) (Jk : Int) (A0_13 : Option Addr) (c0_13 : Nat) (J0 : List (Vd)) (r : Int) (w : World) (hr0_10 : Kd.C k27 w A0_10 Jf.length Jf) (hc0_10 : Jf.length ≤ c0_10) (hr0_13 : Kd.C k30 w A0_13 J0.length J0) (hc0_13 : J0.length ≤ c0_13) (h : Qj.f k J7 Je Jj Ja J9 J8 Jd Jg Jb Jq Jf Jo Jk J0 = some r) :
 Calls Try.prog 16 #[.agg #[.int .i64 J7, .int .i64 Je, .int .i64 Jj, .bool Ja, .int .i64 J9, .int .u64 J8, .int .u64 Jd, .int .i64 Jg, .bool Jb, .int .i64 Jq, .slice A0_10 Jf.length c0_10, .int .i64 Jo, .int .i64 Jk, .slice A0_13 J0.length c0_13]] w fun e w' => e = .returned (.int .i64 r) ∧ Below w.heap.size w w' := by
 exact (shape_all k _ A0_10 c0_10 A0_13 c0_13 w r hr0_10 hc0_10 hr0_13 h).mono fun e w' ⟨he, hw⟩ => ⟨he, hw.below⟩
end Go.Proofs.Ytkbkndfonccekaa.PF
namespace Go.Proofs.Ytkbkndfonccekaa
open Go.RowKit Go.Proofs.YtkbkndfonccekaaW.PrintWords Go.Proofs.Ytkbkndfonccekaa.PF
set_option maxRecDepth 100000
def Sm : Nat → Vp → Prop
  | 0, _ => False
  | d + 1, t => t.f4.length ≤ 48 ∧ ∀ x ∈ t.f4, Sm d x
theorem sum_len {α : Type} {f : α → Int} (h : ∀ x, 1 ≤ f x) : ∀ l : List α, (l.length : Int) ≤ (l.map f).sum
  | [] => by simp
  | x :: l => by
    have := sum_len h l
    have := h x
    simp only [List.map_cons, List.sum_cons, List.length_cons]
    omega
theorem sum_mem {α : Type} {f : α → Int} (h : ∀ x, 0 ≤ f x) : ∀ (l : List α) (x : α), x ∈ l → f x ≤ (l.map f).sum
  | y :: l, x, hx => by
    have h1 := sum_pos h l
    have h2 := h y
    simp only [List.map_cons, List.sum_cons]
    rcases List.mem_cons.1 hx with rfl | hx
    · omega
    · have := sum_mem h l x hx
      omega
theorem sm_of : ∀ d t, Sh d t → nN d t ≤ 48 → Sm d t
  | 0, _, h, _ => h
  | d + 1, t, h, hn => by
    rw [nN] at hn
    have := sum_len (fun x => nN_pos d x) t.f4
    refine ⟨by omega, fun x hx => sm_of d x (h x hx) ?_⟩
    have := sum_mem (f := nN d) (fun x => by have := nN_pos d x; omega) t.f4 x hx
    omega
def ExOk : Nat → Jn → Prop
  | 0, _ => False
  | j + 1, e => e.f7.length ≤ 1466015503701 ∧ ∀ x ∈ e.f7, ExOk j x
def TmOk : Nat → Vp → Prop
  | 0, _ => False
  | m + 1, t => (-9223372036854775808 ≤ t.f0 ∧ t.f0 ≤ 9223372036854775807) ∧ (∃ j, ExOk j t.f1) ∧ ∀ x ∈ t.f4, TmOk m x
theorem eta27 (e : Jn) : (⟨e.f0, e.f1, e.f2, ⟨e.f3.f0, e.f3.f1, e.f3.f2⟩, e.f4, e.f5, e.f6, e.f7⟩ : Jn) = e := by cases e; rfl
theorem eta30 (t : Vp) : (⟨t.f0, ⟨t.f1.f0, t.f1.f1, t.f1.f2, ⟨t.f1.f3.f0, t.f1.f3.f1, t.f1.f3.f2⟩, t.f1.f4, t.f1.f5, t.f1.f6, t.f1.f7⟩, t.f2, t.f3, t.f4⟩ : Vp) = t := by
  rw [eta27]
  cases t
  rfl
def Qm : Nat → Vp → List Jn
  | 0, _ => []
  | d + 1, t => if t.f0 = 0 then [t.f1] else (t.f4.map (Qm d)).flatten
theorem shape_at (k : Nat) (t : Vp) : Vm (Qj.f k) t = Qx k t := by
  simp only [Vm]
  unfold Qj.f
  rw [eta30]
theorem shape_mono (k : Nat) (t : Vp) : Xo (Vm (Qj.f k) t) (Vm (Qj.f (k + 1)) t) := by
  rw [shape_at, shape_at]
  exact formedF_le k t
theorem first_ex (g : Vp → Option Int) : ∀ l : List Vp, (∀ x ∈ l, ∃ v, g x = some v) → ∃ v, Jv g l = some v
  | [], _ => ⟨0, rfl⟩
  | x :: r, H => by
    obtain ⟨v, hv⟩ := H x List.mem_cons_self
    obtain ⟨v', hv'⟩ := first_ex g r (fun y hy => H y (List.mem_cons_of_mem _ hy))
    rw [Jv, hv, Option.bind_some]
    split
    · exact ⟨v', hv'⟩
    · exact ⟨v, rfl⟩
theorem shape_ex : ∀ (d m : Nat) (t : Vp), Sm d t → TmOk m t → ∃ v, Qx d t = some v ∧ ∃ k, Vm (Qj.f k) t = some v
  | 0, _, _, h, _ => h.elim
  | _ + 1, 0, _, _, h => h.elim
  | d + 1, m + 1, t, h, ht => by
    have key : ∃ v, Qx (d + 1) t = some v := by
      obtain ⟨v, hv⟩ := first_ex (Qx d) t.f4 (fun x hx => by obtain ⟨v, hv, _⟩ := shape_ex d m x (h.2 x hx) (ht.2.2 x hx); exact ⟨v, hv⟩)
      rw [Qx, if_pos ht.1]
      split
      · exact ⟨v, hv⟩
      · exact ⟨_, rfl⟩
    obtain ⟨v, hv⟩ := key
    exact ⟨v, hv, d + 1, by rw [shape_at]; exact hv⟩
end Go.Proofs.Ytkbkndfonccekaa
