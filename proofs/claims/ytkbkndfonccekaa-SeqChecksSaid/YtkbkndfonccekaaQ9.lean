/- Joined by this session's own program out of its texts: PFx19 PFx20. -/
import Derived.Test.YtkbkndfonccekaaQ1
import Derived.Test.YtkbkndfonccekaaQ6
import Derived.Test.YtkbkndfonccekaaQ5
import Derived.Test.YtkbkndfonccekaaQ7
import Derived.Test.YtkbkndfonccekaaQ8
namespace Go.Proofs.Ytkbkndfonccekaa.PF
open Go.RowKit Go.Proofs.YtkbkndfonccekaaW.PrintWords Go.Proofs.YtkbkndfonccekaaW.PrintLast Go.Proofs.YtkbkndfonccekaaW.PrintMore
attribute [local go_sem] Qn Qp Kq Kt
set_option linter.unusedVariables false
set_option linter.unusedSimpArgs false
def Qa.j0 : Nat → List (List Bool) → Int → Bool → Int → Int → Int → Bool → Int → Int → Int → Int → Bool → Int → List (Qh) → Int → Int → List (Vd) → Option (List Int × Int)
  | 0, _, _, _, _, _, _, _, _, _, _, _, _, _, _, _, _, _ => none
  | k + 1, x1, x2, x30, x224000, x224001, x224002, x224003, x224004, x224005, x224006, x224007, x224008, x224009, x224010, x224011, x224012, x224013 => if x30 = true then (none) else ((Vw.f k x224000 x224001 x224002 x224003 x224004 x224005 x224006 x224007 x224008 x224009 x224010 x224011 x224012 x224013 x1 x2).bind fun t229 => ((Qg.f k t229).bind fun t232 => (some (t232, 0))))
def Qa.f (k : Nat) (Jl : Int) (Ji : Int) (Jh : Int) (Jg : Bool) (Jf : Int) (Je : Int) (Jd : Int) (Jc : Int) (Jb : Bool) (Ja : Int) (J4 : List (Qh)) (J7 : Int) (J6 : Int) (J3 : List (Vd)) (l1 : List (List Bool)) (a2 : Int) : Option (List Int × Int) := (Zz.f k Jl Ji Jh Jg Jf Je Jd Jc Jb Ja J4 J7 J6 J3).bind fun t224 => (if t224 = 0 then ((Zv.f k Jl Ji Jh Jg Jf Je Jd Jc Jb Ja J4 J7 J6 J3).bind fun t225 => ((Xy.f k l1 (t225.length : Int)).bind fun t228 => (if t228 = 0 then (if a2 < 0 then (Qa.j0 k l1 a2 true Jl Ji Jh Jg Jf Je Jd Jc Jb Ja J4 J7 J6 J3) else (Qa.j0 k l1 a2 (decide (a2 > (l1.length : Int))) Jl Ji Jh Jg Jf Je Jd Jc Jb Ja J4 J7 J6 J3)) else (some (([] : List Int), t228))))) else (some (([] : List Int), t224)))
theorem Qa.mono_l : ∀ k, (∀ y0 y1 y2 y3 y4 y5 y6 y7 y8 y9 y10 y11 y12 y13 y14 y15 y16, Xo (Qa.j0 k y0 y1 y2 y3 y4 y5 y6 y7 y8 y9 y10 y11 y12 y13 y14 y15 y16) (Qa.j0 (k + 1) y0 y1 y2 y3 y4 y5 y6 y7 y8 y9 y10 y11 y12 y13 y14 y15 y16))
  | 0 => fun _ _ _ _ _ _ _ _ _ _ _ _ _ _ _ _ _ r h => by simp [Qa.j0] at h
  | k + 1 => by
    have ih0 := Qa.mono_l k
    · intro y0 y1 y2 y3 y4 y5 y6 y7 y8 y9 y10 y11 y12 y13 y14 y15 y16
      unfold Qa.j0
      repeat' first
      | (with_reducible exact ih0 _ _ _ _ _ _ _ _ _ _ _ _ _ _ _ _ _)
      | (with_reducible exact Zz.mono _ _ _ _ _ _ _ _ _ _ _ _ _ _ _)
      | (with_reducible exact Zv.mono _ _ _ _ _ _ _ _ _ _ _ _ _ _ _)
      | (with_reducible exact Qg.mono _ _)
      | (with_reducible exact Vw.mono _ _ _ _ _ _ _ _ _ _ _ _ _ _ _ _ _)
      | (with_reducible exact Xy.mono _ _ _)
      | (with_reducible exact Xo.refl _)
      | (with_reducible exact Xo.none _)
      | (with_reducible refine Xo.ite ?_ ?_)
      | (with_reducible refine Xo.bind ?_ (fun _ => ?_))
      | exact ih0 _ _ _ _ _ _ _ _ _ _ _ _ _ _ _ _ _
      | exact Zz.mono _ _ _ _ _ _ _ _ _ _ _ _ _ _ _
      | exact Zv.mono _ _ _ _ _ _ _ _ _ _ _ _ _ _ _
      | exact Qg.mono _ _
      | exact Vw.mono _ _ _ _ _ _ _ _ _ _ _ _ _ _ _ _ _
      | exact Xy.mono _ _ _
      | exact Xo.none _
      | refine Xo.ite ?_ ?_
      | refine Xo.bind ?_ (fun _ => ?_)
theorem Qa.mono : ∀ a0 a1 a2 a3 a4 a5 a6 a7 a8 a9 a10 a11 a12 a13 a14 a15 k, Xo (Qa.f k a0 a1 a2 a3 a4 a5 a6 a7 a8 a9 a10 a11 a12 a13 a14 a15) (Qa.f (k + 1) a0 a1 a2 a3 a4 a5 a6 a7 a8 a9 a10 a11 a12 a13 a14 a15) := by
  intro a0 a1 a2 a3 a4 a5 a6 a7 a8 a9 a10 a11 a12 a13 a14 a15 k
  have ih0 := Qa.mono_l k
  unfold Qa.f
  repeat' first
      | (with_reducible exact ih0 _ _ _ _ _ _ _ _ _ _ _ _ _ _ _ _ _)
      | (with_reducible exact Zz.mono _ _ _ _ _ _ _ _ _ _ _ _ _ _ _)
      | (with_reducible exact Zv.mono _ _ _ _ _ _ _ _ _ _ _ _ _ _ _)
      | (with_reducible exact Qg.mono _ _)
      | (with_reducible exact Vw.mono _ _ _ _ _ _ _ _ _ _ _ _ _ _ _ _ _)
      | (with_reducible exact Xy.mono _ _ _)
      | (with_reducible exact Xo.refl _)
      | (with_reducible exact Xo.none _)
      | (with_reducible refine Xo.ite ?_ ?_)
      | (with_reducible refine Xo.bind ?_ (fun _ => ?_))
      | exact ih0 _ _ _ _ _ _ _ _ _ _ _ _ _ _ _ _ _
      | exact Zz.mono _ _ _ _ _ _ _ _ _ _ _ _ _ _ _
      | exact Zv.mono _ _ _ _ _ _ _ _ _ _ _ _ _ _ _
      | exact Qg.mono _ _
      | exact Vw.mono _ _ _ _ _ _ _ _ _ _ _ _ _ _ _ _ _
      | exact Xy.mono _ _ _
      | exact Xo.none _
      | refine Xo.ite ?_ ?_
      | refine Xo.bind ?_ (fun _ => ?_)
set_option maxHeartbeats 8000000 in
set_option maxRecDepth 100000 in
theorem Qa.calls (k : Nat) (Jl : Int) (Ji : Int) (Jh : Int) (Jg : Bool) (Jf : Int) (Je : Int) (Jd : Int) (Jc : Int) (Jb : Bool) (Ja : Int) (A0_10 : Option Addr) (c0_10 : Nat) (J4 : List (Qh)) (J7 : Int) (J6 : Int) (A0_13 : Option Addr) (c0_13 : Nat) (J3 : List (Vd)) (A1 : Option Addr) (c1 : Nat) (l1 : List (List Bool)) (a2 : Int) (r1 : List Int) (r2 : Int) (w : World) (hr0_10 : Kd.C k27 w A0_10 J4.length J4) (hc0_10 : J4.length ≤ c0_10) (hr0_13 : Kd.C k30 w A0_13 J3.length J3) (hc0_13 : J3.length ≤ c0_13) (hr1 : Kd.C (Kd.slice 4 Kd.bool) w A1 l1.length l1) (hc1 : l1.length ≤ c1) (h : Qa.f k Jl Ji Jh Jg Jf Je Jd Jc Jb Ja J4 J7 J6 J3 l1 a2 = some (r1, r2)) :
 Calls Try.prog 20 #[.agg #[.int .i64 Jl, .int .i64 Ji, .int .i64 Jh, .bool Jg, .int .i64 Jf, .int .u64 Je, .int .u64 Jd, .int .i64 Jc, .bool Jb, .int .i64 Ja, .slice A0_10 J4.length c0_10, .int .i64 J7, .int .i64 J6, .slice A0_13 J3.length c0_13], .slice A1 l1.length c1, .int .i64 a2] w fun e w' => ∃ v0_ : Value, e = .returned (.tuple #[v0_, .int .i64 r2]) ∧ Kd.R (Kd.int .i64) 3 w' w.heap.size (fun _ => True) v0_ r1 ∧ Below w.heap.size w w' := by
 have hu30 := Try.underlying30
 have HR0_10 := Zd.mk hr0_10
 have HC0_10 := Zd.mk hc0_10
 clear hr0_10 hc0_10
 have HR0_13 := Zd.mk hr0_13
 have HC0_13 := Zd.mk hc0_13
 clear hr0_13 hc0_13
 have HR1 := Zd.mk hr1
 have HC1 := Zd.mk hc1
 clear hr1 hc1
 have HB := Zd.mk (Below.refl w.heap.size w)
 have H : ((Zz.f k Jl Ji Jh Jg Jf Je Jd Jc Jb Ja J4 J7 J6 J3).bind fun t224 => (if t224 = 0 then ((Zv.f k Jl Ji Jh Jg Jf Je Jd Jc Jb Ja J4 J7 J6 J3).bind fun t225 => ((Xy.f k l1 (t225.length : Int)).bind fun t228 => (if t228 = 0 then (if a2 < 0 then (Qa.j0 k l1 a2 true Jl Ji Jh Jg Jf Je Jd Jc Jb Ja J4 J7 J6 J3) else (Qa.j0 k l1 a2 (decide (a2 > (l1.length : Int))) Jl Ji Jh Jg Jf Je Jd Jc Jb Ja J4 J7 J6 J3)) else (some (([] : List Int), t228))))) else (some (([] : List Int), t224)))) = some (r1, r2) := h
 clear h
 replace H := Option.bind_eq_some_iff.mp H
 obtain ⟨t224, A40, H⟩ := H
 replace H : (if t224 = 0 then ((Zv.f k Jl Ji Jh Jg Jf Je Jd Jc Jb Ja J4 J7 J6 J3).bind fun t225 => ((Xy.f k l1 (t225.length : Int)).bind fun t228 => (if t228 = 0 then (if a2 < 0 then (Qa.j0 k l1 a2 true Jl Ji Jh Jg Jf Je Jd Jc Jb Ja J4 J7 J6 J3) else (Qa.j0 k l1 a2 (decide (a2 > (l1.length : Int))) Jl Ji Jh Jg Jf Je Jd Jc Jb Ja J4 J7 J6 J3)) else (some (([] : List Int), t228))))) else (some (([] : List Int), t224))) = some (r1, r2) := H
 have A4 := Zd.mk A40
 clear A40
 by_cases c5 : t224 = 0
 ·rw [if_pos c5] at H
  have c5b0 : (t224 == 0) = true := beq_iff_eq.mpr c5
  have c5b1 : (t224 != 0) = false := bne_eq_false_iff_eq.mpr c5
  clear c5
  replace H := Option.bind_eq_some_iff.mp H
  obtain ⟨t225, A60, H⟩ := H
  replace H : ((Xy.f k l1 (t225.length : Int)).bind fun t228 => (if t228 = 0 then (if a2 < 0 then (Qa.j0 k l1 a2 true Jl Ji Jh Jg Jf Je Jd Jc Jb Ja J4 J7 J6 J3) else (Qa.j0 k l1 a2 (decide (a2 > (l1.length : Int))) Jl Ji Jh Jg Jf Je Jd Jc Jb Ja J4 J7 J6 J3)) else (some (([] : List Int), t228)))) = some (r1, r2) := H
  have A6 := Zd.mk A60
  clear A60
  replace H := Option.bind_eq_some_iff.mp H
  obtain ⟨t228, A70, H⟩ := H
  replace H : (if t228 = 0 then (if a2 < 0 then (Qa.j0 k l1 a2 true Jl Ji Jh Jg Jf Je Jd Jc Jb Ja J4 J7 J6 J3) else (Qa.j0 k l1 a2 (decide (a2 > (l1.length : Int))) Jl Ji Jh Jg Jf Je Jd Jc Jb Ja J4 J7 J6 J3)) else (some (([] : List Int), t228))) = some (r1, r2) := H
  have A7 := Zd.mk A70
  clear A70
  by_cases c8 : t228 = 0
  ·rw [if_pos c8] at H
   have c8b0 : (t228 == 0) = true := beq_iff_eq.mpr c8
   have c8b1 : (t228 != 0) = false := bne_eq_false_iff_eq.mpr c8
   clear c8
   have HC9 := Zd.mk H
   clear H
   go_enter Try.func20, Try.ntmps20
   go_upto_region 7 with (first | ((with_reducible refine Xd (N := 3) rfl ?_); (try (refine Qb (by rfl) ?_; dsimp only)); refine Xe ?hg (N := 3) ?hd (cs := #[.int .i64 Jl, .int .i64 Ji, .int .i64 Jh, .bool Jg, .int .i64 Jf, .int .u64 Je, .int .u64 Jd, .int .i64 Jc, .bool Jb, .int .i64 Ja, .slice A0_10 J4.length c0_10, .int .i64 J7, .int .i64 J6, .slice A0_13 J3.length c0_13]) (t := 30) ?hr ?_; (case hd => rfl); (case hg => rfl); (case hr => first | (go_simp; done) | (go_simp; rfl)); intro J1 hg w10 hbox hb; have n0_ := Zd.mk (Zj HB.out hb); have n1_ := Zd.mk (hbox); have n2_ := Zd.mk ((by rw [hg]; exact (Zl HB.out) : w.heap.size ≤ J1)); have n3_ := n2_; clear HB; have HB := n0_; have J0 := n1_; have GW223 := n2_; have GE223 := n3_; clear n0_ n1_ n2_ n3_; clear hb hbox hg; have hcz11_0 : w10.cell? ⟨J1, 0, none⟩ = some (.int .i64 Jl) := (Za J0.out 0).trans rfl; have hcz11_1 : w10.cell? ⟨J1, 1, none⟩ = some (.int .i64 Ji) := (Za J0.out 1).trans rfl; have hcz11_2 : w10.cell? ⟨J1, 2, none⟩ = some (.int .i64 Jh) := (Za J0.out 2).trans rfl; have hcz11_3 : w10.cell? ⟨J1, 3, none⟩ = some (.bool Jg) := (Za J0.out 3).trans rfl; have hcz11_4 : w10.cell? ⟨J1, 4, none⟩ = some (.int .i64 Jf) := (Za J0.out 4).trans rfl; have hcz11_5 : w10.cell? ⟨J1, 5, none⟩ = some (.int .u64 Je) := (Za J0.out 5).trans rfl; have hcz11_6 : w10.cell? ⟨J1, 6, none⟩ = some (.int .u64 Jd) := (Za J0.out 6).trans rfl; have hcz11_7 : w10.cell? ⟨J1, 7, none⟩ = some (.int .i64 Jc) := (Za J0.out 7).trans rfl; have hcz11_8 : w10.cell? ⟨J1, 8, none⟩ = some (.bool Jb) := (Za J0.out 8).trans rfl; have hcz11_9 : w10.cell? ⟨J1, 9, none⟩ = some (.int .i64 Ja) := (Za J0.out 9).trans rfl; have JF : w10.cell? ⟨J1, 10, none⟩ = some (.slice A0_10 J4.length c0_10) := (Za J0.out 10).trans rfl; have JE : w10.cell? ⟨J1, 11, none⟩ = some (.int .i64 J7) := (Za J0.out 11).trans rfl; have JD : w10.cell? ⟨J1, 12, none⟩ = some (.int .i64 J6) := (Za J0.out 12).trans rfl; have JC : w10.cell? ⟨J1, 13, none⟩ = some (.slice A0_13 J3.length c0_13) := (Za J0.out 13).trans rfl; have hfz11_0 := Zb J0.out 0; have hfz11_1 := Zb J0.out 1; have hfz11_2 := Zb J0.out 2; have hfz11_3 := Zb J0.out 3; have hfz11_4 := Zb J0.out 4; have hfz11_5 := Zb J0.out 5; have hfz11_6 := Zb J0.out 6; have hfz11_7 := Zb J0.out 7; have hfz11_8 := Zb J0.out 8; have hfz11_9 := Zb J0.out 9; have Jw := Zb J0.out 10; have Jv := Zb J0.out 11; have Ju := Zb J0.out 12; have Jt := Zb J0.out 13) | ((with_reducible refine Zx (f := 8) rfl ?_); refine Xz (some 11) rfl rfl Try.func8 (by kernel_rfl) rfl #[.agg #[.int .i64 Jl, .int .i64 Ji, .int .i64 Jh, .bool Jg, .int .i64 Jf, .int .u64 Je, .int .u64 Jd, .int .i64 Jc, .bool Jb, .int .i64 Ja, .slice A0_10 J4.length c0_10, .int .i64 J7, .int .i64 J6, .slice A0_13 J3.length c0_13]] rfl (by (try simp only [List.map_toArray, List.map_cons, List.map_nil]); first | done | rfl | (simp only [List.length_drop, List.length_take]; rfl)) ?_; (with_reducible refine (Zz.calls k Jl Ji Jh Jg Jf Je Jd Jc Jb Ja _ _ J4 J7 J6 _ _ J3 t224 _ ?side1 ?side2 ?side3 ?side4 A4.out).mono ?_); (case side1 => exact (Kd.Zw HR0_10.out HB.out)); (case side2 => exact HC0_10.out); (case side3 => exact (Kd.Zw HR0_13.out HB.out)); (case side4 => exact HC0_13.out); rintro e w12 ⟨rfl, hb⟩; refine ⟨_, rfl, ?_⟩; have n0_ := Zd.mk (Zp J0.out hb); have n1_ := Zd.mk (Zj HB.out hb); clear J0; clear HB; have J0 := n0_; have HB := n1_; clear n0_ n1_; (try clear hb); (try clear hb2); (try clear hk); (try clear hi); have hcz13_0 : w12.cell? ⟨J1, 0, none⟩ = some (.int .i64 Jl) := (Za J0.out 0).trans rfl; have hcz13_1 : w12.cell? ⟨J1, 1, none⟩ = some (.int .i64 Ji) := (Za J0.out 1).trans rfl; have hcz13_2 : w12.cell? ⟨J1, 2, none⟩ = some (.int .i64 Jh) := (Za J0.out 2).trans rfl; have hcz13_3 : w12.cell? ⟨J1, 3, none⟩ = some (.bool Jg) := (Za J0.out 3).trans rfl; have hcz13_4 : w12.cell? ⟨J1, 4, none⟩ = some (.int .i64 Jf) := (Za J0.out 4).trans rfl; have hcz13_5 : w12.cell? ⟨J1, 5, none⟩ = some (.int .u64 Je) := (Za J0.out 5).trans rfl; have hcz13_6 : w12.cell? ⟨J1, 6, none⟩ = some (.int .u64 Jd) := (Za J0.out 6).trans rfl; have hcz13_7 : w12.cell? ⟨J1, 7, none⟩ = some (.int .i64 Jc) := (Za J0.out 7).trans rfl; have hcz13_8 : w12.cell? ⟨J1, 8, none⟩ = some (.bool Jb) := (Za J0.out 8).trans rfl; have hcz13_9 : w12.cell? ⟨J1, 9, none⟩ = some (.int .i64 Ja) := (Za J0.out 9).trans rfl; have JB : w12.cell? ⟨J1, 10, none⟩ = some (.slice A0_10 J4.length c0_10) := (Za J0.out 10).trans rfl; have JA : w12.cell? ⟨J1, 11, none⟩ = some (.int .i64 J7) := (Za J0.out 11).trans rfl; have Jz : w12.cell? ⟨J1, 12, none⟩ = some (.int .i64 J6) := (Za J0.out 12).trans rfl; have Jx : w12.cell? ⟨J1, 13, none⟩ = some (.slice A0_13 J3.length c0_13) := (Za J0.out 13).trans rfl; have hfz13_0 := Zb J0.out 0; have hfz13_1 := Zb J0.out 1; have hfz13_2 := Zb J0.out 2; have hfz13_3 := Zb J0.out 3; have hfz13_4 := Zb J0.out 4; have hfz13_5 := Zb J0.out 5; have hfz13_6 := Zb J0.out 6; have hfz13_7 := Zb J0.out 7; have hfz13_8 := Zb J0.out 8; have hfz13_9 := Zb J0.out 9; have Js := Zb J0.out 10; have Jr := Zb J0.out 11; have Jq := Zb J0.out 12; have Jo := Zb J0.out 13) | ((with_reducible refine Zx (f := 18) rfl ?_); refine Xz (some 17) rfl rfl Try.func18 (by kernel_rfl) rfl #[.agg #[.int .i64 Jl, .int .i64 Ji, .int .i64 Jh, .bool Jg, .int .i64 Jf, .int .u64 Je, .int .u64 Jd, .int .i64 Jc, .bool Jb, .int .i64 Ja, .slice A0_10 J4.length c0_10, .int .i64 J7, .int .i64 J6, .slice A0_13 J3.length c0_13]] rfl (by (try simp only [List.map_toArray, List.map_cons, List.map_nil]); first | done | rfl | (simp only [List.length_drop, List.length_take]; rfl)) ?_; (with_reducible refine (Zv.calls k Jl Ji Jh Jg Jf Je Jd Jc Jb Ja (fun k_ => k_ < w.heap.size) _ _ J4 J7 J6 (fun k_ => k_ < w.heap.size) _ _ J3 t225 _ ?side1 ?side2 A6.out).mono ?_); (case side1 => exact Kd.Wj HC0_10.out (Kd.Vj (Kd.C_F Jp HR0_10.out) HB.out)); (case side2 => exact Kd.Wj HC0_13.out (Kd.Vj (Kd.C_F Jy HR0_13.out) HB.out)); rintro e w14 ⟨v226, rfl, ho0, hb⟩; refine ⟨_, rfl, ?_⟩; have n0_ := Zd.mk (Kd.Vb (Kd.Xq (ok' := fun k_ => k_ ≠ J1) ho0 (fun k_ hk_ => Or.elim hk_ (fun hs_ => Or.elim hs_ (fun hs_ => fun e_ => Nat.not_le.2 hs_ (by rw [e_]; exact GW223.out)) (fun hs_ => fun e_ => Nat.not_le.2 hs_ (by rw [e_]; exact GW223.out))) (fun hn_ => (Kd.Kw J0.out k_ hn_)))) (Zl HB.out)); have n1_ := Zd.mk (Zp J0.out hb); have n2_ := Zd.mk (Zj HB.out hb); clear J0; clear HB; have HO227 := n0_; have J0 := n1_; have HB := n2_; clear n0_ n1_ n2_; (try clear hb); (try clear hb2); (try clear hk); (try clear hi); (try clear ho0); obtain ⟨Ao15, co15, eo15⟩ := Kd.Va HO227.out; subst eo15) | ((with_reducible refine Zx (f := 27) rfl ?_); refine Xz (some 19) rfl rfl Try.func27 (by kernel_rfl) rfl #[.slice A1 l1.length c1, .int .i64 (t225.length : Int)] rfl (by (try simp only [List.map_toArray, List.map_cons, List.map_nil]); first | done | rfl | (simp only [List.length_drop, List.length_take]; rfl)) ?_; (with_reducible refine (Xy.calls k _ _ l1 (t225.length : Int) t228 _ ?side1 ?side2 A7.out).mono ?_); (case side1 => exact (Kd.Zw HR1.out HB.out)); (case side2 => exact HC1.out); rintro e w' ⟨rfl, ⟨nd, rfl⟩⟩; refine ⟨_, rfl, ?_⟩))
   (try simp only [Act.put, List.setIfInBounds_toArray, List.set_cons_zero, List.set_cons_succ])
   go_cut [30] (fun v30 wc => ∃ (kq : Nat) (Jn : Bool), v30 = .bool Jn ∧ Zd (Qa.j0 kq l1 a2 Jn Jl Ji Jh Jg Jf Je Jd Jc Jb Ja J4 J7 J6 J3 = some (r1, r2)) ∧ Zd (kq ≤ k) ∧ Zd (wc.heap[J1]? = some (.cells #[.int .i64 Jl, .int .i64 Ji, .int .i64 Jh, .bool Jg, .int .i64 Jf, .int .u64 Je, .int .u64 Jd, .int .i64 Jc, .bool Jb, .int .i64 Ja, (.slice A0_10 J4.length c0_10), .int .i64 J7, .int .i64 J6, (.slice A0_13 J3.length c0_13)] 30 (0, 0))) ∧ Zd (Below w.heap.size w wc))
   case first =>
    have H := HC9.out
    clear HC9
    by_cases c16 : a2 < 0
    ·rw [if_pos c16] at H
     have c16b0 : decide (a2 < 0) = true := decide_eq_true c16
     clear c16
     (first | rw [c16b0] | (simp only [Xk]; rw [c16b0]) | skip)
     have H' := Zd.mk H
     clear H
     go_wp2
     go_meet
     case rel => exact ⟨_, (true), (by first | rfl | (simp; done) | (simp [*]; done)), H', ⟨by first | omega | exact Nat.le_refl _⟩, ⟨by (with_reducible repeat (first | refine Zf ?_ _ | refine Zg ?_ | refine Ze ?_ _)); exact J0.out⟩, ⟨by repeat (first | (with_reducible first | exact HB.out | apply Xm | apply Xi | apply Xj | refine Xc ?_ GE223.out) | exact HB.out)⟩⟩
    ·rw [if_neg c16] at H
     have c16b0 : decide (a2 < 0) = false := decide_eq_false c16
     clear c16
     (first | rw [c16b0] | (simp only [Xk]; rw [c16b0]) | skip)
     have H' := Zd.mk H
     clear H
     go_wp2
     go_meet
     case rel => exact ⟨_, (decide (a2 > (l1.length : Int))), (by first | rfl | (simp; done) | (simp [*]; done)), H', ⟨by first | omega | exact Nat.le_refl _⟩, ⟨by (with_reducible repeat (first | refine Zf ?_ _ | refine Zg ?_ | refine Ze ?_ _)); exact J0.out⟩, ⟨by repeat (first | (with_reducible first | exact HB.out | apply Xm | apply Xi | apply Xj | refine Xc ?_ GE223.out) | exact HB.out)⟩⟩
   case rest =>
    clear HC9
    try clear c5b0
    try clear c5b1
    try clear c8b0
    try clear c8b1
    try clear hcz11_0
    try clear hcz11_1
    try clear JF
    try clear JE
    try clear JD
    try clear JC
    try clear hcz11_2
    try clear hcz11_3
    try clear hcz11_4
    try clear hcz11_5
    try clear hcz11_6
    try clear hcz11_7
    try clear hcz11_8
    try clear hcz11_9
    try clear hcz13_0
    try clear hcz13_1
    try clear JB
    try clear JA
    try clear Jz
    try clear Jx
    try clear hcz13_2
    try clear hcz13_3
    try clear hcz13_4
    try clear hcz13_5
    try clear hcz13_6
    try clear hcz13_7
    try clear hcz13_8
    try clear hcz13_9
    try clear hfz11_0
    try clear hfz11_1
    try clear Jw
    try clear Jv
    try clear Ju
    try clear Jt
    try clear hfz11_2
    try clear hfz11_3
    try clear hfz11_4
    try clear hfz11_5
    try clear hfz11_6
    try clear hfz11_7
    try clear hfz11_8
    try clear hfz11_9
    try clear hfz13_0
    try clear hfz13_1
    try clear Js
    try clear Jr
    try clear Jq
    try clear Jo
    try clear hfz13_2
    try clear hfz13_3
    try clear hfz13_4
    try clear hfz13_5
    try clear hfz13_6
    try clear hfz13_7
    try clear hfz13_8
    try clear hfz13_9
    obtain ⟨kq, Jn, rfl, HA, HJ8, J0, HB⟩ := hcut
    cases kq with
    | zero => exact absurd HA.out (by simp [Qa.j0])
    | succ kj8 =>
     have H := HA.out
     clear HA
     simp only [Qa.j0] at H
     by_cases c17 : Jn = true
     ·subst c17
      have H1 : (none) = some (r1, r2) := by rw [if_pos rfl] at H; exact H
      exact absurd H1 (by simp)
     ·replace c17 := Bool.eq_false_iff.mpr c17
      subst c17
      have H1 : ((Vw.f kj8 Jl Ji Jh Jg Jf Je Jd Jc Jb Ja J4 J7 J6 J3 l1 a2).bind fun t229 => ((Qg.f kj8 t229).bind fun t232 => (some (t232, 0)))) = some (r1, r2) := by rw [if_neg (show ¬ (false = true) by decide)] at H; exact H
      clear H
      have H := H1
      clear H1
      replace H := Option.bind_eq_some_iff.mp H
      obtain ⟨t229, A180, H⟩ := H
      replace H : ((Qg.f kj8 t229).bind fun t232 => (some (t232, 0))) = some (r1, r2) := H
      have A18 := Zd.mk A180
      clear A180
      replace H := Option.bind_eq_some_iff.mp H
      obtain ⟨t232, A190, H⟩ := H
      replace H : (some (t232, 0)) = some (r1, r2) := H
      have A19 := Zd.mk A190
      clear A190
      simp only [Option.some.injEq, Prod.mk.injEq] at H
      obtain ⟨rfl, rfl⟩ := H
      obtain ⟨hcz20_0, hcz20_1, hcz20_2, hcz20_3, hcz20_4, hcz20_5, hcz20_6, hcz20_7, hcz20_8, hcz20_9, hcz20_10, hcz20_11, hcz20_12, hcz20_13⟩ := zc14 J0.out
      obtain ⟨hfz20_0, hfz20_1, hfz20_2, hfz20_3, hfz20_4, hfz20_5, hfz20_6, hfz20_7, hfz20_8, hfz20_9, hfz20_10, hfz20_11, hfz20_12, hfz20_13⟩ := zf14 J0.out
      go_wp2_with (first | ((with_reducible refine Zx (f := 29) rfl ?_); refine Xz (some 34) rfl rfl Try.func29 (by kernel_rfl) rfl #[.agg #[.int .i64 Jl, .int .i64 Ji, .int .i64 Jh, .bool Jg, .int .i64 Jf, .int .u64 Je, .int .u64 Jd, .int .i64 Jc, .bool Jb, .int .i64 Ja, .slice A0_10 J4.length c0_10, .int .i64 J7, .int .i64 J6, .slice A0_13 J3.length c0_13], .slice A1 l1.length c1, .int .i64 a2] rfl (by (try simp only [List.map_toArray, List.map_cons, List.map_nil]); first | done | rfl | (simp only [List.length_drop, List.length_take]; rfl)) ?_; (with_reducible refine (Vw.calls kj8 Jl Ji Jh Jg Jf Je Jd Jc Jb Ja _ _ J4 J7 J6 _ _ J3 _ _ l1 a2 t229 _ ?side1 ?side2 ?side3 ?side4 ?side5 ?side6 A18.out).mono ?_); (case side1 => exact (Kd.Zw HR0_10.out HB.out)); (case side2 => exact HC0_10.out); (case side3 => exact (Kd.Zw HR0_13.out HB.out)); (case side4 => exact HC0_13.out); (case side5 => exact (Kd.Zw HR1.out HB.out)); (case side6 => exact HC1.out); rintro e w21 ⟨v230, rfl, ho0, hb⟩; refine ⟨_, rfl, ?_⟩; have n0_ := Zd.mk (Kd.Jj ho0 (Zl HB.out)); have n1_ := Zd.mk (Zp J0.out hb); have n2_ := Zd.mk (Zj HB.out hb); clear J0; clear HB; have HO231 := n0_; have J0 := n1_; have HB := n2_; clear n0_ n1_ n2_; (try clear hb); (try clear hb2); (try clear hk); (try clear hi); (try clear ho0); obtain ⟨Ao22, co22, eo22⟩ := Kd.Vo HO231.out; subst eo22) | ((with_reducible refine Zx (f := 28) rfl ?_); refine Xz (some 35) rfl rfl Try.func28 (by kernel_rfl) rfl #[.slice Ao22 t229.length co22] rfl (by (try simp only [List.map_toArray, List.map_cons, List.map_nil]); first | done | rfl | (simp only [List.length_drop, List.length_take]; rfl)) ?_; (with_reducible refine (Qg.calls kj8 _ _ t229 t232 _ ?side1 ?side2 A19.out).mono ?_); (case side1 => repeat (first | exact (Kd.Qw HO231.out).2.2 | (with_reducible refine Kd.C_alloc ?_ _) | (with_reducible refine Kd.C_drewN ?_ _) | (with_reducible refine Kd.C_drew ?_))); (case side2 => exact (Kd.Qw HO231.out).2.1); rintro e w23 ⟨v233, rfl, ho0, hb⟩; refine ⟨_, rfl, ?_⟩; have n0_ := Zd.mk (Kd.R_below HO231.out hb); have n1_ := Zd.mk (Kd.Jj ho0 (Zl HB.out)); have n2_ := Zd.mk (Zp J0.out hb); have n3_ := Zd.mk (Zj HB.out hb); clear HO231; clear J0; clear HB; have HO231 := n0_; have HO234 := n1_; have J0 := n2_; have HB := n3_; clear n0_ n1_ n2_ n3_; (try clear hb); (try clear hb2); (try clear hk); (try clear hi); (try clear ho0)))
      go_ret2
      exact ⟨_, by first | rfl | (simp [errW_none, errW_some] <;> rfl) | (simp [*, errW_none, errW_some] <;> rfl), by (with_reducible repeat (first | apply Kd.R_alloc | apply Kd.R_drewN | apply Kd.R_drew)); exact HO234.out, HB.out⟩
  ·rw [if_neg c8] at H
   have c8b0 : (t228 == 0) = false := beq_eq_false_iff_ne.mpr c8
   have c8b1 : (t228 != 0) = true := bne_iff_ne.mpr c8
   simp only [Option.some.injEq, Prod.mk.injEq] at H
   obtain ⟨rfl, rfl⟩ := H
   go_enter Try.func20, Try.ntmps20
   go_wp2_with (first | ((with_reducible refine Xd (N := 3) rfl ?_); (try (refine Qb (by rfl) ?_; dsimp only)); refine Xe ?hg (N := 3) ?hd (cs := #[.int .i64 Jl, .int .i64 Ji, .int .i64 Jh, .bool Jg, .int .i64 Jf, .int .u64 Je, .int .u64 Jd, .int .i64 Jc, .bool Jb, .int .i64 Ja, .slice A0_10 J4.length c0_10, .int .i64 J7, .int .i64 J6, .slice A0_13 J3.length c0_13]) (t := 30) ?hr ?_; (case hd => rfl); (case hg => rfl); (case hr => first | (go_simp; done) | (go_simp; rfl)); intro J1 hg w24 hbox hb; have n0_ := Zd.mk (Zj HB.out hb); have n1_ := Zd.mk (hbox); have n2_ := Zd.mk ((by rw [hg]; exact (Zl HB.out) : w.heap.size ≤ J1)); have n3_ := n2_; clear HB; have HB := n0_; have J0 := n1_; have GW223 := n2_; have GE223 := n3_; clear n0_ n1_ n2_ n3_; clear hb hbox hg; have hcz25_0 : w24.cell? ⟨J1, 0, none⟩ = some (.int .i64 Jl) := (Za J0.out 0).trans rfl; have hcz25_1 : w24.cell? ⟨J1, 1, none⟩ = some (.int .i64 Ji) := (Za J0.out 1).trans rfl; have hcz25_2 : w24.cell? ⟨J1, 2, none⟩ = some (.int .i64 Jh) := (Za J0.out 2).trans rfl; have hcz25_3 : w24.cell? ⟨J1, 3, none⟩ = some (.bool Jg) := (Za J0.out 3).trans rfl; have hcz25_4 : w24.cell? ⟨J1, 4, none⟩ = some (.int .i64 Jf) := (Za J0.out 4).trans rfl; have hcz25_5 : w24.cell? ⟨J1, 5, none⟩ = some (.int .u64 Je) := (Za J0.out 5).trans rfl; have hcz25_6 : w24.cell? ⟨J1, 6, none⟩ = some (.int .u64 Jd) := (Za J0.out 6).trans rfl; have hcz25_7 : w24.cell? ⟨J1, 7, none⟩ = some (.int .i64 Jc) := (Za J0.out 7).trans rfl; have hcz25_8 : w24.cell? ⟨J1, 8, none⟩ = some (.bool Jb) := (Za J0.out 8).trans rfl; have hcz25_9 : w24.cell? ⟨J1, 9, none⟩ = some (.int .i64 Ja) := (Za J0.out 9).trans rfl; have hcz25_10 : w24.cell? ⟨J1, 10, none⟩ = some (.slice A0_10 J4.length c0_10) := (Za J0.out 10).trans rfl; have hcz25_11 : w24.cell? ⟨J1, 11, none⟩ = some (.int .i64 J7) := (Za J0.out 11).trans rfl; have hcz25_12 : w24.cell? ⟨J1, 12, none⟩ = some (.int .i64 J6) := (Za J0.out 12).trans rfl; have hcz25_13 : w24.cell? ⟨J1, 13, none⟩ = some (.slice A0_13 J3.length c0_13) := (Za J0.out 13).trans rfl; have hfz25_0 := Zb J0.out 0; have hfz25_1 := Zb J0.out 1; have hfz25_2 := Zb J0.out 2; have hfz25_3 := Zb J0.out 3; have hfz25_4 := Zb J0.out 4; have hfz25_5 := Zb J0.out 5; have hfz25_6 := Zb J0.out 6; have hfz25_7 := Zb J0.out 7; have hfz25_8 := Zb J0.out 8; have hfz25_9 := Zb J0.out 9; have hfz25_10 := Zb J0.out 10; have hfz25_11 := Zb J0.out 11; have hfz25_12 := Zb J0.out 12; have hfz25_13 := Zb J0.out 13) | ((with_reducible refine Zx (f := 8) rfl ?_); refine Xz (some 11) rfl rfl Try.func8 (by kernel_rfl) rfl #[.agg #[.int .i64 Jl, .int .i64 Ji, .int .i64 Jh, .bool Jg, .int .i64 Jf, .int .u64 Je, .int .u64 Jd, .int .i64 Jc, .bool Jb, .int .i64 Ja, .slice A0_10 J4.length c0_10, .int .i64 J7, .int .i64 J6, .slice A0_13 J3.length c0_13]] rfl (by (try simp only [List.map_toArray, List.map_cons, List.map_nil]); first | done | rfl | (simp only [List.length_drop, List.length_take]; rfl)) ?_; (with_reducible refine (Zz.calls k Jl Ji Jh Jg Jf Je Jd Jc Jb Ja _ _ J4 J7 J6 _ _ J3 t224 _ ?side1 ?side2 ?side3 ?side4 A4.out).mono ?_); (case side1 => exact (Kd.Zw HR0_10.out HB.out)); (case side2 => exact HC0_10.out); (case side3 => exact (Kd.Zw HR0_13.out HB.out)); (case side4 => exact HC0_13.out); rintro e w26 ⟨rfl, hb⟩; refine ⟨_, rfl, ?_⟩; have n0_ := Zd.mk (Zp J0.out hb); have n1_ := Zd.mk (Zj HB.out hb); clear J0; clear HB; have J0 := n0_; have HB := n1_; clear n0_ n1_; (try clear hb); (try clear hb2); (try clear hk); (try clear hi); have hcz27_0 : w26.cell? ⟨J1, 0, none⟩ = some (.int .i64 Jl) := (Za J0.out 0).trans rfl; have hcz27_1 : w26.cell? ⟨J1, 1, none⟩ = some (.int .i64 Ji) := (Za J0.out 1).trans rfl; have hcz27_2 : w26.cell? ⟨J1, 2, none⟩ = some (.int .i64 Jh) := (Za J0.out 2).trans rfl; have hcz27_3 : w26.cell? ⟨J1, 3, none⟩ = some (.bool Jg) := (Za J0.out 3).trans rfl; have hcz27_4 : w26.cell? ⟨J1, 4, none⟩ = some (.int .i64 Jf) := (Za J0.out 4).trans rfl; have hcz27_5 : w26.cell? ⟨J1, 5, none⟩ = some (.int .u64 Je) := (Za J0.out 5).trans rfl; have hcz27_6 : w26.cell? ⟨J1, 6, none⟩ = some (.int .u64 Jd) := (Za J0.out 6).trans rfl; have hcz27_7 : w26.cell? ⟨J1, 7, none⟩ = some (.int .i64 Jc) := (Za J0.out 7).trans rfl; have hcz27_8 : w26.cell? ⟨J1, 8, none⟩ = some (.bool Jb) := (Za J0.out 8).trans rfl; have hcz27_9 : w26.cell? ⟨J1, 9, none⟩ = some (.int .i64 Ja) := (Za J0.out 9).trans rfl; have hcz27_10 : w26.cell? ⟨J1, 10, none⟩ = some (.slice A0_10 J4.length c0_10) := (Za J0.out 10).trans rfl; have hcz27_11 : w26.cell? ⟨J1, 11, none⟩ = some (.int .i64 J7) := (Za J0.out 11).trans rfl; have hcz27_12 : w26.cell? ⟨J1, 12, none⟩ = some (.int .i64 J6) := (Za J0.out 12).trans rfl; have hcz27_13 : w26.cell? ⟨J1, 13, none⟩ = some (.slice A0_13 J3.length c0_13) := (Za J0.out 13).trans rfl; have hfz27_0 := Zb J0.out 0; have hfz27_1 := Zb J0.out 1; have hfz27_2 := Zb J0.out 2; have hfz27_3 := Zb J0.out 3; have hfz27_4 := Zb J0.out 4; have hfz27_5 := Zb J0.out 5; have hfz27_6 := Zb J0.out 6; have hfz27_7 := Zb J0.out 7; have hfz27_8 := Zb J0.out 8; have hfz27_9 := Zb J0.out 9; have hfz27_10 := Zb J0.out 10; have hfz27_11 := Zb J0.out 11; have hfz27_12 := Zb J0.out 12; have hfz27_13 := Zb J0.out 13) | ((with_reducible refine Zx (f := 18) rfl ?_); refine Xz (some 17) rfl rfl Try.func18 (by kernel_rfl) rfl #[.agg #[.int .i64 Jl, .int .i64 Ji, .int .i64 Jh, .bool Jg, .int .i64 Jf, .int .u64 Je, .int .u64 Jd, .int .i64 Jc, .bool Jb, .int .i64 Ja, .slice A0_10 J4.length c0_10, .int .i64 J7, .int .i64 J6, .slice A0_13 J3.length c0_13]] rfl (by (try simp only [List.map_toArray, List.map_cons, List.map_nil]); first | done | rfl | (simp only [List.length_drop, List.length_take]; rfl)) ?_; (with_reducible refine (Zv.calls k Jl Ji Jh Jg Jf Je Jd Jc Jb Ja (fun k_ => k_ < w.heap.size) _ _ J4 J7 J6 (fun k_ => k_ < w.heap.size) _ _ J3 t225 _ ?side1 ?side2 A6.out).mono ?_); (case side1 => exact Kd.Wj HC0_10.out (Kd.Vj (Kd.C_F Jp HR0_10.out) HB.out)); (case side2 => exact Kd.Wj HC0_13.out (Kd.Vj (Kd.C_F Jy HR0_13.out) HB.out)); rintro e w28 ⟨v226, rfl, ho0, hb⟩; refine ⟨_, rfl, ?_⟩; have n0_ := Zd.mk (Kd.Vb (Kd.Xq (ok' := fun k_ => k_ ≠ J1) ho0 (fun k_ hk_ => Or.elim hk_ (fun hs_ => Or.elim hs_ (fun hs_ => fun e_ => Nat.not_le.2 hs_ (by rw [e_]; exact GW223.out)) (fun hs_ => fun e_ => Nat.not_le.2 hs_ (by rw [e_]; exact GW223.out))) (fun hn_ => (Kd.Kw J0.out k_ hn_)))) (Zl HB.out)); have n1_ := Zd.mk (Zp J0.out hb); have n2_ := Zd.mk (Zj HB.out hb); clear J0; clear HB; have HO227 := n0_; have J0 := n1_; have HB := n2_; clear n0_ n1_ n2_; (try clear hb); (try clear hb2); (try clear hk); (try clear hi); (try clear ho0); obtain ⟨Ao29, co29, eo29⟩ := Kd.Va HO227.out; subst eo29) | ((with_reducible refine Zx (f := 27) rfl ?_); refine Xz (some 19) rfl rfl Try.func27 (by kernel_rfl) rfl #[.slice A1 l1.length c1, .int .i64 (t225.length : Int)] rfl (by (try simp only [List.map_toArray, List.map_cons, List.map_nil]); first | done | rfl | (simp only [List.length_drop, List.length_take]; rfl)) ?_; (with_reducible refine (Xy.calls k _ _ l1 (t225.length : Int) t228 _ ?side1 ?side2 A7.out).mono ?_); (case side1 => exact (Kd.Zw HR1.out HB.out)); (case side2 => exact HC1.out); rintro e w' ⟨rfl, ⟨nd, rfl⟩⟩; refine ⟨_, rfl, ?_⟩))
   go_ret2
   exact ⟨_, by first | rfl | (simp [errW_none, errW_some] <;> rfl) | (simp [*, errW_none, errW_some] <;> rfl), by first | exact Kd.R_nil _ _ _ _ _ | exact Kd.N_nil _ _ _ _ _ | exact Kd.V_nil _ _ _ _ _ | exact Kd.Q_nil _ _ _ _ _ | exact Kd.S_nil _ _ _ _ _, by repeat (first | (with_reducible first | exact HB.out | apply Xm | apply Xi | apply Xj | refine Xc ?_ GE223.out) | exact HB.out)⟩
 ·rw [if_neg c5] at H
  have c5b0 : (t224 == 0) = false := beq_eq_false_iff_ne.mpr c5
  have c5b1 : (t224 != 0) = true := bne_iff_ne.mpr c5
  simp only [Option.some.injEq, Prod.mk.injEq] at H
  obtain ⟨rfl, rfl⟩ := H
  go_enter Try.func20, Try.ntmps20
  go_wp2_with (first | ((with_reducible refine Xd (N := 3) rfl ?_); (try (refine Qb (by rfl) ?_; dsimp only)); refine Xe ?hg (N := 3) ?hd (cs := #[.int .i64 Jl, .int .i64 Ji, .int .i64 Jh, .bool Jg, .int .i64 Jf, .int .u64 Je, .int .u64 Jd, .int .i64 Jc, .bool Jb, .int .i64 Ja, .slice A0_10 J4.length c0_10, .int .i64 J7, .int .i64 J6, .slice A0_13 J3.length c0_13]) (t := 30) ?hr ?_; (case hd => rfl); (case hg => rfl); (case hr => first | (go_simp; done) | (go_simp; rfl)); intro J1 hg w30 hbox hb; have n0_ := Zd.mk (Zj HB.out hb); have n1_ := Zd.mk (hbox); have n2_ := Zd.mk ((by rw [hg]; exact (Zl HB.out) : w.heap.size ≤ J1)); have n3_ := n2_; clear HB; have HB := n0_; have J0 := n1_; have GW223 := n2_; have GE223 := n3_; clear n0_ n1_ n2_ n3_; clear hb hbox hg; have hcz31_0 : w30.cell? ⟨J1, 0, none⟩ = some (.int .i64 Jl) := (Za J0.out 0).trans rfl; have hcz31_1 : w30.cell? ⟨J1, 1, none⟩ = some (.int .i64 Ji) := (Za J0.out 1).trans rfl; have hcz31_2 : w30.cell? ⟨J1, 2, none⟩ = some (.int .i64 Jh) := (Za J0.out 2).trans rfl; have hcz31_3 : w30.cell? ⟨J1, 3, none⟩ = some (.bool Jg) := (Za J0.out 3).trans rfl; have hcz31_4 : w30.cell? ⟨J1, 4, none⟩ = some (.int .i64 Jf) := (Za J0.out 4).trans rfl; have hcz31_5 : w30.cell? ⟨J1, 5, none⟩ = some (.int .u64 Je) := (Za J0.out 5).trans rfl; have hcz31_6 : w30.cell? ⟨J1, 6, none⟩ = some (.int .u64 Jd) := (Za J0.out 6).trans rfl; have hcz31_7 : w30.cell? ⟨J1, 7, none⟩ = some (.int .i64 Jc) := (Za J0.out 7).trans rfl; have hcz31_8 : w30.cell? ⟨J1, 8, none⟩ = some (.bool Jb) := (Za J0.out 8).trans rfl; have hcz31_9 : w30.cell? ⟨J1, 9, none⟩ = some (.int .i64 Ja) := (Za J0.out 9).trans rfl; have hcz31_10 : w30.cell? ⟨J1, 10, none⟩ = some (.slice A0_10 J4.length c0_10) := (Za J0.out 10).trans rfl; have hcz31_11 : w30.cell? ⟨J1, 11, none⟩ = some (.int .i64 J7) := (Za J0.out 11).trans rfl; have hcz31_12 : w30.cell? ⟨J1, 12, none⟩ = some (.int .i64 J6) := (Za J0.out 12).trans rfl; have hcz31_13 : w30.cell? ⟨J1, 13, none⟩ = some (.slice A0_13 J3.length c0_13) := (Za J0.out 13).trans rfl; have hfz31_0 := Zb J0.out 0; have hfz31_1 := Zb J0.out 1; have hfz31_2 := Zb J0.out 2; have hfz31_3 := Zb J0.out 3; have hfz31_4 := Zb J0.out 4; have hfz31_5 := Zb J0.out 5; have hfz31_6 := Zb J0.out 6; have hfz31_7 := Zb J0.out 7; have hfz31_8 := Zb J0.out 8; have hfz31_9 := Zb J0.out 9; have hfz31_10 := Zb J0.out 10; have hfz31_11 := Zb J0.out 11; have hfz31_12 := Zb J0.out 12; have hfz31_13 := Zb J0.out 13) | ((with_reducible refine Zx (f := 8) rfl ?_); refine Xz (some 11) rfl rfl Try.func8 (by kernel_rfl) rfl #[.agg #[.int .i64 Jl, .int .i64 Ji, .int .i64 Jh, .bool Jg, .int .i64 Jf, .int .u64 Je, .int .u64 Jd, .int .i64 Jc, .bool Jb, .int .i64 Ja, .slice A0_10 J4.length c0_10, .int .i64 J7, .int .i64 J6, .slice A0_13 J3.length c0_13]] rfl (by (try simp only [List.map_toArray, List.map_cons, List.map_nil]); first | done | rfl | (simp only [List.length_drop, List.length_take]; rfl)) ?_; (with_reducible refine (Zz.calls k Jl Ji Jh Jg Jf Je Jd Jc Jb Ja _ _ J4 J7 J6 _ _ J3 t224 _ ?side1 ?side2 ?side3 ?side4 A4.out).mono ?_); (case side1 => exact (Kd.Zw HR0_10.out HB.out)); (case side2 => exact HC0_10.out); (case side3 => exact (Kd.Zw HR0_13.out HB.out)); (case side4 => exact HC0_13.out); rintro e w32 ⟨rfl, hb⟩; refine ⟨_, rfl, ?_⟩; have n0_ := Zd.mk (Zp J0.out hb); have n1_ := Zd.mk (Zj HB.out hb); clear J0; clear HB; have J0 := n0_; have HB := n1_; clear n0_ n1_; (try clear hb); (try clear hb2); (try clear hk); (try clear hi)))
  go_ret2
  exact ⟨_, by first | rfl | (simp [errW_none, errW_some] <;> rfl) | (simp [*, errW_none, errW_some] <;> rfl), by first | exact Kd.R_nil _ _ _ _ _ | exact Kd.N_nil _ _ _ _ _ | exact Kd.V_nil _ _ _ _ _ | exact Kd.Q_nil _ _ _ _ _ | exact Kd.S_nil _ _ _ _ _, HB.out⟩
def masklaw2_holds.f  : Option (Int × Int × Int × Bool × Int × Int × Int × Int × Bool × Int × (List (Qh)) × Int × Int × (List (Vd))) := some (0, 0, 0, false, 0, 0, 0, 0, false, 0, ([] : List (Qh)), 0, 0, ([] : List (Vd)))
set_option maxHeartbeats 8000000 in
set_option maxRecDepth 100000 in
theorem masklaw2_holds.calls  (r1 : Int) (r2 : Int) (r3 : Int) (r4 : Bool) (r5 : Int) (r6 : Int) (r7 : Int) (r8 : Int) (r9 : Bool) (r10 : Int) (r11 : List (Qh)) (r12 : Int) (r13 : Int) (r14 : List (Vd)) (w : World) (h : masklaw2_holds.f  = some (r1, r2, r3, r4, r5, r6, r7, r8, r9, r10, r11, r12, r13, r14)) :
 Calls Try.prog 30 #[] w fun e w' => ∃ v10_ v13_ : Value, e = .returned (.agg #[.int .i64 r1, .int .i64 r2, .int .i64 r3, .bool r4, .int .i64 r5, .int .u64 r6, .int .u64 r7, .int .i64 r8, .bool r9, .int .i64 r10, v10_, .int .i64 r12, .int .i64 r13, v13_]) ∧ Kd.R k27 27 w' w.heap.size (fun _ => True) v10_ r11 ∧ Kd.R k30 30 w' w.heap.size (fun k_ => some k_ ≠ (v10_ : Value).ownBlock) v13_ r14 ∧ Below w.heap.size w w' := by
 have hu30 := Try.underlying30
 have HB := Zd.mk (Below.refl w.heap.size w)
 have H : (some (0, 0, 0, false, 0, 0, 0, 0, false, 0, ([] : List (Qh)), 0, 0, ([] : List (Vd)))) = some (r1, r2, r3, r4, r5, r6, r7, r8, r9, r10, r11, r12, r13, r14) := h
 clear h
 simp only [Option.some.injEq, Prod.mk.injEq] at H
 obtain ⟨rfl, rfl, rfl, rfl, rfl, rfl, rfl, rfl, rfl, rfl, rfl, rfl, rfl, rfl⟩ := H
 go_enter Try.func30, Try.ntmps30
 go_wp2_with (((with_reducible refine Xd (N := 0) rfl ?_); refine Xe ?hg (N := 0) ?hd (cs := #[.int .i64 0, .int .i64 0, .int .i64 0, .bool false, .int .i64 0, .int .u64 0, .int .u64 0, .int .i64 0, .bool false, .int .i64 0, .slice none 0 0, .int .i64 0, .int .i64 0, .slice none 0 0]) (t := 30) ?hr ?_; (case hd => rfl); (case hg => rfl); (case hr => first | (go_simp; done) | (go_simp; rfl)); intro Jm hg w1 hbox hb; have n0_ := Zd.mk (Zj HB.out hb); have n1_ := Zd.mk (hbox); have n2_ := Zd.mk ((by rw [hg]; exact (Zl HB.out) : w.heap.size ≤ Jm)); have n3_ := n2_; clear HB; have HB := n0_; have J9 := n1_; have GW235 := n2_; have GE235 := n3_; clear n0_ n1_ n2_ n3_; clear hb hbox hg; have hcz2_0 : w1.cell? ⟨Jm, 0, none⟩ = some (.int .i64 0) := (Za J9.out 0).trans rfl; have hcz2_1 : w1.cell? ⟨Jm, 1, none⟩ = some (.int .i64 0) := (Za J9.out 1).trans rfl; have hcz2_2 : w1.cell? ⟨Jm, 2, none⟩ = some (.int .i64 0) := (Za J9.out 2).trans rfl; have hcz2_3 : w1.cell? ⟨Jm, 3, none⟩ = some (.bool false) := (Za J9.out 3).trans rfl; have hcz2_4 : w1.cell? ⟨Jm, 4, none⟩ = some (.int .i64 0) := (Za J9.out 4).trans rfl; have hcz2_5 : w1.cell? ⟨Jm, 5, none⟩ = some (.int .u64 0) := (Za J9.out 5).trans rfl; have hcz2_6 : w1.cell? ⟨Jm, 6, none⟩ = some (.int .u64 0) := (Za J9.out 6).trans rfl; have hcz2_7 : w1.cell? ⟨Jm, 7, none⟩ = some (.int .i64 0) := (Za J9.out 7).trans rfl; have hcz2_8 : w1.cell? ⟨Jm, 8, none⟩ = some (.bool false) := (Za J9.out 8).trans rfl; have hcz2_9 : w1.cell? ⟨Jm, 9, none⟩ = some (.int .i64 0) := (Za J9.out 9).trans rfl; have hcz2_10 : w1.cell? ⟨Jm, 10, none⟩ = some (.slice none 0 0) := (Za J9.out 10).trans rfl; have hcz2_11 : w1.cell? ⟨Jm, 11, none⟩ = some (.int .i64 0) := (Za J9.out 11).trans rfl; have hcz2_12 : w1.cell? ⟨Jm, 12, none⟩ = some (.int .i64 0) := (Za J9.out 12).trans rfl; have hcz2_13 : w1.cell? ⟨Jm, 13, none⟩ = some (.slice none 0 0) := (Za J9.out 13).trans rfl; have hfz2_0 := Zb J9.out 0; have hfz2_1 := Zb J9.out 1; have hfz2_2 := Zb J9.out 2; have hfz2_3 := Zb J9.out 3; have hfz2_4 := Zb J9.out 4; have hfz2_5 := Zb J9.out 5; have hfz2_6 := Zb J9.out 6; have hfz2_7 := Zb J9.out 7; have hfz2_8 := Zb J9.out 8; have hfz2_9 := Zb J9.out 9; have hfz2_10 := Zb J9.out 10; have hfz2_11 := Zb J9.out 11; have hfz2_12 := Zb J9.out 12; have hfz2_13 := Zb J9.out 13))
 refine bodyPost_ret (results_cell_row rfl _ _ Jm 30 #[.int .i64 0, .int .i64 0, .int .i64 0, .bool false, .int .i64 0, .int .u64 0, .int .u64 0, .int .i64 0, .bool false, .int .i64 0, .slice none 0 0, .int .i64 0, .int .i64 0, .slice none 0 0] (0, 0) _ rfl (by (with_reducible repeat (first | refine Zf ?_ _ | refine Zg ?_ | refine Ze ?_ _)); refine Zk (cs := #[.int .i64 0, .int .i64 0, .int .i64 0, .bool false, .int .i64 0, .int .u64 0, .int .u64 0, .int .i64 0, .bool false, .int .i64 0, .slice none 0 0, .int .i64 0, .int .i64 0, .slice none 0 0]) ?_ 13 _ rfl; (with_reducible repeat (first | refine Zf ?_ _ | refine Zg ?_ | refine Ze ?_ _)); refine Zk (cs := #[.int .i64 0, .int .i64 0, .int .i64 0, .bool false, .int .i64 0, .int .u64 0, .int .u64 0, .int .i64 0, .bool false, .int .i64 0, .slice none 0 0, .int .i64 0, .int .i64 0, .slice none 0 0]) ?_ 12 _ rfl; (with_reducible repeat (first | refine Zf ?_ _ | refine Zg ?_ | refine Ze ?_ _)); refine Zk (cs := #[.int .i64 0, .int .i64 0, .int .i64 0, .bool false, .int .i64 0, .int .u64 0, .int .u64 0, .int .i64 0, .bool false, .int .i64 0, .slice none 0 0, .int .i64 0, .int .i64 0, .slice none 0 0]) ?_ 11 _ rfl; (with_reducible repeat (first | refine Zf ?_ _ | refine Zg ?_ | refine Ze ?_ _)); refine Zk (cs := #[.int .i64 0, .int .i64 0, .int .i64 0, .bool false, .int .i64 0, .int .u64 0, .int .u64 0, .int .i64 0, .bool false, .int .i64 0, .slice none 0 0, .int .i64 0, .int .i64 0, .slice none 0 0]) ?_ 10 _ rfl; (with_reducible repeat (first | refine Zf ?_ _ | refine Zg ?_ | refine Ze ?_ _)); refine Zk (cs := #[.int .i64 0, .int .i64 0, .int .i64 0, .bool false, .int .i64 0, .int .u64 0, .int .u64 0, .int .i64 0, .bool false, .int .i64 0, .slice none 0 0, .int .i64 0, .int .i64 0, .slice none 0 0]) ?_ 9 _ rfl; (with_reducible repeat (first | refine Zf ?_ _ | refine Zg ?_ | refine Ze ?_ _)); refine Zk (cs := #[.int .i64 0, .int .i64 0, .int .i64 0, .bool false, .int .i64 0, .int .u64 0, .int .u64 0, .int .i64 0, .bool false, .int .i64 0, .slice none 0 0, .int .i64 0, .int .i64 0, .slice none 0 0]) ?_ 8 _ rfl; (with_reducible repeat (first | refine Zf ?_ _ | refine Zg ?_ | refine Ze ?_ _)); refine Zk (cs := #[.int .i64 0, .int .i64 0, .int .i64 0, .bool false, .int .i64 0, .int .u64 0, .int .u64 0, .int .i64 0, .bool false, .int .i64 0, .slice none 0 0, .int .i64 0, .int .i64 0, .slice none 0 0]) ?_ 7 _ rfl; (with_reducible repeat (first | refine Zf ?_ _ | refine Zg ?_ | refine Ze ?_ _)); refine Zk (cs := #[.int .i64 0, .int .i64 0, .int .i64 0, .bool false, .int .i64 0, .int .u64 0, .int .u64 0, .int .i64 0, .bool false, .int .i64 0, .slice none 0 0, .int .i64 0, .int .i64 0, .slice none 0 0]) ?_ 6 _ rfl; (with_reducible repeat (first | refine Zf ?_ _ | refine Zg ?_ | refine Ze ?_ _)); refine Zk (cs := #[.int .i64 0, .int .i64 0, .int .i64 0, .bool false, .int .i64 0, .int .u64 0, .int .u64 0, .int .i64 0, .bool false, .int .i64 0, .slice none 0 0, .int .i64 0, .int .i64 0, .slice none 0 0]) ?_ 5 _ rfl; (with_reducible repeat (first | refine Zf ?_ _ | refine Zg ?_ | refine Ze ?_ _)); refine Zk (cs := #[.int .i64 0, .int .i64 0, .int .i64 0, .bool false, .int .i64 0, .int .u64 0, .int .u64 0, .int .i64 0, .bool false, .int .i64 0, .slice none 0 0, .int .i64 0, .int .i64 0, .slice none 0 0]) ?_ 4 _ rfl; (with_reducible repeat (first | refine Zf ?_ _ | refine Zg ?_ | refine Ze ?_ _)); refine Zk (cs := #[.int .i64 0, .int .i64 0, .int .i64 0, .bool false, .int .i64 0, .int .u64 0, .int .u64 0, .int .i64 0, .bool false, .int .i64 0, .slice none 0 0, .int .i64 0, .int .i64 0, .slice none 0 0]) ?_ 3 _ rfl; (with_reducible repeat (first | refine Zf ?_ _ | refine Zg ?_ | refine Ze ?_ _)); refine Zk (cs := #[.int .i64 0, .int .i64 0, .int .i64 0, .bool false, .int .i64 0, .int .u64 0, .int .u64 0, .int .i64 0, .bool false, .int .i64 0, .slice none 0 0, .int .i64 0, .int .i64 0, .slice none 0 0]) ?_ 2 _ rfl; (with_reducible repeat (first | refine Zf ?_ _ | refine Zg ?_ | refine Ze ?_ _)); refine Zk (cs := #[.int .i64 0, .int .i64 0, .int .i64 0, .bool false, .int .i64 0, .int .u64 0, .int .u64 0, .int .i64 0, .bool false, .int .i64 0, .slice none 0 0, .int .i64 0, .int .i64 0, .slice none 0 0]) ?_ 1 _ rfl; (with_reducible repeat (first | refine Zf ?_ _ | refine Zg ?_ | refine Ze ?_ _)); refine Zk (cs := #[.int .i64 0, .int .i64 0, .int .i64 0, .bool false, .int .i64 0, .int .u64 0, .int .u64 0, .int .i64 0, .bool false, .int .i64 0, .slice none 0 0, .int .i64 0, .int .i64 0, .slice none 0 0]) ?_ 0 _ rfl; (with_reducible repeat (first | refine Zf ?_ _ | refine Zg ?_ | refine Ze ?_ _)); exact J9.out) Try.underlying30 rfl (by kernel_rfl)) rfl ?_
 exact ⟨_, _, by first | rfl | (simp [errW_none, errW_some] <;> rfl) | (simp [*, errW_none, errW_some] <;> rfl), by first | exact Kd.R_nil _ _ _ _ _ | exact Kd.N_nil _ _ _ _ _ | exact Kd.V_nil _ _ _ _ _ | exact Kd.Q_nil _ _ _ _ _ | exact Kd.S_nil _ _ _ _ _, by first | exact Kd.R_nil _ _ _ _ _ | exact Kd.N_nil _ _ _ _ _ | exact Kd.V_nil _ _ _ _ _ | exact Kd.Q_nil _ _ _ _ _ | exact Kd.S_nil _ _ _ _ _, by repeat (first | (with_reducible first | exact HB.out | apply Xm | apply Xi | apply Xj | refine Xc ?_ GE235.out) | exact HB.out)⟩
def Qi.f (a0 : Int) (a1 : Int) : Option (Int × Int × Int × Bool × Int × Int × Int × Int × Bool × Int × (List (Qh)) × Int × Int × (List (Vd))) := (masklaw2_holds.f).bind fun bt237 => ((masklaw2_holds.f).bind fun bt255 => (some (1, 0, 0, false, 0, 0, 0, 0, false, 0, ([] : List (Qh)), a0, a1, (([(⟨bt237.1, (⟨bt237.2.1, bt237.2.2.1, bt237.2.2.2.1, (⟨bt237.2.2.2.2.1, bt237.2.2.2.2.2.1, bt237.2.2.2.2.2.2.1⟩ : S24), bt237.2.2.2.2.2.2.2.1, bt237.2.2.2.2.2.2.2.2.1, bt237.2.2.2.2.2.2.2.2.2.1, bt237.2.2.2.2.2.2.2.2.2.2.1⟩ : Qh), bt237.2.2.2.2.2.2.2.2.2.2.2.1, bt237.2.2.2.2.2.2.2.2.2.2.2.2.1, bt237.2.2.2.2.2.2.2.2.2.2.2.2.2⟩ : Vd), (⟨bt255.1, (⟨bt255.2.1, bt255.2.2.1, bt255.2.2.2.1, (⟨bt255.2.2.2.2.1, bt255.2.2.2.2.2.1, bt255.2.2.2.2.2.2.1⟩ : S24), bt255.2.2.2.2.2.2.2.1, bt255.2.2.2.2.2.2.2.2.1, bt255.2.2.2.2.2.2.2.2.2.1, bt255.2.2.2.2.2.2.2.2.2.2.1⟩ : Qh), bt255.2.2.2.2.2.2.2.2.2.2.2.1, bt255.2.2.2.2.2.2.2.2.2.2.2.2.1, bt255.2.2.2.2.2.2.2.2.2.2.2.2.2⟩ : Vd)] : List (Vd))))))
set_option maxHeartbeats 8000000 in
set_option maxRecDepth 100000 in
theorem Qi.calls (a0 : Int) (a1 : Int) (r1 : Int) (r2 : Int) (r3 : Int) (r4 : Bool) (r5 : Int) (r6 : Int) (r7 : Int) (r8 : Int) (r9 : Bool) (r10 : Int) (r11 : List (Qh)) (r12 : Int) (r13 : Int) (r14 : List (Vd)) (w : World) (h : Qi.f a0 a1 = some (r1, r2, r3, r4, r5, r6, r7, r8, r9, r10, r11, r12, r13, r14)) :
 Calls Try.prog 21 #[.int .i64 a0, .int .i64 a1] w fun e w' => ∃ v10_ v13_ : Value, e = .returned (.agg #[.int .i64 r1, .int .i64 r2, .int .i64 r3, .bool r4, .int .i64 r5, .int .u64 r6, .int .u64 r7, .int .i64 r8, .bool r9, .int .i64 r10, v10_, .int .i64 r12, .int .i64 r13, v13_]) ∧ Kd.N k27 27 w' w.heap.size (fun k_ => (w.heap.size ≤ k_) ∧ some k_ ≠ (v13_ : Value).ownBlock) v10_ r11 ∧ Kd.N k30 30 w' w.heap.size (fun k_ => (w.heap.size ≤ k_) ∧ some k_ ≠ (v10_ : Value).ownBlock) v13_ r14 ∧ Below w.heap.size w w' := by
 have hu30 := Try.underlying30
 have HB := Zd.mk (Below.refl w.heap.size w)
 have H : ((masklaw2_holds.f).bind fun bt237 => ((masklaw2_holds.f).bind fun bt255 => (some (1, 0, 0, false, 0, 0, 0, 0, false, 0, ([] : List (Qh)), a0, a1, (([(⟨bt237.1, (⟨bt237.2.1, bt237.2.2.1, bt237.2.2.2.1, (⟨bt237.2.2.2.2.1, bt237.2.2.2.2.2.1, bt237.2.2.2.2.2.2.1⟩ : S24), bt237.2.2.2.2.2.2.2.1, bt237.2.2.2.2.2.2.2.2.1, bt237.2.2.2.2.2.2.2.2.2.1, bt237.2.2.2.2.2.2.2.2.2.2.1⟩ : Qh), bt237.2.2.2.2.2.2.2.2.2.2.2.1, bt237.2.2.2.2.2.2.2.2.2.2.2.2.1, bt237.2.2.2.2.2.2.2.2.2.2.2.2.2⟩ : Vd), (⟨bt255.1, (⟨bt255.2.1, bt255.2.2.1, bt255.2.2.2.1, (⟨bt255.2.2.2.2.1, bt255.2.2.2.2.2.1, bt255.2.2.2.2.2.2.1⟩ : S24), bt255.2.2.2.2.2.2.2.1, bt255.2.2.2.2.2.2.2.2.1, bt255.2.2.2.2.2.2.2.2.2.1, bt255.2.2.2.2.2.2.2.2.2.2.1⟩ : Qh), bt255.2.2.2.2.2.2.2.2.2.2.2.1, bt255.2.2.2.2.2.2.2.2.2.2.2.2.1, bt255.2.2.2.2.2.2.2.2.2.2.2.2.2⟩ : Vd)] : List (Vd))))))) = some (r1, r2, r3, r4, r5, r6, r7, r8, r9, r10, r11, r12, r13, r14) := h
 clear h
 replace H := Option.bind_eq_some_iff.mp H
 obtain ⟨⟨t237, t238, t239, t240, t241, t242, t243, t244, t245, t246, t247, t250, t251, t252⟩, A30, H⟩ := H
 replace H : ((masklaw2_holds.f).bind fun bt255 => (some (1, 0, 0, false, 0, 0, 0, 0, false, 0, ([] : List (Qh)), a0, a1, (([(⟨t237, (⟨t238, t239, t240, (⟨t241, t242, t243⟩ : S24), t244, t245, t246, t247⟩ : Qh), t250, t251, t252⟩ : Vd), (⟨bt255.1, (⟨bt255.2.1, bt255.2.2.1, bt255.2.2.2.1, (⟨bt255.2.2.2.2.1, bt255.2.2.2.2.2.1, bt255.2.2.2.2.2.2.1⟩ : S24), bt255.2.2.2.2.2.2.2.1, bt255.2.2.2.2.2.2.2.2.1, bt255.2.2.2.2.2.2.2.2.2.1, bt255.2.2.2.2.2.2.2.2.2.2.1⟩ : Qh), bt255.2.2.2.2.2.2.2.2.2.2.2.1, bt255.2.2.2.2.2.2.2.2.2.2.2.2.1, bt255.2.2.2.2.2.2.2.2.2.2.2.2.2⟩ : Vd)] : List (Vd)))))) = some (r1, r2, r3, r4, r5, r6, r7, r8, r9, r10, r11, r12, r13, r14) := H
 have A3 := Zd.mk A30
 clear A30
 replace H := Option.bind_eq_some_iff.mp H
 obtain ⟨⟨t255, t256, t257, t258, t259, t260, t261, t262, t263, t264, t265, t268, t269, t270⟩, A40, H⟩ := H
 replace H : (some (1, 0, 0, false, 0, 0, 0, 0, false, 0, ([] : List (Qh)), a0, a1, (([(⟨t237, (⟨t238, t239, t240, (⟨t241, t242, t243⟩ : S24), t244, t245, t246, t247⟩ : Qh), t250, t251, t252⟩ : Vd), (⟨t255, (⟨t256, t257, t258, (⟨t259, t260, t261⟩ : S24), t262, t263, t264, t265⟩ : Qh), t268, t269, t270⟩ : Vd)] : List (Vd))))) = some (r1, r2, r3, r4, r5, r6, r7, r8, r9, r10, r11, r12, r13, r14) := H
 have A4 := Zd.mk A40
 clear A40
 obtain ⟨y273, hy273⟩ : ∃ y_ : List (Vd), y_ = (([(⟨t237, (⟨t238, t239, t240, (⟨t241, t242, t243⟩ : S24), t244, t245, t246, t247⟩ : Qh), t250, t251, t252⟩ : Vd), (⟨t255, (⟨t256, t257, t258, (⟨t259, t260, t261⟩ : S24), t262, t263, t264, t265⟩ : Qh), t268, t269, t270⟩ : Vd)] : List (Vd))) := ⟨_, rfl⟩
 replace H : (some (1, 0, 0, false, 0, 0, 0, 0, false, 0, ([] : List (Qh)), a0, a1, y273)) = some (r1, r2, r3, r4, r5, r6, r7, r8, r9, r10, r11, r12, r13, r14) := by first | (rw [hy273]; with_reducible exact H) | (have H2_ := (Option.bind_some _ _).symm.trans H; rw [hy273]; with_reducible exact H2_) | (have H2_ := (Option.bind_some _ _).symm.trans H; with_reducible exact H2_) | with_reducible exact H | (rw [hy273]; exact H) | exact H
 have Ny273 := Zd.mk hy273
 clear hy273
 simp only [Option.some.injEq, Prod.mk.injEq] at H
 obtain ⟨rfl, rfl, rfl, rfl, rfl, rfl, rfl, rfl, rfl, rfl, rfl, rfl, rfl, rfl⟩ := H
 go_enter Try.func21, Try.ntmps21
 go_wp2_with (first | ((with_reducible refine Xd (N := 4) rfl ?_); refine Xe ?hg (N := 4) ?hd (cs := #[.int .i64 0, .int .i64 0, .int .i64 0, .bool false, .int .i64 0, .int .u64 0, .int .u64 0, .int .i64 0, .bool false, .int .i64 0, .slice none 0 0, .int .i64 0, .int .i64 0, .slice none 0 0]) (t := 30) ?hr ?_; (case hd => rfl); (case hg => rfl); (case hr => first | (go_simp; done) | (go_simp; rfl)); intro J2 hg w5 hbox hb; have n0_ := Zd.mk (Zj HB.out hb); have n1_ := Zd.mk (hbox); have n2_ := Zd.mk ((by rw [hg]; exact (Zl HB.out) : w.heap.size ≤ J2)); have n3_ := n2_; clear HB; have HB := n0_; have J5 := n1_; have GW236 := n2_; have GE236 := n3_; clear n0_ n1_ n2_ n3_; clear hb hbox hg) | ((with_reducible refine Zx (f := 30) rfl ?_); refine Xz (some 7) rfl rfl Try.func30 (by kernel_rfl) rfl #[] rfl (by (try simp only [List.map_toArray, List.map_cons, List.map_nil]); first | done | rfl | (simp only [List.length_drop, List.length_take]; rfl)) ?_; (with_reducible refine (masklaw2_holds.calls  t237 t238 t239 t240 t241 t242 t243 t244 t245 t246 t247 t250 t251 t252 _ A3.out).mono ?_); rintro e w6 ⟨v248, v253, rfl, ho0, ho1, hb⟩; refine ⟨_, rfl, ?_⟩; have n0_ := Zd.mk (Kd.Vb (Kd.Xq (ok' := fun k_ => (w.heap.size ≤ k_) ∧ some k_ ≠ (v253 : Value).ownBlock ∧ k_ ≠ J2) (Kd.R_N (Kd.Jk (Kd.Vk ho0 (Kd.R_typed ho1) (by decide)))) (fun k_ hk_ => ⟨(Nat.le_trans (Zl HB.out) hk_.2.1), hk_.1.2, (Kd.Kw J5.out k_ hk_.2.1)⟩)) (Zl HB.out)); have n1_ := Zd.mk (Kd.Vb (Kd.Xq (ok' := fun k_ => (w.heap.size ≤ k_) ∧ some k_ ≠ (v248 : Value).ownBlock ∧ k_ ≠ J2) (Kd.R_N (Kd.Jk ho1)) (fun k_ hk_ => ⟨(Nat.le_trans (Zl HB.out) hk_.2.1), hk_.1, (Kd.Kw J5.out k_ hk_.2.1)⟩)) (Zl HB.out)); have n2_ := Zd.mk (Zp J5.out hb); have n3_ := Zd.mk (Zj HB.out hb); clear J5; clear HB; have HO249 := n0_; have HO254 := n1_; have J5 := n2_; have HB := n3_; clear n0_ n1_ n2_ n3_; (try clear hb); (try clear hb2); (try clear hk); (try clear hi); (try clear ho0); (try clear ho1)) | ((with_reducible refine Zx (f := 30) rfl ?_); refine Xz (some 8) rfl rfl Try.func30 (by kernel_rfl) rfl #[] rfl (by (try simp only [List.map_toArray, List.map_cons, List.map_nil]); first | done | rfl | (simp only [List.length_drop, List.length_take]; rfl)) ?_; (with_reducible refine (masklaw2_holds.calls  t255 t256 t257 t258 t259 t260 t261 t262 t263 t264 t265 t268 t269 t270 _ A4.out).mono ?_); rintro e w7 ⟨v266, v271, rfl, ho0, ho1, hb⟩; refine ⟨_, rfl, ?_⟩; have n0_ := Zd.mk (Kd.Xq (Kd.N_told (Kd.N_told (Kd.N_old HO249.out hb) (Kd.Ko ho0)) (Kd.Ko ho1)) (fun _ h_ => h_.1)); have n1_ := Zd.mk (Kd.Xq (Kd.N_told (Kd.N_told (Kd.N_old HO254.out hb) (Kd.Ko ho0)) (Kd.Ko ho1)) (fun _ h_ => h_.1)); have n2_ := Zd.mk (Kd.Vb (Kd.Xq (ok' := fun k_ => (w.heap.size ≤ k_) ∧ some k_ ≠ (v271 : Value).ownBlock ∧ some k_ ≠ (v248 : Value).ownBlock ∧ some k_ ≠ (v253 : Value).ownBlock ∧ k_ ≠ J2) (Kd.R_N (Kd.Jk (Kd.Vk ho0 (Kd.R_typed ho1) (by decide)))) (fun k_ hk_ => ⟨(Nat.le_trans (Zl HB.out) hk_.2.1), hk_.1.2, (Kd.Vu (Kd.N_lt HO249.out) k_ hk_.2.1), (Kd.Vu (Kd.N_lt HO254.out) k_ hk_.2.1), (Kd.Kw J5.out k_ hk_.2.1)⟩)) (Zl HB.out)); have n3_ := Zd.mk (Kd.Vb (Kd.Xq (ok' := fun k_ => (w.heap.size ≤ k_) ∧ some k_ ≠ (v266 : Value).ownBlock ∧ some k_ ≠ (v248 : Value).ownBlock ∧ some k_ ≠ (v253 : Value).ownBlock ∧ k_ ≠ J2) (Kd.R_N (Kd.Jk ho1)) (fun k_ hk_ => ⟨(Nat.le_trans (Zl HB.out) hk_.2.1), hk_.1, (Kd.Vu (Kd.N_lt HO249.out) k_ hk_.2.1), (Kd.Vu (Kd.N_lt HO254.out) k_ hk_.2.1), (Kd.Kw J5.out k_ hk_.2.1)⟩)) (Zl HB.out)); have n4_ := Zd.mk (Zp J5.out hb); have n5_ := Zd.mk (Zj HB.out hb); clear HO249; clear HO254; clear J5; clear HB; have HO249 := n0_; have HO254 := n1_; have HO267 := n2_; have HO272 := n3_; have J5 := n4_; have HB := n5_; clear n0_ n1_ n2_ n3_ n4_ n5_; (try clear hb); (try clear hb2); (try clear hk); (try clear hi); (try clear ho0); (try clear ho1); obtain ⟨Ao8, co8, eo8⟩ := Kd.Va HO249.out; subst eo8; obtain ⟨Ao9, co9, eo9⟩ := Kd.Va HO254.out; subst eo9; obtain ⟨Ao10, co10, eo10⟩ := Kd.Va HO267.out; subst eo10; obtain ⟨Ao11, co11, eo11⟩ := Kd.Va HO272.out; subst eo11) | ((with_reducible refine Xd (N := 9) rfl ?_); refine Kd.N_lit k30 _ 30 ?hg (N' := 9) ?hd (xs := ([(⟨t237, (⟨t238, t239, t240, (⟨t241, t242, t243⟩ : S24), t244, t245, t246, t247⟩ : Qh), t250, t251, t252⟩ : Vd), (⟨t255, (⟨t256, t257, t258, (⟨t259, t260, t261⟩ : S24), t262, t263, t264, t265⟩ : Qh), t268, t269, t270⟩ : Vd)] : List (Vd))) (inner := [.int .i64 t237, .int .i64 t238, .int .i64 t239, .bool t240, .int .i64 t241, .int .u64 t242, .int .u64 t243, .int .i64 t244, .bool t245, .int .i64 t246, .slice Ao8 t247.length co8, .int .i64 t250, .int .i64 t251, .slice Ao9 t252.length co9, .int .i64 t255, .int .i64 t256, .int .i64 t257, .bool t258, .int .i64 t259, .int .u64 t260, .int .u64 t261, .int .i64 t262, .bool t263, .int .i64 t264, .slice Ao10 t265.length co10, .int .i64 t268, .int .i64 t269, .slice Ao11 t270.length co11]) (ok := (fun k_ => (w.heap.size ≤ k_) ∧ k_ ≠ J2)) (okp := (fun k_ => (w.heap.size ≤ k_) ∧ k_ ≠ J2)) ?hr ?hp (fun _ hk => hk) ((show ∀ k_, w7.heap.size ≤ k_ → (fun k_ => (w.heap.size ≤ k_) ∧ k_ ≠ J2) k_ from fun k_ hk => ⟨(Nat.le_trans (Zl HB.out) hk), Kd.Kw J5.out k_ hk⟩) _ (Nat.le_refl _)) (Below.refl _ _) (Nat.le_refl _) (by simp) ?_; (case hd => rfl); (case hg => rfl); (case hr => first | (go_simp; done) | (go_simp; rfl)); (case hp => exact (Ku.front (show Kd.FK k30 _ _ (⟨t237, (⟨t238, t239, t240, (⟨t241, t242, t243⟩ : S24), t244, t245, t246, t247⟩ : Qh), t250, t251, t252⟩ : Vd) [.int .i64 t237, .int .i64 t238, .int .i64 t239, .bool t240, .int .i64 t241, .int .u64 t242, .int .u64 t243, .int .i64 t244, .bool t245, .int .i64 t246, .slice Ao8 t247.length co8, .int .i64 t250, .int .i64 t251, .slice Ao9 t252.length co9] from (k30_mkF _ _ (⟨t237, (⟨t238, t239, t240, (⟨t241, t242, t243⟩ : S24), t244, t245, t246, t247⟩ : Qh), t250, t251, t252⟩ : Vd) (Kd.Qq (Kd.Xq (ok' := (fun k_ => (w.heap.size ≤ k_) ∧ k_ ≠ J2)) HO249.out (fun k_ hk => ⟨hk.1.1.1, hk.1.1.2.2⟩))).2.1 (Kd.N_F (Kd.Xq (ok' := (fun k_ => (w.heap.size ≤ k_) ∧ k_ ≠ J2)) HO249.out (fun k_ hk => ⟨hk.1.1.1, hk.1.1.2.2⟩))) (Kd.Qq (Kd.Xq (ok' := (fun k_ => (w.heap.size ≤ k_) ∧ k_ ≠ J2)) HO254.out (fun k_ hk => ⟨hk.1.1.1, hk.1.1.2.2⟩))).2.1 (Kd.N_F (Kd.Xq (ok' := (fun k_ => (w.heap.size ≤ k_) ∧ k_ ≠ J2)) HO254.out (fun k_ hk => ⟨hk.1.1.1, hk.1.1.2.2⟩))))) rfl (Ku.front (show Kd.FK k30 _ _ (⟨t255, (⟨t256, t257, t258, (⟨t259, t260, t261⟩ : S24), t262, t263, t264, t265⟩ : Qh), t268, t269, t270⟩ : Vd) [.int .i64 t255, .int .i64 t256, .int .i64 t257, .bool t258, .int .i64 t259, .int .u64 t260, .int .u64 t261, .int .i64 t262, .bool t263, .int .i64 t264, .slice Ao10 t265.length co10, .int .i64 t268, .int .i64 t269, .slice Ao11 t270.length co11] from (k30_mkF _ _ (⟨t255, (⟨t256, t257, t258, (⟨t259, t260, t261⟩ : S24), t262, t263, t264, t265⟩ : Qh), t268, t269, t270⟩ : Vd) (Kd.Qq (Kd.Xq (ok' := (fun k_ => (w.heap.size ≤ k_) ∧ k_ ≠ J2)) HO267.out (fun k_ hk => ⟨hk.1, hk.2.2.2.2⟩))).2.1 (Kd.N_F (Kd.Xq (ok' := (fun k_ => (w.heap.size ≤ k_) ∧ k_ ≠ J2)) HO267.out (fun k_ hk => ⟨hk.1, hk.2.2.2.2⟩))) (Kd.Qq (Kd.Xq (ok' := (fun k_ => (w.heap.size ≤ k_) ∧ k_ ≠ J2)) HO272.out (fun k_ hk => ⟨hk.1, hk.2.2.2.2⟩))).2.1 (Kd.N_F (Kd.Xq (ok' := (fun k_ => (w.heap.size ≤ k_) ∧ k_ ≠ J2)) HO272.out (fun k_ hk => ⟨hk.1, hk.2.2.2.2⟩))))) rfl (Ku.none _ _) rfl) rfl)); intro v274 w12 ho13 hb hg_ hnew_; clear hg_ hnew_; (first | rw [← Ny273.out] at ho13 | (simp only [Int.reduceToNat] at ho13; rw [← Ny273.out] at ho13)); have n0_ := Zd.mk (Kd.Vb ho13 (Zl HB.out)); have n1_ := Zd.mk (Zp J5.out hb); have n2_ := Zd.mk (Zj HB.out hb); clear J5; clear HB; clear HO249; clear HO254; clear HO267; clear HO272; have HO275 := n0_; have J5 := n1_; have HB := n2_; clear n0_ n1_ n2_; clear hb ho13; obtain ⟨Ao14, co14, eo14⟩ := Kd.Va HO275.out; subst eo14; have hcz15_0 : w12.cell? ⟨J2, 0, none⟩ = some (.int .i64 0) := (Za J5.out 0).trans rfl; have hcz15_1 : w12.cell? ⟨J2, 1, none⟩ = some (.int .i64 0) := (Za J5.out 1).trans rfl; have hcz15_2 : w12.cell? ⟨J2, 2, none⟩ = some (.int .i64 0) := (Za J5.out 2).trans rfl; have hcz15_3 : w12.cell? ⟨J2, 3, none⟩ = some (.bool false) := (Za J5.out 3).trans rfl; have hcz15_4 : w12.cell? ⟨J2, 4, none⟩ = some (.int .i64 0) := (Za J5.out 4).trans rfl; have hcz15_5 : w12.cell? ⟨J2, 5, none⟩ = some (.int .u64 0) := (Za J5.out 5).trans rfl; have hcz15_6 : w12.cell? ⟨J2, 6, none⟩ = some (.int .u64 0) := (Za J5.out 6).trans rfl; have hcz15_7 : w12.cell? ⟨J2, 7, none⟩ = some (.int .i64 0) := (Za J5.out 7).trans rfl; have hcz15_8 : w12.cell? ⟨J2, 8, none⟩ = some (.bool false) := (Za J5.out 8).trans rfl; have hcz15_9 : w12.cell? ⟨J2, 9, none⟩ = some (.int .i64 0) := (Za J5.out 9).trans rfl; have hcz15_10 : w12.cell? ⟨J2, 10, none⟩ = some (.slice none 0 0) := (Za J5.out 10).trans rfl; have hcz15_11 : w12.cell? ⟨J2, 11, none⟩ = some (.int .i64 0) := (Za J5.out 11).trans rfl; have hcz15_12 : w12.cell? ⟨J2, 12, none⟩ = some (.int .i64 0) := (Za J5.out 12).trans rfl; have hcz15_13 : w12.cell? ⟨J2, 13, none⟩ = some (.slice none 0 0) := (Za J5.out 13).trans rfl; have hfz15_0 := Zb J5.out 0; have hfz15_1 := Zb J5.out 1; have hfz15_2 := Zb J5.out 2; have hfz15_3 := Zb J5.out 3; have hfz15_4 := Zb J5.out 4; have hfz15_5 := Zb J5.out 5; have hfz15_6 := Zb J5.out 6; have hfz15_7 := Zb J5.out 7; have hfz15_8 := Zb J5.out 8; have hfz15_9 := Zb J5.out 9; have hfz15_10 := Zb J5.out 10; have hfz15_11 := Zb J5.out 11; have hfz15_12 := Zb J5.out 12; have hfz15_13 := Zb J5.out 13))
 refine bodyPost_ret (results_cell_row rfl _ _ J2 30 #[.int .i64 1, .int .i64 0, .int .i64 0, .bool false, .int .i64 0, .int .u64 0, .int .u64 0, .int .i64 0, .bool false, .int .i64 0, .slice none 0 0, .int .i64 a0, .int .i64 a1, .slice Ao14 y273.length co14] (0, 0) _ rfl (by (with_reducible repeat (first | refine Zf ?_ _ | refine Zg ?_ | refine Ze ?_ _)); refine Zk (cs := #[.int .i64 1, .int .i64 0, .int .i64 0, .bool false, .int .i64 0, .int .u64 0, .int .u64 0, .int .i64 0, .bool false, .int .i64 0, .slice none 0 0, .int .i64 a0, .int .i64 a1, .slice none 0 0]) ?_ 13 _ rfl; (with_reducible repeat (first | refine Zf ?_ _ | refine Zg ?_ | refine Ze ?_ _)); refine Zk (cs := #[.int .i64 1, .int .i64 0, .int .i64 0, .bool false, .int .i64 0, .int .u64 0, .int .u64 0, .int .i64 0, .bool false, .int .i64 0, .slice none 0 0, .int .i64 a0, .int .i64 0, .slice none 0 0]) ?_ 12 _ rfl; (with_reducible repeat (first | refine Zf ?_ _ | refine Zg ?_ | refine Ze ?_ _)); refine Zk (cs := #[.int .i64 1, .int .i64 0, .int .i64 0, .bool false, .int .i64 0, .int .u64 0, .int .u64 0, .int .i64 0, .bool false, .int .i64 0, .slice none 0 0, .int .i64 0, .int .i64 0, .slice none 0 0]) ?_ 11 _ rfl; (with_reducible repeat (first | refine Zf ?_ _ | refine Zg ?_ | refine Ze ?_ _)); refine Zk (cs := #[.int .i64 1, .int .i64 0, .int .i64 0, .bool false, .int .i64 0, .int .u64 0, .int .u64 0, .int .i64 0, .bool false, .int .i64 0, .slice none 0 0, .int .i64 0, .int .i64 0, .slice none 0 0]) ?_ 10 _ rfl; (with_reducible repeat (first | refine Zf ?_ _ | refine Zg ?_ | refine Ze ?_ _)); refine Zk (cs := #[.int .i64 1, .int .i64 0, .int .i64 0, .bool false, .int .i64 0, .int .u64 0, .int .u64 0, .int .i64 0, .bool false, .int .i64 0, .slice none 0 0, .int .i64 0, .int .i64 0, .slice none 0 0]) ?_ 9 _ rfl; (with_reducible repeat (first | refine Zf ?_ _ | refine Zg ?_ | refine Ze ?_ _)); refine Zk (cs := #[.int .i64 1, .int .i64 0, .int .i64 0, .bool false, .int .i64 0, .int .u64 0, .int .u64 0, .int .i64 0, .bool false, .int .i64 0, .slice none 0 0, .int .i64 0, .int .i64 0, .slice none 0 0]) ?_ 8 _ rfl; (with_reducible repeat (first | refine Zf ?_ _ | refine Zg ?_ | refine Ze ?_ _)); refine Zk (cs := #[.int .i64 1, .int .i64 0, .int .i64 0, .bool false, .int .i64 0, .int .u64 0, .int .u64 0, .int .i64 0, .bool false, .int .i64 0, .slice none 0 0, .int .i64 0, .int .i64 0, .slice none 0 0]) ?_ 7 _ rfl; (with_reducible repeat (first | refine Zf ?_ _ | refine Zg ?_ | refine Ze ?_ _)); refine Zk (cs := #[.int .i64 1, .int .i64 0, .int .i64 0, .bool false, .int .i64 0, .int .u64 0, .int .u64 0, .int .i64 0, .bool false, .int .i64 0, .slice none 0 0, .int .i64 0, .int .i64 0, .slice none 0 0]) ?_ 6 _ rfl; (with_reducible repeat (first | refine Zf ?_ _ | refine Zg ?_ | refine Ze ?_ _)); refine Zk (cs := #[.int .i64 1, .int .i64 0, .int .i64 0, .bool false, .int .i64 0, .int .u64 0, .int .u64 0, .int .i64 0, .bool false, .int .i64 0, .slice none 0 0, .int .i64 0, .int .i64 0, .slice none 0 0]) ?_ 5 _ rfl; (with_reducible repeat (first | refine Zf ?_ _ | refine Zg ?_ | refine Ze ?_ _)); refine Zk (cs := #[.int .i64 1, .int .i64 0, .int .i64 0, .bool false, .int .i64 0, .int .u64 0, .int .u64 0, .int .i64 0, .bool false, .int .i64 0, .slice none 0 0, .int .i64 0, .int .i64 0, .slice none 0 0]) ?_ 4 _ rfl; (with_reducible repeat (first | refine Zf ?_ _ | refine Zg ?_ | refine Ze ?_ _)); refine Zk (cs := #[.int .i64 1, .int .i64 0, .int .i64 0, .bool false, .int .i64 0, .int .u64 0, .int .u64 0, .int .i64 0, .bool false, .int .i64 0, .slice none 0 0, .int .i64 0, .int .i64 0, .slice none 0 0]) ?_ 3 _ rfl; (with_reducible repeat (first | refine Zf ?_ _ | refine Zg ?_ | refine Ze ?_ _)); refine Zk (cs := #[.int .i64 1, .int .i64 0, .int .i64 0, .bool false, .int .i64 0, .int .u64 0, .int .u64 0, .int .i64 0, .bool false, .int .i64 0, .slice none 0 0, .int .i64 0, .int .i64 0, .slice none 0 0]) ?_ 2 _ rfl; (with_reducible repeat (first | refine Zf ?_ _ | refine Zg ?_ | refine Ze ?_ _)); refine Zk (cs := #[.int .i64 1, .int .i64 0, .int .i64 0, .bool false, .int .i64 0, .int .u64 0, .int .u64 0, .int .i64 0, .bool false, .int .i64 0, .slice none 0 0, .int .i64 0, .int .i64 0, .slice none 0 0]) ?_ 1 _ rfl; (with_reducible repeat (first | refine Zf ?_ _ | refine Zg ?_ | refine Ze ?_ _)); refine Zk (cs := #[.int .i64 0, .int .i64 0, .int .i64 0, .bool false, .int .i64 0, .int .u64 0, .int .u64 0, .int .i64 0, .bool false, .int .i64 0, .slice none 0 0, .int .i64 0, .int .i64 0, .slice none 0 0]) ?_ 0 _ rfl; (with_reducible repeat (first | refine Zf ?_ _ | refine Zg ?_ | refine Ze ?_ _)); exact J5.out) Try.underlying30 rfl (by kernel_rfl)) rfl ?_
 exact ⟨_, _, by first | rfl | (simp [errW_none, errW_some] <;> rfl) | (simp [*, errW_none, errW_some] <;> rfl), by first | exact Kd.R_nil _ _ _ _ _ | exact Kd.N_nil _ _ _ _ _ | exact Kd.V_nil _ _ _ _ _ | exact Kd.Q_nil _ _ _ _ _ | exact Kd.S_nil _ _ _ _ _, by (with_reducible repeat (first | apply Kd.N_alloc | apply Kd.N_drewN | apply Kd.Vg)); exact Kd.Xq (Kd.Xn (p := ⟨J2, 13, none⟩) (Kd.Xn (p := ⟨J2, 12, none⟩) (Kd.Xn (p := ⟨J2, 11, none⟩) (Kd.Xn (p := ⟨J2, 10, none⟩) (Kd.Xn (p := ⟨J2, 9, none⟩) (Kd.Xn (p := ⟨J2, 8, none⟩) (Kd.Xn (p := ⟨J2, 7, none⟩) (Kd.Xn (p := ⟨J2, 6, none⟩) (Kd.Xn (p := ⟨J2, 5, none⟩) (Kd.Xn (p := ⟨J2, 4, none⟩) (Kd.Xn (p := ⟨J2, 3, none⟩) (Kd.Xn (p := ⟨J2, 2, none⟩) (Kd.Xn (p := ⟨J2, 1, none⟩) (Kd.Xn (p := ⟨J2, 0, none⟩) (Kd.Xq HO275.out (fun k_ hk => (⟨hk, hk.2⟩ : _ ∧ k_ ≠ J2))) (fun _ hk => hk.2) (.int .i64 1)) (fun _ hk => hk.2) (.int .i64 0)) (fun _ hk => hk.2) (.int .i64 0)) (fun _ hk => hk.2) (.bool false)) (fun _ hk => hk.2) (.int .i64 0)) (fun _ hk => hk.2) (.int .u64 0)) (fun _ hk => hk.2) (.int .u64 0)) (fun _ hk => hk.2) (.int .i64 0)) (fun _ hk => hk.2) (.bool false)) (fun _ hk => hk.2) (.int .i64 0)) (fun _ hk => hk.2) (.slice none 0 0)) (fun _ hk => hk.2) (.int .i64 a0)) (fun _ hk => hk.2) (.int .i64 a1)) (fun _ hk => hk.2) (.slice Ao14 y273.length co14)) (fun _ hk => ⟨hk.1.1, (by simp [Value.ownBlock])⟩), by repeat (first | (with_reducible first | exact HB.out | apply Xm | apply Xi | apply Xj | refine Xc ?_ GE236.out) | exact HB.out)⟩
end Go.Proofs.Ytkbkndfonccekaa.PF
namespace Go.Proofs.Ytkbkndfonccekaa.PF
open Go.RowKit Go.Proofs.YtkbkndfonccekaaW.PrintWords Go.Proofs.YtkbkndfonccekaaW.PrintLast Go.Proofs.YtkbkndfonccekaaW.PrintMore
attribute [local go_sem] Qn Qp Kq Kt
set_option linter.unusedVariables false
set_option linter.unusedSimpArgs false
def Zu.l0 : Nat → List Int → List Int → Int → Int → Option (Bool)
  | 0, _, _, _, _ => none
  | k + 1, x0, x1, x12, x13 => if x13 < x12 then (if 0 ≤ x13 then (if x13 < (x0.length : Int) then (if x13 < (x1.length : Int) then (if (rd x0 x13) = (rd x1 x13) then (Zu.l0 k x0 x1 x12 (wrap64 (x13 + 1))) else (some false)) else (none)) else (none)) else (none)) else (some true)
def Zu.f (k : Nat) (l0 : List Int) (l1 : List Int) : Option (Bool) := if (l0.length : Int) = (l1.length : Int) then (Zu.l0 k l0 l1 (l0.length : Int) 0) else (some false)
theorem Zu.mono_l : ∀ k, (∀ y0 y1 y2 y3, Xo (Zu.l0 k y0 y1 y2 y3) (Zu.l0 (k + 1) y0 y1 y2 y3))
  | 0 => fun _ _ _ _ r h => by simp [Zu.l0] at h
  | k + 1 => by
    have ih0 := Zu.mono_l k
    · intro y0 y1 y2 y3
      unfold Zu.l0
      repeat' first
      | (with_reducible exact ih0 _ _ _ _)
      | (with_reducible exact Xo.refl _)
      | (with_reducible exact Xo.none _)
      | (with_reducible refine Xo.ite ?_ ?_)
      | (with_reducible refine Xo.bind ?_ (fun _ => ?_))
      | exact ih0 _ _ _ _
      | exact Xo.none _
      | refine Xo.ite ?_ ?_
      | refine Xo.bind ?_ (fun _ => ?_)
theorem Zu.mono : ∀ a0 a1 k, Xo (Zu.f k a0 a1) (Zu.f (k + 1) a0 a1) := by
  intro a0 a1 k
  have ih0 := Zu.mono_l k
  unfold Zu.f
  repeat' first
      | (with_reducible exact ih0 _ _ _ _)
      | (with_reducible exact Xo.refl _)
      | (with_reducible exact Xo.none _)
      | (with_reducible refine Xo.ite ?_ ?_)
      | (with_reducible refine Xo.bind ?_ (fun _ => ?_))
      | exact ih0 _ _ _ _
      | exact Xo.none _
      | refine Xo.ite ?_ ?_
      | refine Xo.bind ?_ (fun _ => ?_)
set_option maxHeartbeats 8000000 in
set_option maxRecDepth 100000 in
theorem Zu.calls (k : Nat) (A0 : Option Addr) (c0 : Nat) (l0 : List Int) (A1 : Option Addr) (c1 : Nat) (l1 : List Int) (r : Bool) (w : World) (hr0 : Kd.C (Kd.int .i64) w A0 l0.length l0) (hc0 : l0.length ≤ c0) (hr1 : Kd.C (Kd.int .i64) w A1 l1.length l1) (hc1 : l1.length ≤ c1) (h : Zu.f k l0 l1 = some r) :
 Calls Try.prog 22 #[.slice A0 l0.length c0, .slice A1 l1.length c1] w fun e w' => e = .returned (.bool r) ∧ Ve w w' := by
 have HR0 := Zd.mk hr0
 have HC0 := Zd.mk hc0
 clear hr0 hc0
 have HR1 := Zd.mk hr1
 have HC1 := Zd.mk hc1
 clear hr1 hc1
 have H : (if (l0.length : Int) = (l1.length : Int) then (Zu.l0 k l0 l1 (l0.length : Int) 0) else (some false)) = some r := h
 clear h
 by_cases c3 : (l0.length : Int) = (l1.length : Int)
 ·rw [if_pos c3] at H
  have c3b0 : ((l0.length : Int) == (l1.length : Int)) = true := beq_iff_eq.mpr c3
  have c3b1 : ((l0.length : Int) != (l1.length : Int)) = false := bne_eq_false_iff_eq.mpr c3
  have c3b2 : (l0.length == l1.length) = true := by first | simpa using c3 | (simp at c3 ⊢; omega)
  clear c3
  have H' := Zd.mk H
  clear H
  go_enter Try.func22, Try.ntmps22
  go_wp2
  repeat (go_quiet (fail); try go_wp2)
  go_loopg [13] k (fun kq v13 w' => ∃ (J8 : Int), v13 = .int .i64 J8 ∧ Zd (Zu.l0 kq l0 l1 (l0.length : Int) J8 = some r) ∧ Zd (kq ≤ k) ∧ Ve w w')
  case atStart => exact ⟨(0), (by first | rfl | (simp; done) | (simp [*]; done)), H', ⟨Nat.le_refl _⟩, by repeat (first | exact Ve.refl _ | apply Ve.step)⟩
  case round =>
   clear H'
   try clear c3b0
   try clear c3b1
   try clear c3b2
   obtain ⟨J8, rfl, HA, HK1, ⟨m1, rfl⟩⟩ := hrel
   cases gk with
   | zero => exact absurd HA.out (by simp [Zu.l0])
   | succ k1 =>
    have H := HA.out
    clear HA
    simp only [Zu.l0] at H
    by_cases c4 : J8 < (l0.length : Int)
    ·rw [if_pos c4] at H
     have c4b0 : decide (J8 < (l0.length : Int)) = true := decide_eq_true c4
     clear c4
     by_cases c5 : 0 ≤ J8
     ·rw [if_pos c5] at H
      have c5b0 : decide (0 ≤ J8) = true := decide_eq_true c5
      clear c5
      by_cases c6 : J8 < (l0.length : Int)
      ·rw [if_pos c6] at H
       have c6b0 : decide (J8 < (l0.length : Int)) = true := decide_eq_true c6
       clear c6
       by_cases c7 : J8 < (l1.length : Int)
       ·rw [if_pos c7] at H
        have c7b0 : decide (J8 < (l1.length : Int)) = true := decide_eq_true c7
        clear c7
        by_cases c8 : (rd l0 J8) = (rd l1 J8)
        ·rw [if_pos c8] at H
         have c8b0 : ((rd l0 J8) == (rd l1 J8)) = true := beq_iff_eq.mpr c8
         have c8b1 : ((rd l0 J8) != (rd l1 J8)) = false := bne_eq_false_iff_eq.mpr c8
         clear c8
         have H' := Zd.mk H
         clear H
         have p276 : 0 ≤ (J8 : Int) := of_decide_eq_true (by first | (with_reducible assumption) | assumption)
         have q276 : J8 < (l0.length : Int) := of_decide_eq_true (by first | (with_reducible assumption) | assumption)
         obtain ⟨ad276, e276, hx276_0⟩ := Kd.at_int HR0.out J8 p276 q276
         cases e276
         replace p276 := eq_true p276
         replace q276 := eq_true q276
         have p277 : 0 ≤ (J8 : Int) := of_decide_eq_true (by first | (with_reducible assumption) | assumption)
         have q277 : J8 < (l1.length : Int) := of_decide_eq_true (by first | (with_reducible assumption) | assumption)
         obtain ⟨ad277, e277, hx277_0⟩ := Kd.at_int HR1.out J8 p277 q277
         cases e277
         replace p277 := eq_true p277
         replace q277 := eq_true q277
         go_wp2
         repeat (go_quiet (fail); try go_wp2)
         go_roundg k1
         case measure => have := HK1.out; omega
         case rel => exact ⟨(wrap64 (J8 + 1)), (by first | rfl | (simp; done) | (simp [*]; done)), H', ⟨by have := HK1.out; omega⟩, by repeat (first | exact Ve.refl _ | apply Ve.step)⟩
        ·rw [if_neg c8] at H
         have c8b0 : ((rd l0 J8) == (rd l1 J8)) = false := beq_eq_false_iff_ne.mpr c8
         have c8b1 : ((rd l0 J8) != (rd l1 J8)) = true := bne_iff_ne.mpr c8
         obtain rfl := Option.some.inj H
         have p276 : 0 ≤ (J8 : Int) := of_decide_eq_true (by first | (with_reducible assumption) | assumption)
         have q276 : J8 < (l0.length : Int) := of_decide_eq_true (by first | (with_reducible assumption) | assumption)
         obtain ⟨ad276, e276, hx276_0⟩ := Kd.at_int HR0.out J8 p276 q276
         cases e276
         replace p276 := eq_true p276
         replace q276 := eq_true q276
         have p277 : 0 ≤ (J8 : Int) := of_decide_eq_true (by first | (with_reducible assumption) | assumption)
         have q277 : J8 < (l1.length : Int) := of_decide_eq_true (by first | (with_reducible assumption) | assumption)
         obtain ⟨ad277, e277, hx277_0⟩ := Kd.at_int HR1.out J8 p277 q277
         cases e277
         replace p277 := eq_true p277
         replace q277 := eq_true q277
         go_wp2
         repeat (go_quiet (fail); try go_wp2)
         go_ret
         exact ⟨by first | rfl | (simp; done) | (simp [*]; done), by repeat (first | exact Ve.refl _ | apply Ve.step)⟩
       ·rw [if_neg c7] at H
        exact absurd H (by simp)
      ·rw [if_neg c6] at H
       exact absurd H (by simp)
     ·rw [if_neg c5] at H
      exact absurd H (by simp)
    ·rw [if_neg c4] at H
     have c4b0 : decide (J8 < (l0.length : Int)) = false := decide_eq_false c4
     clear c4
     obtain rfl := Option.some.inj H
     go_wp2
     repeat (go_quiet (fail); try go_wp2)
     go_ret
     exact ⟨by first | rfl | (simp; done) | (simp [*]; done), by repeat (first | exact Ve.refl _ | apply Ve.step)⟩
 ·rw [if_neg c3] at H
  have c3b0 : ((l0.length : Int) == (l1.length : Int)) = false := beq_eq_false_iff_ne.mpr c3
  have c3b1 : ((l0.length : Int) != (l1.length : Int)) = true := bne_iff_ne.mpr c3
  have c3b2 : (l0.length == l1.length) = false := by first | simpa using c3 | (simp at c3 ⊢; omega)
  obtain rfl := Option.some.inj H
  go_enter Try.func22, Try.ntmps22
  go_wp2
  repeat (go_quiet (fail); try go_wp2)
  go_ret
  exact ⟨by first | rfl | (simp; done) | (simp [*]; done), by repeat (first | exact Ve.refl _ | apply Ve.step)⟩
def Xv.f (k : Nat)  : Option (Bool) := (Qi.f 1 2).bind fun bt278 => ((Qa.f k bt278.1 bt278.2.1 bt278.2.2.1 bt278.2.2.2.1 bt278.2.2.2.2.1 bt278.2.2.2.2.2.1 bt278.2.2.2.2.2.2.1 bt278.2.2.2.2.2.2.2.1 bt278.2.2.2.2.2.2.2.2.1 bt278.2.2.2.2.2.2.2.2.2.1 bt278.2.2.2.2.2.2.2.2.2.2.1 bt278.2.2.2.2.2.2.2.2.2.2.2.1 bt278.2.2.2.2.2.2.2.2.2.2.2.2.1 bt278.2.2.2.2.2.2.2.2.2.2.2.2.2 (([(([true, false] : List Bool)), (([true, true] : List Bool)), (([false, true] : List Bool)), (([false, true] : List Bool))] : List (List Bool))) 1).bind fun bt311 => ((Qi.f 3 (-1)).bind fun bt315 => ((Qo.f k bt315.1 bt315.2.1 bt315.2.2.1 bt315.2.2.2.1 bt315.2.2.2.2.1 bt315.2.2.2.2.2.1 bt315.2.2.2.2.2.2.1 bt315.2.2.2.2.2.2.2.1 bt315.2.2.2.2.2.2.2.2.1 bt315.2.2.2.2.2.2.2.2.2.1 bt315.2.2.2.2.2.2.2.2.2.2.1 bt315.2.2.2.2.2.2.2.2.2.2.2.1 bt315.2.2.2.2.2.2.2.2.2.2.2.2.1 bt315.2.2.2.2.2.2.2.2.2.2.2.2.2).bind fun bt333 => (if bt311.2 = 0 then (if bt333.2 = 0 then (if bt333.1 = 4 then ((Zu.f k bt311.1 (([2, 3] : List Int))).bind fun t338 => (some t338)) else (none)) else (none)) else (none)))))
theorem Xv.mono : ∀ k, Xo (Xv.f k ) (Xv.f (k + 1) ) := by
  intro  k
  unfold Xv.f
  repeat' first
      | (with_reducible exact Qa.mono _ _ _ _ _ _ _ _ _ _ _ _ _ _ _ _ _)
      | (with_reducible exact Qo.mono _ _ _ _ _ _ _ _ _ _ _ _ _ _ _)
      | (with_reducible exact Zu.mono _ _ _)
      | (with_reducible exact Xo.refl _)
      | (with_reducible exact Xo.none _)
      | (with_reducible refine Xo.ite ?_ ?_)
      | (with_reducible refine Xo.bind ?_ (fun _ => ?_))
      | exact Qa.mono _ _ _ _ _ _ _ _ _ _ _ _ _ _ _ _ _
      | exact Qo.mono _ _ _ _ _ _ _ _ _ _ _ _ _ _ _
      | exact Zu.mono _ _ _
      | exact Xo.none _
      | refine Xo.ite ?_ ?_
      | refine Xo.bind ?_ (fun _ => ?_)
set_option maxHeartbeats 8000000 in
set_option maxRecDepth 100000 in
theorem Xv.calls (k : Nat)  (r : Bool) (w : World) (h : Xv.f k  = some r) :
 Calls Try.prog 7 #[] w fun e w' => e = .returned (.bool r) ∧ Below w.heap.size w w' := by
 have HB := Zd.mk (Below.refl w.heap.size w)
 have H : ((Qi.f 1 2).bind fun bt278 => ((Qa.f k bt278.1 bt278.2.1 bt278.2.2.1 bt278.2.2.2.1 bt278.2.2.2.2.1 bt278.2.2.2.2.2.1 bt278.2.2.2.2.2.2.1 bt278.2.2.2.2.2.2.2.1 bt278.2.2.2.2.2.2.2.2.1 bt278.2.2.2.2.2.2.2.2.2.1 bt278.2.2.2.2.2.2.2.2.2.2.1 bt278.2.2.2.2.2.2.2.2.2.2.2.1 bt278.2.2.2.2.2.2.2.2.2.2.2.2.1 bt278.2.2.2.2.2.2.2.2.2.2.2.2.2 (([(([true, false] : List Bool)), (([true, true] : List Bool)), (([false, true] : List Bool)), (([false, true] : List Bool))] : List (List Bool))) 1).bind fun bt311 => ((Qi.f 3 (-1)).bind fun bt315 => ((Qo.f k bt315.1 bt315.2.1 bt315.2.2.1 bt315.2.2.2.1 bt315.2.2.2.2.1 bt315.2.2.2.2.2.1 bt315.2.2.2.2.2.2.1 bt315.2.2.2.2.2.2.2.1 bt315.2.2.2.2.2.2.2.2.1 bt315.2.2.2.2.2.2.2.2.2.1 bt315.2.2.2.2.2.2.2.2.2.2.1 bt315.2.2.2.2.2.2.2.2.2.2.2.1 bt315.2.2.2.2.2.2.2.2.2.2.2.2.1 bt315.2.2.2.2.2.2.2.2.2.2.2.2.2).bind fun bt333 => (if bt311.2 = 0 then (if bt333.2 = 0 then (if bt333.1 = 4 then ((Zu.f k bt311.1 (([2, 3] : List Int))).bind fun t338 => (some t338)) else (none)) else (none)) else (none)))))) = some r := h
 clear h
 replace H := Option.bind_eq_some_iff.mp H
 obtain ⟨⟨t278, t279, t280, t281, t282, t283, t284, t285, t286, t287, t288, t291, t292, t293⟩, A10, H⟩ := H
 replace H : ((Qa.f k t278 t279 t280 t281 t282 t283 t284 t285 t286 t287 t288 t291 t292 t293 (([(([true, false] : List Bool)), (([true, true] : List Bool)), (([false, true] : List Bool)), (([false, true] : List Bool))] : List (List Bool))) 1).bind fun bt311 => ((Qi.f 3 (-1)).bind fun bt315 => ((Qo.f k bt315.1 bt315.2.1 bt315.2.2.1 bt315.2.2.2.1 bt315.2.2.2.2.1 bt315.2.2.2.2.2.1 bt315.2.2.2.2.2.2.1 bt315.2.2.2.2.2.2.2.1 bt315.2.2.2.2.2.2.2.2.1 bt315.2.2.2.2.2.2.2.2.2.1 bt315.2.2.2.2.2.2.2.2.2.2.1 bt315.2.2.2.2.2.2.2.2.2.2.2.1 bt315.2.2.2.2.2.2.2.2.2.2.2.2.1 bt315.2.2.2.2.2.2.2.2.2.2.2.2.2).bind fun bt333 => (if bt311.2 = 0 then (if bt333.2 = 0 then (if bt333.1 = 4 then ((Zu.f k bt311.1 (([2, 3] : List Int))).bind fun t338 => (some t338)) else (none)) else (none)) else (none))))) = some r := H
 have A1 := Zd.mk A10
 clear A10
 obtain ⟨y296, hy296⟩ : ∃ y_ : List Bool, y_ = (([true, false] : List Bool)) := ⟨_, rfl⟩
 replace H : ((Qa.f k t278 t279 t280 t281 t282 t283 t284 t285 t286 t287 t288 t291 t292 t293 (([y296, (([true, true] : List Bool)), (([false, true] : List Bool)), (([false, true] : List Bool))] : List (List Bool))) 1).bind fun bt311 => ((Qi.f 3 (-1)).bind fun bt315 => ((Qo.f k bt315.1 bt315.2.1 bt315.2.2.1 bt315.2.2.2.1 bt315.2.2.2.2.1 bt315.2.2.2.2.2.1 bt315.2.2.2.2.2.2.1 bt315.2.2.2.2.2.2.2.1 bt315.2.2.2.2.2.2.2.2.1 bt315.2.2.2.2.2.2.2.2.2.1 bt315.2.2.2.2.2.2.2.2.2.2.1 bt315.2.2.2.2.2.2.2.2.2.2.2.1 bt315.2.2.2.2.2.2.2.2.2.2.2.2.1 bt315.2.2.2.2.2.2.2.2.2.2.2.2.2).bind fun bt333 => (if bt311.2 = 0 then (if bt333.2 = 0 then (if bt333.1 = 4 then ((Zu.f k bt311.1 (([2, 3] : List Int))).bind fun t338 => (some t338)) else (none)) else (none)) else (none))))) = some r := by first | (rw [hy296]; with_reducible exact H) | (have H2_ := (Option.bind_some _ _).symm.trans H; rw [hy296]; with_reducible exact H2_) | (have H2_ := (Option.bind_some _ _).symm.trans H; with_reducible exact H2_) | with_reducible exact H | (rw [hy296]; exact H) | exact H
 have Ny296 := Zd.mk hy296
 clear hy296
 obtain ⟨y299, hy299⟩ : ∃ y_ : List Bool, y_ = (([true, true] : List Bool)) := ⟨_, rfl⟩
 replace H : ((Qa.f k t278 t279 t280 t281 t282 t283 t284 t285 t286 t287 t288 t291 t292 t293 (([y296, y299, (([false, true] : List Bool)), (([false, true] : List Bool))] : List (List Bool))) 1).bind fun bt311 => ((Qi.f 3 (-1)).bind fun bt315 => ((Qo.f k bt315.1 bt315.2.1 bt315.2.2.1 bt315.2.2.2.1 bt315.2.2.2.2.1 bt315.2.2.2.2.2.1 bt315.2.2.2.2.2.2.1 bt315.2.2.2.2.2.2.2.1 bt315.2.2.2.2.2.2.2.2.1 bt315.2.2.2.2.2.2.2.2.2.1 bt315.2.2.2.2.2.2.2.2.2.2.1 bt315.2.2.2.2.2.2.2.2.2.2.2.1 bt315.2.2.2.2.2.2.2.2.2.2.2.2.1 bt315.2.2.2.2.2.2.2.2.2.2.2.2.2).bind fun bt333 => (if bt311.2 = 0 then (if bt333.2 = 0 then (if bt333.1 = 4 then ((Zu.f k bt311.1 (([2, 3] : List Int))).bind fun t338 => (some t338)) else (none)) else (none)) else (none))))) = some r := by first | (rw [hy299]; with_reducible exact H) | (have H2_ := (Option.bind_some _ _).symm.trans H; rw [hy299]; with_reducible exact H2_) | (have H2_ := (Option.bind_some _ _).symm.trans H; with_reducible exact H2_) | with_reducible exact H | (rw [hy299]; exact H) | exact H
 have Ny299 := Zd.mk hy299
 clear hy299
 obtain ⟨y302, hy302⟩ : ∃ y_ : List Bool, y_ = (([false, true] : List Bool)) := ⟨_, rfl⟩
 replace H : ((Qa.f k t278 t279 t280 t281 t282 t283 t284 t285 t286 t287 t288 t291 t292 t293 (([y296, y299, y302, (([false, true] : List Bool))] : List (List Bool))) 1).bind fun bt311 => ((Qi.f 3 (-1)).bind fun bt315 => ((Qo.f k bt315.1 bt315.2.1 bt315.2.2.1 bt315.2.2.2.1 bt315.2.2.2.2.1 bt315.2.2.2.2.2.1 bt315.2.2.2.2.2.2.1 bt315.2.2.2.2.2.2.2.1 bt315.2.2.2.2.2.2.2.2.1 bt315.2.2.2.2.2.2.2.2.2.1 bt315.2.2.2.2.2.2.2.2.2.2.1 bt315.2.2.2.2.2.2.2.2.2.2.2.1 bt315.2.2.2.2.2.2.2.2.2.2.2.2.1 bt315.2.2.2.2.2.2.2.2.2.2.2.2.2).bind fun bt333 => (if bt311.2 = 0 then (if bt333.2 = 0 then (if bt333.1 = 4 then ((Zu.f k bt311.1 (([2, 3] : List Int))).bind fun t338 => (some t338)) else (none)) else (none)) else (none))))) = some r := by first | (rw [hy302]; with_reducible exact H) | (have H2_ := (Option.bind_some _ _).symm.trans H; rw [hy302]; with_reducible exact H2_) | (have H2_ := (Option.bind_some _ _).symm.trans H; with_reducible exact H2_) | with_reducible exact H | (rw [hy302]; exact H) | exact H
 have Ny302 := Zd.mk hy302
 clear hy302
 obtain ⟨y305, hy305⟩ : ∃ y_ : List Bool, y_ = (([false, true] : List Bool)) := ⟨_, rfl⟩
 replace H : ((Qa.f k t278 t279 t280 t281 t282 t283 t284 t285 t286 t287 t288 t291 t292 t293 (([y296, y299, y302, y305] : List (List Bool))) 1).bind fun bt311 => ((Qi.f 3 (-1)).bind fun bt315 => ((Qo.f k bt315.1 bt315.2.1 bt315.2.2.1 bt315.2.2.2.1 bt315.2.2.2.2.1 bt315.2.2.2.2.2.1 bt315.2.2.2.2.2.2.1 bt315.2.2.2.2.2.2.2.1 bt315.2.2.2.2.2.2.2.2.1 bt315.2.2.2.2.2.2.2.2.2.1 bt315.2.2.2.2.2.2.2.2.2.2.1 bt315.2.2.2.2.2.2.2.2.2.2.2.1 bt315.2.2.2.2.2.2.2.2.2.2.2.2.1 bt315.2.2.2.2.2.2.2.2.2.2.2.2.2).bind fun bt333 => (if bt311.2 = 0 then (if bt333.2 = 0 then (if bt333.1 = 4 then ((Zu.f k bt311.1 (([2, 3] : List Int))).bind fun t338 => (some t338)) else (none)) else (none)) else (none))))) = some r := by first | (rw [hy305]; with_reducible exact H) | (have H2_ := (Option.bind_some _ _).symm.trans H; rw [hy305]; with_reducible exact H2_) | (have H2_ := (Option.bind_some _ _).symm.trans H; with_reducible exact H2_) | with_reducible exact H | (rw [hy305]; exact H) | exact H
 have Ny305 := Zd.mk hy305
 clear hy305
 obtain ⟨y308, hy308⟩ : ∃ y_ : List (List Bool), y_ = (([y296, y299, y302, y305] : List (List Bool))) := ⟨_, rfl⟩
 replace H : ((Qa.f k t278 t279 t280 t281 t282 t283 t284 t285 t286 t287 t288 t291 t292 t293 y308 1).bind fun bt311 => ((Qi.f 3 (-1)).bind fun bt315 => ((Qo.f k bt315.1 bt315.2.1 bt315.2.2.1 bt315.2.2.2.1 bt315.2.2.2.2.1 bt315.2.2.2.2.2.1 bt315.2.2.2.2.2.2.1 bt315.2.2.2.2.2.2.2.1 bt315.2.2.2.2.2.2.2.2.1 bt315.2.2.2.2.2.2.2.2.2.1 bt315.2.2.2.2.2.2.2.2.2.2.1 bt315.2.2.2.2.2.2.2.2.2.2.2.1 bt315.2.2.2.2.2.2.2.2.2.2.2.2.1 bt315.2.2.2.2.2.2.2.2.2.2.2.2.2).bind fun bt333 => (if bt311.2 = 0 then (if bt333.2 = 0 then (if bt333.1 = 4 then ((Zu.f k bt311.1 (([2, 3] : List Int))).bind fun t338 => (some t338)) else (none)) else (none)) else (none))))) = some r := by first | (rw [hy308]; with_reducible exact H) | (have H2_ := (Option.bind_some _ _).symm.trans H; rw [hy308]; with_reducible exact H2_) | (have H2_ := (Option.bind_some _ _).symm.trans H; with_reducible exact H2_) | with_reducible exact H | (rw [hy308]; exact H) | exact H
 have Ny308 := Zd.mk hy308
 clear hy308
 replace H := Option.bind_eq_some_iff.mp H
 obtain ⟨⟨t311, t314⟩, A20, H⟩ := H
 replace H : ((Qi.f 3 (-1)).bind fun bt315 => ((Qo.f k bt315.1 bt315.2.1 bt315.2.2.1 bt315.2.2.2.1 bt315.2.2.2.2.1 bt315.2.2.2.2.2.1 bt315.2.2.2.2.2.2.1 bt315.2.2.2.2.2.2.2.1 bt315.2.2.2.2.2.2.2.2.1 bt315.2.2.2.2.2.2.2.2.2.1 bt315.2.2.2.2.2.2.2.2.2.2.1 bt315.2.2.2.2.2.2.2.2.2.2.2.1 bt315.2.2.2.2.2.2.2.2.2.2.2.2.1 bt315.2.2.2.2.2.2.2.2.2.2.2.2.2).bind fun bt333 => (if t314 = 0 then (if bt333.2 = 0 then (if bt333.1 = 4 then ((Zu.f k t311 (([2, 3] : List Int))).bind fun t338 => (some t338)) else (none)) else (none)) else (none)))) = some r := H
 have A2 := Zd.mk A20
 clear A20
 replace H := Option.bind_eq_some_iff.mp H
 obtain ⟨⟨t315, t316, t317, t318, t319, t320, t321, t322, t323, t324, t325, t328, t329, t330⟩, A30, H⟩ := H
 replace H : ((Qo.f k t315 t316 t317 t318 t319 t320 t321 t322 t323 t324 t325 t328 t329 t330).bind fun bt333 => (if t314 = 0 then (if bt333.2 = 0 then (if bt333.1 = 4 then ((Zu.f k t311 (([2, 3] : List Int))).bind fun t338 => (some t338)) else (none)) else (none)) else (none))) = some r := H
 have A3 := Zd.mk A30
 clear A30
 replace H := Option.bind_eq_some_iff.mp H
 obtain ⟨⟨t333, t334⟩, A40, H⟩ := H
 replace H : (if t314 = 0 then (if t334 = 0 then (if t333 = 4 then ((Zu.f k t311 (([2, 3] : List Int))).bind fun t338 => (some t338)) else (none)) else (none)) else (none)) = some r := H
 have A4 := Zd.mk A40
 clear A40
 by_cases c5 : t314 = 0
 ·rw [if_pos c5] at H
  have c5b0 : (t314 == 0) = true := beq_iff_eq.mpr c5
  have c5b1 : (t314 != 0) = false := bne_eq_false_iff_eq.mpr c5
  clear c5
  by_cases c6 : t334 = 0
  ·rw [if_pos c6] at H
   have c6b0 : (t334 == 0) = true := beq_iff_eq.mpr c6
   have c6b1 : (t334 != 0) = false := bne_eq_false_iff_eq.mpr c6
   clear c6
   by_cases c7 : t333 = 4
   ·rw [if_pos c7] at H
    have c7b0 : (t333 == 4) = true := beq_iff_eq.mpr c7
    have c7b1 : (t333 != 4) = false := bne_eq_false_iff_eq.mpr c7
    clear c7
    obtain ⟨y335, hy335⟩ : ∃ y_ : List Int, y_ = (([2, 3] : List Int)) := ⟨_, rfl⟩
    replace H : ((Zu.f k t311 y335).bind fun t338 => (some t338)) = some r := by first | (rw [hy335]; with_reducible exact H) | (have H2_ := (Option.bind_some _ _).symm.trans H; rw [hy335]; with_reducible exact H2_) | (have H2_ := (Option.bind_some _ _).symm.trans H; with_reducible exact H2_) | with_reducible exact H | (rw [hy335]; exact H) | exact H
    have Ny335 := Zd.mk hy335
    clear hy335
    replace H := Option.bind_eq_some_iff.mp H
    obtain ⟨t338, A80, H⟩ := H
    replace H : (some t338) = some r := H
    have A8 := Zd.mk A80
    clear A80
    obtain rfl := Option.some.inj H
    go_enter Try.func7, Try.ntmps7
    go_wp2_with (first | ((with_reducible refine Zx (f := 21) rfl ?_); refine Xz (some 6) rfl rfl Try.func21 (by kernel_rfl) rfl #[.int .i64 1, .int .i64 2] rfl (by (try simp only [List.map_toArray, List.map_cons, List.map_nil]); first | done | rfl | (simp only [List.length_drop, List.length_take]; rfl)) ?_; (with_reducible refine (Qi.calls 1 2 t278 t279 t280 t281 t282 t283 t284 t285 t286 t287 t288 t291 t292 t293 _ A1.out).mono ?_); rintro e w9 ⟨v289, v294, rfl, ho0, ho1, hb⟩; refine ⟨_, rfl, ?_⟩; have n0_ := Zd.mk (Kd.Vb (Kd.Xq (ok' := fun k_ => some k_ ≠ (v294 : Value).ownBlock) ho0 (fun k_ hk_ => hk_.2)) (Zl HB.out)); have n1_ := Zd.mk (Kd.Vb (Kd.Xq (ok' := fun k_ => some k_ ≠ (v289 : Value).ownBlock) ho1 (fun k_ hk_ => hk_.2)) (Zl HB.out)); have n2_ := Zd.mk (Zj HB.out hb); clear HB; have HO290 := n0_; have HO295 := n1_; have HB := n2_; clear n0_ n1_ n2_; (try clear hb); (try clear hb2); (try clear hk); (try clear hi); (try clear ho0); (try clear ho1)) | ((with_reducible refine Xd (N := 7) rfl ?_); (try (refine Qb (by rfl) ?_; dsimp only)); refine Kd.R_lit Kd.bool _ 4 ?hg (N := 7) ?hd (xs := ([true, false] : List Bool)) (inner := [.bool true, .bool false]) (ok := fun _ => True) (okp := fun _ => True) ?hr ?hp (fun _ hk => hk) trivial (Below.refl _ _) (Nat.le_refl _) (by simp) ?_; (case hd => rfl); (case hg => rfl); (case hr => first | (go_simp; done) | (go_simp; rfl)); (case hp => exact (Ku.one (show Kd.M Kd.bool _ _ _ true [.bool true] from rfl) (Ku.one (show Kd.M Kd.bool _ _ _ false [.bool false] from rfl) (Ku.none _ _)))); intro v297 w10 ho11 hb hg_ hnew_; clear hg_ hnew_; (first | rw [← Ny296.out] at ho11 | (simp only [Int.reduceToNat] at ho11; rw [← Ny296.out] at ho11)); have n0_ := Zd.mk (Kd.Qs HO290.out (Kd.Ko ho11) hb); have n1_ := Zd.mk (Kd.Qs HO295.out (Kd.Ko ho11) hb); have n2_ := Zd.mk (Kd.Jj ho11 (Zl HB.out)); have n3_ := Zd.mk (Zj HB.out hb); clear HO290; clear HO295; clear HB; have HO290 := n0_; have HO295 := n1_; have HO298 := n2_; have HB := n3_; clear n0_ n1_ n2_ n3_; clear hb ho11) | ((with_reducible refine Xd (N := 8) rfl ?_); (try (refine Qb (by rfl) ?_; dsimp only)); refine Kd.R_lit Kd.bool _ 4 ?hg (N := 8) ?hd (xs := ([true, true] : List Bool)) (inner := [.bool true, .bool true]) (ok := fun _ => True) (okp := fun _ => True) ?hr ?hp (fun _ hk => hk) trivial (Below.refl _ _) (Nat.le_refl _) (by simp) ?_; (case hd => rfl); (case hg => rfl); (case hr => first | (go_simp; done) | (go_simp; rfl)); (case hp => exact (Ku.one (show Kd.M Kd.bool _ _ _ true [.bool true] from rfl) (Ku.one (show Kd.M Kd.bool _ _ _ true [.bool true] from rfl) (Ku.none _ _)))); intro v300 w12 ho13 hb hg_ hnew_; clear hg_ hnew_; (first | rw [← Ny299.out] at ho13 | (simp only [Int.reduceToNat] at ho13; rw [← Ny299.out] at ho13)); have n0_ := Zd.mk (Kd.Qs HO290.out (Kd.Ko ho13) hb); have n1_ := Zd.mk (Kd.Qs HO295.out (Kd.Ko ho13) hb); have n2_ := Zd.mk (Kd.R_elder' HO298.out (Kd.Ko ho13) hb); have n3_ := Zd.mk (Kd.Jj (Kd.R_new' ho13 (Kd.R_lt HO298.out)) (Zl HB.out)); have n4_ := Zd.mk (Zj HB.out hb); clear HO290; clear HO295; clear HO298; clear HB; have HO290 := n0_; have HO295 := n1_; have HO298 := n2_; have HO301 := n3_; have HB := n4_; clear n0_ n1_ n2_ n3_ n4_; clear hb ho13) | ((with_reducible refine Xd (N := 9) rfl ?_); (try (refine Qb (by rfl) ?_; dsimp only)); refine Kd.R_lit Kd.bool _ 4 ?hg (N := 9) ?hd (xs := ([false, true] : List Bool)) (inner := [.bool false, .bool true]) (ok := fun _ => True) (okp := fun _ => True) ?hr ?hp (fun _ hk => hk) trivial (Below.refl _ _) (Nat.le_refl _) (by simp) ?_; (case hd => rfl); (case hg => rfl); (case hr => first | (go_simp; done) | (go_simp; rfl)); (case hp => exact (Ku.one (show Kd.M Kd.bool _ _ _ false [.bool false] from rfl) (Ku.one (show Kd.M Kd.bool _ _ _ true [.bool true] from rfl) (Ku.none _ _)))); intro v303 w14 ho15 hb hg_ hnew_; clear hg_ hnew_; (first | rw [← Ny302.out] at ho15 | (simp only [Int.reduceToNat] at ho15; rw [← Ny302.out] at ho15)); have n0_ := Zd.mk (Kd.Qs HO290.out (Kd.Ko ho15) hb); have n1_ := Zd.mk (Kd.Qs HO295.out (Kd.Ko ho15) hb); have n2_ := Zd.mk (Kd.R_elder' HO298.out (Kd.Ko ho15) hb); have n3_ := Zd.mk (Kd.R_elder' HO301.out (Kd.Ko ho15) hb); have n4_ := Zd.mk (Kd.Jj (Kd.R_new' (Kd.R_new' ho15 (Kd.R_lt HO298.out)) (Kd.R_lt HO301.out)) (Zl HB.out)); have n5_ := Zd.mk (Zj HB.out hb); clear HO290; clear HO295; clear HO298; clear HO301; clear HB; have HO290 := n0_; have HO295 := n1_; have HO298 := n2_; have HO301 := n3_; have HO304 := n4_; have HB := n5_; clear n0_ n1_ n2_ n3_ n4_ n5_; clear hb ho15) | ((with_reducible refine Xd (N := 10) rfl ?_); (try (refine Qb (by rfl) ?_; dsimp only)); refine Kd.R_lit Kd.bool _ 4 ?hg (N := 10) ?hd (xs := ([false, true] : List Bool)) (inner := [.bool false, .bool true]) (ok := fun _ => True) (okp := fun _ => True) ?hr ?hp (fun _ hk => hk) trivial (Below.refl _ _) (Nat.le_refl _) (by simp) ?_; (case hd => rfl); (case hg => rfl); (case hr => first | (go_simp; done) | (go_simp; rfl)); (case hp => exact (Ku.one (show Kd.M Kd.bool _ _ _ false [.bool false] from rfl) (Ku.one (show Kd.M Kd.bool _ _ _ true [.bool true] from rfl) (Ku.none _ _)))); intro v306 w16 ho17 hb hg_ hnew_; clear hg_ hnew_; (first | rw [← Ny305.out] at ho17 | (simp only [Int.reduceToNat] at ho17; rw [← Ny305.out] at ho17)); have n0_ := Zd.mk (Kd.Qs HO290.out (Kd.Ko ho17) hb); have n1_ := Zd.mk (Kd.Qs HO295.out (Kd.Ko ho17) hb); have n2_ := Zd.mk (Kd.R_elder' HO298.out (Kd.Ko ho17) hb); have n3_ := Zd.mk (Kd.R_elder' HO301.out (Kd.Ko ho17) hb); have n4_ := Zd.mk (Kd.R_elder' HO304.out (Kd.Ko ho17) hb); have n5_ := Zd.mk (Kd.Jj (Kd.R_new' (Kd.R_new' (Kd.R_new' ho17 (Kd.R_lt HO298.out)) (Kd.R_lt HO301.out)) (Kd.R_lt HO304.out)) (Zl HB.out)); have n6_ := Zd.mk (Zj HB.out hb); clear HO290; clear HO295; clear HO298; clear HO301; clear HO304; clear HB; have HO290 := n0_; have HO295 := n1_; have HO298 := n2_; have HO301 := n3_; have HO304 := n4_; have HO307 := n5_; have HB := n6_; clear n0_ n1_ n2_ n3_ n4_ n5_ n6_; clear hb ho17; obtain ⟨Ao18, co18, eo18⟩ := Kd.Vo HO298.out; subst eo18; obtain ⟨Ao19, co19, eo19⟩ := Kd.Vo HO301.out; subst eo19; obtain ⟨Ao20, co20, eo20⟩ := Kd.Vo HO304.out; subst eo20; obtain ⟨Ao21, co21, eo21⟩ := Kd.Vo HO307.out; subst eo21) | ((with_reducible refine Xd (N := 11) rfl ?_); (try (refine Qb (by rfl) ?_; dsimp only)); refine Kd.N_lit (Kd.slice 4 Kd.bool) _ 53 ?hg (N' := 11) ?hd (xs := ([y296, y299, y302, y305] : List (List Bool))) (inner := [.slice Ao18 y296.length co18, .slice Ao19 y299.length co19, .slice Ao20 y302.length co20, .slice Ao21 y305.length co21]) (ok := (fun k_ => some k_ ≠ (v289 : Value).ownBlock ∧ some k_ ≠ (v294 : Value).ownBlock)) (okp := (fun k_ => some k_ ≠ (v289 : Value).ownBlock ∧ some k_ ≠ (v294 : Value).ownBlock)) ?hr ?hp (fun _ hk => hk) ((show ∀ k_, w16.heap.size ≤ k_ → (fun k_ => some k_ ≠ (v289 : Value).ownBlock ∧ some k_ ≠ (v294 : Value).ownBlock) k_ from fun k_ hk => ⟨Kd.Vu (Kd.N_lt HO290.out) k_ hk, Kd.Vu (Kd.N_lt HO295.out) k_ hk⟩) _ (Nat.le_refl _)) (Below.refl _ _) (Nat.le_refl _) (by simp) ?_; (case hd => rfl); (case hg => rfl); (case hr => first | (go_simp; done) | (go_simp; rfl)); (case hp => exact (Ku.one (show Kd.FK (Kd.slice 4 Kd.bool) _ _ y296 [.slice Ao18 y296.length co18] from (Kd.FK_slice_mk (Kd.Qw (Kd.Vh (ok' := (fun k_ => some k_ ≠ (v289 : Value).ownBlock ∧ some k_ ≠ (v294 : Value).ownBlock)) (Kd.Vk (Kd.Vk HO298.out (Kd.Vy HO290.out) (by decide)) (Kd.Vy HO295.out) (by decide)) (fun k_ hk => ⟨hk.1.2, hk.2⟩))).2.1 (Kd.R_F (Kd.Vh (ok' := (fun k_ => some k_ ≠ (v289 : Value).ownBlock ∧ some k_ ≠ (v294 : Value).ownBlock)) (Kd.Vk (Kd.Vk HO298.out (Kd.Vy HO290.out) (by decide)) (Kd.Vy HO295.out) (by decide)) (fun k_ hk => ⟨hk.1.2, hk.2⟩))))) (Ku.one (show Kd.FK (Kd.slice 4 Kd.bool) _ _ y299 [.slice Ao19 y299.length co19] from (Kd.FK_slice_mk (Kd.Qw (Kd.Vh (ok' := (fun k_ => some k_ ≠ (v289 : Value).ownBlock ∧ some k_ ≠ (v294 : Value).ownBlock)) (Kd.Vk (Kd.Vk HO301.out (Kd.Vy HO290.out) (by decide)) (Kd.Vy HO295.out) (by decide)) (fun k_ hk => ⟨hk.1.2, hk.2⟩))).2.1 (Kd.R_F (Kd.Vh (ok' := (fun k_ => some k_ ≠ (v289 : Value).ownBlock ∧ some k_ ≠ (v294 : Value).ownBlock)) (Kd.Vk (Kd.Vk HO301.out (Kd.Vy HO290.out) (by decide)) (Kd.Vy HO295.out) (by decide)) (fun k_ hk => ⟨hk.1.2, hk.2⟩))))) (Ku.one (show Kd.FK (Kd.slice 4 Kd.bool) _ _ y302 [.slice Ao20 y302.length co20] from (Kd.FK_slice_mk (Kd.Qw (Kd.Vh (ok' := (fun k_ => some k_ ≠ (v289 : Value).ownBlock ∧ some k_ ≠ (v294 : Value).ownBlock)) (Kd.Vk (Kd.Vk HO304.out (Kd.Vy HO290.out) (by decide)) (Kd.Vy HO295.out) (by decide)) (fun k_ hk => ⟨hk.1.2, hk.2⟩))).2.1 (Kd.R_F (Kd.Vh (ok' := (fun k_ => some k_ ≠ (v289 : Value).ownBlock ∧ some k_ ≠ (v294 : Value).ownBlock)) (Kd.Vk (Kd.Vk HO304.out (Kd.Vy HO290.out) (by decide)) (Kd.Vy HO295.out) (by decide)) (fun k_ hk => ⟨hk.1.2, hk.2⟩))))) (Ku.one (show Kd.FK (Kd.slice 4 Kd.bool) _ _ y305 [.slice Ao21 y305.length co21] from (Kd.FK_slice_mk (Kd.Qw (Kd.Vh (ok' := (fun k_ => some k_ ≠ (v289 : Value).ownBlock ∧ some k_ ≠ (v294 : Value).ownBlock)) (Kd.Vk (Kd.Vk HO307.out (Kd.Vy HO290.out) (by decide)) (Kd.Vy HO295.out) (by decide)) (fun k_ hk => ⟨hk.1.2, hk.2⟩))).2.1 (Kd.R_F (Kd.Vh (ok' := (fun k_ => some k_ ≠ (v289 : Value).ownBlock ∧ some k_ ≠ (v294 : Value).ownBlock)) (Kd.Vk (Kd.Vk HO307.out (Kd.Vy HO290.out) (by decide)) (Kd.Vy HO295.out) (by decide)) (fun k_ hk => ⟨hk.1.2, hk.2⟩))))) (Ku.none _ _)))))); intro v309 w22 ho23 hb hg_ hnew_; clear hg_ hnew_; (first | rw [← Ny308.out] at ho23 | (simp only [Int.reduceToNat] at ho23; rw [← Ny308.out] at ho23)); have n0_ := Zd.mk (Kd.Qs HO290.out (Kd.Qr ho23) hb); have n1_ := Zd.mk (Kd.Qs HO295.out (Kd.Qr ho23) hb); have n2_ := Zd.mk (Kd.Vb ho23 (Zl HB.out)); have n3_ := Zd.mk (Zj HB.out hb); clear HO290; clear HO295; clear HB; clear HO298; clear HO301; clear HO304; clear HO307; have HO290 := n0_; have HO295 := n1_; have HO310 := n2_; have HB := n3_; clear n0_ n1_ n2_ n3_; clear hb ho23; obtain ⟨Ao24, co24, eo24⟩ := Kd.Va HO290.out; subst eo24; obtain ⟨Ao25, co25, eo25⟩ := Kd.Va HO295.out; subst eo25; obtain ⟨Ao26, co26, eo26⟩ := Kd.Va HO310.out; subst eo26) | ((with_reducible refine Zx (f := 20) rfl ?_); refine Xz (some 12) rfl rfl Try.func20 (by kernel_rfl) rfl #[.agg #[.int .i64 t278, .int .i64 t279, .int .i64 t280, .bool t281, .int .i64 t282, .int .u64 t283, .int .u64 t284, .int .i64 t285, .bool t286, .int .i64 t287, .slice Ao24 t288.length co24, .int .i64 t291, .int .i64 t292, .slice Ao25 t293.length co25], .slice Ao26 y308.length co26, .int .i64 1] rfl (by (try simp only [List.map_toArray, List.map_cons, List.map_nil]); first | done | rfl | (simp only [List.length_drop, List.length_take]; rfl)) ?_; (with_reducible refine (Qa.calls k t278 t279 t280 t281 t282 t283 t284 t285 t286 t287 _ _ t288 t291 t292 _ _ t293 _ _ y308 1 t311 t314 _ ?side1 ?side2 ?side3 ?side4 ?side5 ?side6 A2.out).mono ?_); (case side1 => repeat (first | exact (Kd.Qq HO290.out).2.2 | (with_reducible refine Kd.C_alloc ?_ _) | (with_reducible refine Kd.C_drewN ?_ _) | (with_reducible refine Kd.C_drew ?_))); (case side2 => exact (Kd.Qq HO290.out).2.1); (case side3 => repeat (first | exact (Kd.Qq HO295.out).2.2 | (with_reducible refine Kd.C_alloc ?_ _) | (with_reducible refine Kd.C_drewN ?_ _) | (with_reducible refine Kd.C_drew ?_))); (case side4 => exact (Kd.Qq HO295.out).2.1); (case side5 => repeat (first | exact (Kd.Qq HO310.out).2.2 | (with_reducible refine Kd.C_alloc ?_ _) | (with_reducible refine Kd.C_drewN ?_ _) | (with_reducible refine Kd.C_drew ?_))); (case side6 => exact (Kd.Qq HO310.out).2.1); rintro e w27 ⟨v312, rfl, ho0, hb⟩; refine ⟨_, rfl, ?_⟩; have n0_ := Zd.mk (Kd.Qs HO290.out (Kd.Ko ho0) hb); have n1_ := Zd.mk (Kd.Qs HO295.out (Kd.Ko ho0) hb); have n2_ := Zd.mk (Kd.Qs HO310.out (Kd.Ko ho0) hb); have n3_ := Zd.mk (Kd.Jj ho0 (Zl HB.out)); have n4_ := Zd.mk (Zj HB.out hb); clear HO290; clear HO295; clear HO310; clear HB; have HO290 := n0_; have HO295 := n1_; have HO310 := n2_; have HO313 := n3_; have HB := n4_; clear n0_ n1_ n2_ n3_ n4_; (try clear hb); (try clear hb2); (try clear hk); (try clear hi); (try clear ho0)) | ((with_reducible refine Zx (f := 21) rfl ?_); refine Xz (some 16) rfl rfl Try.func21 (by kernel_rfl) rfl #[.int .i64 3, .int .i64 (-1)] rfl (by (try simp only [List.map_toArray, List.map_cons, List.map_nil]); first | done | rfl | (simp only [List.length_drop, List.length_take]; rfl)) ?_; (with_reducible refine (Qi.calls 3 (-1) t315 t316 t317 t318 t319 t320 t321 t322 t323 t324 t325 t328 t329 t330 _ A3.out).mono ?_); rintro e w28 ⟨v326, v331, rfl, ho0, ho1, hb⟩; refine ⟨_, rfl, ?_⟩; have n0_ := Zd.mk (Kd.Xq (Kd.N_told (Kd.N_told (Kd.N_old HO290.out hb) (Kd.Qr ho0)) (Kd.Qr ho1)) (fun _ h_ => h_.1)); have n1_ := Zd.mk (Kd.Xq (Kd.N_told (Kd.N_told (Kd.N_old HO295.out hb) (Kd.Qr ho0)) (Kd.Qr ho1)) (fun _ h_ => h_.1)); have n2_ := Zd.mk (Kd.Xq (Kd.N_told (Kd.N_told (Kd.N_old HO310.out hb) (Kd.Qr ho0)) (Kd.Qr ho1)) (fun _ h_ => h_.1)); have n3_ := Zd.mk (Kd.R_below HO313.out hb); have n4_ := Zd.mk (Kd.Vb (Kd.Xq (ok' := fun k_ => some k_ ≠ (v331 : Value).ownBlock ∧ some k_ ≠ (.slice Ao24 t288.length co24 : Value).ownBlock ∧ some k_ ≠ (.slice Ao25 t293.length co25 : Value).ownBlock ∧ some k_ ≠ (.slice Ao26 y308.length co26 : Value).ownBlock ∧ some k_ ≠ (v312 : Value).ownBlock) ho0 (fun k_ hk_ => ⟨hk_.2, (Kd.Vu (Kd.N_lt HO290.out) k_ hk_.1), (Kd.Vu (Kd.N_lt HO295.out) k_ hk_.1), (Kd.Vu (Kd.N_lt HO310.out) k_ hk_.1), (Kd.Vu (Kd.R_lt HO313.out) k_ hk_.1)⟩)) (Zl HB.out)); have n5_ := Zd.mk (Kd.Vb (Kd.Xq (ok' := fun k_ => some k_ ≠ (v326 : Value).ownBlock ∧ some k_ ≠ (.slice Ao24 t288.length co24 : Value).ownBlock ∧ some k_ ≠ (.slice Ao25 t293.length co25 : Value).ownBlock ∧ some k_ ≠ (.slice Ao26 y308.length co26 : Value).ownBlock ∧ some k_ ≠ (v312 : Value).ownBlock) ho1 (fun k_ hk_ => ⟨hk_.2, (Kd.Vu (Kd.N_lt HO290.out) k_ hk_.1), (Kd.Vu (Kd.N_lt HO295.out) k_ hk_.1), (Kd.Vu (Kd.N_lt HO310.out) k_ hk_.1), (Kd.Vu (Kd.R_lt HO313.out) k_ hk_.1)⟩)) (Zl HB.out)); have n6_ := Zd.mk (Zj HB.out hb); clear HO290; clear HO295; clear HO310; clear HO313; clear HB; have HO290 := n0_; have HO295 := n1_; have HO310 := n2_; have HO313 := n3_; have HO327 := n4_; have HO332 := n5_; have HB := n6_; clear n0_ n1_ n2_ n3_ n4_ n5_ n6_; (try clear hb); (try clear hb2); (try clear hk); (try clear hi); (try clear ho0); (try clear ho1); obtain ⟨Ao29, co29, eo29⟩ := Kd.Va HO327.out; subst eo29; obtain ⟨Ao30, co30, eo30⟩ := Kd.Va HO332.out; subst eo30) | ((with_reducible refine Zx (f := 5) rfl ?_); refine Xz (some 17) rfl rfl Try.func5 (by kernel_rfl) rfl #[.agg #[.int .i64 t315, .int .i64 t316, .int .i64 t317, .bool t318, .int .i64 t319, .int .u64 t320, .int .u64 t321, .int .i64 t322, .bool t323, .int .i64 t324, .slice Ao29 t325.length co29, .int .i64 t328, .int .i64 t329, .slice Ao30 t330.length co30]] rfl (by (try simp only [List.map_toArray, List.map_cons, List.map_nil]); first | done | rfl | (simp only [List.length_drop, List.length_take]; rfl)) ?_; (with_reducible refine (Qo.calls k t315 t316 t317 t318 t319 t320 t321 t322 t323 t324 _ _ t325 t328 t329 _ _ t330 t333 t334 _ ?side1 ?side2 ?side3 ?side4 A4.out).mono ?_); (case side1 => repeat (first | exact (Kd.Qq HO327.out).2.2 | (with_reducible refine Kd.C_alloc ?_ _) | (with_reducible refine Kd.C_drewN ?_ _) | (with_reducible refine Kd.C_drew ?_))); (case side2 => exact (Kd.Qq HO327.out).2.1); (case side3 => repeat (first | exact (Kd.Qq HO332.out).2.2 | (with_reducible refine Kd.C_alloc ?_ _) | (with_reducible refine Kd.C_drewN ?_ _) | (with_reducible refine Kd.C_drew ?_))); (case side4 => exact (Kd.Qq HO332.out).2.1); rintro e w31 ⟨rfl, hb⟩; refine ⟨_, rfl, ?_⟩; have n0_ := Zd.mk (Kd.Kr HO290.out hb); have n1_ := Zd.mk (Kd.Kr HO295.out hb); have n2_ := Zd.mk (Kd.Kr HO310.out hb); have n3_ := Zd.mk (Kd.R_below HO313.out hb); have n4_ := Zd.mk (Kd.Kr HO327.out hb); have n5_ := Zd.mk (Kd.Kr HO332.out hb); have n6_ := Zd.mk (Zj HB.out hb); clear HO290; clear HO295; clear HO310; clear HO313; clear HO327; clear HO332; clear HB; have HO290 := n0_; have HO295 := n1_; have HO310 := n2_; have HO313 := n3_; have HO327 := n4_; have HO332 := n5_; have HB := n6_; clear n0_ n1_ n2_ n3_ n4_ n5_ n6_; (try clear hb); (try clear hb2); (try clear hk); (try clear hi)) | ((with_reducible refine Xd (N := 32) rfl ?_); (try (refine Qb (by rfl) ?_; dsimp only)); refine Kd.R_lit (Kd.int .i64) _ 3 ?hg (N := 32) ?hd (xs := ([2, 3] : List Int)) (inner := [.int .i64 2, .int .i64 3]) (ok := fun _ => True) (okp := fun _ => True) ?hr ?hp (fun _ hk => hk) trivial (Below.refl _ _) (Nat.le_refl _) (by simp) ?_; (case hd => rfl); (case hg => rfl); (case hr => first | (go_simp; done) | (go_simp; rfl)); (case hp => exact (Ku.one (show Kd.M (Kd.int .i64) _ _ _ 2 [.int .i64 2] from rfl) (Ku.one (show Kd.M (Kd.int .i64) _ _ _ 3 [.int .i64 3] from rfl) (Ku.none _ _)))); intro v336 w32 ho33 hb hg_ hnew_; clear hg_ hnew_; (first | rw [← Ny335.out] at ho33 | (simp only [Int.reduceToNat] at ho33; rw [← Ny335.out] at ho33)); have n0_ := Zd.mk (Kd.Qs HO290.out (Kd.Ko ho33) hb); have n1_ := Zd.mk (Kd.Qs HO295.out (Kd.Ko ho33) hb); have n2_ := Zd.mk (Kd.Qs HO310.out (Kd.Ko ho33) hb); have n3_ := Zd.mk (Kd.R_elder' HO313.out (Kd.Ko ho33) hb); have n4_ := Zd.mk (Kd.Qs HO327.out (Kd.Ko ho33) hb); have n5_ := Zd.mk (Kd.Qs HO332.out (Kd.Ko ho33) hb); have n6_ := Zd.mk (Kd.Jj (Kd.R_new' ho33 (Kd.R_lt HO313.out)) (Zl HB.out)); have n7_ := Zd.mk (Zj HB.out hb); clear HO290; clear HO295; clear HO310; clear HO313; clear HO327; clear HO332; clear HB; have HO290 := n0_; have HO295 := n1_; have HO310 := n2_; have HO313 := n3_; have HO327 := n4_; have HO332 := n5_; have HO337 := n6_; have HB := n7_; clear n0_ n1_ n2_ n3_ n4_ n5_ n6_ n7_; clear hb ho33; obtain ⟨Ao34, co34, eo34⟩ := Kd.Vo HO313.out; subst eo34; obtain ⟨Ao35, co35, eo35⟩ := Kd.Vo HO337.out; subst eo35) | (go_at_call 22; (with_reducible refine (Zu.calls k _ _ t311 _ _ y335 t338 _ ?side1 ?side2 ?side3 ?side4 A8.out).mono ?_); (case side1 => repeat (first | exact (Kd.Qw HO313.out).2.2 | (with_reducible refine Kd.C_alloc ?_ _) | (with_reducible refine Kd.C_drewN ?_ _) | (with_reducible refine Kd.C_drew ?_))); (case side2 => exact (Kd.Qw HO313.out).2.1); (case side3 => repeat (first | exact (Kd.Qw HO337.out).2.2 | (with_reducible refine Kd.C_alloc ?_ _) | (with_reducible refine Kd.C_drewN ?_ _) | (with_reducible refine Kd.C_drew ?_))); (case side4 => exact (Kd.Qw HO337.out).2.1); rintro e w' ⟨rfl, ⟨nd, rfl⟩⟩))
    go_ret
    exact ⟨by first | rfl | (simp [errW_none, errW_some] <;> rfl) | (simp [*, errW_none, errW_some] <;> rfl), by repeat (first | (with_reducible first | exact HB.out | apply Xm | apply Xi | apply Xj) | exact HB.out)⟩
   ·rw [if_neg c7] at H
    exact absurd H (by simp)
  ·rw [if_neg c6] at H
   exact absurd H (by simp)
 ·rw [if_neg c5] at H
  exact absurd H (by simp)
end Go.Proofs.Ytkbkndfonccekaa.PF
