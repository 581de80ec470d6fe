/- Joined by this session's own program out of its texts: PFx16 PFx17 Match PFx18. -/
import Derived.Test.YtkbkndfonccekaaQ1
import Derived.Test.YtkbkndfonccekaaQ7
import Derived.Test.YtkbkndfonccekaaQ5
import Derived.DeepKeys4
namespace Go.Proofs.Ytkbkndfonccekaa.PF
open Go.RowKit Go.Proofs.YtkbkndfonccekaaW.PrintWords Go.Proofs.YtkbkndfonccekaaW.PrintLast Go.Proofs.YtkbkndfonccekaaW.PrintMore
attribute [local go_sem] Qn Qp Kq Kt
set_option linter.unusedVariables false
set_option linter.unusedSimpArgs false
mutual
def Zq.l0 : Nat → List Bool → List Bool → Int → Int → Int → Int → Int → Bool → Int → Int → Int → Int → Bool → Int → List (Qh) → Int → Int → List (Vd) → Option (List Bool)
  | 0, _, _, _, _, _, _, _, _, _, _, _, _, _, _, _, _, _, _ => none
  | k + 1, x7, x17, x18, x19, Js, Jq, Jp, Jo, Jm, Jl, Ji, Jh, Jg, Je, Jd, J9, J8, Jc => if x19 < x18 then (if 0 ≤ x19 then (if x19 < (x17.length : Int) then (Zq.l1 k x7 x19 (rdOf false x17 x19) J9 x17 x18 x19 Js Jq Jp Jo Jm Jl Ji Jh Jg Je Jd J9 J8 Jc) else (none)) else (none)) else (some x7)
def Zq.l1 : Nat → List Bool → Int → Bool → Int → List Bool → Int → Int → Int → Int → Int → Bool → Int → Int → Int → Int → Bool → Int → List (Qh) → Int → Int → List (Vd) → Option (List Bool)
  | 0, _, _, _, _, _, _, _, _, _, _, _, _, _, _, _, _, _, _, _, _, _ => none
  | k + 1, x7, x8, x9, x10, x17, x18, x19, Js, Jq, Jp, Jo, Jm, Jl, Ji, Jh, Jg, Je, Jd, J9, J8, Jc => if x9 = true then (if (wrap64 (x8 + x10)) < (x7.length : Int) then (if J8 < 0 then (if 0 ≤ (wrap64 (x8 + x10)) then (Zq.l1 k (x7.set ((wrap64 (x8 + x10)) : Int).toNat true) x8 x9 (wrap64 (x10 + 1)) x17 x18 x19 Js Jq Jp Jo Jm Jl Ji Jh Jg Je Jd J9 J8 Jc) else (none)) else (if x10 ≤ J8 then (if 0 ≤ (wrap64 (x8 + x10)) then (Zq.l1 k (x7.set ((wrap64 (x8 + x10)) : Int).toNat true) x8 x9 (wrap64 (x10 + 1)) x17 x18 x19 Js Jq Jp Jo Jm Jl Ji Jh Jg Je Jd J9 J8 Jc) else (none)) else (Zq.l0 k x7 x17 x18 (wrap64 (x19 + 1)) Js Jq Jp Jo Jm Jl Ji Jh Jg Je Jd J9 J8 Jc))) else (Zq.l0 k x7 x17 x18 (wrap64 (x19 + 1)) Js Jq Jp Jo Jm Jl Ji Jh Jg Je Jd J9 J8 Jc)) else (Zq.l0 k x7 x17 x18 (wrap64 (x19 + 1)) Js Jq Jp Jo Jm Jl Ji Jh Jg Je Jd J9 J8 Jc)
end
def Zq.f (k : Nat) (l0 : List (List Bool)) (JH : Int) (JG : Int) (JF : Int) (JE : Bool) (JD : Int) (JC : Int) (JB : Int) (JA : Int) (Jz : Bool) (Jy : Int) (J6 : List (Qh)) (J7 : Int) (J4 : Int) (J5 : List (Vd)) (l2 : List Bool) : Option (List Bool) := if 0 ≤ (l0.length : Int) then (if ((l0.length : Int) : Int).toNat ≤ 281474976710656 then (Zq.l0 k (List.replicate ((l0.length : Int) : Int).toNat false) l2 (l2.length : Int) 0 JH JG JF JE JD JC JB JA Jz Jy J6 J7 J4 J5) else (none)) else (none)
theorem Zq.mono_l : ∀ k, (∀ y0 y1 y2 y3 y4 y5 y6 y7 y8 y9 y10 y11 y12 y13 y14 y15 y16 y17, Xo (Zq.l0 k y0 y1 y2 y3 y4 y5 y6 y7 y8 y9 y10 y11 y12 y13 y14 y15 y16 y17) (Zq.l0 (k + 1) y0 y1 y2 y3 y4 y5 y6 y7 y8 y9 y10 y11 y12 y13 y14 y15 y16 y17)) ∧ (∀ y0 y1 y2 y3 y4 y5 y6 y7 y8 y9 y10 y11 y12 y13 y14 y15 y16 y17 y18 y19 y20, Xo (Zq.l1 k y0 y1 y2 y3 y4 y5 y6 y7 y8 y9 y10 y11 y12 y13 y14 y15 y16 y17 y18 y19 y20) (Zq.l1 (k + 1) y0 y1 y2 y3 y4 y5 y6 y7 y8 y9 y10 y11 y12 y13 y14 y15 y16 y17 y18 y19 y20))
  | 0 => ⟨fun _ _ _ _ _ _ _ _ _ _ _ _ _ _ _ _ _ _ r h => by simp [Zq.l0] at h, fun _ _ _ _ _ _ _ _ _ _ _ _ _ _ _ _ _ _ _ _ _ r h => by simp [Zq.l1] at h⟩
  | k + 1 => by
    obtain ⟨ih0, ih1⟩ := Zq.mono_l k
    refine ⟨?_, ?_⟩
    · intro y0 y1 y2 y3 y4 y5 y6 y7 y8 y9 y10 y11 y12 y13 y14 y15 y16 y17
      unfold Zq.l0
      repeat' first
      | (with_reducible exact ih0 _ _ _ _ _ _ _ _ _ _ _ _ _ _ _ _ _ _)
      | (with_reducible exact ih1 _ _ _ _ _ _ _ _ _ _ _ _ _ _ _ _ _ _ _ _ _)
      | (with_reducible exact Xo.refl _)
      | (with_reducible exact Xo.none _)
      | (with_reducible refine Xo.ite ?_ ?_)
      | (with_reducible refine Xo.bind ?_ (fun _ => ?_))
      | exact ih0 _ _ _ _ _ _ _ _ _ _ _ _ _ _ _ _ _ _
      | exact ih1 _ _ _ _ _ _ _ _ _ _ _ _ _ _ _ _ _ _ _ _ _
      | exact Xo.none _
      | refine Xo.ite ?_ ?_
      | refine Xo.bind ?_ (fun _ => ?_)
    · intro y0 y1 y2 y3 y4 y5 y6 y7 y8 y9 y10 y11 y12 y13 y14 y15 y16 y17 y18 y19 y20
      unfold Zq.l1
      repeat' first
      | (with_reducible exact ih0 _ _ _ _ _ _ _ _ _ _ _ _ _ _ _ _ _ _)
      | (with_reducible exact ih1 _ _ _ _ _ _ _ _ _ _ _ _ _ _ _ _ _ _ _ _ _)
      | (with_reducible exact Xo.refl _)
      | (with_reducible exact Xo.none _)
      | (with_reducible refine Xo.ite ?_ ?_)
      | (with_reducible refine Xo.bind ?_ (fun _ => ?_))
      | exact ih0 _ _ _ _ _ _ _ _ _ _ _ _ _ _ _ _ _ _
      | exact ih1 _ _ _ _ _ _ _ _ _ _ _ _ _ _ _ _ _ _ _ _ _
      | exact Xo.none _
      | refine Xo.ite ?_ ?_
      | refine Xo.bind ?_ (fun _ => ?_)
theorem Zq.mono : ∀ a0 a1 a2 a3 a4 a5 a6 a7 a8 a9 a10 a11 a12 a13 a14 a15 k, Xo (Zq.f k a0 a1 a2 a3 a4 a5 a6 a7 a8 a9 a10 a11 a12 a13 a14 a15) (Zq.f (k + 1) a0 a1 a2 a3 a4 a5 a6 a7 a8 a9 a10 a11 a12 a13 a14 a15) := by
  intro a0 a1 a2 a3 a4 a5 a6 a7 a8 a9 a10 a11 a12 a13 a14 a15 k
  obtain ⟨ih0, ih1⟩ := Zq.mono_l k
  unfold Zq.f
  repeat' first
      | (with_reducible exact ih0 _ _ _ _ _ _ _ _ _ _ _ _ _ _ _ _ _ _)
      | (with_reducible exact ih1 _ _ _ _ _ _ _ _ _ _ _ _ _ _ _ _ _ _ _ _ _)
      | (with_reducible exact Xo.refl _)
      | (with_reducible exact Xo.none _)
      | (with_reducible refine Xo.ite ?_ ?_)
      | (with_reducible refine Xo.bind ?_ (fun _ => ?_))
      | exact ih0 _ _ _ _ _ _ _ _ _ _ _ _ _ _ _ _ _ _
      | exact ih1 _ _ _ _ _ _ _ _ _ _ _ _ _ _ _ _ _ _ _ _ _
      | exact Xo.none _
      | refine Xo.ite ?_ ?_
      | refine Xo.bind ?_ (fun _ => ?_)
set_option maxHeartbeats 8000000 in
set_option maxRecDepth 100000 in
theorem Zq.calls (k : Nat) (A0 : Option Addr) (c0 : Nat) (l0 : List (List Bool)) (JH : Int) (JG : Int) (JF : Int) (JE : Bool) (JD : Int) (JC : Int) (JB : Int) (JA : Int) (Jz : Bool) (Jy : Int) (A1_10 : Option Addr) (c1_10 : Nat) (J6 : List (Qh)) (J7 : Int) (J4 : Int) (A1_13 : Option Addr) (c1_13 : Nat) (J5 : List (Vd)) (A2 : Option Addr) (c2 : Nat) (l2 : List Bool) (r : List Bool) (w : World) (bm : Nat) (hbm : w.cell? ⟨bm, 0, none⟩ = some (.slice A0 l0.length c0)) (hbl : bm < w.heap.size) (hr0 : Kd.C (Kd.slice 4 Kd.bool) w A0 l0.length l0) (hc0 : l0.length ≤ c0) (hr1_10 : Kd.C k27 w A1_10 J6.length J6) (hc1_10 : J6.length ≤ c1_10) (hr1_13 : Kd.C k30 w A1_13 J5.length J5) (hc1_13 : J5.length ≤ c1_13) (hr2 : Kd.C Kd.bool w A2 l2.length l2) (hc2 : l2.length ≤ c2) (h : Zq.f k l0 JH JG JF JE JD JC JB JA Jz Jy J6 J7 J4 J5 l2 = some r) :
 Calls Try.prog 33 #[.pointer (some ⟨bm, 0, none⟩), .agg #[.int .i64 JH, .int .i64 JG, .int .i64 JF, .bool JE, .int .i64 JD, .int .u64 JC, .int .u64 JB, .int .i64 JA, .bool Jz, .int .i64 Jy, .slice A1_10 J6.length c1_10, .int .i64 J7, .int .i64 J4, .slice A1_13 J5.length c1_13], .slice A2 l2.length c2] w fun e w' => ∃ v0_ : Value, e = .returned (v0_) ∧ Kd.R Kd.bool 4 w' w.heap.size (fun _ => True) v0_ r ∧ Below w.heap.size w w' := by
 have hum := Try.underlying66
 have hu30 := Try.underlying30
 have HR0 := Zd.mk hr0
 have HC0 := Zd.mk hc0
 clear hr0 hc0
 have HR1_10 := Zd.mk hr1_10
 have HC1_10 := Zd.mk hc1_10
 clear hr1_10 hc1_10
 have HR1_13 := Zd.mk hr1_13
 have HC1_13 := Zd.mk hc1_13
 clear hr1_13 hc1_13
 have HR2 := Zd.mk hr2
 have HC2 := Zd.mk hc2
 clear hr2 hc2
 have HB := Zd.mk (Below.refl w.heap.size w)
 have H : (if 0 ≤ (l0.length : Int) then (if ((l0.length : Int) : Int).toNat ≤ 281474976710656 then (Zq.l0 k (List.replicate ((l0.length : Int) : Int).toNat false) l2 (l2.length : Int) 0 JH JG JF JE JD JC JB JA Jz Jy J6 J7 J4 J5) else (none)) else (none)) = some r := h
 clear h
 by_cases c4 : 0 ≤ (l0.length : Int)
 ·rw [if_pos c4] at H
  have c4b0 := eq_true c4
  have c4b1 : decide (0 ≤ (l0.length : Int)) = true := decide_eq_true c4
  clear c4
  by_cases c5 : ((l0.length : Int) : Int).toNat ≤ 281474976710656
  ·rw [if_pos c5] at H
   have c5b0 := eq_true c5
   have c5b1 : decide (((l0.length : Int) : Int).toNat ≤ 281474976710656) = true := decide_eq_true c5
   clear c5
   obtain ⟨y213, hy213⟩ : ∃ y_ : List Bool, y_ = (List.replicate ((l0.length : Int) : Int).toNat false) := ⟨_, rfl⟩
   replace H : (Zq.l0 k y213 l2 (l2.length : Int) 0 JH JG JF JE JD JC JB JA Jz Jy J6 J7 J4 J5) = some r := by first | (rw [hy213]; with_reducible exact H) | (have H2_ := (Option.bind_some _ _).symm.trans H; rw [hy213]; with_reducible exact H2_) | (have H2_ := (Option.bind_some _ _).symm.trans H; with_reducible exact H2_) | with_reducible exact H | (rw [hy213]; exact H) | exact H
   have Ny213 := Zd.mk hy213
   clear hy213
   have H' := Zd.mk H
   clear H
   go_enter Try.func33, Try.ntmps33
   go_wp2_with (first | ((with_reducible refine Xd (N := 4) rfl ?_); (try (refine Qb (by rfl) ?_; dsimp only)); refine Xe ?hg (N := 4) ?hd (cs := #[.int .i64 JH, .int .i64 JG, .int .i64 JF, .bool JE, .int .i64 JD, .int .u64 JC, .int .u64 JB, .int .i64 JA, .bool Jz, .int .i64 Jy, .slice A1_10 J6.length c1_10, .int .i64 J7, .int .i64 J4, .slice A1_13 J5.length c1_13]) (t := 30) ?hr ?_; (case hd => rfl); (case hg => rfl); (case hr => first | (go_simp; done) | (go_simp; rfl)); intro Mm hg w6 hbox hb; have n0_ := Zd.mk (Zj HB.out hb); have hbm6 : w6.cell? ⟨bm, 0, none⟩ = some (.slice A0 l0.length c0) := (n0_.out.cell hbl).trans hbm; have n1_ := Zd.mk (hbox); have n2_ := Zd.mk ((by rw [hg]; exact (Zl HB.out) : w.heap.size ≤ Mm)); have n3_ := n2_; clear HB; have HB := n0_; have J2 := n1_; have GW212 := n2_; have GE212 := n3_; clear n0_ n1_ n2_ n3_; clear hb hbox hg) | ((with_reducible refine Xd (N := 16) rfl ?_); (try (refine Qb (by rfl) ?_; dsimp only)); refine Kd.R_make Kd.bool _ 4 rfl (N := 16) rfl 53 _ _ rfl (l0.length : Int) rfl rfl Try.underlying53 (.bool false) 1 info4 rfl (by decide) (by omega) false (ok := fun _ => True) (okp := fun _ => True) rfl (fun _ hk => hk) trivial (of_decide_eq_true (by first | (with_reducible assumption) | assumption)) (Nat.le_trans (Nat.mul_le_mul_right _ (of_decide_eq_true (by first | (with_reducible assumption) | assumption) : (l0.length : Int).toNat ≤ 281474976710656)) (by omega)) (Below.refl _ _) (Nat.le_refl _) ?_; intro v214 w7 ho8 hb hg_ hnew_; clear hg_ hnew_; (first | rw [← Ny213.out] at ho8 | (simp only [Int.reduceToNat] at ho8; rw [← Ny213.out] at ho8)); have n0_ := Zd.mk (Kd.Jj ho8 (Zl HB.out)); have n1_ := Zd.mk (Zp J2.out hb); have n2_ := Zd.mk (Zj HB.out hb); clear J2; clear HB; have HO215 := n0_; have J2 := n1_; have HB := n2_; clear n0_ n1_ n2_; clear hb ho8))
   go_loopg [19] k (fun kq v19 w' => ∃ (Mn : List Bool) (J0 : Int), v19 = .int .i64 J0 ∧ Zd (Zq.l0 kq Mn l2 (l2.length : Int) J0 JH JG JF JE JD JC JB JA Jz Jy J6 J7 J4 J5 = some r) ∧ Zd (kq ≤ k) ∧ Zd (Kd.R Kd.bool 4 w' w.heap.size (fun _ => True) v214 Mn) ∧ Zd (w'.heap[Mm]? = some (.cells #[.int .i64 JH, .int .i64 JG, .int .i64 JF, .bool JE, .int .i64 JD, .int .u64 JC, .int .u64 JB, .int .i64 JA, .bool Jz, .int .i64 Jy, (.slice A1_10 J6.length c1_10), .int .i64 J7, .int .i64 J4, (.slice A1_13 J5.length c1_13)] 30 (0, 0))) ∧ Zd (Below w.heap.size w w'))
   case atStart => exact ⟨(y213), (0), (by first | rfl | (simp; done) | (simp [*]; done)), H', ⟨Nat.le_refl _⟩, ⟨HO215.out⟩, ⟨J2.out⟩, ⟨HB.out⟩⟩
   case round =>
    clear H'
    try clear c4b0
    try clear c4b1
    try clear c5b0
    try clear c5b1
    obtain ⟨Mn, J0, rfl, HA, HK1, HO_7, J2, HB⟩ := hrel
    cases gk with
    | zero => exact absurd HA.out (by simp [Zq.l0])
    | succ k1 =>
     have H := HA.out
     clear HA
     simp only [Zq.l0] at H
     by_cases c9 : J0 < (l2.length : Int)
     ·rw [if_pos c9] at H
      have c9b0 : decide (J0 < (l2.length : Int)) = true := decide_eq_true c9
      clear c9
      by_cases c10 : 0 ≤ J0
      ·rw [if_pos c10] at H
       have c10b0 : decide (0 ≤ J0) = true := decide_eq_true c10
       clear c10
       by_cases c11 : J0 < (l2.length : Int)
       ·rw [if_pos c11] at H
        have c11b0 : decide (J0 < (l2.length : Int)) = true := decide_eq_true c11
        clear c11
        have H' := Zd.mk H
        clear H
        have p216 : 0 ≤ (J0 : Int) := of_decide_eq_true (by first | (with_reducible assumption) | assumption)
        have q216 : J0 < (l2.length : Int) := of_decide_eq_true (by first | (with_reducible assumption) | assumption)
        obtain ⟨ad216, e216, hx216_0⟩ := Kd.at_bool HR2.out J0 p216 q216
        cases e216
        replace hx216_0 := zb HB.out hx216_0
        obtain ⟨bq13, hbq13⟩ : ∃ b_ : Bool, rdOf false l2 J0 = b_ := ⟨_, rfl⟩
        have H := H'.out
        rw [hbq13] at H hx216_0
        clear H'
        have H' := Zd.mk H
        clear H hbq13
        replace p216 := eq_true p216
        replace q216 := eq_true q216
        obtain ⟨Ml, Mk, Mj, Mi, Mh, Mg, Mf, Me, Md, Mc, JR, JQ, JP, JO⟩ := zc14 J2.out
        obtain ⟨Mb, Ma, M9, M8, M7, M6, M5, M4, M3, M2, JN, JM, JL, JK⟩ := zf14 J2.out
        cases bq13
        ·go_wp2
         go_loopg [10] k1 (fun kq v10 w' => ∃ (Jb : List Bool) (J3 : Int), v10 = .int .i64 J3 ∧ Zd (Zq.l1 kq Jb J0 false J3 l2 (l2.length : Int) J0 JH JG JF JE JD JC JB JA Jz Jy J6 J7 J4 J5 = some r) ∧ Zd (kq ≤ k1) ∧ Zd (Kd.R Kd.bool 4 w' w.heap.size (fun _ => True) v214 Jb) ∧ Zd (w'.heap[Mm]? = some (.cells #[.int .i64 JH, .int .i64 JG, .int .i64 JF, .bool JE, .int .i64 JD, .int .u64 JC, .int .u64 JB, .int .i64 JA, .bool Jz, .int .i64 Jy, (.slice A1_10 J6.length c1_10), .int .i64 J7, .int .i64 J4, (.slice A1_13 J5.length c1_13)] 30 (0, 0))) ∧ Zd (Below w.heap.size w w'))
         case atStart => exact ⟨(Mn), (J7), (by first | rfl | (simp; done) | (simp [*]; done)), H', ⟨Nat.le_refl _⟩, ⟨HO_7.out⟩, ⟨J2.out⟩, ⟨HB.out⟩⟩
         case round =>
          clear H'
          try clear c9b0
          try clear c10b0
          try clear c11b0
          try clear Ml
          try clear Mk
          try clear JR
          try clear JQ
          try clear JP
          try clear JO
          try clear Mj
          try clear Mi
          try clear Mh
          try clear Mg
          try clear Mf
          try clear Me
          try clear Md
          try clear Mc
          try clear Mb
          try clear Ma
          try clear JN
          try clear JM
          try clear JL
          try clear JK
          try clear M9
          try clear M8
          try clear M7
          try clear M6
          try clear M5
          try clear M4
          try clear M3
          try clear M2
          try clear hx216_0
          try clear p216
          try clear q216
          obtain ⟨Jb, J3, rfl, HA, HK2, HO_7, J2, HB⟩ := hrel
          cases gk with
          | zero => exact absurd HA.out (by simp [Zq.l1])
          | succ k2 =>
           have H := HA.out
           clear HA
           simp only [Zq.l1] at H
           rw [if_neg (by decide)] at H
           have H' := Zd.mk H
           clear H
           go_wp2
           go_roundg k2
           case measure => have := HK1.out; have := HK2.out; omega
           case rel => exact ⟨(Jb), (wrap64 (J0 + 1)), (by first | rfl | (simp; done) | (simp [*]; done)), H', ⟨by have := HK1.out; have := HK2.out; omega⟩, ⟨HO_7.out⟩, ⟨J2.out⟩, ⟨HB.out⟩⟩
        ·go_wp2
         go_loopg [10] k1 (fun kq v10 w' => ∃ (Jb : List Bool) (J3 : Int), v10 = .int .i64 J3 ∧ Zd (Zq.l1 kq Jb J0 true J3 l2 (l2.length : Int) J0 JH JG JF JE JD JC JB JA Jz Jy J6 J7 J4 J5 = some r) ∧ Zd (kq ≤ k1) ∧ Zd (Kd.R Kd.bool 4 w' w.heap.size (fun _ => True) v214 Jb) ∧ Zd (w'.heap[Mm]? = some (.cells #[.int .i64 JH, .int .i64 JG, .int .i64 JF, .bool JE, .int .i64 JD, .int .u64 JC, .int .u64 JB, .int .i64 JA, .bool Jz, .int .i64 Jy, (.slice A1_10 J6.length c1_10), .int .i64 J7, .int .i64 J4, (.slice A1_13 J5.length c1_13)] 30 (0, 0))) ∧ Zd (Below w.heap.size w w'))
         case atStart => exact ⟨(Mn), (J7), (by first | rfl | (simp; done) | (simp [*]; done)), H', ⟨Nat.le_refl _⟩, ⟨HO_7.out⟩, ⟨J2.out⟩, ⟨HB.out⟩⟩
         case round =>
          clear H'
          try clear c9b0
          try clear c10b0
          try clear c11b0
          try clear Ml
          try clear Mk
          try clear JR
          try clear JQ
          try clear JP
          try clear JO
          try clear Mj
          try clear Mi
          try clear Mh
          try clear Mg
          try clear Mf
          try clear Me
          try clear Md
          try clear Mc
          try clear Mb
          try clear Ma
          try clear JN
          try clear JM
          try clear JL
          try clear JK
          try clear M9
          try clear M8
          try clear M7
          try clear M6
          try clear M5
          try clear M4
          try clear M3
          try clear M2
          try clear hx216_0
          try clear p216
          try clear q216
          obtain ⟨Jb, J3, rfl, HA, HK2, HO_7, J2, HB⟩ := hrel
          cases gk with
          | zero => exact absurd HA.out (by simp [Zq.l1])
          | succ k2 =>
           have H := HA.out
           clear HA
           simp only [Zq.l1] at H
           rw [if_pos trivial] at H
           by_cases c15 : (wrap64 (J0 + J3)) < (Jb.length : Int)
           ·rw [if_pos c15] at H
            have c15b0 : decide ((wrap64 (J0 + J3)) < (Jb.length : Int)) = true := decide_eq_true c15
            clear c15
            by_cases c16 : J4 < 0
            ·rw [if_pos c16] at H
             have c16b0 : decide (J4 < 0) = true := decide_eq_true c16
             clear c16
             obtain ⟨ji17, hji17⟩ : ∃ j_ : Int, (wrap64 (J0 + J3)) = j_ := ⟨_, rfl⟩
             replace H : (if 0 ≤ (ji17) then (Zq.l1 k2 (Jb.set ((ji17) : Int).toNat true) J0 true (wrap64 (J3 + 1)) l2 (l2.length : Int) J0 JH JG JF JE JD JC JB JA Jz Jy J6 J7 J4 J5) else (none)) = some r := by first | (rw [hji17] at H; exact H) | (simp only [hji17] at H ⊢; exact H)
             (try rw [hji17] at c15b0)
             have hji17w : (IntKind.i64.wrap (J0 + J3)) = ji17 := (Xk _).trans hji17
             by_cases c18 : 0 ≤ (ji17)
             ·rw [if_pos c18] at H
              have c18b0 : decide (0 ≤ (ji17)) = true := decide_eq_true c18
              clear c18
              obtain ⟨y217, hy217⟩ : ∃ y_ : List Bool, y_ = (Jb.set ((ji17) : Int).toNat true) := ⟨_, rfl⟩
              replace H : (Zq.l1 k2 y217 J0 true (wrap64 (J3 + 1)) l2 (l2.length : Int) J0 JH JG JF JE JD JC JB JA Jz Jy J6 J7 J4 J5) = some r := by first | (rw [hy217]; with_reducible exact H) | (have H2_ := (Option.bind_some _ _).symm.trans H; rw [hy217]; with_reducible exact H2_) | (have H2_ := (Option.bind_some _ _).symm.trans H; with_reducible exact H2_) | with_reducible exact H | (rw [hy217]; exact H) | exact H
              have Ny217 := Zd.mk hy217
              clear hy217
              have H' := Zd.mk H
              clear H
              obtain ⟨Ao20, co20, eo20⟩ := Kd.Vo HO_7.out
              subst eo20
              obtain ⟨hcz21_0, hcz21_1, hcz21_2, hcz21_3, hcz21_4, hcz21_5, hcz21_6, hcz21_7, hcz21_8, hcz21_9, hcz21_10, hcz21_11, hcz21_12, hcz21_13⟩ := zc14 J2.out
              obtain ⟨hfz21_0, hfz21_1, hfz21_2, hfz21_3, hfz21_4, hfz21_5, hfz21_6, hfz21_7, hfz21_8, hfz21_9, hfz21_10, hfz21_11, hfz21_12, hfz21_13⟩ := zf14 J2.out
              have p19 : 0 ≤ ((ji17) : Int) := of_decide_eq_true (by first | (with_reducible assumption) | assumption)
              have q19 : ((ji17) : Int) < ((Jb.length : Int) : Int) := of_decide_eq_true (by first | (with_reducible assumption) | assumption)
              obtain ⟨go19, co19, eo19, gb19, gl19, cl19, HG19⟩ := Kd.R_form HO_7.out (by omega)
              (first | cases eo19 | (injection eo19 with ea_ en_ ec_; (first | subst ea_ | (injection ea_ with ea_; subst ea_)); subst ec_; clear en_))
              have GB19 := Zd.mk gb19
              have GG19 := Zd.mk HG19
              clear gb19 gl19 HG19
              obtain ⟨hx19_0, hf19_0⟩ := Kd.R_celln false HO_7.out ((ji17) : Int) p19 q19
              replace p19 := eq_true p19
              replace q19 := eq_true q19
              have HP22 := Kd.R_putg HO_7.out ((ji17) : Int) true
              go_wp2_with (((with_reducible refine Wl (t := 4) (p := 52) rfl ?_); refine Jr (t := 4) (p := 52) (v := ?vo_w23) (w1 := (wr.setCell ⟨go19, ((ji17) : Int).toNat, none⟩ (.bool true))) ?hg ?ho ?hn ?hr ?_; (case ho => rfl); (case hg => rfl); (case hn => rfl); (case hr => first | (go_simp; done) | (go_simp; rfl)); intro w23 hw; have hg : wr.grownBy w23 (some go19) := (by rw [hw]; exact HP22.2); have hp_ : Kd.R Kd.bool 4 w23 w.heap.size (fun _ => True) (.slice (some ⟨go19, 0, none⟩) Jb.length co20) y217 := (by rw [hw, Ny217.out]; exact HP22.1); clear HP22; have n0_ := Zd.mk (hp_); have n1_ := Zd.mk (Ja J2.out hg (Kd.R_ne HO_7.out J2.out (by decide))); have n2_ := Zd.mk ((by rw [hw]; exact Xc HB.out GB19.out : Below w.heap.size w w23)); clear HO_7; clear J2; clear HB; have HO_7 := n0_; have J2 := n1_; have HB := n2_; clear n0_ n1_ n2_; clear hg hw hp_))
              go_roundg k2
              case measure => have := HK1.out; have := HK2.out; omega
              case rel => exact ⟨(y217), (wrap64 (J3 + 1)), (by first | rfl | (simp; done) | (simp [*]; done)), H', ⟨by have := HK1.out; have := HK2.out; omega⟩, ⟨HO_7.out⟩, ⟨J2.out⟩, ⟨HB.out⟩⟩
             ·rw [if_neg c18] at H
              exact absurd H (by simp)
            ·rw [if_neg c16] at H
             have c16b0 : decide (J4 < 0) = false := decide_eq_false c16
             clear c16
             by_cases c24 : J3 ≤ J4
             ·rw [if_pos c24] at H
              have c24b0 : decide (J3 ≤ J4) = true := decide_eq_true c24
              clear c24
              obtain ⟨ji25, hji25⟩ : ∃ j_ : Int, (wrap64 (J0 + J3)) = j_ := ⟨_, rfl⟩
              replace H : (if 0 ≤ (ji25) then (Zq.l1 k2 (Jb.set ((ji25) : Int).toNat true) J0 true (wrap64 (J3 + 1)) l2 (l2.length : Int) J0 JH JG JF JE JD JC JB JA Jz Jy J6 J7 J4 J5) else (none)) = some r := by first | (rw [hji25] at H; exact H) | (simp only [hji25] at H ⊢; exact H)
              (try rw [hji25] at c15b0)
              have hji25w : (IntKind.i64.wrap (J0 + J3)) = ji25 := (Xk _).trans hji25
              by_cases c26 : 0 ≤ (ji25)
              ·rw [if_pos c26] at H
               have c26b0 : decide (0 ≤ (ji25)) = true := decide_eq_true c26
               clear c26
               obtain ⟨y218, hy218⟩ : ∃ y_ : List Bool, y_ = (Jb.set ((ji25) : Int).toNat true) := ⟨_, rfl⟩
               replace H : (Zq.l1 k2 y218 J0 true (wrap64 (J3 + 1)) l2 (l2.length : Int) J0 JH JG JF JE JD JC JB JA Jz Jy J6 J7 J4 J5) = some r := by first | (rw [hy218]; with_reducible exact H) | (have H2_ := (Option.bind_some _ _).symm.trans H; rw [hy218]; with_reducible exact H2_) | (have H2_ := (Option.bind_some _ _).symm.trans H; with_reducible exact H2_) | with_reducible exact H | (rw [hy218]; exact H) | exact H
               have Ny218 := Zd.mk hy218
               clear hy218
               have H' := Zd.mk H
               clear H
               obtain ⟨Ao28, co28, eo28⟩ := Kd.Vo HO_7.out
               subst eo28
               obtain ⟨hcz29_0, hcz29_1, hcz29_2, hcz29_3, hcz29_4, hcz29_5, hcz29_6, hcz29_7, hcz29_8, hcz29_9, hcz29_10, hcz29_11, hcz29_12, hcz29_13⟩ := zc14 J2.out
               obtain ⟨hfz29_0, hfz29_1, hfz29_2, hfz29_3, hfz29_4, hfz29_5, hfz29_6, hfz29_7, hfz29_8, hfz29_9, hfz29_10, hfz29_11, hfz29_12, hfz29_13⟩ := zf14 J2.out
               have p27 : 0 ≤ ((ji25) : Int) := of_decide_eq_true (by first | (with_reducible assumption) | assumption)
               have q27 : ((ji25) : Int) < ((Jb.length : Int) : Int) := of_decide_eq_true (by first | (with_reducible assumption) | assumption)
               obtain ⟨go27, co27, eo27, gb27, gl27, cl27, HG27⟩ := Kd.R_form HO_7.out (by omega)
               (first | cases eo27 | (injection eo27 with ea_ en_ ec_; (first | subst ea_ | (injection ea_ with ea_; subst ea_)); subst ec_; clear en_))
               have GB27 := Zd.mk gb27
               have GG27 := Zd.mk HG27
               clear gb27 gl27 HG27
               obtain ⟨hx27_0, hf27_0⟩ := Kd.R_celln false HO_7.out ((ji25) : Int) p27 q27
               replace p27 := eq_true p27
               replace q27 := eq_true q27
               have HP30 := Kd.R_putg HO_7.out ((ji25) : Int) true
               go_wp2_with (((with_reducible refine Wl (t := 4) (p := 52) rfl ?_); refine Jr (t := 4) (p := 52) (v := ?vo_w31) (w1 := (wr.setCell ⟨go27, ((ji25) : Int).toNat, none⟩ (.bool true))) ?hg ?ho ?hn ?hr ?_; (case ho => rfl); (case hg => rfl); (case hn => rfl); (case hr => first | (go_simp; done) | (go_simp; rfl)); intro w31 hw; have hg : wr.grownBy w31 (some go27) := (by rw [hw]; exact HP30.2); have hp_ : Kd.R Kd.bool 4 w31 w.heap.size (fun _ => True) (.slice (some ⟨go27, 0, none⟩) Jb.length co28) y218 := (by rw [hw, Ny218.out]; exact HP30.1); clear HP30; have n0_ := Zd.mk (hp_); have n1_ := Zd.mk (Ja J2.out hg (Kd.R_ne HO_7.out J2.out (by decide))); have n2_ := Zd.mk ((by rw [hw]; exact Xc HB.out GB27.out : Below w.heap.size w w31)); clear HO_7; clear J2; clear HB; have HO_7 := n0_; have J2 := n1_; have HB := n2_; clear n0_ n1_ n2_; clear hg hw hp_))
               go_roundg k2
               case measure => have := HK1.out; have := HK2.out; omega
               case rel => exact ⟨(y218), (wrap64 (J3 + 1)), (by first | rfl | (simp; done) | (simp [*]; done)), H', ⟨by have := HK1.out; have := HK2.out; omega⟩, ⟨HO_7.out⟩, ⟨J2.out⟩, ⟨HB.out⟩⟩
              ·rw [if_neg c26] at H
               exact absurd H (by simp)
             ·rw [if_neg c24] at H
              have c24b0 : decide (J3 ≤ J4) = false := decide_eq_false c24
              clear c24
              have H' := Zd.mk H
              clear H
              obtain ⟨Ao32, co32, eo32⟩ := Kd.Vo HO_7.out
              subst eo32
              obtain ⟨hcz33_0, hcz33_1, hcz33_2, hcz33_3, hcz33_4, hcz33_5, hcz33_6, hcz33_7, hcz33_8, hcz33_9, hcz33_10, hcz33_11, hcz33_12, hcz33_13⟩ := zc14 J2.out
              obtain ⟨hfz33_0, hfz33_1, hfz33_2, hfz33_3, hfz33_4, hfz33_5, hfz33_6, hfz33_7, hfz33_8, hfz33_9, hfz33_10, hfz33_11, hfz33_12, hfz33_13⟩ := zf14 J2.out
              go_wp2
              go_roundg k2
              case measure => have := HK1.out; have := HK2.out; omega
              case rel => exact ⟨(Jb), (wrap64 (J0 + 1)), (by first | rfl | (simp; done) | (simp [*]; done)), H', ⟨by have := HK1.out; have := HK2.out; omega⟩, ⟨HO_7.out⟩, ⟨J2.out⟩, ⟨HB.out⟩⟩
           ·rw [if_neg c15] at H
            have c15b0 : decide ((wrap64 (J0 + J3)) < (Jb.length : Int)) = false := decide_eq_false c15
            clear c15
            have H' := Zd.mk H
            clear H
            obtain ⟨Ao34, co34, eo34⟩ := Kd.Vo HO_7.out
            subst eo34
            go_wp2
            go_roundg k2
            case measure => have := HK1.out; have := HK2.out; omega
            case rel => exact ⟨(Jb), (wrap64 (J0 + 1)), (by first | rfl | (simp; done) | (simp [*]; done)), H', ⟨by have := HK1.out; have := HK2.out; omega⟩, ⟨HO_7.out⟩, ⟨J2.out⟩, ⟨HB.out⟩⟩
       ·rw [if_neg c11] at H
        exact absurd H (by simp)
      ·rw [if_neg c10] at H
       exact absurd H (by simp)
     ·rw [if_neg c9] at H
      have c9b0 : decide (J0 < (l2.length : Int)) = false := decide_eq_false c9
      clear c9
      obtain rfl := Option.some.inj H
      go_wp2
      go_ret
      exact ⟨_, by first | rfl | (simp [errW_none, errW_some] <;> rfl) | (simp [*, errW_none, errW_some] <;> rfl), by (with_reducible repeat (first | apply Kd.R_alloc | apply Kd.R_drewN | apply Kd.R_drew)); exact HO_7.out, HB.out⟩
  ·rw [if_neg c5] at H
   exact absurd H (by simp)
 ·rw [if_neg c4] at H
  exact absurd H (by simp)
end Go.Proofs.Ytkbkndfonccekaa.PF
namespace Go.Proofs.Ytkbkndfonccekaa.PF
open Go.RowKit Go.Proofs.YtkbkndfonccekaaW.PrintWords Go.Proofs.YtkbkndfonccekaaW.PrintLast Go.Proofs.YtkbkndfonccekaaW.PrintMore
attribute [local go_sem] Qn Qp Kq Kt
set_option linter.unusedVariables false
set_option linter.unusedSimpArgs false
def Qk.l0 : Nat → List Bool → List Bool → Int → Int → Option (List Bool)
  | 0, _, _, _, _ => none
  | k + 1, x0, x6, x7, x8 => if x8 < x7 then (if 0 ≤ x8 then (if x8 < (x6.length : Int) then (if x8 < (x0.length : Int) then (if rdOf false x0 x8 = true then (Qk.l0 k (x0.set (x8 : Int).toNat true) x6 x7 (wrap64 (x8 + 1))) else (Qk.l0 k (x0.set (x8 : Int).toNat (rdOf false x6 x8)) x6 x7 (wrap64 (x8 + 1)))) else (none)) else (none)) else (none)) else (some x0)
def Qk.f (k : Nat) (l0 : List Bool) (l1 : List Bool) : Option (List Bool) := Qk.l0 k l0 l1 (l1.length : Int) 0
theorem Qk.mono_l : ∀ k, (∀ y0 y1 y2 y3, Xo (Qk.l0 k y0 y1 y2 y3) (Qk.l0 (k + 1) y0 y1 y2 y3))
  | 0 => fun _ _ _ _ r h => by simp [Qk.l0] at h
  | k + 1 => by
    have ih0 := Qk.mono_l k
    · intro y0 y1 y2 y3
      unfold Qk.l0
      repeat' first
      | (with_reducible exact ih0 _ _ _ _)
      | (with_reducible exact Xo.refl _)
      | (with_reducible exact Xo.none _)
      | (with_reducible refine Xo.ite ?_ ?_)
      | (with_reducible refine Xo.bind ?_ (fun _ => ?_))
      | exact ih0 _ _ _ _
      | exact Xo.none _
      | refine Xo.ite ?_ ?_
      | refine Xo.bind ?_ (fun _ => ?_)
theorem Qk.mono : ∀ a0 a1 k, Xo (Qk.f k a0 a1) (Qk.f (k + 1) a0 a1) := by
  intro a0 a1 k
  have ih0 := Qk.mono_l k
  unfold Qk.f
  repeat' first
      | (with_reducible exact ih0 _ _ _ _)
      | (with_reducible exact Xo.refl _)
      | (with_reducible exact Xo.none _)
      | (with_reducible refine Xo.ite ?_ ?_)
      | (with_reducible refine Xo.bind ?_ (fun _ => ?_))
      | exact ih0 _ _ _ _
      | exact Xo.none _
      | refine Xo.ite ?_ ?_
      | refine Xo.bind ?_ (fun _ => ?_)
set_option maxHeartbeats 8000000 in
set_option maxRecDepth 100000 in
theorem Qk.calls (k : Nat) (P0_ : Nat → Prop) (u9000_ : Value) (l0 : List Bool) (A1 : Option Addr) (c1 : Nat) (l1 : List Bool) (r : List Bool) (w0 w : World) (hB : Below w0.heap.size w0 w) (ho0 : Kd.R Kd.bool 4 w w0.heap.size P0_ u9000_ l0) (hr1 : ∀ W_, Kept w W_ (fun k_ => P0_ k_) → Kd.C Kd.bool W_ A1 l1.length l1) (hc1 : l1.length ≤ c1) (h : Qk.f k l0 l1 = some r) :
 Calls Try.prog 34 #[u9000_, .slice A1 l1.length c1] w fun e w' => e = .returned (.tuple #[]) ∧ Kd.R Kd.bool 4 w' w0.heap.size (fun k_ => (P0_ k_ ∨ w.heap.size ≤ k_)) u9000_ r ∧ Below w0.heap.size w0 w' ∧ Kept w w' (fun k_ => P0_ k_) := by
 have HO0 := Zd.mk (show Kd.R Kd.bool 4 w w0.heap.size (fun k_ => (P0_ k_ ∨ w.heap.size ≤ k_)) u9000_ l0 from Kd.Vh ho0 (fun k_ hk => (.inl hk)))
 have HR1 := Zd.mk hr1
 have HC1 := Zd.mk hc1
 clear hr1 hc1
 have HK := Zd.mk (Kept.refl w (fun k_ => P0_ k_))
 have HW0 := Zd.mk hB.size
 have HB := Zd.mk hB
 clear hB
 have H : (Qk.l0 k l0 l1 (l1.length : Int) 0) = some r := h
 clear h
 have H' := Zd.mk H
 clear H
 go_enter Try.func34, Try.ntmps34
 go_wp2
 go_loopg [8] k (fun kq v8 w' => ∃ (Jv : List Bool) (J1 : Int), v8 = .int .i64 J1 ∧ Zd (Qk.l0 kq Jv l1 (l1.length : Int) J1 = some r) ∧ Zd (kq ≤ k) ∧ Zd (Kd.R Kd.bool 4 w' w0.heap.size (fun k_ => (P0_ k_ ∨ w.heap.size ≤ k_)) u9000_ Jv) ∧ Zd (Kept w w' (fun k_ => P0_ k_)) ∧ Zd (Below w0.heap.size w0 w'))
 case atStart => exact ⟨(l0), (0), (by first | rfl | (simp; done) | (simp [*]; done)), H', ⟨Nat.le_refl _⟩, ⟨HO0.out⟩, ⟨by repeat (first | (with_reducible first | exact HK.out | apply Kept.alloc | apply Kept.drewN | apply Kept.drew) | exact HK.out)⟩, ⟨HB.out⟩⟩
 case round =>
  clear H'
  obtain ⟨Jv, J1, rfl, HA, HK1, HO_0, HK, HB⟩ := hrel
  cases gk with
  | zero => exact absurd HA.out (by simp [Qk.l0])
  | succ k1 =>
   have H := HA.out
   clear HA
   simp only [Qk.l0] at H
   by_cases c3 : J1 < (l1.length : Int)
   ·rw [if_pos c3] at H
    have c3b0 : decide (J1 < (l1.length : Int)) = true := decide_eq_true c3
    clear c3
    by_cases c4 : 0 ≤ J1
    ·rw [if_pos c4] at H
     have c4b0 : decide (0 ≤ J1) = true := decide_eq_true c4
     clear c4
     by_cases c5 : J1 < (l1.length : Int)
     ·rw [if_pos c5] at H
      have c5b0 : decide (J1 < (l1.length : Int)) = true := decide_eq_true c5
      clear c5
      by_cases c6 : J1 < (Jv.length : Int)
      ·rw [if_pos c6] at H
       have c6b0 : decide (J1 < (Jv.length : Int)) = true := decide_eq_true c6
       clear c6
       obtain ⟨bq7, hbq7⟩ : ∃ b_ : Bool, b_ = (rdOf false Jv J1) := ⟨_, rfl⟩
       replace H : (if bq7 = true then (Qk.l0 k1 (Jv.set (J1 : Int).toNat true) l1 (l1.length : Int) (wrap64 (J1 + 1))) else (Qk.l0 k1 (Jv.set (J1 : Int).toNat (rdOf false l1 J1)) l1 (l1.length : Int) (wrap64 (J1 + 1)))) = some r := by rw [← hbq7] at H; exact H
       have Nbq7 := Zd.mk hbq7
       clear hbq7
       by_cases c8 : bq7 = true
       ·subst c8
        have H1 : (Qk.l0 k1 (Jv.set (J1 : Int).toNat true) l1 (l1.length : Int) (wrap64 (J1 + 1))) = some r := by rw [if_pos rfl] at H; exact H
        clear H
        have H := H1
        clear H1
        obtain ⟨y221, hy221⟩ : ∃ y_ : List Bool, y_ = (Jv.set (J1 : Int).toNat true) := ⟨_, rfl⟩
        replace H : (Qk.l0 k1 y221 l1 (l1.length : Int) (wrap64 (J1 + 1))) = some r := by first | (rw [hy221]; with_reducible exact H) | (have H2_ := (Option.bind_some _ _).symm.trans H; rw [hy221]; with_reducible exact H2_) | (have H2_ := (Option.bind_some _ _).symm.trans H; with_reducible exact H2_) | with_reducible exact H | (rw [hy221]; exact H) | exact H
        have Ny221 := Zd.mk hy221
        clear hy221
        have H' := Zd.mk H
        clear H
        have p219 : 0 ≤ (J1 : Int) := of_decide_eq_true (by first | (with_reducible assumption) | assumption)
        have q219 : J1 < (l1.length : Int) := of_decide_eq_true (by first | (with_reducible assumption) | assumption)
        obtain ⟨ad219, e219, hx219_0⟩ := Kd.at_bool (Kd.C_kept_now HR1.out HK.out) J1 p219 q219
        (try rw [← Nbq7.out] at hx219_0)
        cases e219
        replace p219 := eq_true p219
        replace q219 := eq_true q219
        obtain ⟨Ao10, co10, eo10⟩ := Kd.Vo HO_0.out
        subst eo10
        have p220 : 0 ≤ (J1 : Int) := of_decide_eq_true (by first | (with_reducible assumption) | assumption)
        have q220 : J1 < (Jv.length : Int) := of_decide_eq_true (by first | (with_reducible assumption) | assumption)
        obtain ⟨ad220, e220, hx220_0⟩ := Kd.at_bool (Kd.Qw HO_0.out).2.2 J1 p220 q220
        (try rw [← Nbq7.out] at hx220_0)
        cases e220
        replace p220 := eq_true p220
        replace q220 := eq_true q220
        have p9 : 0 ≤ (J1 : Int) := of_decide_eq_true (by first | (with_reducible assumption) | assumption)
        have q9 : (J1 : Int) < ((Jv.length : Int) : Int) := of_decide_eq_true (by first | (with_reducible assumption) | assumption)
        obtain ⟨go9, co9, eo9, gb9, gl9, cl9, HG9⟩ := Kd.R_form HO_0.out (by omega)
        (first | cases eo9 | (injection eo9 with ea_ en_ ec_; (first | subst ea_ | (injection ea_ with ea_; subst ea_)); subst ec_; clear en_))
        have GB9 := Zd.mk gb9
        have GG9 := Zd.mk HG9
        clear gb9 gl9 HG9
        have HMgo9 := Zd.mk (show (P0_ go9 ∨ w.heap.size ≤ go9) from (HO_0.out.1 _ rfl))
        (first | simp only [add_plain] at hx220_0 | skip)
        obtain ⟨hx9_0, hf9_0⟩ := Kd.R_celln false HO_0.out (J1 : Int) p9 q9
        replace p9 := eq_true p9
        replace q9 := eq_true q9
        have HP11 := Kd.R_putg HO_0.out (J1 : Int) true
        go_wp2_with (((with_reducible refine Wl (t := 4) (p := 22) rfl ?_); refine Jr (t := 4) (p := 22) (v := ?vo_w12) (w1 := (wr.setCell ⟨go9, (J1 : Int).toNat, none⟩ (.bool true))) ?hg ?ho ?hn ?hr ?_; (case ho => rfl); (case hg => rfl); (case hn => rfl); (case hr => first | (go_simp; done) | (go_simp; rfl)); intro w12 hw; have hg : wr.grownBy w12 (some go9) := (by rw [hw]; exact HP11.2); have hp_ : Kd.R Kd.bool 4 w12 w0.heap.size (fun k_ => (P0_ k_ ∨ w.heap.size ≤ k_)) (.slice (some ⟨go9, 0, none⟩) Jv.length co10) y221 := (by rw [hw, Ny221.out]; exact HP11.1); clear HP11; have n0_ := Zd.mk (hp_); have n1_ := Zd.mk ((by rw [hw]; exact Xc HB.out GB9.out : Below w0.heap.size w0 w12)); have n2_ := Zd.mk (Kept.of_grown (S := (fun k_ => P0_ k_)) hg (by repeat (first | (with_reducible first | exact HK.out | apply Kept.alloc | apply Kept.drewN | apply Kept.drew) | exact HK.out)) (fun k_ e_ => (HO_0.out.1 k_ e_))); clear HO_0; clear HB; clear HK; have HO_0 := n0_; have HB := n1_; have HK := n2_; clear n0_ n1_ n2_; clear hg hw hp_))
        go_roundg k1
        case measure => have := HK1.out; omega
        case rel => exact ⟨(y221), (wrap64 (J1 + 1)), (by first | rfl | (simp; done) | (simp [*]; done)), H', ⟨by have := HK1.out; omega⟩, ⟨HO_0.out⟩, ⟨by repeat (first | (with_reducible first | exact HK.out | apply Kept.alloc | apply Kept.drewN | apply Kept.drew) | exact HK.out)⟩, ⟨HB.out⟩⟩
       ·replace c8 := Bool.eq_false_iff.mpr c8
        subst c8
        have H1 : (Qk.l0 k1 (Jv.set (J1 : Int).toNat (rdOf false l1 J1)) l1 (l1.length : Int) (wrap64 (J1 + 1))) = some r := by rw [if_neg (show ¬ (false = true) by decide)] at H; exact H
        clear H
        have H := H1
        clear H1
        obtain ⟨y222, hy222⟩ : ∃ y_ : List Bool, y_ = (Jv.set (J1 : Int).toNat (rdOf false l1 J1)) := ⟨_, rfl⟩
        replace H : (Qk.l0 k1 y222 l1 (l1.length : Int) (wrap64 (J1 + 1))) = some r := by first | (rw [hy222]; with_reducible exact H) | (have H2_ := (Option.bind_some _ _).symm.trans H; rw [hy222]; with_reducible exact H2_) | (have H2_ := (Option.bind_some _ _).symm.trans H; with_reducible exact H2_) | with_reducible exact H | (rw [hy222]; exact H) | exact H
        have Ny222 := Zd.mk hy222
        clear hy222
        have H' := Zd.mk H
        clear H
        have p219 : 0 ≤ (J1 : Int) := of_decide_eq_true (by first | (with_reducible assumption) | assumption)
        have q219 : J1 < (l1.length : Int) := of_decide_eq_true (by first | (with_reducible assumption) | assumption)
        obtain ⟨ad219, e219, hx219_0⟩ := Kd.at_bool (Kd.C_kept_now HR1.out HK.out) J1 p219 q219
        (try rw [← Nbq7.out] at hx219_0)
        cases e219
        replace p219 := eq_true p219
        replace q219 := eq_true q219
        obtain ⟨Ao14, co14, eo14⟩ := Kd.Vo HO_0.out
        subst eo14
        have p220 : 0 ≤ (J1 : Int) := of_decide_eq_true (by first | (with_reducible assumption) | assumption)
        have q220 : J1 < (Jv.length : Int) := of_decide_eq_true (by first | (with_reducible assumption) | assumption)
        obtain ⟨ad220, e220, hx220_0⟩ := Kd.at_bool (Kd.Qw HO_0.out).2.2 J1 p220 q220
        (try rw [← Nbq7.out] at hx220_0)
        cases e220
        replace p220 := eq_true p220
        replace q220 := eq_true q220
        have p13 : 0 ≤ (J1 : Int) := of_decide_eq_true (by first | (with_reducible assumption) | assumption)
        have q13 : (J1 : Int) < ((Jv.length : Int) : Int) := of_decide_eq_true (by first | (with_reducible assumption) | assumption)
        obtain ⟨go13, co13, eo13, gb13, gl13, cl13, HG13⟩ := Kd.R_form HO_0.out (by omega)
        (first | cases eo13 | (injection eo13 with ea_ en_ ec_; (first | subst ea_ | (injection ea_ with ea_; subst ea_)); subst ec_; clear en_))
        have GB13 := Zd.mk gb13
        have GG13 := Zd.mk HG13
        clear gb13 gl13 HG13
        have HMgo13 := Zd.mk (show (P0_ go13 ∨ w.heap.size ≤ go13) from (HO_0.out.1 _ rfl))
        (first | simp only [add_plain] at hx220_0 | skip)
        obtain ⟨hx13_0, hf13_0⟩ := Kd.R_celln false HO_0.out (J1 : Int) p13 q13
        replace p13 := eq_true p13
        replace q13 := eq_true q13
        have HP15 := Kd.R_putg HO_0.out (J1 : Int) (rdOf false l1 J1)
        go_wp2_with (((with_reducible refine Wl (t := 4) (p := 22) rfl ?_); refine Jr (t := 4) (p := 22) (v := ?vo_w16) (w1 := (wr.setCell ⟨go13, (J1 : Int).toNat, none⟩ (.bool (rdOf false l1 J1)))) ?hg ?ho ?hn ?hr ?_; (case ho => rfl); (case hg => rfl); (case hn => rfl); (case hr => first | (go_simp; done) | (go_simp; rfl)); intro w16 hw; have hg : wr.grownBy w16 (some go13) := (by rw [hw]; exact HP15.2); have hp_ : Kd.R Kd.bool 4 w16 w0.heap.size (fun k_ => (P0_ k_ ∨ w.heap.size ≤ k_)) (.slice (some ⟨go13, 0, none⟩) Jv.length co14) y222 := (by rw [hw, Ny222.out]; exact HP15.1); clear HP15; have n0_ := Zd.mk (hp_); have n1_ := Zd.mk ((by rw [hw]; exact Xc HB.out GB13.out : Below w0.heap.size w0 w16)); have n2_ := Zd.mk (Kept.of_grown (S := (fun k_ => P0_ k_)) hg (by repeat (first | (with_reducible first | exact HK.out | apply Kept.alloc | apply Kept.drewN | apply Kept.drew) | exact HK.out)) (fun k_ e_ => (HO_0.out.1 k_ e_))); clear HO_0; clear HB; clear HK; have HO_0 := n0_; have HB := n1_; have HK := n2_; clear n0_ n1_ n2_; clear hg hw hp_))
        go_roundg k1
        case measure => have := HK1.out; omega
        case rel => exact ⟨(y222), (wrap64 (J1 + 1)), (by first | rfl | (simp; done) | (simp [*]; done)), H', ⟨by have := HK1.out; omega⟩, ⟨HO_0.out⟩, ⟨by repeat (first | (with_reducible first | exact HK.out | apply Kept.alloc | apply Kept.drewN | apply Kept.drew) | exact HK.out)⟩, ⟨HB.out⟩⟩
      ·rw [if_neg c6] at H
       exact absurd H (by simp)
     ·rw [if_neg c5] at H
      exact absurd H (by simp)
    ·rw [if_neg c4] at H
     exact absurd H (by simp)
   ·rw [if_neg c3] at H
    have c3b0 : decide (J1 < (l1.length : Int)) = false := decide_eq_false c3
    clear c3
    obtain rfl := Option.some.inj H
    go_wp2
    first | go_end0 | ((try simp only [Exit.inBlock, Exit.then]); refine bodyPost_ret (results_none rfl _ _ _) rfl ?_)
    exact ⟨by first | rfl | (simp [errW_none, errW_some] <;> rfl) | (simp [*, errW_none, errW_some] <;> rfl), HO_0.out, HB.out, by repeat (first | (with_reducible first | exact HK.out | apply Kept.alloc | apply Kept.drewN | apply Kept.drew) | exact HK.out)⟩
end Go.Proofs.Ytkbkndfonccekaa.PF
namespace Go.Proofs.Ytkbkndfonccekaa
open Go.RowKit Go.Proofs.YtkbkndfonccekaaW.PrintWords Go.Proofs.Ytkbkndfonccekaa.PF
open Go.ChangeMaps (setBlock)
set_option maxRecDepth 100000
theorem keyLits3 {P : Program} {k e : TypeId} {f0 f1 f2 : Field} (hu : P.underlying k = some (.struct #[f0, f1, f2])) (he : P.underlying e = some (.int .i64)) (h1 : P.cellsOf k = 3) (h2 : P.cellsOf e = 1)
    (t0 : f0.type = e) (t1 : f1.type = e) (t2 : f2.type = e) (o0 : f0.offset = 0) (o1 : f1.offset = 1) (o2 : f2.offset = 2) (hn : (#[f0, f1, f2] : Array Field).all (·.name != "_") = true) (d : Nat) (a b c : Int) (ha : (Lit.int IntKind.i64 a).wf = true) (hb : (Lit.int IntKind.i64 b).wf = true) (hc : (Lit.int IntKind.i64 c).wf = true) :
    P.keyLits (d + 2) k [.int .i64 a, .int .i64 b, .int .i64 c] = some [.int .i64 a, .int .i64 b, .int .i64 c] := by
  have one : ∀ x, (Lit.int IntKind.i64 x).wf = true → P.keyLits (d + 1) e [.int .i64 x] = some [.int .i64 x] := fun x hx => by
    simp [Program.keyLits, he, hx]
  unfold Program.keyLits
  simp only [hu]
  rw [if_pos ⟨by rw [h1]; rfl, hn⟩]
  simp [t0, t1, t2, o0, o1, o2, h2, one a ha, one b hb, one c hc]
theorem key3_of (a b c : Int) (ha : InK .i64 a) (hb : InK .i64 b) (hc : InK .i64 c) : ∃ l, keyOf Try.prog 69 (.agg #[.int .i64 a, .int .i64 b, .int .i64 c]) = some l := by
  have hk : Try.prog.keyLits (Try.prog.types.size + 1) 69 [.int .i64 a, .int .i64 b, .int .i64 c] = some [.int .i64 a, .int .i64 b, .int .i64 c] := by
    obtain ⟨d, hd⟩ : ∃ d, Try.prog.types.size + 1 = d + 2 := ⟨Try.prog.types.size - 1, by have : 1 ≤ Try.prog.types.size := of_decide_eq_true (by kernel_rfl); omega⟩
    rw [hd]
    exact keyLits3 Try.underlying69 Try.underlying3 (by kernel_rfl) (by kernel_rfl) rfl rfl rfl rfl rfl rfl (by kernel_rfl) d a b c (by simp only [Lit.wf, Bool.and_eq_true, decide_eq_true_eq]; exact ha) (by simp only [Lit.wf, Bool.and_eq_true, decide_eq_true_eq]; exact hb) (by simp only [Lit.wf, Bool.and_eq_true, decide_eq_true_eq]; exact hc)
  have hkt : Try.prog.keyType 69 = true := by kernel_rfl
  have hc3 : Try.prog.cellsOf 69 = 3 := by kernel_rfl
  unfold keyOf
  rw [Try.underlying69]
  simp only
  rw [if_pos (by simp [hkt, Value.formed, Try.underlying69, hc3])]
  show ∃ l, Option.map _ (Try.prog.keyLits _ _ [.int .i64 a, .int .i64 b, .int .i64 c]) = some l
  rw [hk]
  exact ⟨_, rfl⟩
theorem law3 : Maps.Keyed Try.prog 69 := Maps.Keyed.of_law (deep_law_laid (by kernel_rfl) (m := 2) (by omega) (of_decide_eq_true (by kernel_rfl)) (by kernel_rfl) (by kernel_rfl))
def key3 : KeyEnc Try.prog 69 (Int × Int × Int) where
  enc := fun k => .agg #[.int .i64 k.1, .int .i64 k.2.1, .int .i64 k.2.2]
  ok := fun k => InK .i64 k.1 ∧ InK .i64 k.2.1 ∧ InK .i64 k.2.2
  law := law3
  key := fun _ h => key3_of _ _ _ h.1 h.2.1 h.2.2
  inj := fun a b h => by
    obtain ⟨a1, a2, a3⟩ := a
    obtain ⟨b1, b2, b3⟩ := b
    simpa using h
theorem key3_ok {a b c : Nat} (ha : (a : Int) ≤ 1000000) (hb : (b : Int) ≤ 1000000) (hc : (c : Int) ≤ 1000000) : key3.ok ((a : Int), (b : Int), (c : Int)) :=
  show InK .i64 (a : Int) ∧ InK .i64 (b : Int) ∧ InK .i64 (c : Int) from ⟨InK.mk64 ⟨by omega, by omega⟩, InK.mk64 ⟨by omega, by omega⟩, InK.mk64 ⟨by omega, by omega⟩⟩
abbrev rowsK : Kd (List Bool) := Kd.slice 4 Kd.bool
theorem kd_rows {w : World} {A : Option Addr} {n : Nat} {xs : List (List Bool)} (h : Kd.C rowsK w A n xs) {i : Nat} {x : List Bool} (hx : xs[i]? = some x) :
    ∃ b o A' c', A = some ⟨b, o, none⟩ ∧ b < w.heap.size ∧ w.cell? ⟨b, o + i, none⟩ = some (.slice A' x.length c') ∧ Kd.C Kd.bool w A' x.length x := by
  obtain ⟨b, o, cs, rfl, hb, _, hK, hc⟩ := kd_at h (by exact Nat.one_pos) hx
  obtain ⟨A', c', rfl, hl, hC⟩ := hK
  refine ⟨b, o, A', c', rfl, hb, ?_, hC⟩
  have := hc 0 _ rfl
  simpa [rowsK, Kd.slice] using this
abbrev tmC' (op lo hi : Int) (e : Jn) (A1 : Option Addr) (n1 c1 : Nat) (A2 : Option Addr) (n2 c2 : Nat) : Array Value := #[.int .i64 op, .int .i64 e.f0, .int .i64 e.f1, .bool e.f2, .int .i64 e.f3.f0, .int .u64 e.f3.f1, .int .u64 e.f3.f2, .int .i64 e.f4, .bool e.f5, .int .i64 e.f6, .slice A1 n1 c1, .int .i64 lo, .int .i64 hi, .slice A2 n2 c2]
def HoldPost (W : World) (bk : Nat) (M : List ((Int × Int × Int) × Value)) (k : Int × Int × Int) (r : List Bool) (e : Ending) (w' : World) : Prop :=
  ∃ (y : But W (fun j => j = bk)) (v : Value), e = .returned v ∧ w' = y.val ∧ Kd.R Kd.bool 4 w' W.heap.size (fun j => W.heap.size ≤ j) v r ∧ MapAt key3 id w' bk (mput M k v)
set_option maxHeartbeats 16000000 in
theorem hold_walk (rows : List (List Bool)) (A0 : Option Addr) (c0 : Nat) (lo hi : Int) (e : Jn) (A1 : Option Addr) (n1 c1 : Nat) (A2 : Option Addr) (n2 c2 : Nat) (leaf depth frm bm bk : Nat) (M : List ((Int × Int × Int) × Value)) (W0 W : World) (row : List Bool) (x : Bool)
    (hrow : rows[frm]? = some row) (hx : row[leaf]? = some x) (hr : Kd.C rowsK W0 A0 rows.length rows) (hI : Is W0 W) (hb0 : W.cell? ⟨bm, 0, none⟩ = some (.slice A0 rows.length c0)) (hb1 : W.cell? ⟨bm, 1, none⟩ = some (.map (some bk))) (hbl : bm < W.heap.size)
    (hM : MapAt key3 id W bk M) (hg : mget M ((leaf : Int), (depth : Int), (frm : Int)) = none) (hn : rows.length ≤ 1000) (hlf : leaf ≤ 1000) (hdp : depth ≤ 1000) :
    Calls Try.prog 32 #[.pointer (some ⟨bm, 0, none⟩), .agg (tmC' 0 lo hi e A1 n1 c1 A2 n2 c2), .int .i64 leaf, .int .i64 depth, .int .i64 frm] W
      (HoldPost W bk M ((leaf : Int), (depth : Int), (frm : Int)) ((List.replicate rows.length false).set frm x)) := by
  have hu := Try.underlying30
  have huk := Try.underlying69
  have hum := Try.underlying66
  have hz : ∀ W, (zeroValue 53).run Try.prog W = .ok (.slice none 0 0) W := fun W => by kernel_rfl
  have hfl : frm < rows.length := (List.getElem?_eq_some_iff.1 hrow).1
  have hkok : key3.ok ((leaf : Int), (depth : Int), (frm : Int)) := key3_ok (by omega) (by omega) (by omega)
  have hlk0 : ∀ w, Is W w → (Instr.lookup 64 (.map (some bk)) (.agg #[.int .i64 leaf, .int .i64 depth, .int .i64 frm]) true).run Try.prog w = .ok (.tuple #[.slice none 0 0, .bool false]) w := fun w hw => by
    have := run_mapLookupOk (hM.is hw) Try.underlying64 (hz w) hkok
    rw [hg] at this
    exact this
  have hlk := fun u : Under ((W.alloc (.cells (tmC' 0 lo hi e A1 n1 c1 A2 n2 c2) 30)).alloc (.cells #[.int .i64 leaf, .int .i64 depth, .int .i64 frm] 69)) => hlk0 u.val ((((Is.refl W).alloc _).alloc _).step u)
  have hMh := Lib.hid hM
  have hgh := Lib.hid hg
  clear hM hg
  go_enter Try.func32, Try.ntmps32
  go_wp2
  refine wp_region_under (by kernel_rfl) (by kernel_rfl) ?_
  repeat (go_big_quiet_step (fail))
  refine wpQuiet_nil ?_
  rintro _ ⟨z, rfl⟩
  clear hlk hlk0
  have hIz : Is W z.val := (((Is.refl W).alloc _).alloc _).step z
  have hg0 : z.val.heap[W.heap.size]? = some (.cells (tmC' 0 lo hi e A1 n1 c1 A2 n2 c2) 30 (0, 0)) := (z.ok.block _ (by simp; omega)).trans ((Below.heap_alloc _ _ _ (by simp)).trans (heap_alloc_new W _))
  have hg1 : z.val.heap[W.heap.size + 1]? = some (.cells #[.int .i64 leaf, .int .i64 depth, .int .i64 frm] 69 (0, 0)) := (z.ok.block _ (by simp)).trans (by have := heap_alloc_new (W.alloc (.cells (tmC' 0 lo hi e A1 n1 c1 A2 n2 c2) 30)) (.cells #[.int .i64 leaf, .int .i64 depth, .int .i64 frm] 69); simpa using this)
  have hzs : W.heap.size + 2 ≤ z.val.heap.size := by have := z.size; simpa using this
  obtain ⟨g0, hgb0⟩ : ∃ g, W.heap.size = g := ⟨_, rfl⟩
  obtain ⟨g1, hgb1⟩ : ∃ g, W.heap.size + 1 = g := ⟨_, rfl⟩
  obtain ⟨zw, hzw⟩ : ∃ zw, z.val = zw := ⟨_, rfl⟩
  rw [hgb1] at hg1 ⊢
  rw [hgb0] at hg0 ⊢
  rw [hzw] at hIz hg0 hg1 hzs ⊢
  have hb0z : zw.cell? ⟨bm, 0, none⟩ = some (.slice A0 rows.length c0) := (hIz.below.cell hbl).trans hb0
  have hb1z : zw.cell? ⟨bm, 1, none⟩ = some (.map (some bk)) := (hIz.below.cell hbl).trans hb1
  clear hzw z hz hb0 hb1
  have hgz : g0 ≤ zw.heap.size := by omega
  go_upto_region 6 with ((with_reducible refine Xd (N := 45) rfl ?_); refine Kd.R_make Kd.bool zw.heap.size 4 rfl (N := 45) rfl 53 _ _ rfl (rows.length : Int) rfl rfl Try.underlying53 (.bool false) 1 info4 rfl (by decide) (by omega) false (ok := fun j => g0 ≤ j) (okp := fun j => g0 ≤ j) rfl (fun _ hk => hk) hgz (by omega) (by omega) (Below.refl _ _) (Nat.le_refl _) ?_; intro v w7 ho hbw hgw hnw)
  clear hgw hnw
  simp only [Int.toNat_natCast] at ho
  have hIz7 : Is zw w7 := Is.of hbw
  have hIw7 : Is W w7 := hIz.trans hIz7
  have k0 := (cell_of_row w7 g0 0 _ _ _ ((hbw.block g0 (by omega)).trans hg0)).trans rfl
  have k1 := (cell_of_row w7 g1 0 _ _ _ ((hbw.block g1 (by omega)).trans hg1)).trans rfl
  have k2 := (cell_of_row w7 g1 1 _ _ _ ((hbw.block g1 (by omega)).trans hg1)).trans rfl
  have k3 := (cell_of_row w7 g1 2 _ _ _ ((hbw.block g1 (by omega)).trans hg1)).trans rfl
  simp at k0 k1 k2 k3
  have hb07 : w7.cell? ⟨bm, 0, none⟩ = some (.slice A0 rows.length c0) := (hbw.cell (Nat.lt_of_lt_of_le hbl hIz.below.size)).trans hb0z
  have hb17 : w7.cell? ⟨bm, 1, none⟩ = some (.map (some bk)) := (hbw.cell (Nat.lt_of_lt_of_le hbl hIz.below.size)).trans hb1z
  obtain ⟨rb, ro, A', c', rfl, hrb, hrc, hC⟩ := kd_rows (Ju hr (hI.trans hIw7)) hrow
  obtain ⟨xb, xo, rfl, hxb, hxc⟩ := kd_bool hC hx
  obtain ⟨go, co, eo, gb, gl, _, _⟩ := Kd.R_form ho (by rw [List.length_replicate]; omega)
  rw [List.length_replicate] at eo
  subst eo
  obtain ⟨hx0, hf0⟩ := Kd.R_celln false ho (frm : Int) (by omega) (by omega)
  have HP := Kd.R_putg ho (frm : Int) x
  simp only [Int.toNat_natCast] at hx0 hf0 HP
  have hHP := Lib.hid HP
  have hll : leaf < row.length := (List.getElem?_eq_some_iff.1 hx).1
  clear HP hb0z hb1z hrow hx hr hC ho
  go_upto_region 36 with ((with_reducible refine Wl (t := 4) (p := 62) rfl ?_); refine Jr (t := 4) (p := 62) (v := ?vo) (w1 := (w7.setCell ⟨go, frm, none⟩ (.bool x))) ?hg ?ho ?hn ?hr ?_; (case ho => rfl); (case hg => rfl); (case hn => rfl); (case hr => first | (go_simp; done) | (go_simp; rfl)); intro w8 hw8)
  have hI8 : Is W w8 := by rw [hw8]; exact hIw7.setCell (p := ⟨go, frm, none⟩) (by show W.heap.size ≤ go; omega) _
  have hgo0 : g0 ≠ go := by omega
  have hgo1 : g1 ≠ go := by omega
  have k1' : w8.cell? ⟨g1, 0, none⟩ = some (.int .i64 leaf) := by rw [hw8]; rw [← k1]; exact World.cell?_of_block (a := ⟨g1, 0, none⟩) (Below.heap_setCell w7 ⟨go, frm, none⟩ (.bool x) g1 hgo1)
  have k2' : w8.cell? ⟨g1, 1, none⟩ = some (.int .i64 depth) := by rw [hw8]; rw [← k2]; exact World.cell?_of_block (a := ⟨g1, 1, none⟩) (Below.heap_setCell w7 ⟨go, frm, none⟩ (.bool x) g1 hgo1)
  have k3' : w8.cell? ⟨g1, 2, none⟩ = some (.int .i64 frm) := by rw [hw8]; rw [← k3]; exact World.cell?_of_block (a := ⟨g1, 2, none⟩) (Below.heap_setCell w7 ⟨go, frm, none⟩ (.bool x) g1 hgo1)
  have hb08 : w8.cell? ⟨bm, 1, none⟩ = some (.map (some bk)) := (hI8.below.cell hbl).trans ((hIw7.below.cell (p := ⟨bm, 1, none⟩) hbl).symm.trans hb17)
  have hl8 : bm < w8.heap.size := Nat.lt_of_lt_of_le hbl hI8.below.size
  have hl81 : g1 < w8.heap.size := by have := hI8.below.size; have := hIw7.below.size; have h2 : w8.heap.size = w7.heap.size := by rw [hw8]; simp
                                      have := hbw.size; omega
  obtain ⟨o, hst, hM9⟩ := Jf (hMh.out.is hI8.drew) Try.underlying64 hkok (.slice (some ⟨go, 0, none⟩) rows.length co)
  have hst : (Instr.mapUpdate 64 (.map (some bk)) (.agg #[.int .i64 leaf, .int .i64 depth, .int .i64 frm]) (.slice (some ⟨go, 0, none⟩) rows.length co)).run Try.prog w8.drew = .ok () (setBlock w8.drew bk o) := hst
  have hM9h := Lib.hid hM9
  have hI8h := Lib.hid hI8
  have hw8h := Lib.hid hw8
  clear hM9 hI8 hw8 k0 k1 k2 k3 hb07 hb17 hIw7
  refine wp_region_splitT (fun w' => ∃ x : Under w8, w' = x.val) [true, false, false, false, true, true, false] (by kernel_rfl) (by kernel_rfl) (by decide) ⟨(Under.refl _).drew, rfl⟩ (fun _ _ d _ _ h => by cases d <;> exact h) ?_
  simp only [pickB, dropB]
  repeat (go_big_quiet_step (fail))
  refine wpQuiet_nil ?_
  refine Jt (fun Q' hQ' => ?_)
  go_wp2
  refine ⟨⟨(Under.refl _).drew, rfl⟩, Jt (fun Q' hQ' => ?_)⟩
  go_wp2
  refine ⟨⟨(Under.refl _).drew, rfl⟩, Jt (fun Q' hQ' => ?_)⟩
  go_wp2
  refine ⟨⟨(Under.refl _).drew, rfl⟩, wpListT_last (fun Q' hQ' => ?_)⟩
  go_wp2
  go_ret
  obtain ⟨u, hu⟩ := hI8h.out.drew
  have hbkl : bk < W.heap.size := hMh.out.lt
  refine ⟨((But.refl W (fun j => j = bk)).under u).set bk rfl o, _, rfl, by show setBlock w8.drew bk o = setBlock u.val bk o; rw [hu], ?_, hM9h.out⟩
  have h1 := hHP.out.1
  rw [← hw8h.out] at h1
  refine Kd.R_step (Kd.Vh (Kd.Jj h1 (by omega)) (fun k hk => by omega)) (fun k hk _ => ?_)
  show (setBlock w8.drew bk o).heap[k]? = w8.heap[k]?
  have hkb : bk ≠ k := by omega
  simp only [setBlock]
  rw [Array.getElem?_setIfInBounds, if_neg hkb]
  rfl
def But.comp {w : World} {G G' : Nat → Prop} (x : But w G) (y : But x.val G') (h : ∀ k, k < w.heap.size → G' k → G k) : But w G :=
  ⟨y.val, y.os.trans x.os, y.tape.trans x.tape, y.output.trans x.output, Nat.le_trans x.size y.size, fun k hk hG => (y.block k (Nat.lt_of_lt_of_le hk x.size) (fun h' => hG (h k hk h'))).trans (x.block k hk hG)⟩
def butOf {W0 w w' : World} {S : Nat → Prop} (hk : Kept w w' S) (h1 : Below W0.heap.size W0 w) (h2 : Below W0.heap.size W0 w') : But w S :=
  ⟨w', h2.os.trans h1.os.symm, h2.tape.trans h1.tape.symm, h2.output.trans h1.output.symm, hk.1, fun k hlt hS => hk.2 k hlt hS⟩
theorem own_at {g n c : Nat} {k : Nat} (h : (Value.slice (some ⟨g, 0, none⟩) n c).ownBlock = some k) : k = g := by
  simpa [Value.ownBlock] using h.symm
theorem own_raise {w : World} {base base' : Nat} {e : TypeId} {size n : Nat} {v : Value} {xs : List Value} (h : w.ownsRow base e size v n xs) (hb : ∀ k, v.ownBlock = some k → base' ≤ k) : w.ownsRow base' e size v n xs := by
  obtain ⟨h1, h2⟩ := h
  refine ⟨h1, ?_⟩
  rcases h2 with h2 | ⟨g, cap, cur, rfl, hg, r⟩
  · exact .inl h2
  · exact .inr ⟨g, cap, cur, rfl, hb g (by simp [Value.ownBlock]), r⟩
theorem F_none {α : Type} (d : Kd α) (W : World) (ok : Nat → Prop) (A : Option Addr) : Kd.F d W ok A ([] : List α).length [] := fun _ _ => ⟨rfl, by simp, fun h => absurd h (Nat.lt_irrefl 0)⟩
def ThenPost (W0 : World) (base : Nat) (r : List Bool) (e : Ending) (w' : World) : Prop :=
  ∃ (v : Value), e = .returned v ∧ Is W0 w' ∧ Kd.R Kd.bool 4 w' base (fun _ => True) v r
def thenF (K : Nat) (rows : List (List Bool)) (s : List Bool) (nxt : Nat) : Nat → Nat → List Bool → Option (List Bool)
  | 0, _, out => some out
  | d + 1, i, out => (s[i]?).bind fun b => if b = true then ((rows[i]?).bind (·[nxt]?)).bind fun x => (Qk.f K out ((List.replicate rows.length false).set i x)).bind fun o => thenF K rows s nxt d (i + 1) o
      else thenF K rows s nxt d (i + 1) out
set_option maxHeartbeats 16000000 in
theorem then_walk (K : Nat) (rows : List (List Bool)) (A0 : Option Addr) (c0 : Nat) (lo hi : Int) (e : Jn) (a b : Vp) (A1 : Option Addr) (c1 : Nat) (A2 : Option Addr) (c2 : Nat) (frm bm bk : Nat) (W0 W : World) (row : List Bool) (x : Bool) (s r : List Bool)
    (hrow : rows[frm]? = some row) (hx : row[0]? = some x) (hr : Kd.C rowsK W0 A0 rows.length rows) (hkd : Kd.C k30 W0 A2 2 [a, b]) (ha0 : a.f0 = 0) (hb0' : b.f0 = 0) (ha4 : a.f4 = []) (ha7 : a.f1.f7 = [])
    (hI : Is W0 W) (hkW : W0.heap.size ≤ bk) (hb0 : W.cell? ⟨bm, 0, none⟩ = some (.slice A0 rows.length c0)) (hb1 : W.cell? ⟨bm, 1, none⟩ = some (.map (some bk))) (hbl : bm < W.heap.size) (hne : bm ≠ bk)
    (hM : MapAt key3 id W bk ([] : List ((Int × Int × Int) × Value))) (hn : rows.length ≤ 1000) (hc0 : rows.length ≤ c0) (hc2 : 2 ≤ c2)
    (hs : Zq.f K rows 1 e.f0 e.f1 e.f2 e.f3.f0 e.f3.f1 e.f3.f2 e.f4 e.f5 e.f6 [] lo hi [a, b] ((List.replicate rows.length false).set frm x) = some s)
    (hrr : thenF K rows s 1 s.length 0 (List.replicate rows.length false) = some r) :
    Calls Try.prog 32 #[.pointer (some ⟨bm, 0, none⟩), .agg (tmC' 1 lo hi e A1 0 c1 A2 2 c2), .int .i64 0, .int .i64 0, .int .i64 frm] W (ThenPost W0 W.heap.size r) := by
  have hu := Try.underlying30
  have huk := Try.underlying69
  have hum := Try.underlying66
  have hz : ∀ W, (zeroValue 53).run Try.prog W = .ok (.slice none 0 0) W := fun W => by kernel_rfl
  have hfl : frm < rows.length := (List.getElem?_eq_some_iff.1 hrow).1
  have hkok : key3.ok ((0 : Int), (0 : Int), (frm : Int)) := key3_ok (a := 0) (b := 0) (by omega) (by omega) (by omega)
  have hlk0 : ∀ w, Is W w → (Instr.lookup 64 (.map (some bk)) (.agg #[.int .i64 0, .int .i64 0, .int .i64 frm]) true).run Try.prog w = .ok (.tuple #[.slice none 0 0, .bool false]) w := fun w hw => by
    have := run_mapLookupOk (hM.is hw) Try.underlying64 (hz w) hkok
    exact this
  have hlk := fun u : Under ((W.alloc (.cells (tmC' 1 lo hi e A1 0 c1 A2 2 c2) 30)).alloc (.cells #[.int .i64 0, .int .i64 0, .int .i64 frm] 69)) => hlk0 u.val ((((Is.refl W).alloc _).alloc _).step u)
  have hMh := Lib.hid hM
  clear hM
  go_enter Try.func32, Try.ntmps32
  go_wp2
  refine wp_region_under (by kernel_rfl) (by kernel_rfl) ?_
  repeat (go_big_quiet_step (fail))
  refine wpQuiet_nil ?_
  rintro _ ⟨z, rfl⟩
  clear hlk hlk0
  have hIz : Is W z.val := (((Is.refl W).alloc _).alloc _).step z
  have hg0 : z.val.heap[W.heap.size]? = some (.cells (tmC' 1 lo hi e A1 0 c1 A2 2 c2) 30 (0, 0)) := (z.ok.block _ (by simp; omega)).trans ((Below.heap_alloc _ _ _ (by simp)).trans (heap_alloc_new W _))
  have hg1 : z.val.heap[W.heap.size + 1]? = some (.cells #[.int .i64 0, .int .i64 0, .int .i64 frm] 69 (0, 0)) := (z.ok.block _ (by simp)).trans (by have := heap_alloc_new (W.alloc (.cells (tmC' 1 lo hi e A1 0 c1 A2 2 c2) 30)) (.cells #[.int .i64 0, .int .i64 0, .int .i64 frm] 69); simpa using this)
  have hzs : W.heap.size + 2 ≤ z.val.heap.size := by have := z.size; simpa using this
  obtain ⟨g0, hgb0⟩ : ∃ g, W.heap.size = g := ⟨_, rfl⟩
  obtain ⟨g1, hgb1⟩ : ∃ g, W.heap.size + 1 = g := ⟨_, rfl⟩
  obtain ⟨zw, hzw⟩ : ∃ zw, z.val = zw := ⟨_, rfl⟩
  rw [hgb1] at hg1 ⊢
  rw [hgb0] at hg0 ⊢
  rw [hzw] at hIz hg0 hg1 hzs ⊢
  have hb0z : zw.cell? ⟨bm, 0, none⟩ = some (.slice A0 rows.length c0) := (hIz.below.cell hbl).trans hb0
  have hb1z : zw.cell? ⟨bm, 1, none⟩ = some (.map (some bk)) := (hIz.below.cell hbl).trans hb1
  clear hzw z hz hb0 hb1
  have hgz : g0 ≤ zw.heap.size := by omega
  go_upto_region 6 with ((with_reducible refine Xd (N := 45) rfl ?_); refine Kd.R_make Kd.bool zw.heap.size 4 rfl (N := 45) rfl 53 _ _ rfl (rows.length : Int) rfl rfl Try.underlying53 (.bool false) 1 info4 rfl (by decide) (by omega) false (ok := fun j => g0 ≤ j) (okp := fun j => g0 ≤ j) rfl (fun _ hk => hk) hgz (by omega) (by omega) (Below.refl _ _) (Nat.le_refl _) ?_; intro v w7 ho hbw hgw hnw)
  clear hgw hnw
  simp only [Int.toNat_natCast] at ho
  have hIz7 : Is zw w7 := Is.of hbw
  have hIw7 : Is W w7 := hIz.trans hIz7
  have k0 := (cell_of_row w7 g0 0 _ _ _ ((hbw.block g0 (by omega)).trans hg0)).trans rfl
  have k1 := (cell_of_row w7 g1 0 _ _ _ ((hbw.block g1 (by omega)).trans hg1)).trans rfl
  have k2 := (cell_of_row w7 g1 1 _ _ _ ((hbw.block g1 (by omega)).trans hg1)).trans rfl
  have k3 := (cell_of_row w7 g1 2 _ _ _ ((hbw.block g1 (by omega)).trans hg1)).trans rfl
  simp at k0 k1 k2 k3
  have hb07 : w7.cell? ⟨bm, 0, none⟩ = some (.slice A0 rows.length c0) := (hbw.cell (Nat.lt_of_lt_of_le hbl hIz.below.size)).trans hb0z
  have hb17 : w7.cell? ⟨bm, 1, none⟩ = some (.map (some bk)) := (hbw.cell (Nat.lt_of_lt_of_le hbl hIz.below.size)).trans hb1z
  have hgw := (hbw.block g0 (by omega)).trans hg0
  clear hb0z hb1z
  clear k0
  have y0 := (cell_of_row w7 g0 0 _ _ _ hgw).trans rfl
  have y1 := (cell_of_row w7 g0 1 _ _ _ hgw).trans rfl
  have y2 := (cell_of_row w7 g0 2 _ _ _ hgw).trans rfl
  have y3 := (cell_of_row w7 g0 3 _ _ _ hgw).trans rfl
  have y4 := (cell_of_row w7 g0 4 _ _ _ hgw).trans rfl
  have y5 := (cell_of_row w7 g0 5 _ _ _ hgw).trans rfl
  have y6 := (cell_of_row w7 g0 6 _ _ _ hgw).trans rfl
  have y7 := (cell_of_row w7 g0 7 _ _ _ hgw).trans rfl
  have y8 := (cell_of_row w7 g0 8 _ _ _ hgw).trans rfl
  have y9 := (cell_of_row w7 g0 9 _ _ _ hgw).trans rfl
  have y10 := (cell_of_row w7 g0 10 _ _ _ hgw).trans rfl
  have y11 := (cell_of_row w7 g0 11 _ _ _ hgw).trans rfl
  have y12 := (cell_of_row w7 g0 12 _ _ _ hgw).trans rfl
  have y13 := (cell_of_row w7 g0 13 _ _ _ hgw).trans rfl
  simp at y0 y1 y2 y3 y4 y5 y6 y7 y8 y9 y10 y11 y12 y13
  obtain ⟨a0, ⟨p0, p1, p2, ⟨p3, p4, p5⟩, p6, p7, p8, p9⟩, alo, ahi, ak⟩ := a
  obtain ⟨b0, ⟨q0, q1, q2, ⟨q3, q4, q5⟩, q6, q7, q8, q9⟩, blo, bhi, bk'⟩ := b
  simp only at ha0 hb0' ha4 ha7
  subst ha0 hb0' ha4 ha7
  obtain ⟨bb, ob, B1, e1, B2, e2, rfl, hbb, _, _, _, _, hca⟩ := kd_temp (Ju hkd (hI.trans hIw7)) (i := 0) rfl
  obtain ⟨bb', ob', D1, f1, D2, f2, hbe, _, _, _, _, _, hcb⟩ := kd_temp (Ju hkd (hI.trans hIw7)) (i := 1) rfl
  injection hbe with hbe
  injection hbe with hbe1 hbe2
  subst hbe1 hbe2
  have ya0 := hca 0 _ rfl
  have yb0 := hcb 0 _ rfl
  have ya1 := hca 1 _ rfl
  have yb1 := hcb 1 _ rfl
  have ya2 := hca 2 _ rfl
  have yb2 := hcb 2 _ rfl
  have ya3 := hca 3 _ rfl
  have yb3 := hcb 3 _ rfl
  have ya4 := hca 4 _ rfl
  have yb4 := hcb 4 _ rfl
  have ya5 := hca 5 _ rfl
  have yb5 := hcb 5 _ rfl
  have ya6 := hca 6 _ rfl
  have yb6 := hcb 6 _ rfl
  have ya7 := hca 7 _ rfl
  have yb7 := hcb 7 _ rfl
  have ya8 := hca 8 _ rfl
  have yb8 := hcb 8 _ rfl
  have ya9 := hca 9 _ rfl
  have yb9 := hcb 9 _ rfl
  have ya10 := hca 10 _ rfl
  have yb10 := hcb 10 _ rfl
  have ya11 := hca 11 _ rfl
  have yb11 := hcb 11 _ rfl
  have ya12 := hca 12 _ rfl
  have yb12 := hcb 12 _ rfl
  have ya13 := hca 13 _ rfl
  have yb13 := hcb 13 _ rfl
  simp at ya0 yb0 ya1 yb1 ya2 yb2 ya3 yb3 ya4 yb4 ya5 yb5 ya6 yb6 ya7 yb7 ya8 yb8 ya9 yb9 ya10 yb10 ya11 yb11 ya12 yb12 ya13 yb13
  have hleaf : Zv.f 1 0 p0 p1 p2 p3 p4 p5 p6 p7 p8 [] alo ahi [] = some [⟨p0, p1, p2, ⟨p3, p4, p5⟩, p6, p7, p8, []⟩] := rfl
  have hLV := Zv.calls 1 0 p0 p1 p2 p3 p4 p5 p6 p7 p8 (fun _ => False) B1 e1 [] alo ahi (fun _ => False) B2 e2 [] _ w7 (Kd.Wj (Nat.zero_le _) (F_none _ _ _ _)) (Kd.Wj (Nat.zero_le _) (F_none _ _ _ _)) hleaf
  have hLVh := Lib.hid hLV
  have hg7 : g0 < w7.heap.size := by have := hbw.size; omega
  have hg71 : g1 < w7.heap.size := by have := hbw.size; omega
  have hbm7 : bm < w7.heap.size := Nat.lt_of_lt_of_le hbl hIw7.below.size
  clear hca hcb hLV hleaf
  go_upto_region 11 with (go_at_call 18; refine hLVh.out.mono ?_; rintro e3 w8 ⟨v0, rfl, hN, hB⟩; obtain ⟨A3, c3, rfl⟩ := Kd.Va hN; obtain ⟨x10, rfl⟩ := Is.of hB)
  have hx10 : Is w7 x10.val.drew := (Is.val x10).drew
  obtain ⟨wd, hwd⟩ : ∃ wd, x10.val.drew = wd := ⟨_, rfl⟩
  rw [hwd] at hx10
  have hI10 : Is W wd := hIw7.trans hx10
  have hB10 : wd.cell? ⟨bm, 0, none⟩ = some (.slice A0 rows.length c0) := (hx10.below.cell hbm7).trans hb07
  have hB11 : wd.cell? ⟨bm, 1, none⟩ = some (.map (some bk)) := (hx10.below.cell hbm7).trans hb17
  have hbm10 : bm < wd.heap.size := Nat.lt_of_lt_of_le hbm7 hx10.below.size
  have hH : Calls Try.prog 32 #[.pointer (some ⟨bm, 0, none⟩), .agg (tmC' 0 alo ahi ⟨p0, p1, p2, ⟨p3, p4, p5⟩, p6, p7, p8, []⟩ B1 0 e1 B2 0 e2), .int .i64 0, .int .i64 1, .int .i64 frm] wd
      (HoldPost wd bk [] (0, 1, (frm : Int)) ((List.replicate rows.length false).set frm x)) := hold_walk rows A0 c0 alo ahi ⟨p0, p1, p2, ⟨p3, p4, p5⟩, p6, p7, p8, []⟩ B1 0 e1 B2 0 e2 0 1 frm bm bk [] W0 wd row x hrow hx hr (hI.trans hI10) hB10 hB11 hbm10 (hMh.out.is hI10) rfl hn (by omega) (by omega)
  obtain ⟨ra, hra⟩ : ∃ ra, (List.replicate rows.length false).set frm x = ra := ⟨_, rfl⟩
  rw [hra] at hH hs
  have hral : ra.length = rows.length := by rw [← hra]; simp
  have hralh := Lib.hid hral
  clear hral hra
  have hHh := Lib.hid hH
  have hgb : ¬ (g0 = bk) := by have := hMh.out.lt; omega
  have hbbW : bb < W0.heap.size := by
    obtain ⟨bb0, ob0, _, _, _, _, hbe0, hbb0, _⟩ := kd_temp hkd (i := 0) rfl
    injection hbe0 with hbe0
    injection hbe0 with hbe1 hbe2
    omega
  have hW0W : W0.heap.size ≤ W.heap.size := hI.below.size
  have hbbk : ¬ (bb = bk) := by omega
  have hg10 : g0 < wd.heap.size := Nat.lt_of_lt_of_le hg7 hx10.below.size
  have hbb10 : bb < wd.heap.size := Nat.lt_of_lt_of_le hbb hx10.below.size
  replace y0 := (hx10.below.cell hg7).trans y0
  replace y1 := (hx10.below.cell hg7).trans y1
  replace y2 := (hx10.below.cell hg7).trans y2
  replace y3 := (hx10.below.cell hg7).trans y3
  replace y4 := (hx10.below.cell hg7).trans y4
  replace y5 := (hx10.below.cell hg7).trans y5
  replace y6 := (hx10.below.cell hg7).trans y6
  replace y7 := (hx10.below.cell hg7).trans y7
  replace y8 := (hx10.below.cell hg7).trans y8
  replace y9 := (hx10.below.cell hg7).trans y9
  replace y10 := (hx10.below.cell hg7).trans y10
  replace y11 := (hx10.below.cell hg7).trans y11
  replace y12 := (hx10.below.cell hg7).trans y12
  replace y13 := (hx10.below.cell hg7).trans y13
  replace ya0 := (hx10.below.cell hbb).trans ya0
  replace yb0 := (hx10.below.cell hbb).trans yb0
  replace ya1 := (hx10.below.cell hbb).trans ya1
  replace yb1 := (hx10.below.cell hbb).trans yb1
  replace ya2 := (hx10.below.cell hbb).trans ya2
  replace yb2 := (hx10.below.cell hbb).trans yb2
  replace ya3 := (hx10.below.cell hbb).trans ya3
  replace yb3 := (hx10.below.cell hbb).trans yb3
  replace ya4 := (hx10.below.cell hbb).trans ya4
  replace yb4 := (hx10.below.cell hbb).trans yb4
  replace ya5 := (hx10.below.cell hbb).trans ya5
  replace yb5 := (hx10.below.cell hbb).trans yb5
  replace ya6 := (hx10.below.cell hbb).trans ya6
  replace yb6 := (hx10.below.cell hbb).trans yb6
  replace ya7 := (hx10.below.cell hbb).trans ya7
  replace yb7 := (hx10.below.cell hbb).trans yb7
  replace ya8 := (hx10.below.cell hbb).trans ya8
  replace yb8 := (hx10.below.cell hbb).trans yb8
  replace ya9 := (hx10.below.cell hbb).trans ya9
  replace yb9 := (hx10.below.cell hbb).trans yb9
  replace ya10 := (hx10.below.cell hbb).trans ya10
  replace yb10 := (hx10.below.cell hbb).trans yb10
  replace ya11 := (hx10.below.cell hbb).trans ya11
  replace yb11 := (hx10.below.cell hbb).trans yb11
  replace ya12 := (hx10.below.cell hbb).trans ya12
  replace yb12 := (hx10.below.cell hbb).trans yb12
  replace ya13 := (hx10.below.cell hbb).trans ya13
  replace yb13 := (hx10.below.cell hbb).trans yb13
  have hrowh := Lib.hid hrow
  clear hH hrow hx k1 k2 k3
  refine wp_region_split (fun w' => ∃ q : But wd (fun j => j = bk), w' = q.val) [true, true, true, true, true, true, true, true, true, true, true, false, false, false, true] (by kernel_rfl) (by kernel_rfl) ⟨But.refl _ _, hwd⟩ (fun _ _ d _ _ h => by cases d <;> exact h) ?_
  rw [hwd]
  simp only [pickB, dropB]
  repeat (go_big_quiet_step (fail))
  refine wpQuiet_nil ?_
  refine wpListS_step (fun Q' hQ' => ?_) ⟨But.refl _ _, rfl⟩
  go_wp2_with (go_at_call 32; refine hHh.out.mono ?_; rintro e4 w9 ⟨qY, va, rfl, rfl, hRa, hM1⟩)
  have hIy : Is W0 qY.val := qY.is (hI.trans hI10) (fun k hk => hk ▸ hkW)
  have hbmy : qY.val.cell? ⟨bm, 0, none⟩ = some (.slice A0 rows.length c0) := (qY.cell bm 0 hbm10 hne).trans hB10
  have hbml : bm < qY.val.heap.size := Nat.lt_of_lt_of_le hbm10 qY.size
  obtain ⟨Ar, cr, rfl⟩ := Kd.Vo hRa
  obtain ⟨_, hlr, hCr⟩ := Kd.Qw hRa
  have hS := Zq.calls K A0 c0 rows 1 e.f0 e.f1 e.f2 e.f3.f0 e.f3.f1 e.f3.f2 e.f4 e.f5 e.f6 A1 c1 [] lo hi (some ⟨bb, ob, none⟩) c2 _ Ar cr ra s qY.val bm hbmy hbml (Ju hr hIy) hc0 ⟨rfl, by simp, fun h => absurd h (Nat.lt_irrefl 0)⟩ (Nat.zero_le _) (Ju hkd hIy) hc2 hCr hlr hs
  have hSh := Lib.hid hS
  clear hS hs hlr hCr
  refine ⟨⟨qY, rfl⟩, wpListS_step (fun Q' hQ' => ?_) ⟨qY, rfl⟩⟩
  go_wp2_with (go_at_call 33; refine hSh.out.mono ?_; rintro e5 w13 ⟨v2, rfl, hRs, hB13⟩; obtain ⟨x13, rfl⟩ := Is.of hB13; obtain ⟨As, cs, rfl⟩ := Kd.Vo hRs)
  refine ⟨⟨qY.under x13, rfl⟩, wpListS_step (fun Q' hQ' => ?_) ⟨qY.under x13, rfl⟩⟩
  go_wp2
  refine ⟨⟨qY.under x13, rfl⟩, wpListS_nil ?_⟩
  clear hSh
  have hlt0 : frm < rows.length := (List.getElem?_eq_some_iff.1 hrowh.out).1
  obtain ⟨go, co, hve, hgo, hgol, _, _⟩ := Kd.R_form ho (by rw [List.length_replicate]; omega)
  rw [List.length_replicate] at hve
  subst hve
  have hwd7 : w7.heap.size ≤ wd.heap.size := hx10.below.size
  have hbkg : bk < g0 := by have := hMh.out.lt; omega
  have hgob : ¬ (go = bk) := by omega
  have hxy : wd.heap.size ≤ qY.val.heap.size := qY.size
  have hyx : qY.val.heap.size ≤ x13.val.heap.size := x13.size
  have hIx : Is W0 x13.val := hIy.step x13
  have hoL : Kd.R Kd.bool 4 x13.val W0.heap.size (fun j => j = go) (.slice (some ⟨go, 0, none⟩) rows.length co) (List.replicate rows.length false) := by
    have hW0 := hI.below.size
    refine Kd.R_of_own (own_move (own_weaken (Kd.own_of_R ho) (by omega)) (fun k hk => ?_)) (fun k hk => own_at hk)
    have hk := own_at hk
    subst hk
    exact (x13.ok.block k (by omega)).trans ((qY.block k (by omega) hgob).trans (hx10.below.block k hgol))
  have hML := hM1.is (Is.val x13)
  replace y0 : x13.val.cell? _ = _ := (x13.ok.cell (by show g0 < _; omega)).trans ((qY.cell _ _ hg10 hgb).trans y0)
  replace y1 : x13.val.cell? _ = _ := (x13.ok.cell (by show g0 < _; omega)).trans ((qY.cell _ _ hg10 hgb).trans y1)
  replace y2 : x13.val.cell? _ = _ := (x13.ok.cell (by show g0 < _; omega)).trans ((qY.cell _ _ hg10 hgb).trans y2)
  replace y3 : x13.val.cell? _ = _ := (x13.ok.cell (by show g0 < _; omega)).trans ((qY.cell _ _ hg10 hgb).trans y3)
  replace y4 : x13.val.cell? _ = _ := (x13.ok.cell (by show g0 < _; omega)).trans ((qY.cell _ _ hg10 hgb).trans y4)
  replace y5 : x13.val.cell? _ = _ := (x13.ok.cell (by show g0 < _; omega)).trans ((qY.cell _ _ hg10 hgb).trans y5)
  replace y6 : x13.val.cell? _ = _ := (x13.ok.cell (by show g0 < _; omega)).trans ((qY.cell _ _ hg10 hgb).trans y6)
  replace y7 : x13.val.cell? _ = _ := (x13.ok.cell (by show g0 < _; omega)).trans ((qY.cell _ _ hg10 hgb).trans y7)
  replace y8 : x13.val.cell? _ = _ := (x13.ok.cell (by show g0 < _; omega)).trans ((qY.cell _ _ hg10 hgb).trans y8)
  replace y9 : x13.val.cell? _ = _ := (x13.ok.cell (by show g0 < _; omega)).trans ((qY.cell _ _ hg10 hgb).trans y9)
  replace y10 : x13.val.cell? _ = _ := (x13.ok.cell (by show g0 < _; omega)).trans ((qY.cell _ _ hg10 hgb).trans y10)
  replace y11 : x13.val.cell? _ = _ := (x13.ok.cell (by show g0 < _; omega)).trans ((qY.cell _ _ hg10 hgb).trans y11)
  replace y12 : x13.val.cell? _ = _ := (x13.ok.cell (by show g0 < _; omega)).trans ((qY.cell _ _ hg10 hgb).trans y12)
  replace y13 : x13.val.cell? _ = _ := (x13.ok.cell (by show g0 < _; omega)).trans ((qY.cell _ _ hg10 hgb).trans y13)
  clear ya0
  replace yb0 : x13.val.cell? _ = _ := (x13.ok.cell (by show bb < _; omega)).trans ((qY.cell _ _ hbb10 hbbk).trans yb0)
  clear ya1
  replace yb1 : x13.val.cell? _ = _ := (x13.ok.cell (by show bb < _; omega)).trans ((qY.cell _ _ hbb10 hbbk).trans yb1)
  clear ya2
  replace yb2 : x13.val.cell? _ = _ := (x13.ok.cell (by show bb < _; omega)).trans ((qY.cell _ _ hbb10 hbbk).trans yb2)
  clear ya3
  replace yb3 : x13.val.cell? _ = _ := (x13.ok.cell (by show bb < _; omega)).trans ((qY.cell _ _ hbb10 hbbk).trans yb3)
  clear ya4
  replace yb4 : x13.val.cell? _ = _ := (x13.ok.cell (by show bb < _; omega)).trans ((qY.cell _ _ hbb10 hbbk).trans yb4)
  clear ya5
  replace yb5 : x13.val.cell? _ = _ := (x13.ok.cell (by show bb < _; omega)).trans ((qY.cell _ _ hbb10 hbbk).trans yb5)
  clear ya6
  replace yb6 : x13.val.cell? _ = _ := (x13.ok.cell (by show bb < _; omega)).trans ((qY.cell _ _ hbb10 hbbk).trans yb6)
  clear ya7
  replace yb7 : x13.val.cell? _ = _ := (x13.ok.cell (by show bb < _; omega)).trans ((qY.cell _ _ hbb10 hbbk).trans yb7)
  clear ya8
  replace yb8 : x13.val.cell? _ = _ := (x13.ok.cell (by show bb < _; omega)).trans ((qY.cell _ _ hbb10 hbbk).trans yb8)
  clear ya9
  replace yb9 : x13.val.cell? _ = _ := (x13.ok.cell (by show bb < _; omega)).trans ((qY.cell _ _ hbb10 hbbk).trans yb9)
  clear ya10
  replace yb10 : x13.val.cell? _ = _ := (x13.ok.cell (by show bb < _; omega)).trans ((qY.cell _ _ hbb10 hbbk).trans yb10)
  clear ya11
  replace yb11 : x13.val.cell? _ = _ := (x13.ok.cell (by show bb < _; omega)).trans ((qY.cell _ _ hbb10 hbbk).trans yb11)
  clear ya12
  replace yb12 : x13.val.cell? _ = _ := (x13.ok.cell (by show bb < _; omega)).trans ((qY.cell _ _ hbb10 hbbk).trans yb12)
  clear ya13
  replace yb13 : x13.val.cell? _ = _ := (x13.ok.cell (by show bb < _; omega)).trans ((qY.cell _ _ hbb10 hbbk).trans yb13)
  have hbm0 : x13.val.cell? ⟨bm, 0, none⟩ = some (.slice A0 rows.length c0) := (x13.ok.cell hbml).trans hbmy
  have hbm1 : x13.val.cell? ⟨bm, 1, none⟩ = some (.map (some bk)) := (x13.ok.cell hbml).trans ((qY.cell bm 1 hbm10 hne).trans hB11)
  have hgL : g0 < x13.val.heap.size := by omega
  have hg1L : g1 < x13.val.heap.size := by omega
  have hbbL : bb < x13.val.heap.size := by omega
  have hbmL : bm < x13.val.heap.size := by omega
  have hgoL : go < x13.val.heap.size := by omega
  have hbkL : bk < x13.val.heap.size := by omega
  have hG1 : x13.val.heap[g1]? = some (.cells #[.int .i64 0, .int .i64 0, .int .i64 frm] 69 (0, 0)) := (x13.ok.block g1 (by omega)).trans ((qY.block g1 (by omega) (by omega)).trans ((hx10.below.block g1 hg71).trans ((hbw.block g1 (by omega)).trans hg1)))
  have hyL : qY.val.heap.size ≤ x13.val.heap.size := hyx
  have hgy : go < qY.val.heap.size := by omega
  have hby : bk < qY.val.heap.size := by omega
  obtain ⟨Y, hY⟩ : ∃ Y, qY.val.heap.size = Y := ⟨_, rfl⟩
  rw [hY] at hRs hyL hgy hby
  obtain ⟨wL, hwL⟩ : ∃ wL, x13.val = wL := ⟨_, rfl⟩
  rw [hwL] at hIx hoL hML hRs hbm0 hbm1 hgL hg1L hbbL hbmL hgoL hbkL hG1 hyL y0 y1 y2 y3 y4 y5 y6 y7 y8 y9 y10 y11 y12 y13 yb0 yb1 yb2 yb3 yb4 yb5 yb6 yb7 yb8 yb9 yb10 yb11 yb12 yb13 ⊢
  have hYL : Y ≤ wL.heap.size := hyL
  have hrrh := Lib.hid hrr
  have hIxh := Lib.hid hIx
  have hoLh := Lib.hid hoL
  have hMLh := Lib.hid hML
  have hRsh := Lib.hid hRs
  have hG1h := Lib.hid hG1
  have hsl : (s.length : Int) ≤ 9223372036854775807 := (kd_len (Kd.Qw hRs).2.2).2
  have hmiss : ∀ j : Nat, mget (mput ([] : List ((Int × Int × Int) × Value)) (0, 1, (frm : Int)) (Value.slice Ar ra.length cr)) (1, 1, (j : Int)) = none := fun j => by
    rw [mget_mput, if_neg (by simp)]
    rfl
  have hmissh := Lib.hid hmiss
  have hrh := Lib.hid hr
  clear hrr hIx hoL hML hRs hmiss hwL hY hG1 hLVh hHh hg1 hg0 hgw ho hRa hM1 hI10 hB10 hB11 hIy hbmy hIw7 hx10 hwd hkd hIz hIz7 hb07 hb17 hr hB13
  go_wp2
  go_loopg [16, 17, 87] s.length (fun d _ _ t wr => ∃ (i : Nat) (q : But wL (fun j => j = bk ∨ j = go)) (outl : List Bool) (M : List ((Int × Int × Int) × Value)), t = .int .i64 i ∧ wr = q.val ∧ Aside (i + d = s.length) ∧ Aside (outl.length = rows.length) ∧ Aside (thenF K rows s 1 d i outl = some r) ∧ Aside (MapAt key3 id q.val bk M) ∧ Aside (∀ j : Nat, i ≤ j → mget M (1, 1, (j : Int)) = none) ∧ Aside (Is W0 q.val) ∧
      Aside (Kd.R Kd.bool 4 q.val W0.heap.size (fun j => j = go) (.slice (some ⟨go, 0, none⟩) rows.length co) outl))
  case atStart => exact ⟨0, But.refl _ _, _, _, rfl, rfl, by show 0 + s.length = s.length; omega, List.length_replicate, hrrh.out, hMLh.out, fun j _ => hmissh.out j, hIxh.out, hoLh.out⟩
  case round =>
    obtain ⟨i, q, outl, M, rfl, rfl, hid', hol, hth, hMq, hmq, hIq, hoq⟩ := hrel
    by_cases hlt : i < s.length
    · obtain ⟨gk, rfl⟩ : ∃ m, gk = m + 1 := ⟨gk - 1, by have := hid'.out; omega⟩
      have hth' := hth.out
      rw [thenF] at hth'
      obtain ⟨bt, hbt, hth'⟩ := Option.bind_eq_some_iff.1 hth'
      have hRq : Kd.R Kd.bool 4 q.val Y (fun j => Y ≤ j) (.slice As s.length cs) s := Kd.Vh (Kd.R_step (Kd.Jk hRsh.out) (fun k hk hlt => q.block k hlt (by have := hk.2.1; omega))) (fun k hk => hk.2.1)
      obtain ⟨sb, so, rfl, hsb, hsc⟩ := kd_bool (Kd.Qw hRq).2.2 hbt
      have hihh := Lib.hid hid'.out
      have hthh := Lib.hid hth'
      have hih : i < s.length := hlt
      clear hth hth' hRq hid' hlt
      cases bt with
      | false =>
        go_wp2
        go_roundg gk
        case measure => have := hihh.out; omega
        case rel =>
          refine ⟨i + 1, q, outl, M, by go_num, rfl, by show i + 1 + gk = s.length; have := hihh.out; omega, hol, ?_, hMq, fun j hj => hmq j (by omega), hIq, hoq⟩
          have := hthh.out
          rw [if_neg (by decide)] at this
          exact this
      | true =>
        have h1 := hthh.out
        rw [if_pos rfl] at h1
        obtain ⟨xi, hxi, h1⟩ := Option.bind_eq_some_iff.1 h1
        obtain ⟨rowi, hri, hxi⟩ := Option.bind_eq_some_iff.1 hxi
        obtain ⟨o, ho, h1⟩ := Option.bind_eq_some_iff.1 h1
        have hgq : ¬ (g0 = go) := by omega
        have hbq : ¬ (bb = go) := by omega
        have hmq0 : ¬ (bm = bk ∨ bm = go) := by omega
        have hbmq : bm < q.val.heap.size := Nat.lt_of_lt_of_le hbmL q.size
        have hbq0 : q.val.cell? ⟨bm, 0, none⟩ = some (.slice A0 rows.length c0) := (q.cell bm 0 hbmL hmq0).trans hbm0
        have hbq1 : q.val.cell? ⟨bm, 1, none⟩ = some (.map (some bk)) := (q.cell bm 1 hbmL hmq0).trans hbm1
        have hHq : Calls Try.prog 32 #[.pointer (some ⟨bm, 0, none⟩), .agg (tmC' 0 blo bhi ⟨q0, q1, q2, ⟨q3, q4, q5⟩, q6, q7, q8, q9⟩ D1 q9.length f1 D2 bk'.length f2), .int .i64 1, .int .i64 1, .int .i64 i] q.val
            (HoldPost q.val bk M (1, 1, (i : Int)) ((List.replicate rows.length false).set i xi)) := hold_walk rows A0 c0 blo bhi ⟨q0, q1, q2, ⟨q3, q4, q5⟩, q6, q7, q8, q9⟩ D1 q9.length f1 D2 bk'.length f2 1 1 i bm bk M W0 q.val rowi xi hri hxi hrh.out hIq.out hbq0 hbq1 hbmq hMq.out (hmq.out i (Nat.le_refl _)) hn (by omega) (by omega)
        obtain ⟨rb, hrb⟩ : ∃ rb, (List.replicate rows.length false).set i xi = rb := ⟨_, rfl⟩
        rw [hrb] at hHq ho
        have hHqh := Lib.hid hHq
        have hoh := Lib.hid ho
        have h1h := Lib.hid h1
        have hgoq : go < q.val.heap.size := Nat.lt_of_lt_of_le hgoL q.size
        clear hHq ho h1 hthh hri hxi hrb hbq0 hbq1
        go_wp2_with (first | (go_at_call 34; refine hJh.out.mono ?_; rintro e7 w15 ⟨rfl, hRo, hB15, hK15⟩) | (go_at_call 32; refine hHqh.out.mono ?_; rintro e6 w14 ⟨qb, vb, rfl, rfl, hRb, hMb⟩; obtain ⟨Ab, cb, rfl⟩ := Kd.Vo hRb; have hIqb : Is W0 qb.val := qb.is hIq.out (fun k hk => hk ▸ hkW); have hJ := Qk.calls K (fun j => j = go) (.slice (some ⟨go, 0, none⟩) rows.length co) outl Ab cb rb o W0 qb.val hIqb.below (Kd.R_step hoq.out (fun k hk hlt => qb.block k hlt (by omega))) (fun W_ hk => (Kd.Qw (Kd.R_step hRb (fun k hk2 hlt => hk.2 k hlt (by omega)))).2.2) (Kd.Qw hRb).2.1 hoh.out; have hJh := Lib.hid hJ; clear hJ))
        go_roundg gk
        case measure => have := hihh.out; omega
        case rel =>
          have hbkq : bk < qb.val.heap.size := Nat.lt_of_lt_of_le (Nat.lt_of_lt_of_le hbkL q.size) qb.size
          refine ⟨i + 1, (q.comp qb (fun k _ hk => .inl hk)).comp (butOf hK15 hIqb.below hB15) (fun k _ hk => .inr hk), o, _, by go_num, rfl, by show i + 1 + gk = s.length; have := hihh.out; omega, (Kd.Qw hRo).1.symm, h1h.out, hMb.step (hK15.2 bk hbkq (by omega)), ?_, Is.of hB15, ?_⟩
          · intro j hj
            rw [mget_mput, if_neg (by intro he; injection he with _ he; injection he with _ he; omega)]
            exact hmq.out j (by omega)
          · exact Kd.R_of_own (Kd.own_of_R hRo) (fun k hk => own_at hk)
    · obtain rfl : i = s.length := by have := hid'.out; omega
      have hth' := hth.out
      obtain rfl : gk = 0 := by have := hid'.out; omega
      rw [thenF] at hth'
      obtain rfl := Option.some.inj hth'
      have hsI := hIq.out
      have k1 := (cell_of_row q.val g1 0 _ _ _ ((q.block g1 hg1L (by omega)).trans hG1h.out)).trans rfl
      have k2 := (cell_of_row q.val g1 1 _ _ _ ((q.block g1 hg1L (by omega)).trans hG1h.out)).trans rfl
      have k3 := (cell_of_row q.val g1 2 _ _ _ ((q.block g1 hg1L (by omega)).trans hG1h.out)).trans rfl
      simp at k1 k2 k3
      have hmq0 : ¬ (bm = bk ∨ bm = go) := by omega
      have hbq1 : q.val.cell? ⟨bm, 1, none⟩ = some (.map (some bk)) := (q.cell bm 1 hbmL hmq0).trans hbm1
      have hbmq : bm < q.val.heap.size := Nat.lt_of_lt_of_le hbmL q.size
      have hg1q : g1 < q.val.heap.size := Nat.lt_of_lt_of_le hg1L q.size
      obtain ⟨om, hst, hM9⟩ := Jf (hMq.out.is (Is.refl q.val).drew) Try.underlying64 hkok (.slice (some ⟨go, 0, none⟩) rows.length co)
      have hst : (Instr.mapUpdate 64 (.map (some bk)) (.agg #[.int .i64 0, .int .i64 0, .int .i64 frm]) (.slice (some ⟨go, 0, none⟩) rows.length co)).run Try.prog q.val.drew = .ok () (setBlock q.val.drew bk om) := hst
      clear hth hth' hM9 hid' hlt
      go_wp2
      refine wp_region_splitT (fun w' => ∃ x : Under q.val, w' = x.val) [true, false, false, false, true, true, false] (by kernel_rfl) (by kernel_rfl) (by decide) ⟨(Under.refl _).drew, rfl⟩ (fun _ _ d _ _ h => by cases d <;> exact h) ?_
      simp only [pickB, dropB]
      repeat (go_big_quiet_step (fail))
      refine wpQuiet_nil ?_
      refine Jt (fun Q' hQ' => ?_)
      go_wp2
      refine ⟨⟨(Under.refl _).drew, rfl⟩, Jt (fun Q' hQ' => ?_)⟩
      go_wp2
      refine ⟨⟨(Under.refl _).drew, rfl⟩, Jt (fun Q' hQ' => ?_)⟩
      go_wp2
      refine ⟨⟨(Under.refl _).drew, rfl⟩, wpListT_last (fun Q' hQ' => ?_)⟩
      go_wp2
      go_ret
      refine ⟨_, rfl, ?_, ?_⟩
      · exact But.is ((But.refl q.val.drew (fun j => j = bk)).set bk rfl om) hsI.drew (fun k hk => hk ▸ hkW)
      · have hS9 := Kd.R_step (w1 := setBlock q.val.drew bk om) hoq.out (fun k hk _ => by
          have hkb : bk ≠ k := by omega
          simp only [setBlock]
          rw [Array.getElem?_setIfInBounds, if_neg hkb]
          rfl)
        exact Kd.R_of_own (own_raise (Kd.own_of_R hS9) (fun k hk => by have := own_at hk; omega)) (fun _ _ => trivial)
def matchF (K : Nat) (op : Int) (e : Jn) (lo hi : Int) (kids : List Vp) (rows : List (List Bool)) (frm : Int) : Option (List Bool) :=
  match kids with
  | [a, b] => if op = 1 ∧ a.f0 = 0 ∧ b.f0 = 0 ∧ a.f4.length = 0 ∧ a.f1.f7.length = 0 ∧ e.f7.length = 0 ∧ 0 ≤ frm ∧ frm < rows.length ∧ rows.length ≤ 1000 then
      ((rows[frm.toNat]?).bind (·[0]?)).bind fun x => (Zq.f K rows 1 e.f0 e.f1 e.f2 e.f3.f0 e.f3.f1 e.f3.f2 e.f4 e.f5 e.f6 [] lo hi [a, b] ((List.replicate rows.length false).set frm.toNat x)).bind fun s => thenF K rows s 1 s.length 0 (List.replicate rows.length false)
    else none
  | _ => none
theorem thenF_le (K : Nat) (rows : List (List Bool)) (s : List Bool) (nxt : Nat) : ∀ d i out, Xo (thenF K rows s nxt d i out) (thenF (K + 1) rows s nxt d i out)
  | 0, _, _ => Xo.refl _
  | d + 1, i, out => Xo.bind (Xo.refl _) fun _ => Xo.ite (Xo.bind (Xo.refl _) fun _ => Xo.bind (Qk.mono _ _ _) fun o => thenF_le K rows s nxt d (i + 1) o) (thenF_le K rows s nxt d (i + 1) out)
theorem matchF_le (K : Nat) (op : Int) (e : Jn) (lo hi : Int) (kids : List Vp) (rows : List (List Bool)) (frm : Int) : Xo (matchF K op e lo hi kids rows frm) (matchF (K + 1) op e lo hi kids rows frm) := by
  unfold matchF
  split
  · exact Xo.ite (Xo.bind (Xo.refl _) fun _ => Xo.bind (Zq.mono _ _ _ _ _ _ _ _ _ _ _ _ _ _ _ _ _) fun s => thenF_le K rows s 1 _ _ _) (Xo.refl _)
  · exact Xo.refl _
set_option maxHeartbeats 16000000 in
theorem match_walk (K : Nat) (op : Int) (e : Jn) (lo hi : Int) (kids : List Vp) (rows : List (List Bool)) (frm : Int) (A1 : Option Addr) (c1 : Nat) (A2 : Option Addr) (c2 : Nat) (A0 : Option Addr) (c0 : Nat) (W : World) (r : List Bool)
    (hkd : Kd.C k30 W A2 kids.length kids) (hc2 : kids.length ≤ c2) (hr : Kd.C rowsK W A0 rows.length rows) (hc0 : rows.length ≤ c0) (h : matchF K op e lo hi kids rows frm = some r) :
    Calls Try.prog 29 #[.agg (tmC' op lo hi e A1 e.f7.length c1 A2 kids.length c2), .slice A0 rows.length c0, .int .i64 frm] W fun e w' => ∃ v, e = .returned v ∧ Is W w' ∧ Kd.R Kd.bool 4 w' W.heap.size (fun _ => True) v r := by
  unfold matchF at h
  split at h
  case h_2 => cases h
  rename_i a b
  split at h
  case isFalse => cases h
  rename_i hc
  obtain ⟨rfl, ha0, hb0, ha4, ha7, he7, hf0, hfl, hn⟩ := hc
  obtain ⟨x, hxa, h2⟩ := Option.bind_eq_some_iff.1 h
  obtain ⟨row, hrow, hx⟩ := Option.bind_eq_some_iff.1 hxa
  obtain ⟨s, hs, h3⟩ := Option.bind_eq_some_iff.1 h2
  obtain ⟨fr, rfl⟩ := Int.eq_ofNat_of_zero_le hf0
  simp only [Int.toNat_natCast] at hrow hs
  have hu := Try.underlying30
  have hum := Try.underlying66
  have hmm := @run_makeMap Try.prog
  rw [he7]
  have hfl2 : fr < rows.length := by omega
  have q0 : decide ((fr : Int) ≥ (rows.length : Int)) = false := decide_eq_false (by omega)
  have hsh := Lib.hid hs
  have hh := Lib.hid h3
  have hrowh := Lib.hid hrow
  have hxh := Lib.hid hx
  clear hs h h2 h3 hrow hx hxa hf0 hfl
  go_enter Try.func29, Try.ntmps29
  go_upto_region 4 with (fail)
  obtain ⟨W1, hW1⟩ : ∃ w, W.alloc (.cells (tmC' 1 lo hi e A1 0 c1 A2 2 c2) 30) = w := ⟨_, rfl⟩
  obtain ⟨W2, hW2⟩ : ∃ w, W1.alloc (.map #[] 0) = w := ⟨_, rfl⟩
  obtain ⟨W3, hW3⟩ : ∃ w, W2.alloc (.cells #[.slice A0 rows.length c0, .map (some (W.heap.size + 1))] 66) = w := ⟨_, rfl⟩
  have z1 : W1.heap.size = W.heap.size + 1 := by rw [← hW1]; simp
  have z2 : W2.heap.size = W1.heap.size + 1 := by rw [← hW2]; simp
  have z3 : W3.heap.size = W2.heap.size + 1 := by rw [← hW3]; simp
  have hM2 : MapAt key3 id W2 (W.heap.size + 1) ([] : List ((Int × Int × Int) × Value)) := by rw [← hW2, ← z1]; exact MapAt.made W1
  have hI3 : Is W2 W3 := hW3 ▸ (Is.refl W2).alloc _
  have hI1 : Is W W1 := hW1 ▸ (Is.refl W).alloc _
  have hIW : Is W W3 := (hI1.trans (hW2 ▸ (Is.refl W1).alloc _)).trans hI3
  have hg0 : W3.heap[W.heap.size]? = some (.cells (tmC' 1 lo hi e A1 0 c1 A2 2 c2) 30 (0, 0)) := by
    rw [← hW3, Below.heap_alloc _ _ _ (by omega), ← hW2, Below.heap_alloc _ _ _ (by omega), ← hW1]
    exact heap_alloc_new W _
  have hgm : W3.heap[W.heap.size + 1 + 1]? = some (.cells #[.slice A0 rows.length c0, .map (some (W.heap.size + 1))] 66 (0, 0)) := by
    rw [← hW3, ← z1, ← z2]
    exact heap_alloc_new W2 _
  rw [hW1, hW2, hW3]
  obtain ⟨g0, hgb⟩ : ∃ g, W.heap.size = g := ⟨_, rfl⟩
  have hT := then_walk K rows A0 c0 lo hi e a b A1 c1 A2 c2 fr (W.heap.size + 1 + 1) (W.heap.size + 1) W W3 row x s r hrowh.out hxh.out hr hkd ha0 hb0 (List.length_eq_zero_iff.1 ha4) (List.length_eq_zero_iff.1 ha7) hIW (by omega) ((cell_of_row W3 (W.heap.size + 1 + 1) 0 _ _ _ hgm).trans rfl) ((cell_of_row W3 (W.heap.size + 1 + 1) 1 _ _ _ hgm).trans rfl) (by omega) (by omega) (hM2.is hI3) hn hc0 hc2 hsh.out hh.out
  have hTh := Lib.hid hT
  have y0 := (cell_of_row W3 W.heap.size 0 _ _ _ hg0).trans rfl
  have y1 := (cell_of_row W3 W.heap.size 1 _ _ _ hg0).trans rfl
  have y2 := (cell_of_row W3 W.heap.size 2 _ _ _ hg0).trans rfl
  have y3 := (cell_of_row W3 W.heap.size 3 _ _ _ hg0).trans rfl
  have y4 := (cell_of_row W3 W.heap.size 4 _ _ _ hg0).trans rfl
  have y5 := (cell_of_row W3 W.heap.size 5 _ _ _ hg0).trans rfl
  have y6 := (cell_of_row W3 W.heap.size 6 _ _ _ hg0).trans rfl
  have y7 := (cell_of_row W3 W.heap.size 7 _ _ _ hg0).trans rfl
  have y8 := (cell_of_row W3 W.heap.size 8 _ _ _ hg0).trans rfl
  have y9 := (cell_of_row W3 W.heap.size 9 _ _ _ hg0).trans rfl
  have y10 := (cell_of_row W3 W.heap.size 10 _ _ _ hg0).trans rfl
  have y11 := (cell_of_row W3 W.heap.size 11 _ _ _ hg0).trans rfl
  have y12 := (cell_of_row W3 W.heap.size 12 _ _ _ hg0).trans rfl
  have y13 := (cell_of_row W3 W.heap.size 13 _ _ _ hg0).trans rfl
  simp at y0 y1 y2 y3 y4 y5 y6 y7 y8 y9 y10 y11 y12 y13
  have hl0 : W.heap.size < W3.heap.size := by omega
  clear hT hM2 hI3 hI1 hIW hg0 hgm hW1 hW2 hW3 z1 z2
  rw [hgb] at y0 y1 y2 y3 y4 y5 y6 y7 y8 y9 y10 y11 y12 y13 hl0 hTh ⊢
  go_wp2_with (go_at_call 32; refine hTh.out.mono ?_; rintro e2 w2 ⟨v, rfl, hI2, hR2⟩)
  go_ret
  exact ⟨_, rfl, hI2, Kd.Jj hR2 (by omega)⟩
end Go.Proofs.Ytkbkndfonccekaa
namespace Go.Proofs.Ytkbkndfonccekaa.PF
open Go.RowKit Go.Proofs.YtkbkndfonccekaaW.PrintWords Go.Proofs.YtkbkndfonccekaaW.PrintLast Go.Proofs.YtkbkndfonccekaaW.PrintMore
attribute [local go_sem] Qn Qp Kq Kt
set_option linter.unusedVariables false
set_option linter.unusedSimpArgs false
def Vw.f (k : Nat) (M1 : Int) (M0 : Int) (JZ : Int) (JY : Bool) (JX : Int) (JW : Int) (JV : Int) (JU : Int) (JT : Bool) (JS : Int) (Jx : List (Qh)) (JJ : Int) (JI : Int) (Jw : List (Vd)) (l1 : List (List Bool)) (a2 : Int) : Option (List Bool) := matchF k M1 ⟨M0, JZ, JY, ⟨JX, JW, JV⟩, JU, JT, JS, Jx⟩ JJ JI Jw l1 a2
theorem Vw.mono : ∀ M1 M0 JZ JY JX JW JV JU JT JS Jx JJ JI Jw l1 a2 k, Xo (Vw.f k M1 M0 JZ JY JX JW JV JU JT JS Jx JJ JI Jw l1 a2) (Vw.f (k + 1) M1 M0 JZ JY JX JW JV JU JT JS Jx JJ JI Jw l1 a2) := fun _ _ _ _ _ _ _ _ _ _ _ _ _ _ _ _ k => matchF_le k _ _ _ _ _ _ _
theorem Vw.calls (k : Nat) (M1 : Int) (M0 : Int) (JZ : Int) (JY : Bool) (JX : Int) (JW : Int) (JV : Int) (JU : Int) (JT : Bool) (JS : Int) (A0_10 : Option Addr) (c0_10 : Nat) (Jx : List (Qh)) (JJ : Int) (JI : Int) (A0_13 : Option Addr) (c0_13 : Nat) (Jw : List (Vd)) (A1 : Option Addr) (c1 : Nat) (l1 : List (List Bool)) (a2 : Int) (r : List Bool) (w : World) (hr0_10 : Kd.C k27 w A0_10 Jx.length Jx) (hc0_10 : Jx.length ≤ c0_10) (hr0_13 : Kd.C k30 w A0_13 Jw.length Jw) (hc0_13 : Jw.length ≤ c0_13) (hr1 : Kd.C (Kd.slice 4 Kd.bool) w A1 l1.length l1) (hc1 : l1.length ≤ c1) (h : Vw.f k M1 M0 JZ JY JX JW JV JU JT JS Jx JJ JI Jw l1 a2 = some r) :
 Calls Try.prog 29 #[.agg #[.int .i64 M1, .int .i64 M0, .int .i64 JZ, .bool JY, .int .i64 JX, .int .u64 JW, .int .u64 JV, .int .i64 JU, .bool JT, .int .i64 JS, .slice A0_10 Jx.length c0_10, .int .i64 JJ, .int .i64 JI, .slice A0_13 Jw.length c0_13], .slice A1 l1.length c1, .int .i64 a2] w fun e w' => ∃ v0_ : Value, e = .returned (v0_) ∧ Kd.R Kd.bool 4 w' w.heap.size (fun _ => True) v0_ r ∧ Below w.heap.size w w' := by
 exact (match_walk k M1 ⟨M0, JZ, JY, ⟨JX, JW, JV⟩, JU, JT, JS, Jx⟩ JJ JI Jw l1 a2 A0_10 c0_10 A0_13 c0_13 A1 c1 w r hr0_13 hc0_13 hr1 hc1 h).mono fun e w' ⟨v, he, hw, hv⟩ => ⟨v, he, hv, hw.below⟩
end Go.Proofs.Ytkbkndfonccekaa.PF
