/- Joined by this session's own program out of its texts: PFx23 PFx24 Load. -/
import Derived.Test.YtkbkndfonccekaaQ1
import Derived.Test.YtkbkndfonccekaaQ7
import Derived.Test.YtkbkndfonccekaaQ10
import Derived.Test.YtkbkndfonccekaaQ0
namespace Go.Proofs.Ytkbkndfonccekaa.PF
open Go.RowKit Go.Proofs.YtkbkndfonccekaaW.PrintWords Go.Proofs.YtkbkndfonccekaaW.PrintLast Go.Proofs.YtkbkndfonccekaaW.PrintMore
attribute [local go_sem] Qn Qp Kq Kt
set_option linter.unusedVariables false
set_option linter.unusedSimpArgs false
def Zr.l0 : Nat → List (Vd) → Int → Int → ByteArray → Int → Int → Int → Int → Bool → Int → Int → Int → Int → Bool → Int → List (Qh) → Int → Int → List (Vd) → Int → Int → Int → Bool → Int → Int → Int → Int → Bool → Int → List (Qh) → Int → Int → List (Vd) → Bool → Int → Option (Int)
  | 0, _, _, _, _, _, _, _, _, _, _, _, _, _, _, _, _, _, _, _, _, _, _, _, _, _, _, _, _, _, _, _, _, _, _, _ => none
  | k + 1, x10, x11, x12, x353000, x353001, M5, M4, M3, M2, M1, M0, JZ, JY, JX, JW, JV, JU, JT, JS, JR, JQ, JP, JO, JN, JM, JL, JK, JJ, JI, JH, JG, JF, JE, x353030, x353031 => if x12 < x11 then (if 0 ≤ x12 then (if x12 < (x10.length : Int) then ((Xf.f k ((Zc x10 x12).f0) ((Zc x10 x12).f1.f0) ((Zc x10 x12).f1.f1) ((Zc x10 x12).f1.f2) ((Zc x10 x12).f1.f3.f0) ((Zc x10 x12).f1.f3.f1) ((Zc x10 x12).f1.f3.f2) ((Zc x10 x12).f1.f4) ((Zc x10 x12).f1.f5) ((Zc x10 x12).f1.f6) ((Zc x10 x12).f1.f7) ((Zc x10 x12).f2) ((Zc x10 x12).f3) ((Zc x10 x12).f4)).bind fun t358 => (if t358 = 0 then (Zr.l0 k x10 x11 (wrap64 (x12 + 1)) x353000 x353001 M5 M4 M3 M2 M1 M0 JZ JY JX JW JV JU JT JS JR JQ JP JO JN JM JL JK JJ JI JH JG JF JE x353030 x353031) else (some t358))) else (none)) else (none)) else ((Kz.f k M5 M4 M3 M2 M1 M0 JZ JY JX JW JV JU JT JS).bind fun t359 => ((Kz.f k JR JQ JP JO JN JM JL JK JJ JI JH JG JF JE).bind fun t360 => (if (wrap64 (t359 + t360)) > 12 then (some 3) else (some 0))))
def Zr.f (k : Nat) (JD : ByteArray) (JC : Int) (Jz : Int) (Jy : Int) (Jx : Int) (Jv : Bool) (Ju : Int) (Jt : Int) (Js : Int) (Jr : Int) (Jq : Bool) (Jp : Int) (J8 : List (Qh)) (Jo : Int) (Jn : Int) (J7 : List (Vd)) (Jm : Int) (Jl : Int) (Jk : Int) (Jj : Bool) (Jh : Int) (Jg : Int) (Jf : Int) (Je : Int) (Jd : Bool) (Jb : Int) (J6 : List (Qh)) (Ja : Int) (J9 : Int) (J5 : List (Vd)) (JB : Bool) (JA : Int) : Option (Int) := (some (([(⟨Jz, (⟨Jy, Jx, Jv, (⟨Ju, Jt, Js⟩ : S24), Jr, Jq, Jp, J8⟩ : Qh), Jo, Jn, J7⟩ : Vd), (⟨Jm, (⟨Jl, Jk, Jj, (⟨Jh, Jg, Jf⟩ : S24), Je, Jd, Jb, J6⟩ : Qh), Ja, J9, J5⟩ : Vd)] : List (Vd)) : List (Vd))).bind fun y353 => (Zr.l0 k y353 (y353.length : Int) 0 JD JC Jz Jy Jx Jv Ju Jt Js Jr Jq Jp J8 Jo Jn J7 Jm Jl Jk Jj Jh Jg Jf Je Jd Jb J6 Ja J9 J5 JB JA)
def Zr.T8 : Bool × List (List Nat × List Nat) := (true, [([], []), ([0], [0]), ([1], [1]), ([], []), ([3], [3]), ([4, 2], [4]), ([2, 5], [2, 5]), ([6], [6])])
def Zr.B8 : List Nat := [0, 1, 3, 0, 8, 31, 63, 127]
theorem Zr.tab8 : rtab .any (opsOf Try.f10 8) = Zr.T8 := by kernel_rfl
theorem Zr.bits8 : Wi Zr.T8.2 Zr.B8 = true := by kernel_rfl
set_option maxHeartbeats 8000000 in
set_option maxRecDepth 100000 in
theorem Zr.calls (k : Nat) (JD : ByteArray) (JC : Int) (Jz : Int) (Jy : Int) (Jx : Int) (Jv : Bool) (Ju : Int) (Jt : Int) (Js : Int) (Jr : Int) (Jq : Bool) (Jp : Int) (P0_12_ : Nat → Prop) (A0_12 : Option Addr) (c0_12 : Nat) (J8 : List (Qh)) (Jo : Int) (Jn : Int) (P0_15_ : Nat → Prop) (A0_15 : Option Addr) (c0_15 : Nat) (J7 : List (Vd)) (Jm : Int) (Jl : Int) (Jk : Int) (Jj : Bool) (Jh : Int) (Jg : Int) (Jf : Int) (Je : Int) (Jd : Bool) (Jb : Int) (P0_26_ : Nat → Prop) (A0_26 : Option Addr) (c0_26 : Nat) (J6 : List (Qh)) (Ja : Int) (J9 : Int) (P0_29_ : Nat → Prop) (A0_29 : Option Addr) (c0_29 : Nat) (J5 : List (Vd)) (JB : Bool) (JA : Int) (r : Int) (w : World) (hs0_12 : Kd.V k27 27 w w.heap.size (fun k_ => P0_12_ k_) (.slice A0_12 J8.length c0_12) J8) (hs0_15 : Kd.V k30 30 w w.heap.size (fun k_ => P0_15_ k_) (.slice A0_15 J7.length c0_15) J7) (hs0_26 : Kd.V k27 27 w w.heap.size (fun k_ => P0_26_ k_) (.slice A0_26 J6.length c0_26) J6) (hs0_29 : Kd.V k30 30 w w.heap.size (fun k_ => P0_29_ k_) (.slice A0_29 J5.length c0_29) J5) (h : Zr.f k JD JC Jz Jy Jx Jv Ju Jt Js Jr Jq Jp J8 Jo Jn J7 Jm Jl Jk Jj Jh Jg Jf Je Jd Jb J6 Ja J9 J5 JB JA = some r) :
 Calls Try.prog 10 #[.agg #[.string JD, .int .i64 JC, .int .i64 Jz, .int .i64 Jy, .int .i64 Jx, .bool Jv, .int .i64 Ju, .int .u64 Jt, .int .u64 Js, .int .i64 Jr, .bool Jq, .int .i64 Jp, .slice A0_12 J8.length c0_12, .int .i64 Jo, .int .i64 Jn, .slice A0_15 J7.length c0_15, .int .i64 Jm, .int .i64 Jl, .int .i64 Jk, .bool Jj, .int .i64 Jh, .int .u64 Jg, .int .u64 Jf, .int .i64 Je, .bool Jd, .int .i64 Jb, .slice A0_26 J6.length c0_26, .int .i64 Ja, .int .i64 J9, .slice A0_29 J5.length c0_29, .bool JB, .int .i64 JA]] w fun e w' => e = .returned (.int .i64 r) ∧ Below w.heap.size w w' := by
 have hu32 := Try.underlying32
 have hu30 := Try.underlying30
 have HO0_12 := Zd.mk (show Kd.V k27 27 w w.heap.size (fun k_ => ((P0_12_ k_ ∨ P0_15_ k_ ∨ P0_26_ k_ ∨ P0_29_ k_) ∨ w.heap.size ≤ k_)) (.slice A0_12 J8.length c0_12) J8 from Kd.Xa hs0_12 (fun k_ hk => .inl (.inl hk)))
 have HO0_15 := Zd.mk (show Kd.V k30 30 w w.heap.size (fun k_ => ((P0_12_ k_ ∨ P0_15_ k_ ∨ P0_26_ k_ ∨ P0_29_ k_) ∨ w.heap.size ≤ k_)) (.slice A0_15 J7.length c0_15) J7 from Kd.Xa hs0_15 (fun k_ hk => .inl (.inr (.inl hk))))
 have HO0_26 := Zd.mk (show Kd.V k27 27 w w.heap.size (fun k_ => ((P0_12_ k_ ∨ P0_15_ k_ ∨ P0_26_ k_ ∨ P0_29_ k_) ∨ w.heap.size ≤ k_)) (.slice A0_26 J6.length c0_26) J6 from Kd.Xa hs0_26 (fun k_ hk => .inl (.inr (.inr (.inl hk)))))
 have HO0_29 := Zd.mk (show Kd.V k30 30 w w.heap.size (fun k_ => ((P0_12_ k_ ∨ P0_15_ k_ ∨ P0_26_ k_ ∨ P0_29_ k_) ∨ w.heap.size ≤ k_)) (.slice A0_29 J5.length c0_29) J5 from Kd.Xa hs0_29 (fun k_ hk => .inl (.inr (.inr (.inr hk)))))
 have HB := Zd.mk (Below.refl w.heap.size w)
 have H : ((some (([(⟨Jz, (⟨Jy, Jx, Jv, (⟨Ju, Jt, Js⟩ : S24), Jr, Jq, Jp, J8⟩ : Qh), Jo, Jn, J7⟩ : Vd), (⟨Jm, (⟨Jl, Jk, Jj, (⟨Jh, Jg, Jf⟩ : S24), Je, Jd, Jb, J6⟩ : Qh), Ja, J9, J5⟩ : Vd)] : List (Vd)) : List (Vd))).bind fun y353 => (Zr.l0 k y353 (y353.length : Int) 0 JD JC Jz Jy Jx Jv Ju Jt Js Jr Jq Jp J8 Jo Jn J7 Jm Jl Jk Jj Jh Jg Jf Je Jd Jb J6 Ja J9 J5 JB JA)) = some r := h
 clear h
 obtain ⟨y353, hy353⟩ : ∃ y_ : List (Vd), y_ = (([(⟨Jz, (⟨Jy, Jx, Jv, (⟨Ju, Jt, Js⟩ : S24), Jr, Jq, Jp, J8⟩ : Qh), Jo, Jn, J7⟩ : Vd), (⟨Jm, (⟨Jl, Jk, Jj, (⟨Jh, Jg, Jf⟩ : S24), Je, Jd, Jb, J6⟩ : Qh), Ja, J9, J5⟩ : Vd)] : List (Vd))) := ⟨_, rfl⟩
 replace H : (Zr.l0 k y353 (y353.length : Int) 0 JD JC Jz Jy Jx Jv Ju Jt Js Jr Jq Jp J8 Jo Jn J7 Jm Jl Jk Jj Jh Jg Jf Je Jd Jb J6 Ja J9 J5 JB JA) = some r := by first | (rw [hy353]; with_reducible exact H) | (have H2_ := (Option.bind_some _ _).symm.trans H; rw [hy353]; with_reducible exact H2_) | (have H2_ := (Option.bind_some _ _).symm.trans H; with_reducible exact H2_) | with_reducible exact H | (rw [hy353]; exact H) | exact H
 have Ny353 := Zd.mk hy353
 clear hy353
 have H' := Zd.mk H
 clear H
 go_enter Try.func10, Try.ntmps10
 go_wp2_with (first | ((with_reducible refine Xd (N := 1) rfl ?_); refine Xe ?hg (N := 1) ?hd (cs := #[.string JD, .int .i64 JC, .int .i64 Jz, .int .i64 Jy, .int .i64 Jx, .bool Jv, .int .i64 Ju, .int .u64 Jt, .int .u64 Js, .int .i64 Jr, .bool Jq, .int .i64 Jp, .slice A0_12 J8.length c0_12, .int .i64 Jo, .int .i64 Jn, .slice A0_15 J7.length c0_15, .int .i64 Jm, .int .i64 Jl, .int .i64 Jk, .bool Jj, .int .i64 Jh, .int .u64 Jg, .int .u64 Jf, .int .i64 Je, .bool Jd, .int .i64 Jb, .slice A0_26 J6.length c0_26, .int .i64 Ja, .int .i64 J9, .slice A0_29 J5.length c0_29, .bool JB, .int .i64 JA]) (t := 32) ?hr ?_; (case hd => rfl); (case hg => rfl); (case hr => first | (go_simp; done) | (go_simp; rfl)); intro J3 hg w2 hbox hb; have n0_ := Zd.mk (Kd.Xl (Kd.Xx HO0_12.out J3 (Nat.le_of_eq hg.symm)) hb); have n1_ := Zd.mk (Kd.Xl (Kd.Xx HO0_15.out J3 (Nat.le_of_eq hg.symm)) hb); have n2_ := Zd.mk (Kd.Xl (Kd.Xx HO0_26.out J3 (Nat.le_of_eq hg.symm)) hb); have n3_ := Zd.mk (Kd.Xl (Kd.Xx HO0_29.out J3 (Nat.le_of_eq hg.symm)) hb); have n4_ := Zd.mk (Zj HB.out hb); have n5_ := Zd.mk (hbox); have n6_ := Zd.mk ((by rw [hg]; exact (Zl HB.out) : w.heap.size ≤ J3)); have n7_ := n6_; clear HO0_12; clear HO0_15; clear HO0_26; clear HO0_29; clear HB; have HO0_12 := n0_; have HO0_15 := n1_; have HO0_26 := n2_; have HO0_29 := n3_; have HB := n4_; have J2 := n5_; have GW352 := n6_; have GE352 := n7_; clear n0_ n1_ n2_ n3_ n4_ n5_ n6_ n7_; clear hb hbox hg; have hcz3_0 : w2.cell? ⟨J3, 0, none⟩ = some (.string JD) := (Za J2.out 0).trans rfl; have hcz3_1 : w2.cell? ⟨J3, 1, none⟩ = some (.int .i64 JC) := (Za J2.out 1).trans rfl; have hcz3_2 : w2.cell? ⟨J3, 2, none⟩ = some (.int .i64 Jz) := (Za J2.out 2).trans rfl; have hcz3_3 : w2.cell? ⟨J3, 3, none⟩ = some (.int .i64 Jy) := (Za J2.out 3).trans rfl; have hcz3_4 : w2.cell? ⟨J3, 4, none⟩ = some (.int .i64 Jx) := (Za J2.out 4).trans rfl; have hcz3_5 : w2.cell? ⟨J3, 5, none⟩ = some (.bool Jv) := (Za J2.out 5).trans rfl; have hcz3_6 : w2.cell? ⟨J3, 6, none⟩ = some (.int .i64 Ju) := (Za J2.out 6).trans rfl; have hcz3_7 : w2.cell? ⟨J3, 7, none⟩ = some (.int .u64 Jt) := (Za J2.out 7).trans rfl; have hcz3_8 : w2.cell? ⟨J3, 8, none⟩ = some (.int .u64 Js) := (Za J2.out 8).trans rfl; have hcz3_9 : w2.cell? ⟨J3, 9, none⟩ = some (.int .i64 Jr) := (Za J2.out 9).trans rfl; have hcz3_10 : w2.cell? ⟨J3, 10, none⟩ = some (.bool Jq) := (Za J2.out 10).trans rfl; have hcz3_11 : w2.cell? ⟨J3, 11, none⟩ = some (.int .i64 Jp) := (Za J2.out 11).trans rfl; have hcz3_12 : w2.cell? ⟨J3, 12, none⟩ = some (.slice A0_12 J8.length c0_12) := (Za J2.out 12).trans rfl; have hcz3_13 : w2.cell? ⟨J3, 13, none⟩ = some (.int .i64 Jo) := (Za J2.out 13).trans rfl; have hcz3_14 : w2.cell? ⟨J3, 14, none⟩ = some (.int .i64 Jn) := (Za J2.out 14).trans rfl; have hcz3_15 : w2.cell? ⟨J3, 15, none⟩ = some (.slice A0_15 J7.length c0_15) := (Za J2.out 15).trans rfl; have hcz3_16 : w2.cell? ⟨J3, 16, none⟩ = some (.int .i64 Jm) := (Za J2.out 16).trans rfl; have hcz3_17 : w2.cell? ⟨J3, 17, none⟩ = some (.int .i64 Jl) := (Za J2.out 17).trans rfl; have hcz3_18 : w2.cell? ⟨J3, 18, none⟩ = some (.int .i64 Jk) := (Za J2.out 18).trans rfl; have hcz3_19 : w2.cell? ⟨J3, 19, none⟩ = some (.bool Jj) := (Za J2.out 19).trans rfl; have hcz3_20 : w2.cell? ⟨J3, 20, none⟩ = some (.int .i64 Jh) := (Za J2.out 20).trans rfl; have hcz3_21 : w2.cell? ⟨J3, 21, none⟩ = some (.int .u64 Jg) := (Za J2.out 21).trans rfl; have hcz3_22 : w2.cell? ⟨J3, 22, none⟩ = some (.int .u64 Jf) := (Za J2.out 22).trans rfl; have hcz3_23 : w2.cell? ⟨J3, 23, none⟩ = some (.int .i64 Je) := (Za J2.out 23).trans rfl; have hcz3_24 : w2.cell? ⟨J3, 24, none⟩ = some (.bool Jd) := (Za J2.out 24).trans rfl; have hcz3_25 : w2.cell? ⟨J3, 25, none⟩ = some (.int .i64 Jb) := (Za J2.out 25).trans rfl; have hcz3_26 : w2.cell? ⟨J3, 26, none⟩ = some (.slice A0_26 J6.length c0_26) := (Za J2.out 26).trans rfl; have hcz3_27 : w2.cell? ⟨J3, 27, none⟩ = some (.int .i64 Ja) := (Za J2.out 27).trans rfl; have hcz3_28 : w2.cell? ⟨J3, 28, none⟩ = some (.int .i64 J9) := (Za J2.out 28).trans rfl; have hcz3_29 : w2.cell? ⟨J3, 29, none⟩ = some (.slice A0_29 J5.length c0_29) := (Za J2.out 29).trans rfl; have hcz3_30 : w2.cell? ⟨J3, 30, none⟩ = some (.bool JB) := (Za J2.out 30).trans rfl; have hcz3_31 : w2.cell? ⟨J3, 31, none⟩ = some (.int .i64 JA) := (Za J2.out 31).trans rfl; have hfz3_0 := Zb J2.out 0; have hfz3_1 := Zb J2.out 1; have hfz3_2 := Zb J2.out 2; have hfz3_3 := Zb J2.out 3; have hfz3_4 := Zb J2.out 4; have hfz3_5 := Zb J2.out 5; have hfz3_6 := Zb J2.out 6; have hfz3_7 := Zb J2.out 7; have hfz3_8 := Zb J2.out 8; have hfz3_9 := Zb J2.out 9; have hfz3_10 := Zb J2.out 10; have hfz3_11 := Zb J2.out 11; have hfz3_12 := Zb J2.out 12; have hfz3_13 := Zb J2.out 13; have hfz3_14 := Zb J2.out 14; have hfz3_15 := Zb J2.out 15; have hfz3_16 := Zb J2.out 16; have hfz3_17 := Zb J2.out 17; have hfz3_18 := Zb J2.out 18; have hfz3_19 := Zb J2.out 19; have hfz3_20 := Zb J2.out 20; have hfz3_21 := Zb J2.out 21; have hfz3_22 := Zb J2.out 22; have hfz3_23 := Zb J2.out 23; have hfz3_24 := Zb J2.out 24; have hfz3_25 := Zb J2.out 25; have hfz3_26 := Zb J2.out 26; have hfz3_27 := Zb J2.out 27; have hfz3_28 := Zb J2.out 28; have hfz3_29 := Zb J2.out 29; have hfz3_30 := Zb J2.out 30; have hfz3_31 := Zb J2.out 31) | ((with_reducible refine Xd (N := 10) rfl ?_); refine Kd.N_lit k30 _ 30 ?hg (N' := 10) ?hd (xs := ([(⟨Jz, (⟨Jy, Jx, Jv, (⟨Ju, Jt, Js⟩ : S24), Jr, Jq, Jp, J8⟩ : Qh), Jo, Jn, J7⟩ : Vd), (⟨Jm, (⟨Jl, Jk, Jj, (⟨Jh, Jg, Jf⟩ : S24), Je, Jd, Jb, J6⟩ : Qh), Ja, J9, J5⟩ : Vd)] : List (Vd))) (inner := [.int .i64 Jz, .int .i64 Jy, .int .i64 Jx, .bool Jv, .int .i64 Ju, .int .u64 Jt, .int .u64 Js, .int .i64 Jr, .bool Jq, .int .i64 Jp, .slice A0_12 J8.length c0_12, .int .i64 Jo, .int .i64 Jn, .slice A0_15 J7.length c0_15, .int .i64 Jm, .int .i64 Jl, .int .i64 Jk, .bool Jj, .int .i64 Jh, .int .u64 Jg, .int .u64 Jf, .int .i64 Je, .bool Jd, .int .i64 Jb, .slice A0_26 J6.length c0_26, .int .i64 Ja, .int .i64 J9, .slice A0_29 J5.length c0_29]) (ok := (fun k_ => ((P0_12_ k_ ∨ P0_15_ k_ ∨ P0_26_ k_ ∨ P0_29_ k_) ∨ w.heap.size ≤ k_) ∧ k_ ≠ J3)) (okp := (fun k_ => ((P0_12_ k_ ∨ P0_15_ k_ ∨ P0_26_ k_ ∨ P0_29_ k_) ∨ w.heap.size ≤ k_) ∧ k_ ≠ J3)) ?hr ?hp (fun _ hk => hk) ((show ∀ k_, w2.heap.size ≤ k_ → (fun k_ => ((P0_12_ k_ ∨ P0_15_ k_ ∨ P0_26_ k_ ∨ P0_29_ k_) ∨ w.heap.size ≤ k_) ∧ k_ ≠ J3) k_ from fun k_ hk => ⟨(.inr (Nat.le_trans (Zl HB.out) hk)), Kd.Kw J2.out k_ hk⟩) _ (Nat.le_refl _)) (Below.refl _ _) (Nat.le_refl _) (by simp) ?_; (case hd => rfl); (case hg => rfl); (case hr => first | (go_simp; done) | (go_simp; rfl)); (case hp => exact (Ku.front (show Kd.FK k30 _ _ (⟨Jz, (⟨Jy, Jx, Jv, (⟨Ju, Jt, Js⟩ : S24), Jr, Jq, Jp, J8⟩ : Qh), Jo, Jn, J7⟩ : Vd) [.int .i64 Jz, .int .i64 Jy, .int .i64 Jx, .bool Jv, .int .i64 Ju, .int .u64 Jt, .int .u64 Js, .int .i64 Jr, .bool Jq, .int .i64 Jp, .slice A0_12 J8.length c0_12, .int .i64 Jo, .int .i64 Jn, .slice A0_15 J7.length c0_15] from (k30_mkF _ _ (⟨Jz, (⟨Jy, Jx, Jv, (⟨Ju, Jt, Js⟩ : S24), Jr, Jq, Jp, J8⟩ : Qh), Jo, Jn, J7⟩ : Vd) (Kd.Xw (Kd.Xa (ok' := (fun k_ => ((P0_12_ k_ ∨ P0_15_ k_ ∨ P0_26_ k_ ∨ P0_29_ k_) ∨ w.heap.size ≤ k_) ∧ k_ ≠ J3)) HO0_12.out (fun k_ hk => ⟨hk.1, hk.2⟩))).2.1 (Kd.V_F (Kd.Xa (ok' := (fun k_ => ((P0_12_ k_ ∨ P0_15_ k_ ∨ P0_26_ k_ ∨ P0_29_ k_) ∨ w.heap.size ≤ k_) ∧ k_ ≠ J3)) HO0_12.out (fun k_ hk => ⟨hk.1, hk.2⟩))) (Kd.Xw (Kd.Xa (ok' := (fun k_ => ((P0_12_ k_ ∨ P0_15_ k_ ∨ P0_26_ k_ ∨ P0_29_ k_) ∨ w.heap.size ≤ k_) ∧ k_ ≠ J3)) HO0_15.out (fun k_ hk => ⟨hk.1, hk.2⟩))).2.1 (Kd.V_F (Kd.Xa (ok' := (fun k_ => ((P0_12_ k_ ∨ P0_15_ k_ ∨ P0_26_ k_ ∨ P0_29_ k_) ∨ w.heap.size ≤ k_) ∧ k_ ≠ J3)) HO0_15.out (fun k_ hk => ⟨hk.1, hk.2⟩))))) rfl (Ku.front (show Kd.FK k30 _ _ (⟨Jm, (⟨Jl, Jk, Jj, (⟨Jh, Jg, Jf⟩ : S24), Je, Jd, Jb, J6⟩ : Qh), Ja, J9, J5⟩ : Vd) [.int .i64 Jm, .int .i64 Jl, .int .i64 Jk, .bool Jj, .int .i64 Jh, .int .u64 Jg, .int .u64 Jf, .int .i64 Je, .bool Jd, .int .i64 Jb, .slice A0_26 J6.length c0_26, .int .i64 Ja, .int .i64 J9, .slice A0_29 J5.length c0_29] from (k30_mkF _ _ (⟨Jm, (⟨Jl, Jk, Jj, (⟨Jh, Jg, Jf⟩ : S24), Je, Jd, Jb, J6⟩ : Qh), Ja, J9, J5⟩ : Vd) (Kd.Xw (Kd.Xa (ok' := (fun k_ => ((P0_12_ k_ ∨ P0_15_ k_ ∨ P0_26_ k_ ∨ P0_29_ k_) ∨ w.heap.size ≤ k_) ∧ k_ ≠ J3)) HO0_26.out (fun k_ hk => ⟨hk.1, hk.2⟩))).2.1 (Kd.V_F (Kd.Xa (ok' := (fun k_ => ((P0_12_ k_ ∨ P0_15_ k_ ∨ P0_26_ k_ ∨ P0_29_ k_) ∨ w.heap.size ≤ k_) ∧ k_ ≠ J3)) HO0_26.out (fun k_ hk => ⟨hk.1, hk.2⟩))) (Kd.Xw (Kd.Xa (ok' := (fun k_ => ((P0_12_ k_ ∨ P0_15_ k_ ∨ P0_26_ k_ ∨ P0_29_ k_) ∨ w.heap.size ≤ k_) ∧ k_ ≠ J3)) HO0_29.out (fun k_ hk => ⟨hk.1, hk.2⟩))).2.1 (Kd.V_F (Kd.Xa (ok' := (fun k_ => ((P0_12_ k_ ∨ P0_15_ k_ ∨ P0_26_ k_ ∨ P0_29_ k_) ∨ w.heap.size ≤ k_) ∧ k_ ≠ J3)) HO0_29.out (fun k_ hk => ⟨hk.1, hk.2⟩))))) rfl (Ku.none _ _) rfl) rfl)); intro v354 w4 ho5 hb hg_ hnew_; clear hg_ hnew_; (first | rw [← Ny353.out] at ho5 | (simp only [Int.reduceToNat] at ho5; rw [← Ny353.out] at ho5)); have n0_ := Zd.mk (Kd.Qy HO0_12.out (Kd.Qr ho5) hb); have n1_ := Zd.mk (Kd.Qy HO0_15.out (Kd.Qr ho5) hb); have n2_ := Zd.mk (Kd.Qy HO0_26.out (Kd.Qr ho5) hb); have n3_ := Zd.mk (Kd.Qy HO0_29.out (Kd.Qr ho5) hb); have n4_ := Zd.mk (Kd.Vb ho5 (Zl HB.out)); have n5_ := Zd.mk (Zp J2.out hb); have n6_ := Zd.mk (Zj HB.out hb); clear HO0_12; clear HO0_15; clear HO0_26; clear HO0_29; clear J2; clear HB; have HO0_12 := n0_; have HO0_15 := n1_; have HO0_26 := n2_; have HO0_29 := n3_; have HO355 := n4_; have J2 := n5_; have HB := n6_; clear n0_ n1_ n2_ n3_ n4_ n5_ n6_; clear hb ho5; obtain ⟨Ao6, co6, eo6⟩ := Kd.Va HO355.out; subst eo6))
 go_loopg [12] k (fun kq v12 w' => ∃ (J0 : Int), v12 = .int .i64 J0 ∧ Zd (Zr.l0 kq y353 (y353.length : Int) J0 JD JC Jz Jy Jx Jv Ju Jt Js Jr Jq Jp J8 Jo Jn J7 Jm Jl Jk Jj Jh Jg Jf Je Jd Jb J6 Ja J9 J5 JB JA = some r) ∧ Zd (kq ≤ k) ∧ Zd (Kd.N k30 30 w' w.heap.size (fun k_ => ((P0_12_ k_ ∨ P0_15_ k_ ∨ P0_26_ k_ ∨ P0_29_ k_) ∨ w.heap.size ≤ k_) ∧ k_ ≠ J3) (.slice Ao6 y353.length co6) y353) ∧ Zd (Kd.V k27 27 w' w.heap.size (fun k_ => ((P0_12_ k_ ∨ P0_15_ k_ ∨ P0_26_ k_ ∨ P0_29_ k_) ∨ w.heap.size ≤ k_) ∧ some k_ ≠ ((.slice Ao6 y353.length co6) : Value).ownBlock ∧ k_ ≠ J3) (.slice A0_12 J8.length c0_12) J8) ∧ Zd (Kd.V k30 30 w' w.heap.size (fun k_ => ((P0_12_ k_ ∨ P0_15_ k_ ∨ P0_26_ k_ ∨ P0_29_ k_) ∨ w.heap.size ≤ k_) ∧ some k_ ≠ ((.slice Ao6 y353.length co6) : Value).ownBlock ∧ k_ ≠ J3) (.slice A0_15 J7.length c0_15) J7) ∧ Zd (Kd.V k27 27 w' w.heap.size (fun k_ => ((P0_12_ k_ ∨ P0_15_ k_ ∨ P0_26_ k_ ∨ P0_29_ k_) ∨ w.heap.size ≤ k_) ∧ some k_ ≠ ((.slice Ao6 y353.length co6) : Value).ownBlock ∧ k_ ≠ J3) (.slice A0_26 J6.length c0_26) J6) ∧ Zd (Kd.V k30 30 w' w.heap.size (fun k_ => ((P0_12_ k_ ∨ P0_15_ k_ ∨ P0_26_ k_ ∨ P0_29_ k_) ∨ w.heap.size ≤ k_) ∧ some k_ ≠ ((.slice Ao6 y353.length co6) : Value).ownBlock ∧ k_ ≠ J3) (.slice A0_29 J5.length c0_29) J5) ∧ Zd (w'.heap[J3]? = some (.cells #[.string JD, .int .i64 JC, .int .i64 Jz, .int .i64 Jy, .int .i64 Jx, .bool Jv, .int .i64 Ju, .int .u64 Jt, .int .u64 Js, .int .i64 Jr, .bool Jq, .int .i64 Jp, (.slice A0_12 J8.length c0_12), .int .i64 Jo, .int .i64 Jn, (.slice A0_15 J7.length c0_15), .int .i64 Jm, .int .i64 Jl, .int .i64 Jk, .bool Jj, .int .i64 Jh, .int .u64 Jg, .int .u64 Jf, .int .i64 Je, .bool Jd, .int .i64 Jb, (.slice A0_26 J6.length c0_26), .int .i64 Ja, .int .i64 J9, (.slice A0_29 J5.length c0_29), .bool JB, .int .i64 JA] 32 (0, 0))) ∧ Zd (Below w.heap.size w w'))
 case atStart => exact ⟨(0), (by first | rfl | (simp; done) | (simp [*]; done)), H', ⟨Nat.le_refl _⟩, ⟨HO355.out⟩, ⟨by (with_reducible repeat (first | apply Kd.V_alloc | apply Kd.V_drewN | apply Kd.Xp)); exact Kd.Xa HO0_12.out (fun _ hk => ⟨hk.1.1, ⟨hk.2, hk.1.2⟩⟩)⟩, ⟨by (with_reducible repeat (first | apply Kd.V_alloc | apply Kd.V_drewN | apply Kd.Xp)); exact Kd.Xa HO0_15.out (fun _ hk => ⟨hk.1.1, ⟨hk.2, hk.1.2⟩⟩)⟩, ⟨by (with_reducible repeat (first | apply Kd.V_alloc | apply Kd.V_drewN | apply Kd.Xp)); exact Kd.Xa HO0_26.out (fun _ hk => ⟨hk.1.1, ⟨hk.2, hk.1.2⟩⟩)⟩, ⟨by (with_reducible repeat (first | apply Kd.V_alloc | apply Kd.V_drewN | apply Kd.Xp)); exact Kd.Xa HO0_29.out (fun _ hk => ⟨hk.1.1, ⟨hk.2, hk.1.2⟩⟩)⟩, ⟨J2.out⟩, ⟨HB.out⟩⟩
 case round =>
  clear H'
  try clear hcz3_0
  try clear hcz3_1
  try clear hcz3_10
  try clear hcz3_11
  try clear hcz3_12
  try clear hcz3_13
  try clear hcz3_14
  try clear hcz3_15
  try clear hcz3_16
  try clear hcz3_17
  try clear hcz3_18
  try clear hcz3_19
  try clear hcz3_2
  try clear hcz3_20
  try clear hcz3_21
  try clear hcz3_22
  try clear hcz3_23
  try clear hcz3_24
  try clear hcz3_25
  try clear hcz3_26
  try clear hcz3_27
  try clear hcz3_28
  try clear hcz3_29
  try clear hcz3_3
  try clear hcz3_30
  try clear hcz3_31
  try clear hcz3_4
  try clear hcz3_5
  try clear hcz3_6
  try clear hcz3_7
  try clear hcz3_8
  try clear hcz3_9
  try clear hfz3_0
  try clear hfz3_1
  try clear hfz3_10
  try clear hfz3_11
  try clear hfz3_12
  try clear hfz3_13
  try clear hfz3_14
  try clear hfz3_15
  try clear hfz3_16
  try clear hfz3_17
  try clear hfz3_18
  try clear hfz3_19
  try clear hfz3_2
  try clear hfz3_20
  try clear hfz3_21
  try clear hfz3_22
  try clear hfz3_23
  try clear hfz3_24
  try clear hfz3_25
  try clear hfz3_26
  try clear hfz3_27
  try clear hfz3_28
  try clear hfz3_29
  try clear hfz3_3
  try clear hfz3_30
  try clear hfz3_31
  try clear hfz3_4
  try clear hfz3_5
  try clear hfz3_6
  try clear hfz3_7
  try clear hfz3_8
  try clear hfz3_9
  obtain ⟨J0, rfl, HA, HK1, HO_10, HO_353012, HO_353015, HO_353026, HO_353029, J2, HB⟩ := hrel
  cases gk with
  | zero => exact absurd HA.out (by simp [Zr.l0])
  | succ k1 =>
   have H := HA.out
   clear HA
   simp only [Zr.l0] at H
   by_cases c7 : J0 < (y353.length : Int)
   ·rw [if_pos c7] at H
    have c7b0 : decide (J0 < (y353.length : Int)) = true := decide_eq_true c7
    clear c7
    by_cases c8 : 0 ≤ J0
    ·rw [if_pos c8] at H
     have c8b0 : decide (0 ≤ J0) = true := decide_eq_true c8
     clear c8
     by_cases c9 : J0 < (y353.length : Int)
     ·rw [if_pos c9] at H
      have c9b0 : decide (J0 < (y353.length : Int)) = true := decide_eq_true c9
      clear c9
      replace H := Option.bind_eq_some_iff.mp H
      obtain ⟨t358, A100, H⟩ := H
      replace H : (if t358 = 0 then (Zr.l0 k1 y353 (y353.length : Int) (wrap64 (J0 + 1)) JD JC Jz Jy Jx Jv Ju Jt Js Jr Jq Jp J8 Jo Jn J7 Jm Jl Jk Jj Jh Jg Jf Je Jd Jb J6 Ja J9 J5 JB JA) else (some t358)) = some r := H
      have A10 := Zd.mk A100
      clear A100
      by_cases c11 : t358 = 0
      ·rw [if_pos c11] at H
       have c11b0 : (t358 == 0) = true := beq_iff_eq.mpr c11
       have c11b1 : (t358 != 0) = false := bne_eq_false_iff_eq.mpr c11
       clear c11
       have H' := Zd.mk H
       clear H
       have p356 : 0 ≤ (J0 : Int) := of_decide_eq_true (by first | (with_reducible assumption) | assumption)
       have q356 : J0 < (y353.length : Int) := of_decide_eq_true (by first | (with_reducible assumption) | assumption)
       obtain ⟨ad356, A356_10, c356_10, A356_13, c356_13, e356, hx356_0, hx356_1, hx356_2, hx356_3, hx356_4, hx356_5, hx356_6, hx356_7, hx356_8, hx356_9, hx356_10, hx356_11, hx356_12, hx356_13, hl356_10, hi356_10, hl356_13, hi356_13⟩ := Jc (Kd.Qq HO_10.out).2.2 J0 p356 q356
       cases e356
       obtain ⟨ce356, hce356, hMe356, hcc356⟩ := Kd.N_get HO_10.out z30 J0 p356 (by first | exact q356 | exact of_decide_eq_true (by first | (with_reducible assumption) | assumption) | (have e_ := (Kd.Qq HO_10.out).1; omega))
       obtain ⟨ua356_10, uc356_10, ua356_13, uc356_13, rfl, ul356_10, ge356_10, ul356_13, ge356_13⟩ := k30_openF hMe356
       have hv356_10 := hcc356 10 _ rfl
       rw [Qc _ _ 10 (by omega)] at hv356_10
       replace hv356_10 := Option.some.inj (hv356_10.symm.trans hx356_10)
       injection hv356_10 with hva_ hvn_ hvc_
       rw [hva_] at ge356_10
       rw [hvc_] at ul356_10
       have HL356_10 := Zd.mk (show Kd.V k27 27 _ w.heap.size _ _ ((Zc y353 J0).f1.f7) from Kd.Wj ul356_10 ge356_10)
       clear hva_ hvn_ hvc_ ge356_10 ul356_10
       have hv356_13 := hcc356 13 _ rfl
       rw [Qc _ _ 13 (by omega)] at hv356_13
       replace hv356_13 := Option.some.inj (hv356_13.symm.trans hx356_13)
       injection hv356_13 with hva_ hvn_ hvc_
       rw [hva_] at ge356_13
       rw [hvc_] at ul356_13
       have HL356_13 := Zd.mk (show Kd.V k30 30 _ w.heap.size _ _ ((Zc y353 J0).f4) from Kd.Wj ul356_13 ge356_13)
       clear hva_ hvn_ hvc_ ge356_13 ul356_13
       clear hcc356 hce356
       have HR356_10 := Zd.mk hi356_10
       have HC356_10 := Zd.mk hl356_10
       clear hi356_10 hl356_10
       have HR356_13 := Zd.mk hi356_13
       have HC356_13 := Zd.mk hl356_13
       clear hi356_13 hl356_13
       replace p356 := eq_true p356
       replace q356 := eq_true q356
       go_wp2_with (first | ((with_reducible refine Xd (N := 4) rfl ?_); refine Xe ?hg (N := 4) ?hd (cs := #[.int .i64 0, .int .i64 0, .int .i64 0, .bool false, .int .i64 0, .int .u64 0, .int .u64 0, .int .i64 0, .bool false, .int .i64 0, .slice none 0 0, .int .i64 0, .int .i64 0, .slice none 0 0]) (t := 30) ?hr ?_; (case hd => rfl); (case hg => rfl); (case hr => first | (go_simp; done) | (go_simp; rfl)); intro J1 hg w12 hbox hb; have n0_ := Zd.mk (Kd.Kr (Kd.N_elderB HO_10.out J1 (Nat.le_of_eq hg.symm)) hb); have n1_ := Zd.mk (Kd.Xl (Kd.Xx HO_353012.out J1 (Nat.le_of_eq hg.symm)) hb); have n2_ := Zd.mk (Kd.Xl (Kd.Xx HO_353015.out J1 (Nat.le_of_eq hg.symm)) hb); have n3_ := Zd.mk (Kd.Xl (Kd.Xx HO_353026.out J1 (Nat.le_of_eq hg.symm)) hb); have n4_ := Zd.mk (Kd.Xl (Kd.Xx HO_353029.out J1 (Nat.le_of_eq hg.symm)) hb); have n5_ := Zd.mk (Kd.Xl (Kd.Xx HL356_10.out J1 (Nat.le_of_eq hg.symm)) hb); have n6_ := Zd.mk (Kd.Xl (Kd.Xx HL356_13.out J1 (Nat.le_of_eq hg.symm)) hb); have n7_ := Zd.mk (Zp J2.out hb); have n8_ := Zd.mk (Kd.Zw (by repeat (first | (with_reducible exact HR356_10.out) | (with_reducible refine Kd.C_alloc ?_ _) | (with_reducible refine Kd.C_drewN ?_ _) | (with_reducible refine Kd.C_drew ?_) | exact HR356_10.out)) hb); have n9_ := Zd.mk (Kd.Zw (by repeat (first | (with_reducible exact HR356_13.out) | (with_reducible refine Kd.C_alloc ?_ _) | (with_reducible refine Kd.C_drewN ?_ _) | (with_reducible refine Kd.C_drew ?_) | exact HR356_13.out)) hb); have n10_ := Zd.mk (Zj HB.out hb); have n11_ := Zd.mk (hbox); have n12_ := Zd.mk ((by rw [hg]; exact (Zl HB.out) : w.heap.size ≤ J1)); have n13_ := n12_; have n14_ := Zd.mk ((by rw [hg]; exact Nat.ne_of_lt (Kv J2.out) : J3 ≠ J1)); have n15_ := Zd.mk ((by rw [hg]; exact Nat.ne_of_gt (Kv J2.out) : J1 ≠ J3)); clear HO_10; clear HO_353012; clear HO_353015; clear HO_353026; clear HO_353029; clear HL356_10; clear HL356_13; clear J2; clear HR356_10; clear HR356_13; clear HB; have HO_10 := n0_; have HO_353012 := n1_; have HO_353015 := n2_; have HO_353026 := n3_; have HO_353029 := n4_; have HL356_10 := n5_; have HL356_13 := n6_; have J2 := n7_; have HR356_10 := n8_; have HR356_13 := n9_; have HB := n10_; have J4 := n11_; have GW357 := n12_; have GE357 := n13_; have NB352_357 := n14_; have NB357_352 := n15_; clear n0_ n1_ n2_ n3_ n4_ n5_ n6_ n7_ n8_ n9_ n10_ n11_ n12_ n13_ n14_ n15_; clear hb hbox hg; have hnb13 := NB357_352.out; have hnc13 := NB352_357.out; have hcz14_0 : w12.cell? ⟨J1, 0, none⟩ = some (.int .i64 0) := (Za J4.out 0).trans rfl; have hcz14_1 : w12.cell? ⟨J1, 1, none⟩ = some (.int .i64 0) := (Za J4.out 1).trans rfl; have hcz14_2 : w12.cell? ⟨J1, 2, none⟩ = some (.int .i64 0) := (Za J4.out 2).trans rfl; have hcz14_3 : w12.cell? ⟨J1, 3, none⟩ = some (.bool false) := (Za J4.out 3).trans rfl; have hcz14_4 : w12.cell? ⟨J1, 4, none⟩ = some (.int .i64 0) := (Za J4.out 4).trans rfl; have hcz14_5 : w12.cell? ⟨J1, 5, none⟩ = some (.int .u64 0) := (Za J4.out 5).trans rfl; have hcz14_6 : w12.cell? ⟨J1, 6, none⟩ = some (.int .u64 0) := (Za J4.out 6).trans rfl; have hcz14_7 : w12.cell? ⟨J1, 7, none⟩ = some (.int .i64 0) := (Za J4.out 7).trans rfl; have hcz14_8 : w12.cell? ⟨J1, 8, none⟩ = some (.bool false) := (Za J4.out 8).trans rfl; have hcz14_9 : w12.cell? ⟨J1, 9, none⟩ = some (.int .i64 0) := (Za J4.out 9).trans rfl; have hcz14_10 : w12.cell? ⟨J1, 10, none⟩ = some (.slice none 0 0) := (Za J4.out 10).trans rfl; have hcz14_11 : w12.cell? ⟨J1, 11, none⟩ = some (.int .i64 0) := (Za J4.out 11).trans rfl; have hcz14_12 : w12.cell? ⟨J1, 12, none⟩ = some (.int .i64 0) := (Za J4.out 12).trans rfl; have hcz14_13 : w12.cell? ⟨J1, 13, none⟩ = some (.slice none 0 0) := (Za J4.out 13).trans rfl; have hfz14_0 := Zb J4.out 0; have hfz14_1 := Zb J4.out 1; have hfz14_2 := Zb J4.out 2; have hfz14_3 := Zb J4.out 3; have hfz14_4 := Zb J4.out 4; have hfz14_5 := Zb J4.out 5; have hfz14_6 := Zb J4.out 6; have hfz14_7 := Zb J4.out 7; have hfz14_8 := Zb J4.out 8; have hfz14_9 := Zb J4.out 9; have hfz14_10 := Zb J4.out 10; have hfz14_11 := Zb J4.out 11; have hfz14_12 := Zb J4.out 12; have hfz14_13 := Zb J4.out 13) | ((with_reducible refine Zx (f := 4) rfl ?_); refine Xz (some 17) rfl rfl Try.func4 (by kernel_rfl) rfl #[.agg #[.int .i64 ((Zc y353 J0).f0), .int .i64 ((Zc y353 J0).f1.f0), .int .i64 ((Zc y353 J0).f1.f1), .bool ((Zc y353 J0).f1.f2), .int .i64 ((Zc y353 J0).f1.f3.f0), .int .u64 ((Zc y353 J0).f1.f3.f1), .int .u64 ((Zc y353 J0).f1.f3.f2), .int .i64 ((Zc y353 J0).f1.f4), .bool ((Zc y353 J0).f1.f5), .int .i64 ((Zc y353 J0).f1.f6), .slice A356_10 ((Zc y353 J0).f1.f7).length c356_10, .int .i64 ((Zc y353 J0).f2), .int .i64 ((Zc y353 J0).f3), .slice A356_13 ((Zc y353 J0).f4).length c356_13]] rfl (by (try simp only [List.map_toArray, List.map_cons, List.map_nil]); first | done | rfl | (simp only [List.length_drop, List.length_take]; rfl)) ?_; (with_reducible refine (Xf.calls k1 ((Zc y353 J0).f0) ((Zc y353 J0).f1.f0) ((Zc y353 J0).f1.f1) ((Zc y353 J0).f1.f2) ((Zc y353 J0).f1.f3.f0) ((Zc y353 J0).f1.f3.f1) ((Zc y353 J0).f1.f3.f2) ((Zc y353 J0).f1.f4) ((Zc y353 J0).f1.f5) ((Zc y353 J0).f1.f6) _ _ ((Zc y353 J0).f1.f7) ((Zc y353 J0).f2) ((Zc y353 J0).f3) _ _ ((Zc y353 J0).f4) t358 _ ?side1 ?side2 ?side3 ?side4 A10.out).mono ?_); (case side1 => repeat (first | exact ((Kd.Xw (by (with_reducible repeat (first | apply Kd.V_alloc | apply Kd.V_drewN | apply Kd.Xp)); exact (Kd.Xa (Kd.Zi (p := ⟨J1, 13, none⟩) (Kd.Zi (p := ⟨J1, 12, none⟩) (Kd.Zi (p := ⟨J1, 11, none⟩) (Kd.Zi (p := ⟨J1, 10, none⟩) (Kd.Zi (p := ⟨J1, 9, none⟩) (Kd.Zi (p := ⟨J1, 8, none⟩) (Kd.Zi (p := ⟨J1, 7, none⟩) (Kd.Zi (p := ⟨J1, 6, none⟩) (Kd.Zi (p := ⟨J1, 5, none⟩) (Kd.Zi (p := ⟨J1, 4, none⟩) (Kd.Zi (p := ⟨J1, 3, none⟩) (Kd.Zi (p := ⟨J1, 2, none⟩) (Kd.Zi (p := ⟨J1, 1, none⟩) (Kd.Zi (p := ⟨J1, 0, none⟩) (Kd.Xa HL356_10.out (fun k_ hk => (⟨hk, hk.2⟩ : _ ∧ k_ ≠ J1))) (fun _ hk => hk.2) (.int .i64 ((Zc y353 J0).f0))) (fun _ hk => hk.2) (.int .i64 ((Zc y353 J0).f1.f0))) (fun _ hk => hk.2) (.int .i64 ((Zc y353 J0).f1.f1))) (fun _ hk => hk.2) (.bool ((Zc y353 J0).f1.f2))) (fun _ hk => hk.2) (.int .i64 ((Zc y353 J0).f1.f3.f0))) (fun _ hk => hk.2) (.int .u64 ((Zc y353 J0).f1.f3.f1))) (fun _ hk => hk.2) (.int .u64 ((Zc y353 J0).f1.f3.f2))) (fun _ hk => hk.2) (.int .i64 ((Zc y353 J0).f1.f4))) (fun _ hk => hk.2) (.bool ((Zc y353 J0).f1.f5))) (fun _ hk => hk.2) (.int .i64 ((Zc y353 J0).f1.f6))) (fun _ hk => hk.2) (.slice A356_10 ((Zc y353 J0).f1.f7).length c356_10)) (fun _ hk => hk.2) (.int .i64 ((Zc y353 J0).f2))) (fun _ hk => hk.2) (.int .i64 ((Zc y353 J0).f3))) (fun _ hk => hk.2) (.slice A356_13 ((Zc y353 J0).f4).length c356_13)) (fun _ h_ => h_.1)))).2.2) | (with_reducible refine Kd.C_alloc ?_ _) | (with_reducible refine Kd.C_drewN ?_ _) | (with_reducible refine Kd.C_drew ?_))); (case side2 => exact HC356_10.out); (case side3 => repeat (first | exact ((Kd.Xw (by (with_reducible repeat (first | apply Kd.V_alloc | apply Kd.V_drewN | apply Kd.Xp)); exact (Kd.Xa (Kd.Zi (p := ⟨J1, 13, none⟩) (Kd.Zi (p := ⟨J1, 12, none⟩) (Kd.Zi (p := ⟨J1, 11, none⟩) (Kd.Zi (p := ⟨J1, 10, none⟩) (Kd.Zi (p := ⟨J1, 9, none⟩) (Kd.Zi (p := ⟨J1, 8, none⟩) (Kd.Zi (p := ⟨J1, 7, none⟩) (Kd.Zi (p := ⟨J1, 6, none⟩) (Kd.Zi (p := ⟨J1, 5, none⟩) (Kd.Zi (p := ⟨J1, 4, none⟩) (Kd.Zi (p := ⟨J1, 3, none⟩) (Kd.Zi (p := ⟨J1, 2, none⟩) (Kd.Zi (p := ⟨J1, 1, none⟩) (Kd.Zi (p := ⟨J1, 0, none⟩) (Kd.Xa HL356_13.out (fun k_ hk => (⟨hk, hk.2⟩ : _ ∧ k_ ≠ J1))) (fun _ hk => hk.2) (.int .i64 ((Zc y353 J0).f0))) (fun _ hk => hk.2) (.int .i64 ((Zc y353 J0).f1.f0))) (fun _ hk => hk.2) (.int .i64 ((Zc y353 J0).f1.f1))) (fun _ hk => hk.2) (.bool ((Zc y353 J0).f1.f2))) (fun _ hk => hk.2) (.int .i64 ((Zc y353 J0).f1.f3.f0))) (fun _ hk => hk.2) (.int .u64 ((Zc y353 J0).f1.f3.f1))) (fun _ hk => hk.2) (.int .u64 ((Zc y353 J0).f1.f3.f2))) (fun _ hk => hk.2) (.int .i64 ((Zc y353 J0).f1.f4))) (fun _ hk => hk.2) (.bool ((Zc y353 J0).f1.f5))) (fun _ hk => hk.2) (.int .i64 ((Zc y353 J0).f1.f6))) (fun _ hk => hk.2) (.slice A356_10 ((Zc y353 J0).f1.f7).length c356_10)) (fun _ hk => hk.2) (.int .i64 ((Zc y353 J0).f2))) (fun _ hk => hk.2) (.int .i64 ((Zc y353 J0).f3))) (fun _ hk => hk.2) (.slice A356_13 ((Zc y353 J0).f4).length c356_13)) (fun _ h_ => h_.1)))).2.2) | (with_reducible refine Kd.C_alloc ?_ _) | (with_reducible refine Kd.C_drewN ?_ _) | (with_reducible refine Kd.C_drew ?_))); (case side4 => exact HC356_13.out); rintro e w15 ⟨rfl, hb⟩; refine ⟨_, rfl, ?_⟩; have n0_ := Zd.mk (Kd.Kr (by (with_reducible repeat (first | apply Kd.N_alloc | apply Kd.N_drewN | apply Kd.Vg)); exact (Kd.Xq (Kd.Xn (p := ⟨J1, 13, none⟩) (Kd.Xn (p := ⟨J1, 12, none⟩) (Kd.Xn (p := ⟨J1, 11, none⟩) (Kd.Xn (p := ⟨J1, 10, none⟩) (Kd.Xn (p := ⟨J1, 9, none⟩) (Kd.Xn (p := ⟨J1, 8, none⟩) (Kd.Xn (p := ⟨J1, 7, none⟩) (Kd.Xn (p := ⟨J1, 6, none⟩) (Kd.Xn (p := ⟨J1, 5, none⟩) (Kd.Xn (p := ⟨J1, 4, none⟩) (Kd.Xn (p := ⟨J1, 3, none⟩) (Kd.Xn (p := ⟨J1, 2, none⟩) (Kd.Xn (p := ⟨J1, 1, none⟩) (Kd.Xn (p := ⟨J1, 0, none⟩) (Kd.Xq HO_10.out (fun k_ hk => (⟨hk, hk.2⟩ : _ ∧ k_ ≠ J1))) (fun _ hk => hk.2) (.int .i64 ((Zc y353 J0).f0))) (fun _ hk => hk.2) (.int .i64 ((Zc y353 J0).f1.f0))) (fun _ hk => hk.2) (.int .i64 ((Zc y353 J0).f1.f1))) (fun _ hk => hk.2) (.bool ((Zc y353 J0).f1.f2))) (fun _ hk => hk.2) (.int .i64 ((Zc y353 J0).f1.f3.f0))) (fun _ hk => hk.2) (.int .u64 ((Zc y353 J0).f1.f3.f1))) (fun _ hk => hk.2) (.int .u64 ((Zc y353 J0).f1.f3.f2))) (fun _ hk => hk.2) (.int .i64 ((Zc y353 J0).f1.f4))) (fun _ hk => hk.2) (.bool ((Zc y353 J0).f1.f5))) (fun _ hk => hk.2) (.int .i64 ((Zc y353 J0).f1.f6))) (fun _ hk => hk.2) (.slice A356_10 ((Zc y353 J0).f1.f7).length c356_10)) (fun _ hk => hk.2) (.int .i64 ((Zc y353 J0).f2))) (fun _ hk => hk.2) (.int .i64 ((Zc y353 J0).f3))) (fun _ hk => hk.2) (.slice A356_13 ((Zc y353 J0).f4).length c356_13)) (fun _ h_ => h_.1))) hb); have n1_ := Zd.mk (Kd.Xl (by (with_reducible repeat (first | apply Kd.V_alloc | apply Kd.V_drewN | apply Kd.Xp)); exact (Kd.Xa (Kd.Zi (p := ⟨J1, 13, none⟩) (Kd.Zi (p := ⟨J1, 12, none⟩) (Kd.Zi (p := ⟨J1, 11, none⟩) (Kd.Zi (p := ⟨J1, 10, none⟩) (Kd.Zi (p := ⟨J1, 9, none⟩) (Kd.Zi (p := ⟨J1, 8, none⟩) (Kd.Zi (p := ⟨J1, 7, none⟩) (Kd.Zi (p := ⟨J1, 6, none⟩) (Kd.Zi (p := ⟨J1, 5, none⟩) (Kd.Zi (p := ⟨J1, 4, none⟩) (Kd.Zi (p := ⟨J1, 3, none⟩) (Kd.Zi (p := ⟨J1, 2, none⟩) (Kd.Zi (p := ⟨J1, 1, none⟩) (Kd.Zi (p := ⟨J1, 0, none⟩) (Kd.Xa HO_353012.out (fun k_ hk => (⟨hk, hk.2⟩ : _ ∧ k_ ≠ J1))) (fun _ hk => hk.2) (.int .i64 ((Zc y353 J0).f0))) (fun _ hk => hk.2) (.int .i64 ((Zc y353 J0).f1.f0))) (fun _ hk => hk.2) (.int .i64 ((Zc y353 J0).f1.f1))) (fun _ hk => hk.2) (.bool ((Zc y353 J0).f1.f2))) (fun _ hk => hk.2) (.int .i64 ((Zc y353 J0).f1.f3.f0))) (fun _ hk => hk.2) (.int .u64 ((Zc y353 J0).f1.f3.f1))) (fun _ hk => hk.2) (.int .u64 ((Zc y353 J0).f1.f3.f2))) (fun _ hk => hk.2) (.int .i64 ((Zc y353 J0).f1.f4))) (fun _ hk => hk.2) (.bool ((Zc y353 J0).f1.f5))) (fun _ hk => hk.2) (.int .i64 ((Zc y353 J0).f1.f6))) (fun _ hk => hk.2) (.slice A356_10 ((Zc y353 J0).f1.f7).length c356_10)) (fun _ hk => hk.2) (.int .i64 ((Zc y353 J0).f2))) (fun _ hk => hk.2) (.int .i64 ((Zc y353 J0).f3))) (fun _ hk => hk.2) (.slice A356_13 ((Zc y353 J0).f4).length c356_13)) (fun _ h_ => h_.1))) hb); have n2_ := Zd.mk (Kd.Xl (by (with_reducible repeat (first | apply Kd.V_alloc | apply Kd.V_drewN | apply Kd.Xp)); exact (Kd.Xa (Kd.Zi (p := ⟨J1, 13, none⟩) (Kd.Zi (p := ⟨J1, 12, none⟩) (Kd.Zi (p := ⟨J1, 11, none⟩) (Kd.Zi (p := ⟨J1, 10, none⟩) (Kd.Zi (p := ⟨J1, 9, none⟩) (Kd.Zi (p := ⟨J1, 8, none⟩) (Kd.Zi (p := ⟨J1, 7, none⟩) (Kd.Zi (p := ⟨J1, 6, none⟩) (Kd.Zi (p := ⟨J1, 5, none⟩) (Kd.Zi (p := ⟨J1, 4, none⟩) (Kd.Zi (p := ⟨J1, 3, none⟩) (Kd.Zi (p := ⟨J1, 2, none⟩) (Kd.Zi (p := ⟨J1, 1, none⟩) (Kd.Zi (p := ⟨J1, 0, none⟩) (Kd.Xa HO_353015.out (fun k_ hk => (⟨hk, hk.2⟩ : _ ∧ k_ ≠ J1))) (fun _ hk => hk.2) (.int .i64 ((Zc y353 J0).f0))) (fun _ hk => hk.2) (.int .i64 ((Zc y353 J0).f1.f0))) (fun _ hk => hk.2) (.int .i64 ((Zc y353 J0).f1.f1))) (fun _ hk => hk.2) (.bool ((Zc y353 J0).f1.f2))) (fun _ hk => hk.2) (.int .i64 ((Zc y353 J0).f1.f3.f0))) (fun _ hk => hk.2) (.int .u64 ((Zc y353 J0).f1.f3.f1))) (fun _ hk => hk.2) (.int .u64 ((Zc y353 J0).f1.f3.f2))) (fun _ hk => hk.2) (.int .i64 ((Zc y353 J0).f1.f4))) (fun _ hk => hk.2) (.bool ((Zc y353 J0).f1.f5))) (fun _ hk => hk.2) (.int .i64 ((Zc y353 J0).f1.f6))) (fun _ hk => hk.2) (.slice A356_10 ((Zc y353 J0).f1.f7).length c356_10)) (fun _ hk => hk.2) (.int .i64 ((Zc y353 J0).f2))) (fun _ hk => hk.2) (.int .i64 ((Zc y353 J0).f3))) (fun _ hk => hk.2) (.slice A356_13 ((Zc y353 J0).f4).length c356_13)) (fun _ h_ => h_.1))) hb); have n3_ := Zd.mk (Kd.Xl (by (with_reducible repeat (first | apply Kd.V_alloc | apply Kd.V_drewN | apply Kd.Xp)); exact (Kd.Xa (Kd.Zi (p := ⟨J1, 13, none⟩) (Kd.Zi (p := ⟨J1, 12, none⟩) (Kd.Zi (p := ⟨J1, 11, none⟩) (Kd.Zi (p := ⟨J1, 10, none⟩) (Kd.Zi (p := ⟨J1, 9, none⟩) (Kd.Zi (p := ⟨J1, 8, none⟩) (Kd.Zi (p := ⟨J1, 7, none⟩) (Kd.Zi (p := ⟨J1, 6, none⟩) (Kd.Zi (p := ⟨J1, 5, none⟩) (Kd.Zi (p := ⟨J1, 4, none⟩) (Kd.Zi (p := ⟨J1, 3, none⟩) (Kd.Zi (p := ⟨J1, 2, none⟩) (Kd.Zi (p := ⟨J1, 1, none⟩) (Kd.Zi (p := ⟨J1, 0, none⟩) (Kd.Xa HO_353026.out (fun k_ hk => (⟨hk, hk.2⟩ : _ ∧ k_ ≠ J1))) (fun _ hk => hk.2) (.int .i64 ((Zc y353 J0).f0))) (fun _ hk => hk.2) (.int .i64 ((Zc y353 J0).f1.f0))) (fun _ hk => hk.2) (.int .i64 ((Zc y353 J0).f1.f1))) (fun _ hk => hk.2) (.bool ((Zc y353 J0).f1.f2))) (fun _ hk => hk.2) (.int .i64 ((Zc y353 J0).f1.f3.f0))) (fun _ hk => hk.2) (.int .u64 ((Zc y353 J0).f1.f3.f1))) (fun _ hk => hk.2) (.int .u64 ((Zc y353 J0).f1.f3.f2))) (fun _ hk => hk.2) (.int .i64 ((Zc y353 J0).f1.f4))) (fun _ hk => hk.2) (.bool ((Zc y353 J0).f1.f5))) (fun _ hk => hk.2) (.int .i64 ((Zc y353 J0).f1.f6))) (fun _ hk => hk.2) (.slice A356_10 ((Zc y353 J0).f1.f7).length c356_10)) (fun _ hk => hk.2) (.int .i64 ((Zc y353 J0).f2))) (fun _ hk => hk.2) (.int .i64 ((Zc y353 J0).f3))) (fun _ hk => hk.2) (.slice A356_13 ((Zc y353 J0).f4).length c356_13)) (fun _ h_ => h_.1))) hb); have n4_ := Zd.mk (Kd.Xl (by (with_reducible repeat (first | apply Kd.V_alloc | apply Kd.V_drewN | apply Kd.Xp)); exact (Kd.Xa (Kd.Zi (p := ⟨J1, 13, none⟩) (Kd.Zi (p := ⟨J1, 12, none⟩) (Kd.Zi (p := ⟨J1, 11, none⟩) (Kd.Zi (p := ⟨J1, 10, none⟩) (Kd.Zi (p := ⟨J1, 9, none⟩) (Kd.Zi (p := ⟨J1, 8, none⟩) (Kd.Zi (p := ⟨J1, 7, none⟩) (Kd.Zi (p := ⟨J1, 6, none⟩) (Kd.Zi (p := ⟨J1, 5, none⟩) (Kd.Zi (p := ⟨J1, 4, none⟩) (Kd.Zi (p := ⟨J1, 3, none⟩) (Kd.Zi (p := ⟨J1, 2, none⟩) (Kd.Zi (p := ⟨J1, 1, none⟩) (Kd.Zi (p := ⟨J1, 0, none⟩) (Kd.Xa HO_353029.out (fun k_ hk => (⟨hk, hk.2⟩ : _ ∧ k_ ≠ J1))) (fun _ hk => hk.2) (.int .i64 ((Zc y353 J0).f0))) (fun _ hk => hk.2) (.int .i64 ((Zc y353 J0).f1.f0))) (fun _ hk => hk.2) (.int .i64 ((Zc y353 J0).f1.f1))) (fun _ hk => hk.2) (.bool ((Zc y353 J0).f1.f2))) (fun _ hk => hk.2) (.int .i64 ((Zc y353 J0).f1.f3.f0))) (fun _ hk => hk.2) (.int .u64 ((Zc y353 J0).f1.f3.f1))) (fun _ hk => hk.2) (.int .u64 ((Zc y353 J0).f1.f3.f2))) (fun _ hk => hk.2) (.int .i64 ((Zc y353 J0).f1.f4))) (fun _ hk => hk.2) (.bool ((Zc y353 J0).f1.f5))) (fun _ hk => hk.2) (.int .i64 ((Zc y353 J0).f1.f6))) (fun _ hk => hk.2) (.slice A356_10 ((Zc y353 J0).f1.f7).length c356_10)) (fun _ hk => hk.2) (.int .i64 ((Zc y353 J0).f2))) (fun _ hk => hk.2) (.int .i64 ((Zc y353 J0).f3))) (fun _ hk => hk.2) (.slice A356_13 ((Zc y353 J0).f4).length c356_13)) (fun _ h_ => h_.1))) hb); have n5_ := Zd.mk (Kd.Xl (by (with_reducible repeat (first | apply Kd.V_alloc | apply Kd.V_drewN | apply Kd.Xp)); exact (Kd.Xa (Kd.Zi (p := ⟨J1, 13, none⟩) (Kd.Zi (p := ⟨J1, 12, none⟩) (Kd.Zi (p := ⟨J1, 11, none⟩) (Kd.Zi (p := ⟨J1, 10, none⟩) (Kd.Zi (p := ⟨J1, 9, none⟩) (Kd.Zi (p := ⟨J1, 8, none⟩) (Kd.Zi (p := ⟨J1, 7, none⟩) (Kd.Zi (p := ⟨J1, 6, none⟩) (Kd.Zi (p := ⟨J1, 5, none⟩) (Kd.Zi (p := ⟨J1, 4, none⟩) (Kd.Zi (p := ⟨J1, 3, none⟩) (Kd.Zi (p := ⟨J1, 2, none⟩) (Kd.Zi (p := ⟨J1, 1, none⟩) (Kd.Zi (p := ⟨J1, 0, none⟩) (Kd.Xa HL356_10.out (fun k_ hk => (⟨hk, hk.2⟩ : _ ∧ k_ ≠ J1))) (fun _ hk => hk.2) (.int .i64 ((Zc y353 J0).f0))) (fun _ hk => hk.2) (.int .i64 ((Zc y353 J0).f1.f0))) (fun _ hk => hk.2) (.int .i64 ((Zc y353 J0).f1.f1))) (fun _ hk => hk.2) (.bool ((Zc y353 J0).f1.f2))) (fun _ hk => hk.2) (.int .i64 ((Zc y353 J0).f1.f3.f0))) (fun _ hk => hk.2) (.int .u64 ((Zc y353 J0).f1.f3.f1))) (fun _ hk => hk.2) (.int .u64 ((Zc y353 J0).f1.f3.f2))) (fun _ hk => hk.2) (.int .i64 ((Zc y353 J0).f1.f4))) (fun _ hk => hk.2) (.bool ((Zc y353 J0).f1.f5))) (fun _ hk => hk.2) (.int .i64 ((Zc y353 J0).f1.f6))) (fun _ hk => hk.2) (.slice A356_10 ((Zc y353 J0).f1.f7).length c356_10)) (fun _ hk => hk.2) (.int .i64 ((Zc y353 J0).f2))) (fun _ hk => hk.2) (.int .i64 ((Zc y353 J0).f3))) (fun _ hk => hk.2) (.slice A356_13 ((Zc y353 J0).f4).length c356_13)) (fun _ h_ => h_.1))) hb); have n6_ := Zd.mk (Kd.Xl (by (with_reducible repeat (first | apply Kd.V_alloc | apply Kd.V_drewN | apply Kd.Xp)); exact (Kd.Xa (Kd.Zi (p := ⟨J1, 13, none⟩) (Kd.Zi (p := ⟨J1, 12, none⟩) (Kd.Zi (p := ⟨J1, 11, none⟩) (Kd.Zi (p := ⟨J1, 10, none⟩) (Kd.Zi (p := ⟨J1, 9, none⟩) (Kd.Zi (p := ⟨J1, 8, none⟩) (Kd.Zi (p := ⟨J1, 7, none⟩) (Kd.Zi (p := ⟨J1, 6, none⟩) (Kd.Zi (p := ⟨J1, 5, none⟩) (Kd.Zi (p := ⟨J1, 4, none⟩) (Kd.Zi (p := ⟨J1, 3, none⟩) (Kd.Zi (p := ⟨J1, 2, none⟩) (Kd.Zi (p := ⟨J1, 1, none⟩) (Kd.Zi (p := ⟨J1, 0, none⟩) (Kd.Xa HL356_13.out (fun k_ hk => (⟨hk, hk.2⟩ : _ ∧ k_ ≠ J1))) (fun _ hk => hk.2) (.int .i64 ((Zc y353 J0).f0))) (fun _ hk => hk.2) (.int .i64 ((Zc y353 J0).f1.f0))) (fun _ hk => hk.2) (.int .i64 ((Zc y353 J0).f1.f1))) (fun _ hk => hk.2) (.bool ((Zc y353 J0).f1.f2))) (fun _ hk => hk.2) (.int .i64 ((Zc y353 J0).f1.f3.f0))) (fun _ hk => hk.2) (.int .u64 ((Zc y353 J0).f1.f3.f1))) (fun _ hk => hk.2) (.int .u64 ((Zc y353 J0).f1.f3.f2))) (fun _ hk => hk.2) (.int .i64 ((Zc y353 J0).f1.f4))) (fun _ hk => hk.2) (.bool ((Zc y353 J0).f1.f5))) (fun _ hk => hk.2) (.int .i64 ((Zc y353 J0).f1.f6))) (fun _ hk => hk.2) (.slice A356_10 ((Zc y353 J0).f1.f7).length c356_10)) (fun _ hk => hk.2) (.int .i64 ((Zc y353 J0).f2))) (fun _ hk => hk.2) (.int .i64 ((Zc y353 J0).f3))) (fun _ hk => hk.2) (.slice A356_13 ((Zc y353 J0).f4).length c356_13)) (fun _ h_ => h_.1))) hb); have n7_ := Zd.mk (Zp (g := J3) (o := .cells #[.string JD, .int .i64 JC, .int .i64 Jz, .int .i64 Jy, .int .i64 Jx, .bool Jv, .int .i64 Ju, .int .u64 Jt, .int .u64 Js, .int .i64 Jr, .bool Jq, .int .i64 Jp, .slice A0_12 J8.length c0_12, .int .i64 Jo, .int .i64 Jn, .slice A0_15 J7.length c0_15, .int .i64 Jm, .int .i64 Jl, .int .i64 Jk, .bool Jj, .int .i64 Jh, .int .u64 Jg, .int .u64 Jf, .int .i64 Je, .bool Jd, .int .i64 Jb, .slice A0_26 J6.length c0_26, .int .i64 Ja, .int .i64 J9, .slice A0_29 J5.length c0_29, .bool JB, .int .i64 JA] 32 (0, 0)) (by (with_reducible repeat (first | refine Zf ?_ _ | refine Zg ?_ | refine Ze ?_ _)); refine Zm ?_ NB352_357.out _; (with_reducible repeat (first | refine Zf ?_ _ | refine Zg ?_ | refine Ze ?_ _)); refine Zm ?_ NB352_357.out _; (with_reducible repeat (first | refine Zf ?_ _ | refine Zg ?_ | refine Ze ?_ _)); refine Zm ?_ NB352_357.out _; (with_reducible repeat (first | refine Zf ?_ _ | refine Zg ?_ | refine Ze ?_ _)); refine Zm ?_ NB352_357.out _; (with_reducible repeat (first | refine Zf ?_ _ | refine Zg ?_ | refine Ze ?_ _)); refine Zm ?_ NB352_357.out _; (with_reducible repeat (first | refine Zf ?_ _ | refine Zg ?_ | refine Ze ?_ _)); refine Zm ?_ NB352_357.out _; (with_reducible repeat (first | refine Zf ?_ _ | refine Zg ?_ | refine Ze ?_ _)); refine Zm ?_ NB352_357.out _; (with_reducible repeat (first | refine Zf ?_ _ | refine Zg ?_ | refine Ze ?_ _)); refine Zm ?_ NB352_357.out _; (with_reducible repeat (first | refine Zf ?_ _ | refine Zg ?_ | refine Ze ?_ _)); refine Zm ?_ NB352_357.out _; (with_reducible repeat (first | refine Zf ?_ _ | refine Zg ?_ | refine Ze ?_ _)); refine Zm ?_ NB352_357.out _; (with_reducible repeat (first | refine Zf ?_ _ | refine Zg ?_ | refine Ze ?_ _)); refine Zm ?_ NB352_357.out _; (with_reducible repeat (first | refine Zf ?_ _ | refine Zg ?_ | refine Ze ?_ _)); refine Zm ?_ NB352_357.out _; (with_reducible repeat (first | refine Zf ?_ _ | refine Zg ?_ | refine Ze ?_ _)); refine Zm ?_ NB352_357.out _; (with_reducible repeat (first | refine Zf ?_ _ | refine Zg ?_ | refine Ze ?_ _)); refine Zm ?_ NB352_357.out _; (with_reducible repeat (first | refine Zf ?_ _ | refine Zg ?_ | refine Ze ?_ _)); exact J2.out) hb); have n8_ := Zd.mk (Kd.Zw ((Kd.Xw (by (with_reducible repeat (first | apply Kd.V_alloc | apply Kd.V_drewN | apply Kd.Xp)); exact (Kd.Xa (Kd.Zi (p := ⟨J1, 13, none⟩) (Kd.Zi (p := ⟨J1, 12, none⟩) (Kd.Zi (p := ⟨J1, 11, none⟩) (Kd.Zi (p := ⟨J1, 10, none⟩) (Kd.Zi (p := ⟨J1, 9, none⟩) (Kd.Zi (p := ⟨J1, 8, none⟩) (Kd.Zi (p := ⟨J1, 7, none⟩) (Kd.Zi (p := ⟨J1, 6, none⟩) (Kd.Zi (p := ⟨J1, 5, none⟩) (Kd.Zi (p := ⟨J1, 4, none⟩) (Kd.Zi (p := ⟨J1, 3, none⟩) (Kd.Zi (p := ⟨J1, 2, none⟩) (Kd.Zi (p := ⟨J1, 1, none⟩) (Kd.Zi (p := ⟨J1, 0, none⟩) (Kd.Xa HL356_10.out (fun k_ hk => (⟨hk, hk.2⟩ : _ ∧ k_ ≠ J1))) (fun _ hk => hk.2) (.int .i64 ((Zc y353 J0).f0))) (fun _ hk => hk.2) (.int .i64 ((Zc y353 J0).f1.f0))) (fun _ hk => hk.2) (.int .i64 ((Zc y353 J0).f1.f1))) (fun _ hk => hk.2) (.bool ((Zc y353 J0).f1.f2))) (fun _ hk => hk.2) (.int .i64 ((Zc y353 J0).f1.f3.f0))) (fun _ hk => hk.2) (.int .u64 ((Zc y353 J0).f1.f3.f1))) (fun _ hk => hk.2) (.int .u64 ((Zc y353 J0).f1.f3.f2))) (fun _ hk => hk.2) (.int .i64 ((Zc y353 J0).f1.f4))) (fun _ hk => hk.2) (.bool ((Zc y353 J0).f1.f5))) (fun _ hk => hk.2) (.int .i64 ((Zc y353 J0).f1.f6))) (fun _ hk => hk.2) (.slice A356_10 ((Zc y353 J0).f1.f7).length c356_10)) (fun _ hk => hk.2) (.int .i64 ((Zc y353 J0).f2))) (fun _ hk => hk.2) (.int .i64 ((Zc y353 J0).f3))) (fun _ hk => hk.2) (.slice A356_13 ((Zc y353 J0).f4).length c356_13)) (fun _ h_ => h_.1)))).2.2) hb); have n9_ := Zd.mk (Kd.Zw ((Kd.Xw (by (with_reducible repeat (first | apply Kd.V_alloc | apply Kd.V_drewN | apply Kd.Xp)); exact (Kd.Xa (Kd.Zi (p := ⟨J1, 13, none⟩) (Kd.Zi (p := ⟨J1, 12, none⟩) (Kd.Zi (p := ⟨J1, 11, none⟩) (Kd.Zi (p := ⟨J1, 10, none⟩) (Kd.Zi (p := ⟨J1, 9, none⟩) (Kd.Zi (p := ⟨J1, 8, none⟩) (Kd.Zi (p := ⟨J1, 7, none⟩) (Kd.Zi (p := ⟨J1, 6, none⟩) (Kd.Zi (p := ⟨J1, 5, none⟩) (Kd.Zi (p := ⟨J1, 4, none⟩) (Kd.Zi (p := ⟨J1, 3, none⟩) (Kd.Zi (p := ⟨J1, 2, none⟩) (Kd.Zi (p := ⟨J1, 1, none⟩) (Kd.Zi (p := ⟨J1, 0, none⟩) (Kd.Xa HL356_13.out (fun k_ hk => (⟨hk, hk.2⟩ : _ ∧ k_ ≠ J1))) (fun _ hk => hk.2) (.int .i64 ((Zc y353 J0).f0))) (fun _ hk => hk.2) (.int .i64 ((Zc y353 J0).f1.f0))) (fun _ hk => hk.2) (.int .i64 ((Zc y353 J0).f1.f1))) (fun _ hk => hk.2) (.bool ((Zc y353 J0).f1.f2))) (fun _ hk => hk.2) (.int .i64 ((Zc y353 J0).f1.f3.f0))) (fun _ hk => hk.2) (.int .u64 ((Zc y353 J0).f1.f3.f1))) (fun _ hk => hk.2) (.int .u64 ((Zc y353 J0).f1.f3.f2))) (fun _ hk => hk.2) (.int .i64 ((Zc y353 J0).f1.f4))) (fun _ hk => hk.2) (.bool ((Zc y353 J0).f1.f5))) (fun _ hk => hk.2) (.int .i64 ((Zc y353 J0).f1.f6))) (fun _ hk => hk.2) (.slice A356_10 ((Zc y353 J0).f1.f7).length c356_10)) (fun _ hk => hk.2) (.int .i64 ((Zc y353 J0).f2))) (fun _ hk => hk.2) (.int .i64 ((Zc y353 J0).f3))) (fun _ hk => hk.2) (.slice A356_13 ((Zc y353 J0).f4).length c356_13)) (fun _ h_ => h_.1)))).2.2) hb); have n10_ := Zd.mk (Zp (g := J1) (o := .cells #[.int .i64 ((Zc y353 J0).f0), .int .i64 ((Zc y353 J0).f1.f0), .int .i64 ((Zc y353 J0).f1.f1), .bool ((Zc y353 J0).f1.f2), .int .i64 ((Zc y353 J0).f1.f3.f0), .int .u64 ((Zc y353 J0).f1.f3.f1), .int .u64 ((Zc y353 J0).f1.f3.f2), .int .i64 ((Zc y353 J0).f1.f4), .bool ((Zc y353 J0).f1.f5), .int .i64 ((Zc y353 J0).f1.f6), .slice A356_10 ((Zc y353 J0).f1.f7).length c356_10, .int .i64 ((Zc y353 J0).f2), .int .i64 ((Zc y353 J0).f3), .slice A356_13 ((Zc y353 J0).f4).length c356_13] 30 (0, 0)) (by (with_reducible repeat (first | refine Zf ?_ _ | refine Zg ?_ | refine Ze ?_ _)); refine Zk (cs := #[.int .i64 ((Zc y353 J0).f0), .int .i64 ((Zc y353 J0).f1.f0), .int .i64 ((Zc y353 J0).f1.f1), .bool ((Zc y353 J0).f1.f2), .int .i64 ((Zc y353 J0).f1.f3.f0), .int .u64 ((Zc y353 J0).f1.f3.f1), .int .u64 ((Zc y353 J0).f1.f3.f2), .int .i64 ((Zc y353 J0).f1.f4), .bool ((Zc y353 J0).f1.f5), .int .i64 ((Zc y353 J0).f1.f6), .slice A356_10 ((Zc y353 J0).f1.f7).length c356_10, .int .i64 ((Zc y353 J0).f2), .int .i64 ((Zc y353 J0).f3), .slice none 0 0]) ?_ 13 _ rfl; (with_reducible repeat (first | refine Zf ?_ _ | refine Zg ?_ | refine Ze ?_ _)); refine Zk (cs := #[.int .i64 ((Zc y353 J0).f0), .int .i64 ((Zc y353 J0).f1.f0), .int .i64 ((Zc y353 J0).f1.f1), .bool ((Zc y353 J0).f1.f2), .int .i64 ((Zc y353 J0).f1.f3.f0), .int .u64 ((Zc y353 J0).f1.f3.f1), .int .u64 ((Zc y353 J0).f1.f3.f2), .int .i64 ((Zc y353 J0).f1.f4), .bool ((Zc y353 J0).f1.f5), .int .i64 ((Zc y353 J0).f1.f6), .slice A356_10 ((Zc y353 J0).f1.f7).length c356_10, .int .i64 ((Zc y353 J0).f2), .int .i64 0, .slice none 0 0]) ?_ 12 _ rfl; (with_reducible repeat (first | refine Zf ?_ _ | refine Zg ?_ | refine Ze ?_ _)); refine Zk (cs := #[.int .i64 ((Zc y353 J0).f0), .int .i64 ((Zc y353 J0).f1.f0), .int .i64 ((Zc y353 J0).f1.f1), .bool ((Zc y353 J0).f1.f2), .int .i64 ((Zc y353 J0).f1.f3.f0), .int .u64 ((Zc y353 J0).f1.f3.f1), .int .u64 ((Zc y353 J0).f1.f3.f2), .int .i64 ((Zc y353 J0).f1.f4), .bool ((Zc y353 J0).f1.f5), .int .i64 ((Zc y353 J0).f1.f6), .slice A356_10 ((Zc y353 J0).f1.f7).length c356_10, .int .i64 0, .int .i64 0, .slice none 0 0]) ?_ 11 _ rfl; (with_reducible repeat (first | refine Zf ?_ _ | refine Zg ?_ | refine Ze ?_ _)); refine Zk (cs := #[.int .i64 ((Zc y353 J0).f0), .int .i64 ((Zc y353 J0).f1.f0), .int .i64 ((Zc y353 J0).f1.f1), .bool ((Zc y353 J0).f1.f2), .int .i64 ((Zc y353 J0).f1.f3.f0), .int .u64 ((Zc y353 J0).f1.f3.f1), .int .u64 ((Zc y353 J0).f1.f3.f2), .int .i64 ((Zc y353 J0).f1.f4), .bool ((Zc y353 J0).f1.f5), .int .i64 ((Zc y353 J0).f1.f6), .slice none 0 0, .int .i64 0, .int .i64 0, .slice none 0 0]) ?_ 10 _ rfl; (with_reducible repeat (first | refine Zf ?_ _ | refine Zg ?_ | refine Ze ?_ _)); refine Zk (cs := #[.int .i64 ((Zc y353 J0).f0), .int .i64 ((Zc y353 J0).f1.f0), .int .i64 ((Zc y353 J0).f1.f1), .bool ((Zc y353 J0).f1.f2), .int .i64 ((Zc y353 J0).f1.f3.f0), .int .u64 ((Zc y353 J0).f1.f3.f1), .int .u64 ((Zc y353 J0).f1.f3.f2), .int .i64 ((Zc y353 J0).f1.f4), .bool ((Zc y353 J0).f1.f5), .int .i64 0, .slice none 0 0, .int .i64 0, .int .i64 0, .slice none 0 0]) ?_ 9 _ rfl; (with_reducible repeat (first | refine Zf ?_ _ | refine Zg ?_ | refine Ze ?_ _)); refine Zk (cs := #[.int .i64 ((Zc y353 J0).f0), .int .i64 ((Zc y353 J0).f1.f0), .int .i64 ((Zc y353 J0).f1.f1), .bool ((Zc y353 J0).f1.f2), .int .i64 ((Zc y353 J0).f1.f3.f0), .int .u64 ((Zc y353 J0).f1.f3.f1), .int .u64 ((Zc y353 J0).f1.f3.f2), .int .i64 ((Zc y353 J0).f1.f4), .bool false, .int .i64 0, .slice none 0 0, .int .i64 0, .int .i64 0, .slice none 0 0]) ?_ 8 _ rfl; (with_reducible repeat (first | refine Zf ?_ _ | refine Zg ?_ | refine Ze ?_ _)); refine Zk (cs := #[.int .i64 ((Zc y353 J0).f0), .int .i64 ((Zc y353 J0).f1.f0), .int .i64 ((Zc y353 J0).f1.f1), .bool ((Zc y353 J0).f1.f2), .int .i64 ((Zc y353 J0).f1.f3.f0), .int .u64 ((Zc y353 J0).f1.f3.f1), .int .u64 ((Zc y353 J0).f1.f3.f2), .int .i64 0, .bool false, .int .i64 0, .slice none 0 0, .int .i64 0, .int .i64 0, .slice none 0 0]) ?_ 7 _ rfl; (with_reducible repeat (first | refine Zf ?_ _ | refine Zg ?_ | refine Ze ?_ _)); refine Zk (cs := #[.int .i64 ((Zc y353 J0).f0), .int .i64 ((Zc y353 J0).f1.f0), .int .i64 ((Zc y353 J0).f1.f1), .bool ((Zc y353 J0).f1.f2), .int .i64 ((Zc y353 J0).f1.f3.f0), .int .u64 ((Zc y353 J0).f1.f3.f1), .int .u64 0, .int .i64 0, .bool false, .int .i64 0, .slice none 0 0, .int .i64 0, .int .i64 0, .slice none 0 0]) ?_ 6 _ rfl; (with_reducible repeat (first | refine Zf ?_ _ | refine Zg ?_ | refine Ze ?_ _)); refine Zk (cs := #[.int .i64 ((Zc y353 J0).f0), .int .i64 ((Zc y353 J0).f1.f0), .int .i64 ((Zc y353 J0).f1.f1), .bool ((Zc y353 J0).f1.f2), .int .i64 ((Zc y353 J0).f1.f3.f0), .int .u64 0, .int .u64 0, .int .i64 0, .bool false, .int .i64 0, .slice none 0 0, .int .i64 0, .int .i64 0, .slice none 0 0]) ?_ 5 _ rfl; (with_reducible repeat (first | refine Zf ?_ _ | refine Zg ?_ | refine Ze ?_ _)); refine Zk (cs := #[.int .i64 ((Zc y353 J0).f0), .int .i64 ((Zc y353 J0).f1.f0), .int .i64 ((Zc y353 J0).f1.f1), .bool ((Zc y353 J0).f1.f2), .int .i64 0, .int .u64 0, .int .u64 0, .int .i64 0, .bool false, .int .i64 0, .slice none 0 0, .int .i64 0, .int .i64 0, .slice none 0 0]) ?_ 4 _ rfl; (with_reducible repeat (first | refine Zf ?_ _ | refine Zg ?_ | refine Ze ?_ _)); refine Zk (cs := #[.int .i64 ((Zc y353 J0).f0), .int .i64 ((Zc y353 J0).f1.f0), .int .i64 ((Zc y353 J0).f1.f1), .bool false, .int .i64 0, .int .u64 0, .int .u64 0, .int .i64 0, .bool false, .int .i64 0, .slice none 0 0, .int .i64 0, .int .i64 0, .slice none 0 0]) ?_ 3 _ rfl; (with_reducible repeat (first | refine Zf ?_ _ | refine Zg ?_ | refine Ze ?_ _)); refine Zk (cs := #[.int .i64 ((Zc y353 J0).f0), .int .i64 ((Zc y353 J0).f1.f0), .int .i64 0, .bool false, .int .i64 0, .int .u64 0, .int .u64 0, .int .i64 0, .bool false, .int .i64 0, .slice none 0 0, .int .i64 0, .int .i64 0, .slice none 0 0]) ?_ 2 _ rfl; (with_reducible repeat (first | refine Zf ?_ _ | refine Zg ?_ | refine Ze ?_ _)); refine Zk (cs := #[.int .i64 ((Zc y353 J0).f0), .int .i64 0, .int .i64 0, .bool false, .int .i64 0, .int .u64 0, .int .u64 0, .int .i64 0, .bool false, .int .i64 0, .slice none 0 0, .int .i64 0, .int .i64 0, .slice none 0 0]) ?_ 1 _ rfl; (with_reducible repeat (first | refine Zf ?_ _ | refine Zg ?_ | refine Ze ?_ _)); refine Zk (cs := #[.int .i64 0, .int .i64 0, .int .i64 0, .bool false, .int .i64 0, .int .u64 0, .int .u64 0, .int .i64 0, .bool false, .int .i64 0, .slice none 0 0, .int .i64 0, .int .i64 0, .slice none 0 0]) ?_ 0 _ rfl; (with_reducible repeat (first | refine Zf ?_ _ | refine Zg ?_ | refine Ze ?_ _)); exact J4.out) hb); have n11_ := Zd.mk (Zj (by repeat (first | (with_reducible first | exact HB.out | apply Xm | apply Xi | apply Xj | refine Xc ?_ GE352.out | refine Xc ?_ GE357.out) | exact HB.out)) hb); clear HO_10; clear HO_353012; clear HO_353015; clear HO_353026; clear HO_353029; clear HL356_10; clear HL356_13; clear J2; clear HR356_10; clear HR356_13; clear J4; clear HB; have HO_10 := n0_; have HO_353012 := n1_; have HO_353015 := n2_; have HO_353026 := n3_; have HO_353029 := n4_; have HL356_10 := n5_; have HL356_13 := n6_; have J2 := n7_; have HR356_10 := n8_; have HR356_13 := n9_; have J4 := n10_; have HB := n11_; clear n0_ n1_ n2_ n3_ n4_ n5_ n6_ n7_ n8_ n9_ n10_ n11_; (try clear hb); (try clear hb2); (try clear hk); (try clear hi)))
       go_roundg k1
       case measure => have := HK1.out; omega
       case rel => exact ⟨(wrap64 (J0 + 1)), (by first | rfl | (simp; done) | (simp [*]; done)), H', ⟨by have := HK1.out; omega⟩, ⟨by (with_reducible repeat (first | apply Kd.N_alloc | apply Kd.N_drewN | apply Kd.Vg)); exact Kd.Xq HO_10.out (fun _ hk => ⟨hk.1.1, hk.1.2⟩)⟩, ⟨by (with_reducible repeat (first | apply Kd.V_alloc | apply Kd.V_drewN | apply Kd.Xp)); exact Kd.Xa HO_353012.out (fun _ hk => ⟨hk.1.1, ⟨hk.1.2.1, hk.1.2.2⟩⟩)⟩, ⟨by (with_reducible repeat (first | apply Kd.V_alloc | apply Kd.V_drewN | apply Kd.Xp)); exact Kd.Xa HO_353015.out (fun _ hk => ⟨hk.1.1, ⟨hk.1.2.1, hk.1.2.2⟩⟩)⟩, ⟨by (with_reducible repeat (first | apply Kd.V_alloc | apply Kd.V_drewN | apply Kd.Xp)); exact Kd.Xa HO_353026.out (fun _ hk => ⟨hk.1.1, ⟨hk.1.2.1, hk.1.2.2⟩⟩)⟩, ⟨by (with_reducible repeat (first | apply Kd.V_alloc | apply Kd.V_drewN | apply Kd.Xp)); exact Kd.Xa HO_353029.out (fun _ hk => ⟨hk.1.1, ⟨hk.1.2.1, hk.1.2.2⟩⟩)⟩, ⟨J2.out⟩, ⟨HB.out⟩⟩
      ·rw [if_neg c11] at H
       have c11b0 : (t358 == 0) = false := beq_eq_false_iff_ne.mpr c11
       have c11b1 : (t358 != 0) = true := bne_iff_ne.mpr c11
       obtain rfl := Option.some.inj H
       have p356 : 0 ≤ (J0 : Int) := of_decide_eq_true (by first | (with_reducible assumption) | assumption)
       have q356 : J0 < (y353.length : Int) := of_decide_eq_true (by first | (with_reducible assumption) | assumption)
       obtain ⟨ad356, A356_10, c356_10, A356_13, c356_13, e356, hx356_0, hx356_1, hx356_2, hx356_3, hx356_4, hx356_5, hx356_6, hx356_7, hx356_8, hx356_9, hx356_10, hx356_11, hx356_12, hx356_13, hl356_10, hi356_10, hl356_13, hi356_13⟩ := Jc (Kd.Qq HO_10.out).2.2 J0 p356 q356
       cases e356
       obtain ⟨ce356, hce356, hMe356, hcc356⟩ := Kd.N_get HO_10.out z30 J0 p356 (by first | exact q356 | exact of_decide_eq_true (by first | (with_reducible assumption) | assumption) | (have e_ := (Kd.Qq HO_10.out).1; omega))
       obtain ⟨ua356_10, uc356_10, ua356_13, uc356_13, rfl, ul356_10, ge356_10, ul356_13, ge356_13⟩ := k30_openF hMe356
       have hv356_10 := hcc356 10 _ rfl
       rw [Qc _ _ 10 (by omega)] at hv356_10
       replace hv356_10 := Option.some.inj (hv356_10.symm.trans hx356_10)
       injection hv356_10 with hva_ hvn_ hvc_
       rw [hva_] at ge356_10
       rw [hvc_] at ul356_10
       have HL356_10 := Zd.mk (show Kd.V k27 27 _ w.heap.size _ _ ((Zc y353 J0).f1.f7) from Kd.Wj ul356_10 ge356_10)
       clear hva_ hvn_ hvc_ ge356_10 ul356_10
       have hv356_13 := hcc356 13 _ rfl
       rw [Qc _ _ 13 (by omega)] at hv356_13
       replace hv356_13 := Option.some.inj (hv356_13.symm.trans hx356_13)
       injection hv356_13 with hva_ hvn_ hvc_
       rw [hva_] at ge356_13
       rw [hvc_] at ul356_13
       have HL356_13 := Zd.mk (show Kd.V k30 30 _ w.heap.size _ _ ((Zc y353 J0).f4) from Kd.Wj ul356_13 ge356_13)
       clear hva_ hvn_ hvc_ ge356_13 ul356_13
       clear hcc356 hce356
       have HR356_10 := Zd.mk hi356_10
       have HC356_10 := Zd.mk hl356_10
       clear hi356_10 hl356_10
       have HR356_13 := Zd.mk hi356_13
       have HC356_13 := Zd.mk hl356_13
       clear hi356_13 hl356_13
       replace p356 := eq_true p356
       replace q356 := eq_true q356
       go_wp2_with (first | ((with_reducible refine Xd (N := 4) rfl ?_); refine Xe ?hg (N := 4) ?hd (cs := #[.int .i64 0, .int .i64 0, .int .i64 0, .bool false, .int .i64 0, .int .u64 0, .int .u64 0, .int .i64 0, .bool false, .int .i64 0, .slice none 0 0, .int .i64 0, .int .i64 0, .slice none 0 0]) (t := 30) ?hr ?_; (case hd => rfl); (case hg => rfl); (case hr => first | (go_simp; done) | (go_simp; rfl)); intro J1 hg w16 hbox hb; have n0_ := Zd.mk (Kd.Kr (Kd.N_elderB HO_10.out J1 (Nat.le_of_eq hg.symm)) hb); have n1_ := Zd.mk (Kd.Xl (Kd.Xx HO_353012.out J1 (Nat.le_of_eq hg.symm)) hb); have n2_ := Zd.mk (Kd.Xl (Kd.Xx HO_353015.out J1 (Nat.le_of_eq hg.symm)) hb); have n3_ := Zd.mk (Kd.Xl (Kd.Xx HO_353026.out J1 (Nat.le_of_eq hg.symm)) hb); have n4_ := Zd.mk (Kd.Xl (Kd.Xx HO_353029.out J1 (Nat.le_of_eq hg.symm)) hb); have n5_ := Zd.mk (Kd.Xl (Kd.Xx HL356_10.out J1 (Nat.le_of_eq hg.symm)) hb); have n6_ := Zd.mk (Kd.Xl (Kd.Xx HL356_13.out J1 (Nat.le_of_eq hg.symm)) hb); have n7_ := Zd.mk (Zp J2.out hb); have n8_ := Zd.mk (Kd.Zw (by repeat (first | (with_reducible exact HR356_10.out) | (with_reducible refine Kd.C_alloc ?_ _) | (with_reducible refine Kd.C_drewN ?_ _) | (with_reducible refine Kd.C_drew ?_) | exact HR356_10.out)) hb); have n9_ := Zd.mk (Kd.Zw (by repeat (first | (with_reducible exact HR356_13.out) | (with_reducible refine Kd.C_alloc ?_ _) | (with_reducible refine Kd.C_drewN ?_ _) | (with_reducible refine Kd.C_drew ?_) | exact HR356_13.out)) hb); have n10_ := Zd.mk (Zj HB.out hb); have n11_ := Zd.mk (hbox); have n12_ := Zd.mk ((by rw [hg]; exact (Zl HB.out) : w.heap.size ≤ J1)); have n13_ := n12_; have n14_ := Zd.mk ((by rw [hg]; exact Nat.ne_of_lt (Kv J2.out) : J3 ≠ J1)); have n15_ := Zd.mk ((by rw [hg]; exact Nat.ne_of_gt (Kv J2.out) : J1 ≠ J3)); clear HO_10; clear HO_353012; clear HO_353015; clear HO_353026; clear HO_353029; clear HL356_10; clear HL356_13; clear J2; clear HR356_10; clear HR356_13; clear HB; have HO_10 := n0_; have HO_353012 := n1_; have HO_353015 := n2_; have HO_353026 := n3_; have HO_353029 := n4_; have HL356_10 := n5_; have HL356_13 := n6_; have J2 := n7_; have HR356_10 := n8_; have HR356_13 := n9_; have HB := n10_; have J4 := n11_; have GW357 := n12_; have GE357 := n13_; have NB352_357 := n14_; have NB357_352 := n15_; clear n0_ n1_ n2_ n3_ n4_ n5_ n6_ n7_ n8_ n9_ n10_ n11_ n12_ n13_ n14_ n15_; clear hb hbox hg; have hnb17 := NB357_352.out; have hnc17 := NB352_357.out; have hcz18_0 : w16.cell? ⟨J1, 0, none⟩ = some (.int .i64 0) := (Za J4.out 0).trans rfl; have hcz18_1 : w16.cell? ⟨J1, 1, none⟩ = some (.int .i64 0) := (Za J4.out 1).trans rfl; have hcz18_2 : w16.cell? ⟨J1, 2, none⟩ = some (.int .i64 0) := (Za J4.out 2).trans rfl; have hcz18_3 : w16.cell? ⟨J1, 3, none⟩ = some (.bool false) := (Za J4.out 3).trans rfl; have hcz18_4 : w16.cell? ⟨J1, 4, none⟩ = some (.int .i64 0) := (Za J4.out 4).trans rfl; have hcz18_5 : w16.cell? ⟨J1, 5, none⟩ = some (.int .u64 0) := (Za J4.out 5).trans rfl; have hcz18_6 : w16.cell? ⟨J1, 6, none⟩ = some (.int .u64 0) := (Za J4.out 6).trans rfl; have hcz18_7 : w16.cell? ⟨J1, 7, none⟩ = some (.int .i64 0) := (Za J4.out 7).trans rfl; have hcz18_8 : w16.cell? ⟨J1, 8, none⟩ = some (.bool false) := (Za J4.out 8).trans rfl; have hcz18_9 : w16.cell? ⟨J1, 9, none⟩ = some (.int .i64 0) := (Za J4.out 9).trans rfl; have hcz18_10 : w16.cell? ⟨J1, 10, none⟩ = some (.slice none 0 0) := (Za J4.out 10).trans rfl; have hcz18_11 : w16.cell? ⟨J1, 11, none⟩ = some (.int .i64 0) := (Za J4.out 11).trans rfl; have hcz18_12 : w16.cell? ⟨J1, 12, none⟩ = some (.int .i64 0) := (Za J4.out 12).trans rfl; have hcz18_13 : w16.cell? ⟨J1, 13, none⟩ = some (.slice none 0 0) := (Za J4.out 13).trans rfl; have hfz18_0 := Zb J4.out 0; have hfz18_1 := Zb J4.out 1; have hfz18_2 := Zb J4.out 2; have hfz18_3 := Zb J4.out 3; have hfz18_4 := Zb J4.out 4; have hfz18_5 := Zb J4.out 5; have hfz18_6 := Zb J4.out 6; have hfz18_7 := Zb J4.out 7; have hfz18_8 := Zb J4.out 8; have hfz18_9 := Zb J4.out 9; have hfz18_10 := Zb J4.out 10; have hfz18_11 := Zb J4.out 11; have hfz18_12 := Zb J4.out 12; have hfz18_13 := Zb J4.out 13) | ((with_reducible refine Zx (f := 4) rfl ?_); refine Xz (some 17) rfl rfl Try.func4 (by kernel_rfl) rfl #[.agg #[.int .i64 ((Zc y353 J0).f0), .int .i64 ((Zc y353 J0).f1.f0), .int .i64 ((Zc y353 J0).f1.f1), .bool ((Zc y353 J0).f1.f2), .int .i64 ((Zc y353 J0).f1.f3.f0), .int .u64 ((Zc y353 J0).f1.f3.f1), .int .u64 ((Zc y353 J0).f1.f3.f2), .int .i64 ((Zc y353 J0).f1.f4), .bool ((Zc y353 J0).f1.f5), .int .i64 ((Zc y353 J0).f1.f6), .slice A356_10 ((Zc y353 J0).f1.f7).length c356_10, .int .i64 ((Zc y353 J0).f2), .int .i64 ((Zc y353 J0).f3), .slice A356_13 ((Zc y353 J0).f4).length c356_13]] rfl (by (try simp only [List.map_toArray, List.map_cons, List.map_nil]); first | done | rfl | (simp only [List.length_drop, List.length_take]; rfl)) ?_; (with_reducible refine (Xf.calls k1 ((Zc y353 J0).f0) ((Zc y353 J0).f1.f0) ((Zc y353 J0).f1.f1) ((Zc y353 J0).f1.f2) ((Zc y353 J0).f1.f3.f0) ((Zc y353 J0).f1.f3.f1) ((Zc y353 J0).f1.f3.f2) ((Zc y353 J0).f1.f4) ((Zc y353 J0).f1.f5) ((Zc y353 J0).f1.f6) _ _ ((Zc y353 J0).f1.f7) ((Zc y353 J0).f2) ((Zc y353 J0).f3) _ _ ((Zc y353 J0).f4) t358 _ ?side1 ?side2 ?side3 ?side4 A10.out).mono ?_); (case side1 => repeat (first | exact ((Kd.Xw (by (with_reducible repeat (first | apply Kd.V_alloc | apply Kd.V_drewN | apply Kd.Xp)); exact (Kd.Xa (Kd.Zi (p := ⟨J1, 13, none⟩) (Kd.Zi (p := ⟨J1, 12, none⟩) (Kd.Zi (p := ⟨J1, 11, none⟩) (Kd.Zi (p := ⟨J1, 10, none⟩) (Kd.Zi (p := ⟨J1, 9, none⟩) (Kd.Zi (p := ⟨J1, 8, none⟩) (Kd.Zi (p := ⟨J1, 7, none⟩) (Kd.Zi (p := ⟨J1, 6, none⟩) (Kd.Zi (p := ⟨J1, 5, none⟩) (Kd.Zi (p := ⟨J1, 4, none⟩) (Kd.Zi (p := ⟨J1, 3, none⟩) (Kd.Zi (p := ⟨J1, 2, none⟩) (Kd.Zi (p := ⟨J1, 1, none⟩) (Kd.Zi (p := ⟨J1, 0, none⟩) (Kd.Xa HL356_10.out (fun k_ hk => (⟨hk, hk.2⟩ : _ ∧ k_ ≠ J1))) (fun _ hk => hk.2) (.int .i64 ((Zc y353 J0).f0))) (fun _ hk => hk.2) (.int .i64 ((Zc y353 J0).f1.f0))) (fun _ hk => hk.2) (.int .i64 ((Zc y353 J0).f1.f1))) (fun _ hk => hk.2) (.bool ((Zc y353 J0).f1.f2))) (fun _ hk => hk.2) (.int .i64 ((Zc y353 J0).f1.f3.f0))) (fun _ hk => hk.2) (.int .u64 ((Zc y353 J0).f1.f3.f1))) (fun _ hk => hk.2) (.int .u64 ((Zc y353 J0).f1.f3.f2))) (fun _ hk => hk.2) (.int .i64 ((Zc y353 J0).f1.f4))) (fun _ hk => hk.2) (.bool ((Zc y353 J0).f1.f5))) (fun _ hk => hk.2) (.int .i64 ((Zc y353 J0).f1.f6))) (fun _ hk => hk.2) (.slice A356_10 ((Zc y353 J0).f1.f7).length c356_10)) (fun _ hk => hk.2) (.int .i64 ((Zc y353 J0).f2))) (fun _ hk => hk.2) (.int .i64 ((Zc y353 J0).f3))) (fun _ hk => hk.2) (.slice A356_13 ((Zc y353 J0).f4).length c356_13)) (fun _ h_ => h_.1)))).2.2) | (with_reducible refine Kd.C_alloc ?_ _) | (with_reducible refine Kd.C_drewN ?_ _) | (with_reducible refine Kd.C_drew ?_))); (case side2 => exact HC356_10.out); (case side3 => repeat (first | exact ((Kd.Xw (by (with_reducible repeat (first | apply Kd.V_alloc | apply Kd.V_drewN | apply Kd.Xp)); exact (Kd.Xa (Kd.Zi (p := ⟨J1, 13, none⟩) (Kd.Zi (p := ⟨J1, 12, none⟩) (Kd.Zi (p := ⟨J1, 11, none⟩) (Kd.Zi (p := ⟨J1, 10, none⟩) (Kd.Zi (p := ⟨J1, 9, none⟩) (Kd.Zi (p := ⟨J1, 8, none⟩) (Kd.Zi (p := ⟨J1, 7, none⟩) (Kd.Zi (p := ⟨J1, 6, none⟩) (Kd.Zi (p := ⟨J1, 5, none⟩) (Kd.Zi (p := ⟨J1, 4, none⟩) (Kd.Zi (p := ⟨J1, 3, none⟩) (Kd.Zi (p := ⟨J1, 2, none⟩) (Kd.Zi (p := ⟨J1, 1, none⟩) (Kd.Zi (p := ⟨J1, 0, none⟩) (Kd.Xa HL356_13.out (fun k_ hk => (⟨hk, hk.2⟩ : _ ∧ k_ ≠ J1))) (fun _ hk => hk.2) (.int .i64 ((Zc y353 J0).f0))) (fun _ hk => hk.2) (.int .i64 ((Zc y353 J0).f1.f0))) (fun _ hk => hk.2) (.int .i64 ((Zc y353 J0).f1.f1))) (fun _ hk => hk.2) (.bool ((Zc y353 J0).f1.f2))) (fun _ hk => hk.2) (.int .i64 ((Zc y353 J0).f1.f3.f0))) (fun _ hk => hk.2) (.int .u64 ((Zc y353 J0).f1.f3.f1))) (fun _ hk => hk.2) (.int .u64 ((Zc y353 J0).f1.f3.f2))) (fun _ hk => hk.2) (.int .i64 ((Zc y353 J0).f1.f4))) (fun _ hk => hk.2) (.bool ((Zc y353 J0).f1.f5))) (fun _ hk => hk.2) (.int .i64 ((Zc y353 J0).f1.f6))) (fun _ hk => hk.2) (.slice A356_10 ((Zc y353 J0).f1.f7).length c356_10)) (fun _ hk => hk.2) (.int .i64 ((Zc y353 J0).f2))) (fun _ hk => hk.2) (.int .i64 ((Zc y353 J0).f3))) (fun _ hk => hk.2) (.slice A356_13 ((Zc y353 J0).f4).length c356_13)) (fun _ h_ => h_.1)))).2.2) | (with_reducible refine Kd.C_alloc ?_ _) | (with_reducible refine Kd.C_drewN ?_ _) | (with_reducible refine Kd.C_drew ?_))); (case side4 => exact HC356_13.out); rintro e w19 ⟨rfl, hb⟩; refine ⟨_, rfl, ?_⟩; have n0_ := Zd.mk (Kd.Kr (by (with_reducible repeat (first | apply Kd.N_alloc | apply Kd.N_drewN | apply Kd.Vg)); exact (Kd.Xq (Kd.Xn (p := ⟨J1, 13, none⟩) (Kd.Xn (p := ⟨J1, 12, none⟩) (Kd.Xn (p := ⟨J1, 11, none⟩) (Kd.Xn (p := ⟨J1, 10, none⟩) (Kd.Xn (p := ⟨J1, 9, none⟩) (Kd.Xn (p := ⟨J1, 8, none⟩) (Kd.Xn (p := ⟨J1, 7, none⟩) (Kd.Xn (p := ⟨J1, 6, none⟩) (Kd.Xn (p := ⟨J1, 5, none⟩) (Kd.Xn (p := ⟨J1, 4, none⟩) (Kd.Xn (p := ⟨J1, 3, none⟩) (Kd.Xn (p := ⟨J1, 2, none⟩) (Kd.Xn (p := ⟨J1, 1, none⟩) (Kd.Xn (p := ⟨J1, 0, none⟩) (Kd.Xq HO_10.out (fun k_ hk => (⟨hk, hk.2⟩ : _ ∧ k_ ≠ J1))) (fun _ hk => hk.2) (.int .i64 ((Zc y353 J0).f0))) (fun _ hk => hk.2) (.int .i64 ((Zc y353 J0).f1.f0))) (fun _ hk => hk.2) (.int .i64 ((Zc y353 J0).f1.f1))) (fun _ hk => hk.2) (.bool ((Zc y353 J0).f1.f2))) (fun _ hk => hk.2) (.int .i64 ((Zc y353 J0).f1.f3.f0))) (fun _ hk => hk.2) (.int .u64 ((Zc y353 J0).f1.f3.f1))) (fun _ hk => hk.2) (.int .u64 ((Zc y353 J0).f1.f3.f2))) (fun _ hk => hk.2) (.int .i64 ((Zc y353 J0).f1.f4))) (fun _ hk => hk.2) (.bool ((Zc y353 J0).f1.f5))) (fun _ hk => hk.2) (.int .i64 ((Zc y353 J0).f1.f6))) (fun _ hk => hk.2) (.slice A356_10 ((Zc y353 J0).f1.f7).length c356_10)) (fun _ hk => hk.2) (.int .i64 ((Zc y353 J0).f2))) (fun _ hk => hk.2) (.int .i64 ((Zc y353 J0).f3))) (fun _ hk => hk.2) (.slice A356_13 ((Zc y353 J0).f4).length c356_13)) (fun _ h_ => h_.1))) hb); have n1_ := Zd.mk (Kd.Xl (by (with_reducible repeat (first | apply Kd.V_alloc | apply Kd.V_drewN | apply Kd.Xp)); exact (Kd.Xa (Kd.Zi (p := ⟨J1, 13, none⟩) (Kd.Zi (p := ⟨J1, 12, none⟩) (Kd.Zi (p := ⟨J1, 11, none⟩) (Kd.Zi (p := ⟨J1, 10, none⟩) (Kd.Zi (p := ⟨J1, 9, none⟩) (Kd.Zi (p := ⟨J1, 8, none⟩) (Kd.Zi (p := ⟨J1, 7, none⟩) (Kd.Zi (p := ⟨J1, 6, none⟩) (Kd.Zi (p := ⟨J1, 5, none⟩) (Kd.Zi (p := ⟨J1, 4, none⟩) (Kd.Zi (p := ⟨J1, 3, none⟩) (Kd.Zi (p := ⟨J1, 2, none⟩) (Kd.Zi (p := ⟨J1, 1, none⟩) (Kd.Zi (p := ⟨J1, 0, none⟩) (Kd.Xa HO_353012.out (fun k_ hk => (⟨hk, hk.2⟩ : _ ∧ k_ ≠ J1))) (fun _ hk => hk.2) (.int .i64 ((Zc y353 J0).f0))) (fun _ hk => hk.2) (.int .i64 ((Zc y353 J0).f1.f0))) (fun _ hk => hk.2) (.int .i64 ((Zc y353 J0).f1.f1))) (fun _ hk => hk.2) (.bool ((Zc y353 J0).f1.f2))) (fun _ hk => hk.2) (.int .i64 ((Zc y353 J0).f1.f3.f0))) (fun _ hk => hk.2) (.int .u64 ((Zc y353 J0).f1.f3.f1))) (fun _ hk => hk.2) (.int .u64 ((Zc y353 J0).f1.f3.f2))) (fun _ hk => hk.2) (.int .i64 ((Zc y353 J0).f1.f4))) (fun _ hk => hk.2) (.bool ((Zc y353 J0).f1.f5))) (fun _ hk => hk.2) (.int .i64 ((Zc y353 J0).f1.f6))) (fun _ hk => hk.2) (.slice A356_10 ((Zc y353 J0).f1.f7).length c356_10)) (fun _ hk => hk.2) (.int .i64 ((Zc y353 J0).f2))) (fun _ hk => hk.2) (.int .i64 ((Zc y353 J0).f3))) (fun _ hk => hk.2) (.slice A356_13 ((Zc y353 J0).f4).length c356_13)) (fun _ h_ => h_.1))) hb); have n2_ := Zd.mk (Kd.Xl (by (with_reducible repeat (first | apply Kd.V_alloc | apply Kd.V_drewN | apply Kd.Xp)); exact (Kd.Xa (Kd.Zi (p := ⟨J1, 13, none⟩) (Kd.Zi (p := ⟨J1, 12, none⟩) (Kd.Zi (p := ⟨J1, 11, none⟩) (Kd.Zi (p := ⟨J1, 10, none⟩) (Kd.Zi (p := ⟨J1, 9, none⟩) (Kd.Zi (p := ⟨J1, 8, none⟩) (Kd.Zi (p := ⟨J1, 7, none⟩) (Kd.Zi (p := ⟨J1, 6, none⟩) (Kd.Zi (p := ⟨J1, 5, none⟩) (Kd.Zi (p := ⟨J1, 4, none⟩) (Kd.Zi (p := ⟨J1, 3, none⟩) (Kd.Zi (p := ⟨J1, 2, none⟩) (Kd.Zi (p := ⟨J1, 1, none⟩) (Kd.Zi (p := ⟨J1, 0, none⟩) (Kd.Xa HO_353015.out (fun k_ hk => (⟨hk, hk.2⟩ : _ ∧ k_ ≠ J1))) (fun _ hk => hk.2) (.int .i64 ((Zc y353 J0).f0))) (fun _ hk => hk.2) (.int .i64 ((Zc y353 J0).f1.f0))) (fun _ hk => hk.2) (.int .i64 ((Zc y353 J0).f1.f1))) (fun _ hk => hk.2) (.bool ((Zc y353 J0).f1.f2))) (fun _ hk => hk.2) (.int .i64 ((Zc y353 J0).f1.f3.f0))) (fun _ hk => hk.2) (.int .u64 ((Zc y353 J0).f1.f3.f1))) (fun _ hk => hk.2) (.int .u64 ((Zc y353 J0).f1.f3.f2))) (fun _ hk => hk.2) (.int .i64 ((Zc y353 J0).f1.f4))) (fun _ hk => hk.2) (.bool ((Zc y353 J0).f1.f5))) (fun _ hk => hk.2) (.int .i64 ((Zc y353 J0).f1.f6))) (fun _ hk => hk.2) (.slice A356_10 ((Zc y353 J0).f1.f7).length c356_10)) (fun _ hk => hk.2) (.int .i64 ((Zc y353 J0).f2))) (fun _ hk => hk.2) (.int .i64 ((Zc y353 J0).f3))) (fun _ hk => hk.2) (.slice A356_13 ((Zc y353 J0).f4).length c356_13)) (fun _ h_ => h_.1))) hb); have n3_ := Zd.mk (Kd.Xl (by (with_reducible repeat (first | apply Kd.V_alloc | apply Kd.V_drewN | apply Kd.Xp)); exact (Kd.Xa (Kd.Zi (p := ⟨J1, 13, none⟩) (Kd.Zi (p := ⟨J1, 12, none⟩) (Kd.Zi (p := ⟨J1, 11, none⟩) (Kd.Zi (p := ⟨J1, 10, none⟩) (Kd.Zi (p := ⟨J1, 9, none⟩) (Kd.Zi (p := ⟨J1, 8, none⟩) (Kd.Zi (p := ⟨J1, 7, none⟩) (Kd.Zi (p := ⟨J1, 6, none⟩) (Kd.Zi (p := ⟨J1, 5, none⟩) (Kd.Zi (p := ⟨J1, 4, none⟩) (Kd.Zi (p := ⟨J1, 3, none⟩) (Kd.Zi (p := ⟨J1, 2, none⟩) (Kd.Zi (p := ⟨J1, 1, none⟩) (Kd.Zi (p := ⟨J1, 0, none⟩) (Kd.Xa HO_353026.out (fun k_ hk => (⟨hk, hk.2⟩ : _ ∧ k_ ≠ J1))) (fun _ hk => hk.2) (.int .i64 ((Zc y353 J0).f0))) (fun _ hk => hk.2) (.int .i64 ((Zc y353 J0).f1.f0))) (fun _ hk => hk.2) (.int .i64 ((Zc y353 J0).f1.f1))) (fun _ hk => hk.2) (.bool ((Zc y353 J0).f1.f2))) (fun _ hk => hk.2) (.int .i64 ((Zc y353 J0).f1.f3.f0))) (fun _ hk => hk.2) (.int .u64 ((Zc y353 J0).f1.f3.f1))) (fun _ hk => hk.2) (.int .u64 ((Zc y353 J0).f1.f3.f2))) (fun _ hk => hk.2) (.int .i64 ((Zc y353 J0).f1.f4))) (fun _ hk => hk.2) (.bool ((Zc y353 J0).f1.f5))) (fun _ hk => hk.2) (.int .i64 ((Zc y353 J0).f1.f6))) (fun _ hk => hk.2) (.slice A356_10 ((Zc y353 J0).f1.f7).length c356_10)) (fun _ hk => hk.2) (.int .i64 ((Zc y353 J0).f2))) (fun _ hk => hk.2) (.int .i64 ((Zc y353 J0).f3))) (fun _ hk => hk.2) (.slice A356_13 ((Zc y353 J0).f4).length c356_13)) (fun _ h_ => h_.1))) hb); have n4_ := Zd.mk (Kd.Xl (by (with_reducible repeat (first | apply Kd.V_alloc | apply Kd.V_drewN | apply Kd.Xp)); exact (Kd.Xa (Kd.Zi (p := ⟨J1, 13, none⟩) (Kd.Zi (p := ⟨J1, 12, none⟩) (Kd.Zi (p := ⟨J1, 11, none⟩) (Kd.Zi (p := ⟨J1, 10, none⟩) (Kd.Zi (p := ⟨J1, 9, none⟩) (Kd.Zi (p := ⟨J1, 8, none⟩) (Kd.Zi (p := ⟨J1, 7, none⟩) (Kd.Zi (p := ⟨J1, 6, none⟩) (Kd.Zi (p := ⟨J1, 5, none⟩) (Kd.Zi (p := ⟨J1, 4, none⟩) (Kd.Zi (p := ⟨J1, 3, none⟩) (Kd.Zi (p := ⟨J1, 2, none⟩) (Kd.Zi (p := ⟨J1, 1, none⟩) (Kd.Zi (p := ⟨J1, 0, none⟩) (Kd.Xa HO_353029.out (fun k_ hk => (⟨hk, hk.2⟩ : _ ∧ k_ ≠ J1))) (fun _ hk => hk.2) (.int .i64 ((Zc y353 J0).f0))) (fun _ hk => hk.2) (.int .i64 ((Zc y353 J0).f1.f0))) (fun _ hk => hk.2) (.int .i64 ((Zc y353 J0).f1.f1))) (fun _ hk => hk.2) (.bool ((Zc y353 J0).f1.f2))) (fun _ hk => hk.2) (.int .i64 ((Zc y353 J0).f1.f3.f0))) (fun _ hk => hk.2) (.int .u64 ((Zc y353 J0).f1.f3.f1))) (fun _ hk => hk.2) (.int .u64 ((Zc y353 J0).f1.f3.f2))) (fun _ hk => hk.2) (.int .i64 ((Zc y353 J0).f1.f4))) (fun _ hk => hk.2) (.bool ((Zc y353 J0).f1.f5))) (fun _ hk => hk.2) (.int .i64 ((Zc y353 J0).f1.f6))) (fun _ hk => hk.2) (.slice A356_10 ((Zc y353 J0).f1.f7).length c356_10)) (fun _ hk => hk.2) (.int .i64 ((Zc y353 J0).f2))) (fun _ hk => hk.2) (.int .i64 ((Zc y353 J0).f3))) (fun _ hk => hk.2) (.slice A356_13 ((Zc y353 J0).f4).length c356_13)) (fun _ h_ => h_.1))) hb); have n5_ := Zd.mk (Kd.Xl (by (with_reducible repeat (first | apply Kd.V_alloc | apply Kd.V_drewN | apply Kd.Xp)); exact (Kd.Xa (Kd.Zi (p := ⟨J1, 13, none⟩) (Kd.Zi (p := ⟨J1, 12, none⟩) (Kd.Zi (p := ⟨J1, 11, none⟩) (Kd.Zi (p := ⟨J1, 10, none⟩) (Kd.Zi (p := ⟨J1, 9, none⟩) (Kd.Zi (p := ⟨J1, 8, none⟩) (Kd.Zi (p := ⟨J1, 7, none⟩) (Kd.Zi (p := ⟨J1, 6, none⟩) (Kd.Zi (p := ⟨J1, 5, none⟩) (Kd.Zi (p := ⟨J1, 4, none⟩) (Kd.Zi (p := ⟨J1, 3, none⟩) (Kd.Zi (p := ⟨J1, 2, none⟩) (Kd.Zi (p := ⟨J1, 1, none⟩) (Kd.Zi (p := ⟨J1, 0, none⟩) (Kd.Xa HL356_10.out (fun k_ hk => (⟨hk, hk.2⟩ : _ ∧ k_ ≠ J1))) (fun _ hk => hk.2) (.int .i64 ((Zc y353 J0).f0))) (fun _ hk => hk.2) (.int .i64 ((Zc y353 J0).f1.f0))) (fun _ hk => hk.2) (.int .i64 ((Zc y353 J0).f1.f1))) (fun _ hk => hk.2) (.bool ((Zc y353 J0).f1.f2))) (fun _ hk => hk.2) (.int .i64 ((Zc y353 J0).f1.f3.f0))) (fun _ hk => hk.2) (.int .u64 ((Zc y353 J0).f1.f3.f1))) (fun _ hk => hk.2) (.int .u64 ((Zc y353 J0).f1.f3.f2))) (fun _ hk => hk.2) (.int .i64 ((Zc y353 J0).f1.f4))) (fun _ hk => hk.2) (.bool ((Zc y353 J0).f1.f5))) (fun _ hk => hk.2) (.int .i64 ((Zc y353 J0).f1.f6))) (fun _ hk => hk.2) (.slice A356_10 ((Zc y353 J0).f1.f7).length c356_10)) (fun _ hk => hk.2) (.int .i64 ((Zc y353 J0).f2))) (fun _ hk => hk.2) (.int .i64 ((Zc y353 J0).f3))) (fun _ hk => hk.2) (.slice A356_13 ((Zc y353 J0).f4).length c356_13)) (fun _ h_ => h_.1))) hb); have n6_ := Zd.mk (Kd.Xl (by (with_reducible repeat (first | apply Kd.V_alloc | apply Kd.V_drewN | apply Kd.Xp)); exact (Kd.Xa (Kd.Zi (p := ⟨J1, 13, none⟩) (Kd.Zi (p := ⟨J1, 12, none⟩) (Kd.Zi (p := ⟨J1, 11, none⟩) (Kd.Zi (p := ⟨J1, 10, none⟩) (Kd.Zi (p := ⟨J1, 9, none⟩) (Kd.Zi (p := ⟨J1, 8, none⟩) (Kd.Zi (p := ⟨J1, 7, none⟩) (Kd.Zi (p := ⟨J1, 6, none⟩) (Kd.Zi (p := ⟨J1, 5, none⟩) (Kd.Zi (p := ⟨J1, 4, none⟩) (Kd.Zi (p := ⟨J1, 3, none⟩) (Kd.Zi (p := ⟨J1, 2, none⟩) (Kd.Zi (p := ⟨J1, 1, none⟩) (Kd.Zi (p := ⟨J1, 0, none⟩) (Kd.Xa HL356_13.out (fun k_ hk => (⟨hk, hk.2⟩ : _ ∧ k_ ≠ J1))) (fun _ hk => hk.2) (.int .i64 ((Zc y353 J0).f0))) (fun _ hk => hk.2) (.int .i64 ((Zc y353 J0).f1.f0))) (fun _ hk => hk.2) (.int .i64 ((Zc y353 J0).f1.f1))) (fun _ hk => hk.2) (.bool ((Zc y353 J0).f1.f2))) (fun _ hk => hk.2) (.int .i64 ((Zc y353 J0).f1.f3.f0))) (fun _ hk => hk.2) (.int .u64 ((Zc y353 J0).f1.f3.f1))) (fun _ hk => hk.2) (.int .u64 ((Zc y353 J0).f1.f3.f2))) (fun _ hk => hk.2) (.int .i64 ((Zc y353 J0).f1.f4))) (fun _ hk => hk.2) (.bool ((Zc y353 J0).f1.f5))) (fun _ hk => hk.2) (.int .i64 ((Zc y353 J0).f1.f6))) (fun _ hk => hk.2) (.slice A356_10 ((Zc y353 J0).f1.f7).length c356_10)) (fun _ hk => hk.2) (.int .i64 ((Zc y353 J0).f2))) (fun _ hk => hk.2) (.int .i64 ((Zc y353 J0).f3))) (fun _ hk => hk.2) (.slice A356_13 ((Zc y353 J0).f4).length c356_13)) (fun _ h_ => h_.1))) hb); have n7_ := Zd.mk (Zp (g := J3) (o := .cells #[.string JD, .int .i64 JC, .int .i64 Jz, .int .i64 Jy, .int .i64 Jx, .bool Jv, .int .i64 Ju, .int .u64 Jt, .int .u64 Js, .int .i64 Jr, .bool Jq, .int .i64 Jp, .slice A0_12 J8.length c0_12, .int .i64 Jo, .int .i64 Jn, .slice A0_15 J7.length c0_15, .int .i64 Jm, .int .i64 Jl, .int .i64 Jk, .bool Jj, .int .i64 Jh, .int .u64 Jg, .int .u64 Jf, .int .i64 Je, .bool Jd, .int .i64 Jb, .slice A0_26 J6.length c0_26, .int .i64 Ja, .int .i64 J9, .slice A0_29 J5.length c0_29, .bool JB, .int .i64 JA] 32 (0, 0)) (by (with_reducible repeat (first | refine Zf ?_ _ | refine Zg ?_ | refine Ze ?_ _)); refine Zm ?_ NB352_357.out _; (with_reducible repeat (first | refine Zf ?_ _ | refine Zg ?_ | refine Ze ?_ _)); refine Zm ?_ NB352_357.out _; (with_reducible repeat (first | refine Zf ?_ _ | refine Zg ?_ | refine Ze ?_ _)); refine Zm ?_ NB352_357.out _; (with_reducible repeat (first | refine Zf ?_ _ | refine Zg ?_ | refine Ze ?_ _)); refine Zm ?_ NB352_357.out _; (with_reducible repeat (first | refine Zf ?_ _ | refine Zg ?_ | refine Ze ?_ _)); refine Zm ?_ NB352_357.out _; (with_reducible repeat (first | refine Zf ?_ _ | refine Zg ?_ | refine Ze ?_ _)); refine Zm ?_ NB352_357.out _; (with_reducible repeat (first | refine Zf ?_ _ | refine Zg ?_ | refine Ze ?_ _)); refine Zm ?_ NB352_357.out _; (with_reducible repeat (first | refine Zf ?_ _ | refine Zg ?_ | refine Ze ?_ _)); refine Zm ?_ NB352_357.out _; (with_reducible repeat (first | refine Zf ?_ _ | refine Zg ?_ | refine Ze ?_ _)); refine Zm ?_ NB352_357.out _; (with_reducible repeat (first | refine Zf ?_ _ | refine Zg ?_ | refine Ze ?_ _)); refine Zm ?_ NB352_357.out _; (with_reducible repeat (first | refine Zf ?_ _ | refine Zg ?_ | refine Ze ?_ _)); refine Zm ?_ NB352_357.out _; (with_reducible repeat (first | refine Zf ?_ _ | refine Zg ?_ | refine Ze ?_ _)); refine Zm ?_ NB352_357.out _; (with_reducible repeat (first | refine Zf ?_ _ | refine Zg ?_ | refine Ze ?_ _)); refine Zm ?_ NB352_357.out _; (with_reducible repeat (first | refine Zf ?_ _ | refine Zg ?_ | refine Ze ?_ _)); refine Zm ?_ NB352_357.out _; (with_reducible repeat (first | refine Zf ?_ _ | refine Zg ?_ | refine Ze ?_ _)); exact J2.out) hb); have n8_ := Zd.mk (Kd.Zw ((Kd.Xw (by (with_reducible repeat (first | apply Kd.V_alloc | apply Kd.V_drewN | apply Kd.Xp)); exact (Kd.Xa (Kd.Zi (p := ⟨J1, 13, none⟩) (Kd.Zi (p := ⟨J1, 12, none⟩) (Kd.Zi (p := ⟨J1, 11, none⟩) (Kd.Zi (p := ⟨J1, 10, none⟩) (Kd.Zi (p := ⟨J1, 9, none⟩) (Kd.Zi (p := ⟨J1, 8, none⟩) (Kd.Zi (p := ⟨J1, 7, none⟩) (Kd.Zi (p := ⟨J1, 6, none⟩) (Kd.Zi (p := ⟨J1, 5, none⟩) (Kd.Zi (p := ⟨J1, 4, none⟩) (Kd.Zi (p := ⟨J1, 3, none⟩) (Kd.Zi (p := ⟨J1, 2, none⟩) (Kd.Zi (p := ⟨J1, 1, none⟩) (Kd.Zi (p := ⟨J1, 0, none⟩) (Kd.Xa HL356_10.out (fun k_ hk => (⟨hk, hk.2⟩ : _ ∧ k_ ≠ J1))) (fun _ hk => hk.2) (.int .i64 ((Zc y353 J0).f0))) (fun _ hk => hk.2) (.int .i64 ((Zc y353 J0).f1.f0))) (fun _ hk => hk.2) (.int .i64 ((Zc y353 J0).f1.f1))) (fun _ hk => hk.2) (.bool ((Zc y353 J0).f1.f2))) (fun _ hk => hk.2) (.int .i64 ((Zc y353 J0).f1.f3.f0))) (fun _ hk => hk.2) (.int .u64 ((Zc y353 J0).f1.f3.f1))) (fun _ hk => hk.2) (.int .u64 ((Zc y353 J0).f1.f3.f2))) (fun _ hk => hk.2) (.int .i64 ((Zc y353 J0).f1.f4))) (fun _ hk => hk.2) (.bool ((Zc y353 J0).f1.f5))) (fun _ hk => hk.2) (.int .i64 ((Zc y353 J0).f1.f6))) (fun _ hk => hk.2) (.slice A356_10 ((Zc y353 J0).f1.f7).length c356_10)) (fun _ hk => hk.2) (.int .i64 ((Zc y353 J0).f2))) (fun _ hk => hk.2) (.int .i64 ((Zc y353 J0).f3))) (fun _ hk => hk.2) (.slice A356_13 ((Zc y353 J0).f4).length c356_13)) (fun _ h_ => h_.1)))).2.2) hb); have n9_ := Zd.mk (Kd.Zw ((Kd.Xw (by (with_reducible repeat (first | apply Kd.V_alloc | apply Kd.V_drewN | apply Kd.Xp)); exact (Kd.Xa (Kd.Zi (p := ⟨J1, 13, none⟩) (Kd.Zi (p := ⟨J1, 12, none⟩) (Kd.Zi (p := ⟨J1, 11, none⟩) (Kd.Zi (p := ⟨J1, 10, none⟩) (Kd.Zi (p := ⟨J1, 9, none⟩) (Kd.Zi (p := ⟨J1, 8, none⟩) (Kd.Zi (p := ⟨J1, 7, none⟩) (Kd.Zi (p := ⟨J1, 6, none⟩) (Kd.Zi (p := ⟨J1, 5, none⟩) (Kd.Zi (p := ⟨J1, 4, none⟩) (Kd.Zi (p := ⟨J1, 3, none⟩) (Kd.Zi (p := ⟨J1, 2, none⟩) (Kd.Zi (p := ⟨J1, 1, none⟩) (Kd.Zi (p := ⟨J1, 0, none⟩) (Kd.Xa HL356_13.out (fun k_ hk => (⟨hk, hk.2⟩ : _ ∧ k_ ≠ J1))) (fun _ hk => hk.2) (.int .i64 ((Zc y353 J0).f0))) (fun _ hk => hk.2) (.int .i64 ((Zc y353 J0).f1.f0))) (fun _ hk => hk.2) (.int .i64 ((Zc y353 J0).f1.f1))) (fun _ hk => hk.2) (.bool ((Zc y353 J0).f1.f2))) (fun _ hk => hk.2) (.int .i64 ((Zc y353 J0).f1.f3.f0))) (fun _ hk => hk.2) (.int .u64 ((Zc y353 J0).f1.f3.f1))) (fun _ hk => hk.2) (.int .u64 ((Zc y353 J0).f1.f3.f2))) (fun _ hk => hk.2) (.int .i64 ((Zc y353 J0).f1.f4))) (fun _ hk => hk.2) (.bool ((Zc y353 J0).f1.f5))) (fun _ hk => hk.2) (.int .i64 ((Zc y353 J0).f1.f6))) (fun _ hk => hk.2) (.slice A356_10 ((Zc y353 J0).f1.f7).length c356_10)) (fun _ hk => hk.2) (.int .i64 ((Zc y353 J0).f2))) (fun _ hk => hk.2) (.int .i64 ((Zc y353 J0).f3))) (fun _ hk => hk.2) (.slice A356_13 ((Zc y353 J0).f4).length c356_13)) (fun _ h_ => h_.1)))).2.2) hb); have n10_ := Zd.mk (Zp (g := J1) (o := .cells #[.int .i64 ((Zc y353 J0).f0), .int .i64 ((Zc y353 J0).f1.f0), .int .i64 ((Zc y353 J0).f1.f1), .bool ((Zc y353 J0).f1.f2), .int .i64 ((Zc y353 J0).f1.f3.f0), .int .u64 ((Zc y353 J0).f1.f3.f1), .int .u64 ((Zc y353 J0).f1.f3.f2), .int .i64 ((Zc y353 J0).f1.f4), .bool ((Zc y353 J0).f1.f5), .int .i64 ((Zc y353 J0).f1.f6), .slice A356_10 ((Zc y353 J0).f1.f7).length c356_10, .int .i64 ((Zc y353 J0).f2), .int .i64 ((Zc y353 J0).f3), .slice A356_13 ((Zc y353 J0).f4).length c356_13] 30 (0, 0)) (by (with_reducible repeat (first | refine Zf ?_ _ | refine Zg ?_ | refine Ze ?_ _)); refine Zk (cs := #[.int .i64 ((Zc y353 J0).f0), .int .i64 ((Zc y353 J0).f1.f0), .int .i64 ((Zc y353 J0).f1.f1), .bool ((Zc y353 J0).f1.f2), .int .i64 ((Zc y353 J0).f1.f3.f0), .int .u64 ((Zc y353 J0).f1.f3.f1), .int .u64 ((Zc y353 J0).f1.f3.f2), .int .i64 ((Zc y353 J0).f1.f4), .bool ((Zc y353 J0).f1.f5), .int .i64 ((Zc y353 J0).f1.f6), .slice A356_10 ((Zc y353 J0).f1.f7).length c356_10, .int .i64 ((Zc y353 J0).f2), .int .i64 ((Zc y353 J0).f3), .slice none 0 0]) ?_ 13 _ rfl; (with_reducible repeat (first | refine Zf ?_ _ | refine Zg ?_ | refine Ze ?_ _)); refine Zk (cs := #[.int .i64 ((Zc y353 J0).f0), .int .i64 ((Zc y353 J0).f1.f0), .int .i64 ((Zc y353 J0).f1.f1), .bool ((Zc y353 J0).f1.f2), .int .i64 ((Zc y353 J0).f1.f3.f0), .int .u64 ((Zc y353 J0).f1.f3.f1), .int .u64 ((Zc y353 J0).f1.f3.f2), .int .i64 ((Zc y353 J0).f1.f4), .bool ((Zc y353 J0).f1.f5), .int .i64 ((Zc y353 J0).f1.f6), .slice A356_10 ((Zc y353 J0).f1.f7).length c356_10, .int .i64 ((Zc y353 J0).f2), .int .i64 0, .slice none 0 0]) ?_ 12 _ rfl; (with_reducible repeat (first | refine Zf ?_ _ | refine Zg ?_ | refine Ze ?_ _)); refine Zk (cs := #[.int .i64 ((Zc y353 J0).f0), .int .i64 ((Zc y353 J0).f1.f0), .int .i64 ((Zc y353 J0).f1.f1), .bool ((Zc y353 J0).f1.f2), .int .i64 ((Zc y353 J0).f1.f3.f0), .int .u64 ((Zc y353 J0).f1.f3.f1), .int .u64 ((Zc y353 J0).f1.f3.f2), .int .i64 ((Zc y353 J0).f1.f4), .bool ((Zc y353 J0).f1.f5), .int .i64 ((Zc y353 J0).f1.f6), .slice A356_10 ((Zc y353 J0).f1.f7).length c356_10, .int .i64 0, .int .i64 0, .slice none 0 0]) ?_ 11 _ rfl; (with_reducible repeat (first | refine Zf ?_ _ | refine Zg ?_ | refine Ze ?_ _)); refine Zk (cs := #[.int .i64 ((Zc y353 J0).f0), .int .i64 ((Zc y353 J0).f1.f0), .int .i64 ((Zc y353 J0).f1.f1), .bool ((Zc y353 J0).f1.f2), .int .i64 ((Zc y353 J0).f1.f3.f0), .int .u64 ((Zc y353 J0).f1.f3.f1), .int .u64 ((Zc y353 J0).f1.f3.f2), .int .i64 ((Zc y353 J0).f1.f4), .bool ((Zc y353 J0).f1.f5), .int .i64 ((Zc y353 J0).f1.f6), .slice none 0 0, .int .i64 0, .int .i64 0, .slice none 0 0]) ?_ 10 _ rfl; (with_reducible repeat (first | refine Zf ?_ _ | refine Zg ?_ | refine Ze ?_ _)); refine Zk (cs := #[.int .i64 ((Zc y353 J0).f0), .int .i64 ((Zc y353 J0).f1.f0), .int .i64 ((Zc y353 J0).f1.f1), .bool ((Zc y353 J0).f1.f2), .int .i64 ((Zc y353 J0).f1.f3.f0), .int .u64 ((Zc y353 J0).f1.f3.f1), .int .u64 ((Zc y353 J0).f1.f3.f2), .int .i64 ((Zc y353 J0).f1.f4), .bool ((Zc y353 J0).f1.f5), .int .i64 0, .slice none 0 0, .int .i64 0, .int .i64 0, .slice none 0 0]) ?_ 9 _ rfl; (with_reducible repeat (first | refine Zf ?_ _ | refine Zg ?_ | refine Ze ?_ _)); refine Zk (cs := #[.int .i64 ((Zc y353 J0).f0), .int .i64 ((Zc y353 J0).f1.f0), .int .i64 ((Zc y353 J0).f1.f1), .bool ((Zc y353 J0).f1.f2), .int .i64 ((Zc y353 J0).f1.f3.f0), .int .u64 ((Zc y353 J0).f1.f3.f1), .int .u64 ((Zc y353 J0).f1.f3.f2), .int .i64 ((Zc y353 J0).f1.f4), .bool false, .int .i64 0, .slice none 0 0, .int .i64 0, .int .i64 0, .slice none 0 0]) ?_ 8 _ rfl; (with_reducible repeat (first | refine Zf ?_ _ | refine Zg ?_ | refine Ze ?_ _)); refine Zk (cs := #[.int .i64 ((Zc y353 J0).f0), .int .i64 ((Zc y353 J0).f1.f0), .int .i64 ((Zc y353 J0).f1.f1), .bool ((Zc y353 J0).f1.f2), .int .i64 ((Zc y353 J0).f1.f3.f0), .int .u64 ((Zc y353 J0).f1.f3.f1), .int .u64 ((Zc y353 J0).f1.f3.f2), .int .i64 0, .bool false, .int .i64 0, .slice none 0 0, .int .i64 0, .int .i64 0, .slice none 0 0]) ?_ 7 _ rfl; (with_reducible repeat (first | refine Zf ?_ _ | refine Zg ?_ | refine Ze ?_ _)); refine Zk (cs := #[.int .i64 ((Zc y353 J0).f0), .int .i64 ((Zc y353 J0).f1.f0), .int .i64 ((Zc y353 J0).f1.f1), .bool ((Zc y353 J0).f1.f2), .int .i64 ((Zc y353 J0).f1.f3.f0), .int .u64 ((Zc y353 J0).f1.f3.f1), .int .u64 0, .int .i64 0, .bool false, .int .i64 0, .slice none 0 0, .int .i64 0, .int .i64 0, .slice none 0 0]) ?_ 6 _ rfl; (with_reducible repeat (first | refine Zf ?_ _ | refine Zg ?_ | refine Ze ?_ _)); refine Zk (cs := #[.int .i64 ((Zc y353 J0).f0), .int .i64 ((Zc y353 J0).f1.f0), .int .i64 ((Zc y353 J0).f1.f1), .bool ((Zc y353 J0).f1.f2), .int .i64 ((Zc y353 J0).f1.f3.f0), .int .u64 0, .int .u64 0, .int .i64 0, .bool false, .int .i64 0, .slice none 0 0, .int .i64 0, .int .i64 0, .slice none 0 0]) ?_ 5 _ rfl; (with_reducible repeat (first | refine Zf ?_ _ | refine Zg ?_ | refine Ze ?_ _)); refine Zk (cs := #[.int .i64 ((Zc y353 J0).f0), .int .i64 ((Zc y353 J0).f1.f0), .int .i64 ((Zc y353 J0).f1.f1), .bool ((Zc y353 J0).f1.f2), .int .i64 0, .int .u64 0, .int .u64 0, .int .i64 0, .bool false, .int .i64 0, .slice none 0 0, .int .i64 0, .int .i64 0, .slice none 0 0]) ?_ 4 _ rfl; (with_reducible repeat (first | refine Zf ?_ _ | refine Zg ?_ | refine Ze ?_ _)); refine Zk (cs := #[.int .i64 ((Zc y353 J0).f0), .int .i64 ((Zc y353 J0).f1.f0), .int .i64 ((Zc y353 J0).f1.f1), .bool false, .int .i64 0, .int .u64 0, .int .u64 0, .int .i64 0, .bool false, .int .i64 0, .slice none 0 0, .int .i64 0, .int .i64 0, .slice none 0 0]) ?_ 3 _ rfl; (with_reducible repeat (first | refine Zf ?_ _ | refine Zg ?_ | refine Ze ?_ _)); refine Zk (cs := #[.int .i64 ((Zc y353 J0).f0), .int .i64 ((Zc y353 J0).f1.f0), .int .i64 0, .bool false, .int .i64 0, .int .u64 0, .int .u64 0, .int .i64 0, .bool false, .int .i64 0, .slice none 0 0, .int .i64 0, .int .i64 0, .slice none 0 0]) ?_ 2 _ rfl; (with_reducible repeat (first | refine Zf ?_ _ | refine Zg ?_ | refine Ze ?_ _)); refine Zk (cs := #[.int .i64 ((Zc y353 J0).f0), .int .i64 0, .int .i64 0, .bool false, .int .i64 0, .int .u64 0, .int .u64 0, .int .i64 0, .bool false, .int .i64 0, .slice none 0 0, .int .i64 0, .int .i64 0, .slice none 0 0]) ?_ 1 _ rfl; (with_reducible repeat (first | refine Zf ?_ _ | refine Zg ?_ | refine Ze ?_ _)); refine Zk (cs := #[.int .i64 0, .int .i64 0, .int .i64 0, .bool false, .int .i64 0, .int .u64 0, .int .u64 0, .int .i64 0, .bool false, .int .i64 0, .slice none 0 0, .int .i64 0, .int .i64 0, .slice none 0 0]) ?_ 0 _ rfl; (with_reducible repeat (first | refine Zf ?_ _ | refine Zg ?_ | refine Ze ?_ _)); exact J4.out) hb); have n11_ := Zd.mk (Zj (by repeat (first | (with_reducible first | exact HB.out | apply Xm | apply Xi | apply Xj | refine Xc ?_ GE352.out | refine Xc ?_ GE357.out) | exact HB.out)) hb); clear HO_10; clear HO_353012; clear HO_353015; clear HO_353026; clear HO_353029; clear HL356_10; clear HL356_13; clear J2; clear HR356_10; clear HR356_13; clear J4; clear HB; have HO_10 := n0_; have HO_353012 := n1_; have HO_353015 := n2_; have HO_353026 := n3_; have HO_353029 := n4_; have HL356_10 := n5_; have HL356_13 := n6_; have J2 := n7_; have HR356_10 := n8_; have HR356_13 := n9_; have J4 := n10_; have HB := n11_; clear n0_ n1_ n2_ n3_ n4_ n5_ n6_ n7_ n8_ n9_ n10_ n11_; (try clear hb); (try clear hb2); (try clear hk); (try clear hi)))
       go_ret
       exact ⟨by first | rfl | (simp [errW_none, errW_some] <;> rfl) | (simp [*, errW_none, errW_some] <;> rfl), HB.out⟩
     ·rw [if_neg c9] at H
      exact absurd H (by simp)
    ·rw [if_neg c8] at H
     exact absurd H (by simp)
   ·rw [if_neg c7] at H
    have c7b0 : decide (J0 < (y353.length : Int)) = false := decide_eq_false c7
    clear c7
    replace H := Option.bind_eq_some_iff.mp H
    obtain ⟨t359, A200, H⟩ := H
    replace H : ((Kz.f k1 Jm Jl Jk Jj Jh Jg Jf Je Jd Jb J6 Ja J9 J5).bind fun t360 => (if (wrap64 (t359 + t360)) > 12 then (some 3) else (some 0))) = some r := H
    have A20 := Zd.mk A200
    clear A200
    replace H := Option.bind_eq_some_iff.mp H
    obtain ⟨t360, A210, H⟩ := H
    replace H : (if (wrap64 (t359 + t360)) > 12 then (some 3) else (some 0)) = some r := H
    have A21 := Zd.mk A210
    clear A210
    by_cases c22 : (wrap64 (t359 + t360)) > 12
    ·rw [if_pos c22] at H
     have c22b0 : decide (12 < (wrap64 (t359 + t360))) = true := decide_eq_true c22
     clear c22
     obtain rfl := Option.some.inj H
     try go_wp2
     have n0_ := Zd.mk (Kd.Vg HO_10.out)
     have n1_ := Zd.mk (Kd.Xp HO_353012.out)
     have n2_ := Zd.mk (Kd.Xp HO_353015.out)
     have n3_ := Zd.mk (Kd.Xp HO_353026.out)
     have n4_ := Zd.mk (Kd.Xp HO_353029.out)
     have n5_ := Zd.mk (Zg J2.out)
     have n6_ := Zd.mk (Xj HB.out)
     clear HO_10
     clear HO_353012
     clear HO_353015
     clear HO_353026
     clear HO_353029
     clear J2
     clear HB
     have HO_10 := n0_
     have HO_353012 := n1_
     have HO_353015 := n2_
     have HO_353026 := n3_
     have HO_353029 := n4_
     have J2 := n5_
     have HB := n6_
     clear n0_ n1_ n2_ n3_ n4_ n5_ n6_
     refine start_ (n := 8) (S := fun w' => w'.cell? ⟨J3, 0, none⟩ = some (.string JD) ∧ w'.cell? ⟨J3, 1, none⟩ = some (.int .i64 JC) ∧ w'.cell? ⟨J3, 2, none⟩ = some (.int .i64 Jz) ∧ w'.cell? ⟨J3, 3, none⟩ = some (.int .i64 Jy) ∧ w'.cell? ⟨J3, 4, none⟩ = some (.int .i64 Jx) ∧ w'.cell? ⟨J3, 5, none⟩ = some (.bool Jv) ∧ w'.cell? ⟨J3, 6, none⟩ = some (.int .i64 Ju) ∧ w'.cell? ⟨J3, 7, none⟩ = some (.int .u64 Jt) ∧ w'.cell? ⟨J3, 8, none⟩ = some (.int .u64 Js) ∧ w'.cell? ⟨J3, 9, none⟩ = some (.int .i64 Jr) ∧ w'.cell? ⟨J3, 10, none⟩ = some (.bool Jq) ∧ w'.cell? ⟨J3, 11, none⟩ = some (.int .i64 Jp) ∧ w'.cell? ⟨J3, 12, none⟩ = some (.slice A0_12 J8.length c0_12) ∧ w'.cell? ⟨J3, 13, none⟩ = some (.int .i64 Jo) ∧ w'.cell? ⟨J3, 14, none⟩ = some (.int .i64 Jn) ∧ w'.cell? ⟨J3, 15, none⟩ = some (.slice A0_15 J7.length c0_15) ∧ w'.cell? ⟨J3, 16, none⟩ = some (.int .i64 Jm) ∧ w'.cell? ⟨J3, 17, none⟩ = some (.int .i64 Jl) ∧ w'.cell? ⟨J3, 18, none⟩ = some (.int .i64 Jk) ∧ w'.cell? ⟨J3, 19, none⟩ = some (.bool Jj) ∧ w'.cell? ⟨J3, 20, none⟩ = some (.int .i64 Jh) ∧ w'.cell? ⟨J3, 21, none⟩ = some (.int .u64 Jg) ∧ w'.cell? ⟨J3, 22, none⟩ = some (.int .u64 Jf) ∧ w'.cell? ⟨J3, 23, none⟩ = some (.int .i64 Je) ∧ w'.cell? ⟨J3, 24, none⟩ = some (.bool Jd) ∧ w'.cell? ⟨J3, 25, none⟩ = some (.int .i64 Jb) ∧ w'.cell? ⟨J3, 26, none⟩ = some (.slice A0_26 J6.length c0_26) ∧ w'.cell? ⟨J3, 27, none⟩ = some (.int .i64 Ja) ∧ w'.cell? ⟨J3, 28, none⟩ = some (.int .i64 J9) ∧ w'.cell? ⟨J3, 29, none⟩ = some (.slice A0_29 J5.length c0_29) ∧ w'.cell? ⟨J3, 30, none⟩ = some (.bool JB) ∧ w'.cell? ⟨J3, 31, none⟩ = some (.int .i64 JA)) (ds := []) #[false, false, false, false, false, false, false, false] (by kernel_rfl) rfl rfl ⟨(Za J2.out 0).trans rfl, (Za J2.out 1).trans rfl, (Za J2.out 2).trans rfl, (Za J2.out 3).trans rfl, (Za J2.out 4).trans rfl, (Za J2.out 5).trans rfl, (Za J2.out 6).trans rfl, (Za J2.out 7).trans rfl, (Za J2.out 8).trans rfl, (Za J2.out 9).trans rfl, (Za J2.out 10).trans rfl, (Za J2.out 11).trans rfl, (Za J2.out 12).trans rfl, (Za J2.out 13).trans rfl, (Za J2.out 14).trans rfl, (Za J2.out 15).trans rfl, (Za J2.out 16).trans rfl, (Za J2.out 17).trans rfl, (Za J2.out 18).trans rfl, (Za J2.out 19).trans rfl, (Za J2.out 20).trans rfl, (Za J2.out 21).trans rfl, (Za J2.out 22).trans rfl, (Za J2.out 23).trans rfl, (Za J2.out 24).trans rfl, (Za J2.out 25).trans rfl, (Za J2.out 26).trans rfl, (Za J2.out 27).trans rfl, (Za J2.out 28).trans rfl, (Za J2.out 29).trans rfl, (Za J2.out 30).trans rfl, (Za J2.out 31).trans rfl⟩ (fun hHeld => ?_); refine Ji Zr.tab8 Zr.bits8 (fun HT_ HW_ => ?_)
     generalize wr.drew = w23 at HO_10 HO_353012 HO_353015 HO_353026 HO_353029 J2 HB hHeld ⊢
     refine Qe (i := 0) (N := some 22) (v := ?_) (a' := ?_) #[true, false, false, false, false, false, false, false] rfl rfl (Xu HT_.out (by kernel_rfl)) (fun _ _ _ h => h) (Or.inl ⟨by rfl, ?_⟩) ?_ ?_
     rotate_left
     ·intro w'
      go_simp
      with_reducible rfl
     rotate_left
     ·simp only [Act.put, List.setIfInBounds_toArray, List.set_cons_zero, List.set_cons_succ, Xk]
      rfl
     refine Qe (i := 3) (N := some 25) (v := ?_) (a' := ?_) #[true, false, false, true, false, false, false, false] rfl rfl (Xu HT_.out (by kernel_rfl)) (fun _ _ _ h => h) (Or.inl ⟨by rfl, ?_⟩) ?_ ?_
     rotate_left
     ·intro w'
      go_simp
      with_reducible rfl
     rotate_left
     ·simp only [Act.put, List.setIfInBounds_toArray, List.set_cons_zero, List.set_cons_succ, Xk]
      rfl
     refine Vx (i := 1) (N := some 23) (v := ?_) (a' := ?_) #[true, true, false, true, false, false, false, false] rfl rfl (Ql HT_.out HW_.out (by kernel_rfl)) (fun _ _ _ h => h) (Or.inl ⟨by rfl, ?_⟩) hHeld ?_ ?_
     rotate_left
     ·rintro w' ⟨s0, s1, s2, s3, s4, s5, s6, s7, s8, s9, s10, s11, s12, s13, s14, s15, s16, s17, s18, s19, s20, s21, s22, s23, s24, s25, s26, s27, s28, s29, s30, s31⟩
      go_simp
      with_reducible rfl
     rotate_left
     ·simp only [Act.put, List.setIfInBounds_toArray, List.set_cons_zero, List.set_cons_succ, Xk]
      rfl
     refine Vx (i := 4) (N := some 26) (v := ?_) (a' := ?_) #[true, true, false, true, true, false, false, false] rfl rfl (Ql HT_.out HW_.out (by kernel_rfl)) (fun _ _ _ h => h) (Or.inl ⟨by rfl, ?_⟩) hHeld ?_ ?_
     rotate_left
     ·rintro w' ⟨s0, s1, s2, s3, s4, s5, s6, s7, s8, s9, s10, s11, s12, s13, s14, s15, s16, s17, s18, s19, s20, s21, s22, s23, s24, s25, s26, s27, s28, s29, s30, s31⟩
      go_simp
      with_reducible rfl
     rotate_left
     ·simp only [Act.put, List.setIfInBounds_toArray, List.set_cons_zero, List.set_cons_succ, Xk]
      rfl
     refine one_ (i := 2) (N := some 24) #[true, true, true, true, true, false, false, false] rfl rfl (Vt HT_.out (by kernel_rfl)) (by decide) (fun K hK => ?_)
     refine Wp Try.func25 (by kernel_rfl) rfl #[.agg #[.int .i64 Jz, .int .i64 Jy, .int .i64 Jx, .bool Jv, .int .i64 Ju, .int .u64 Jt, .int .u64 Js, .int .i64 Jr, .bool Jq, .int .i64 Jp, .slice A0_12 J8.length c0_12, .int .i64 Jo, .int .i64 Jn, .slice A0_15 J7.length c0_15]] (by rfl) rfl rfl (by (try simp only [List.map_toArray, List.map_cons, List.map_nil]); first | done | rfl | (simp only [List.length_drop, List.length_take]; rfl)) ?_
     with_reducible refine (Kz.calls k1 Jz Jy Jx Jv Ju Jt Js Jr Jq Jp _ _ J8 Jo Jn _ _ J7 t359 _ ?side1 ?side2 ?side3 ?side4 A20.out).mono ?_
     (case side1 => repeat (first | exact (Kd.Xw HO_353012.out).2.2 | (with_reducible refine Kd.C_alloc ?_ _) | (with_reducible refine Kd.C_drewN ?_ _) | (with_reducible refine Kd.C_drew ?_)))
     (case side2 => exact (Kd.Xw HO_353012.out).2.1)
     (case side3 => repeat (first | exact (Kd.Xw HO_353015.out).2.2 | (with_reducible refine Kd.C_alloc ?_ _) | (with_reducible refine Kd.C_drewN ?_ _) | (with_reducible refine Kd.C_drew ?_)))
     (case side4 => exact (Kd.Xw HO_353015.out).2.1)
     rintro e w24 ⟨rfl, hb⟩
     refine ⟨_, rfl, ?_⟩
     have n0_ := Zd.mk (Kd.Kr HO_10.out hb)
     have n1_ := Zd.mk (Kd.Xl HO_353012.out hb)
     have n2_ := Zd.mk (Kd.Xl HO_353015.out hb)
     have n3_ := Zd.mk (Kd.Xl HO_353026.out hb)
     have n4_ := Zd.mk (Kd.Xl HO_353029.out hb)
     have n5_ := Zd.mk (Zp J2.out hb)
     have n6_ := Zd.mk (Zj HB.out hb)
     clear HO_10
     clear HO_353012
     clear HO_353015
     clear HO_353026
     clear HO_353029
     clear J2
     clear HB
     have HO_10 := n0_
     have HO_353012 := n1_
     have HO_353015 := n2_
     have HO_353026 := n3_
     have HO_353029 := n4_
     have J2 := n5_
     have HB := n6_
     clear n0_ n1_ n2_ n3_ n4_ n5_ n6_
     (try clear hb)
     (try clear hb2)
     (try clear hk)
     (try clear hi)
     refine hK.out _ _ ⟨(Za J2.out 0).trans rfl, (Za J2.out 1).trans rfl, (Za J2.out 2).trans rfl, (Za J2.out 3).trans rfl, (Za J2.out 4).trans rfl, (Za J2.out 5).trans rfl, (Za J2.out 6).trans rfl, (Za J2.out 7).trans rfl, (Za J2.out 8).trans rfl, (Za J2.out 9).trans rfl, (Za J2.out 10).trans rfl, (Za J2.out 11).trans rfl, (Za J2.out 12).trans rfl, (Za J2.out 13).trans rfl, (Za J2.out 14).trans rfl, (Za J2.out 15).trans rfl, (Za J2.out 16).trans rfl, (Za J2.out 17).trans rfl, (Za J2.out 18).trans rfl, (Za J2.out 19).trans rfl, (Za J2.out 20).trans rfl, (Za J2.out 21).trans rfl, (Za J2.out 22).trans rfl, (Za J2.out 23).trans rfl, (Za J2.out 24).trans rfl, (Za J2.out 25).trans rfl, (Za J2.out 26).trans rfl, (Za J2.out 27).trans rfl, (Za J2.out 28).trans rfl, (Za J2.out 29).trans rfl, (Za J2.out 30).trans rfl, (Za J2.out 31).trans rfl⟩ (fun hHeld => ?_)
     clear hK K
     refine Jw (a' := ?_) ?_ ?_
     rotate_left
     ·show Act.put _ (some 24) _ = _
      simp only [Act.put, List.setIfInBounds_toArray, List.set_cons_zero, List.set_cons_succ, Xk]
      rfl
     refine one_ (i := 5) (N := some 27) #[true, true, true, true, true, true, false, false] rfl rfl (Vt HT_.out (by kernel_rfl)) (by decide) (fun K hK => ?_)
     refine Wp Try.func25 (by kernel_rfl) rfl #[.agg #[.int .i64 Jm, .int .i64 Jl, .int .i64 Jk, .bool Jj, .int .i64 Jh, .int .u64 Jg, .int .u64 Jf, .int .i64 Je, .bool Jd, .int .i64 Jb, .slice A0_26 J6.length c0_26, .int .i64 Ja, .int .i64 J9, .slice A0_29 J5.length c0_29]] (by rfl) rfl rfl (by (try simp only [List.map_toArray, List.map_cons, List.map_nil]); first | done | rfl | (simp only [List.length_drop, List.length_take]; rfl)) ?_
     with_reducible refine (Kz.calls k1 Jm Jl Jk Jj Jh Jg Jf Je Jd Jb _ _ J6 Ja J9 _ _ J5 t360 _ ?side1 ?side2 ?side3 ?side4 A21.out).mono ?_
     (case side1 => repeat (first | exact (Kd.Xw HO_353026.out).2.2 | (with_reducible refine Kd.C_alloc ?_ _) | (with_reducible refine Kd.C_drewN ?_ _) | (with_reducible refine Kd.C_drew ?_)))
     (case side2 => exact (Kd.Xw HO_353026.out).2.1)
     (case side3 => repeat (first | exact (Kd.Xw HO_353029.out).2.2 | (with_reducible refine Kd.C_alloc ?_ _) | (with_reducible refine Kd.C_drewN ?_ _) | (with_reducible refine Kd.C_drew ?_)))
     (case side4 => exact (Kd.Xw HO_353029.out).2.1)
     rintro e w25 ⟨rfl, hb⟩
     refine ⟨_, rfl, ?_⟩
     have n0_ := Zd.mk (Kd.Kr HO_10.out hb)
     have n1_ := Zd.mk (Kd.Xl HO_353012.out hb)
     have n2_ := Zd.mk (Kd.Xl HO_353015.out hb)
     have n3_ := Zd.mk (Kd.Xl HO_353026.out hb)
     have n4_ := Zd.mk (Kd.Xl HO_353029.out hb)
     have n5_ := Zd.mk (Zp J2.out hb)
     have n6_ := Zd.mk (Zj HB.out hb)
     clear HO_10
     clear HO_353012
     clear HO_353015
     clear HO_353026
     clear HO_353029
     clear J2
     clear HB
     have HO_10 := n0_
     have HO_353012 := n1_
     have HO_353015 := n2_
     have HO_353026 := n3_
     have HO_353029 := n4_
     have J2 := n5_
     have HB := n6_
     clear n0_ n1_ n2_ n3_ n4_ n5_ n6_
     (try clear hb)
     (try clear hb2)
     (try clear hk)
     (try clear hi)
     refine hK.out _ _ ⟨(Za J2.out 0).trans rfl, (Za J2.out 1).trans rfl, (Za J2.out 2).trans rfl, (Za J2.out 3).trans rfl, (Za J2.out 4).trans rfl, (Za J2.out 5).trans rfl, (Za J2.out 6).trans rfl, (Za J2.out 7).trans rfl, (Za J2.out 8).trans rfl, (Za J2.out 9).trans rfl, (Za J2.out 10).trans rfl, (Za J2.out 11).trans rfl, (Za J2.out 12).trans rfl, (Za J2.out 13).trans rfl, (Za J2.out 14).trans rfl, (Za J2.out 15).trans rfl, (Za J2.out 16).trans rfl, (Za J2.out 17).trans rfl, (Za J2.out 18).trans rfl, (Za J2.out 19).trans rfl, (Za J2.out 20).trans rfl, (Za J2.out 21).trans rfl, (Za J2.out 22).trans rfl, (Za J2.out 23).trans rfl, (Za J2.out 24).trans rfl, (Za J2.out 25).trans rfl, (Za J2.out 26).trans rfl, (Za J2.out 27).trans rfl, (Za J2.out 28).trans rfl, (Za J2.out 29).trans rfl, (Za J2.out 30).trans rfl, (Za J2.out 31).trans rfl⟩ (fun hHeld => ?_)
     clear hK K
     refine Jw (a' := ?_) ?_ ?_
     rotate_left
     ·show Act.put _ (some 27) _ = _
      simp only [Act.put, List.setIfInBounds_toArray, List.set_cons_zero, List.set_cons_succ, Xk]
      rfl
     refine Qe (i := 6) (N := some 28) (v := ?_) (a' := ?_) #[true, true, true, true, true, true, true, false] rfl rfl (Xu HT_.out (by kernel_rfl)) (fun _ _ _ h => h) (Or.inl ⟨by rfl, ?_⟩) ?_ ?_
     rotate_left
     ·intro w'
      go_simp
      with_reducible rfl
     rotate_left
     ·simp only [Act.put, List.setIfInBounds_toArray, List.set_cons_zero, List.set_cons_succ, Xk]
      rfl
     refine Qe (i := 7) (N := some 29) (v := ?_) (a' := ?_) #[true, true, true, true, true, true, true, true] rfl rfl (Xu HT_.out (by kernel_rfl)) (fun _ _ _ h => h) (Or.inl ⟨by rfl, ?_⟩) ?_ ?_
     rotate_left
     ·intro w'
      go_simp
      with_reducible rfl
     rotate_left
     ·simp only [Act.put, List.setIfInBounds_toArray, List.set_cons_zero, List.set_cons_succ, Xk]
      rfl
     refine done_ (done_of HT_.out (by kernel_rfl)) ?_
     try go_wp2
     go_ret
     exact ⟨by first | rfl | (simp [errW_none, errW_some] <;> rfl) | (simp [*, errW_none, errW_some] <;> rfl), HB.out⟩
    ·rw [if_neg c22] at H
     have c22b0 : decide (12 < (wrap64 (t359 + t360))) = false := decide_eq_false c22
     clear c22
     obtain rfl := Option.some.inj H
     try go_wp2
     have n0_ := Zd.mk (Kd.Vg HO_10.out)
     have n1_ := Zd.mk (Kd.Xp HO_353012.out)
     have n2_ := Zd.mk (Kd.Xp HO_353015.out)
     have n3_ := Zd.mk (Kd.Xp HO_353026.out)
     have n4_ := Zd.mk (Kd.Xp HO_353029.out)
     have n5_ := Zd.mk (Zg J2.out)
     have n6_ := Zd.mk (Xj HB.out)
     clear HO_10
     clear HO_353012
     clear HO_353015
     clear HO_353026
     clear HO_353029
     clear J2
     clear HB
     have HO_10 := n0_
     have HO_353012 := n1_
     have HO_353015 := n2_
     have HO_353026 := n3_
     have HO_353029 := n4_
     have J2 := n5_
     have HB := n6_
     clear n0_ n1_ n2_ n3_ n4_ n5_ n6_
     refine start_ (n := 8) (S := fun w' => w'.cell? ⟨J3, 0, none⟩ = some (.string JD) ∧ w'.cell? ⟨J3, 1, none⟩ = some (.int .i64 JC) ∧ w'.cell? ⟨J3, 2, none⟩ = some (.int .i64 Jz) ∧ w'.cell? ⟨J3, 3, none⟩ = some (.int .i64 Jy) ∧ w'.cell? ⟨J3, 4, none⟩ = some (.int .i64 Jx) ∧ w'.cell? ⟨J3, 5, none⟩ = some (.bool Jv) ∧ w'.cell? ⟨J3, 6, none⟩ = some (.int .i64 Ju) ∧ w'.cell? ⟨J3, 7, none⟩ = some (.int .u64 Jt) ∧ w'.cell? ⟨J3, 8, none⟩ = some (.int .u64 Js) ∧ w'.cell? ⟨J3, 9, none⟩ = some (.int .i64 Jr) ∧ w'.cell? ⟨J3, 10, none⟩ = some (.bool Jq) ∧ w'.cell? ⟨J3, 11, none⟩ = some (.int .i64 Jp) ∧ w'.cell? ⟨J3, 12, none⟩ = some (.slice A0_12 J8.length c0_12) ∧ w'.cell? ⟨J3, 13, none⟩ = some (.int .i64 Jo) ∧ w'.cell? ⟨J3, 14, none⟩ = some (.int .i64 Jn) ∧ w'.cell? ⟨J3, 15, none⟩ = some (.slice A0_15 J7.length c0_15) ∧ w'.cell? ⟨J3, 16, none⟩ = some (.int .i64 Jm) ∧ w'.cell? ⟨J3, 17, none⟩ = some (.int .i64 Jl) ∧ w'.cell? ⟨J3, 18, none⟩ = some (.int .i64 Jk) ∧ w'.cell? ⟨J3, 19, none⟩ = some (.bool Jj) ∧ w'.cell? ⟨J3, 20, none⟩ = some (.int .i64 Jh) ∧ w'.cell? ⟨J3, 21, none⟩ = some (.int .u64 Jg) ∧ w'.cell? ⟨J3, 22, none⟩ = some (.int .u64 Jf) ∧ w'.cell? ⟨J3, 23, none⟩ = some (.int .i64 Je) ∧ w'.cell? ⟨J3, 24, none⟩ = some (.bool Jd) ∧ w'.cell? ⟨J3, 25, none⟩ = some (.int .i64 Jb) ∧ w'.cell? ⟨J3, 26, none⟩ = some (.slice A0_26 J6.length c0_26) ∧ w'.cell? ⟨J3, 27, none⟩ = some (.int .i64 Ja) ∧ w'.cell? ⟨J3, 28, none⟩ = some (.int .i64 J9) ∧ w'.cell? ⟨J3, 29, none⟩ = some (.slice A0_29 J5.length c0_29) ∧ w'.cell? ⟨J3, 30, none⟩ = some (.bool JB) ∧ w'.cell? ⟨J3, 31, none⟩ = some (.int .i64 JA)) (ds := []) #[false, false, false, false, false, false, false, false] (by kernel_rfl) rfl rfl ⟨(Za J2.out 0).trans rfl, (Za J2.out 1).trans rfl, (Za J2.out 2).trans rfl, (Za J2.out 3).trans rfl, (Za J2.out 4).trans rfl, (Za J2.out 5).trans rfl, (Za J2.out 6).trans rfl, (Za J2.out 7).trans rfl, (Za J2.out 8).trans rfl, (Za J2.out 9).trans rfl, (Za J2.out 10).trans rfl, (Za J2.out 11).trans rfl, (Za J2.out 12).trans rfl, (Za J2.out 13).trans rfl, (Za J2.out 14).trans rfl, (Za J2.out 15).trans rfl, (Za J2.out 16).trans rfl, (Za J2.out 17).trans rfl, (Za J2.out 18).trans rfl, (Za J2.out 19).trans rfl, (Za J2.out 20).trans rfl, (Za J2.out 21).trans rfl, (Za J2.out 22).trans rfl, (Za J2.out 23).trans rfl, (Za J2.out 24).trans rfl, (Za J2.out 25).trans rfl, (Za J2.out 26).trans rfl, (Za J2.out 27).trans rfl, (Za J2.out 28).trans rfl, (Za J2.out 29).trans rfl, (Za J2.out 30).trans rfl, (Za J2.out 31).trans rfl⟩ (fun hHeld => ?_); refine Ji Zr.tab8 Zr.bits8 (fun HT_ HW_ => ?_)
     generalize wr.drew = w26 at HO_10 HO_353012 HO_353015 HO_353026 HO_353029 J2 HB hHeld ⊢
     refine Qe (i := 0) (N := some 22) (v := ?_) (a' := ?_) #[true, false, false, false, false, false, false, false] rfl rfl (Xu HT_.out (by kernel_rfl)) (fun _ _ _ h => h) (Or.inl ⟨by rfl, ?_⟩) ?_ ?_
     rotate_left
     ·intro w'
      go_simp
      with_reducible rfl
     rotate_left
     ·simp only [Act.put, List.setIfInBounds_toArray, List.set_cons_zero, List.set_cons_succ, Xk]
      rfl
     refine Qe (i := 3) (N := some 25) (v := ?_) (a' := ?_) #[true, false, false, true, false, false, false, false] rfl rfl (Xu HT_.out (by kernel_rfl)) (fun _ _ _ h => h) (Or.inl ⟨by rfl, ?_⟩) ?_ ?_
     rotate_left
     ·intro w'
      go_simp
      with_reducible rfl
     rotate_left
     ·simp only [Act.put, List.setIfInBounds_toArray, List.set_cons_zero, List.set_cons_succ, Xk]
      rfl
     refine Vx (i := 1) (N := some 23) (v := ?_) (a' := ?_) #[true, true, false, true, false, false, false, false] rfl rfl (Ql HT_.out HW_.out (by kernel_rfl)) (fun _ _ _ h => h) (Or.inl ⟨by rfl, ?_⟩) hHeld ?_ ?_
     rotate_left
     ·rintro w' ⟨s0, s1, s2, s3, s4, s5, s6, s7, s8, s9, s10, s11, s12, s13, s14, s15, s16, s17, s18, s19, s20, s21, s22, s23, s24, s25, s26, s27, s28, s29, s30, s31⟩
      go_simp
      with_reducible rfl
     rotate_left
     ·simp only [Act.put, List.setIfInBounds_toArray, List.set_cons_zero, List.set_cons_succ, Xk]
      rfl
     refine Vx (i := 4) (N := some 26) (v := ?_) (a' := ?_) #[true, true, false, true, true, false, false, false] rfl rfl (Ql HT_.out HW_.out (by kernel_rfl)) (fun _ _ _ h => h) (Or.inl ⟨by rfl, ?_⟩) hHeld ?_ ?_
     rotate_left
     ·rintro w' ⟨s0, s1, s2, s3, s4, s5, s6, s7, s8, s9, s10, s11, s12, s13, s14, s15, s16, s17, s18, s19, s20, s21, s22, s23, s24, s25, s26, s27, s28, s29, s30, s31⟩
      go_simp
      with_reducible rfl
     rotate_left
     ·simp only [Act.put, List.setIfInBounds_toArray, List.set_cons_zero, List.set_cons_succ, Xk]
      rfl
     refine one_ (i := 2) (N := some 24) #[true, true, true, true, true, false, false, false] rfl rfl (Vt HT_.out (by kernel_rfl)) (by decide) (fun K hK => ?_)
     refine Wp Try.func25 (by kernel_rfl) rfl #[.agg #[.int .i64 Jz, .int .i64 Jy, .int .i64 Jx, .bool Jv, .int .i64 Ju, .int .u64 Jt, .int .u64 Js, .int .i64 Jr, .bool Jq, .int .i64 Jp, .slice A0_12 J8.length c0_12, .int .i64 Jo, .int .i64 Jn, .slice A0_15 J7.length c0_15]] (by rfl) rfl rfl (by (try simp only [List.map_toArray, List.map_cons, List.map_nil]); first | done | rfl | (simp only [List.length_drop, List.length_take]; rfl)) ?_
     with_reducible refine (Kz.calls k1 Jz Jy Jx Jv Ju Jt Js Jr Jq Jp _ _ J8 Jo Jn _ _ J7 t359 _ ?side1 ?side2 ?side3 ?side4 A20.out).mono ?_
     (case side1 => repeat (first | exact (Kd.Xw HO_353012.out).2.2 | (with_reducible refine Kd.C_alloc ?_ _) | (with_reducible refine Kd.C_drewN ?_ _) | (with_reducible refine Kd.C_drew ?_)))
     (case side2 => exact (Kd.Xw HO_353012.out).2.1)
     (case side3 => repeat (first | exact (Kd.Xw HO_353015.out).2.2 | (with_reducible refine Kd.C_alloc ?_ _) | (with_reducible refine Kd.C_drewN ?_ _) | (with_reducible refine Kd.C_drew ?_)))
     (case side4 => exact (Kd.Xw HO_353015.out).2.1)
     rintro e w27 ⟨rfl, hb⟩
     refine ⟨_, rfl, ?_⟩
     have n0_ := Zd.mk (Kd.Kr HO_10.out hb)
     have n1_ := Zd.mk (Kd.Xl HO_353012.out hb)
     have n2_ := Zd.mk (Kd.Xl HO_353015.out hb)
     have n3_ := Zd.mk (Kd.Xl HO_353026.out hb)
     have n4_ := Zd.mk (Kd.Xl HO_353029.out hb)
     have n5_ := Zd.mk (Zp J2.out hb)
     have n6_ := Zd.mk (Zj HB.out hb)
     clear HO_10
     clear HO_353012
     clear HO_353015
     clear HO_353026
     clear HO_353029
     clear J2
     clear HB
     have HO_10 := n0_
     have HO_353012 := n1_
     have HO_353015 := n2_
     have HO_353026 := n3_
     have HO_353029 := n4_
     have J2 := n5_
     have HB := n6_
     clear n0_ n1_ n2_ n3_ n4_ n5_ n6_
     (try clear hb)
     (try clear hb2)
     (try clear hk)
     (try clear hi)
     refine hK.out _ _ ⟨(Za J2.out 0).trans rfl, (Za J2.out 1).trans rfl, (Za J2.out 2).trans rfl, (Za J2.out 3).trans rfl, (Za J2.out 4).trans rfl, (Za J2.out 5).trans rfl, (Za J2.out 6).trans rfl, (Za J2.out 7).trans rfl, (Za J2.out 8).trans rfl, (Za J2.out 9).trans rfl, (Za J2.out 10).trans rfl, (Za J2.out 11).trans rfl, (Za J2.out 12).trans rfl, (Za J2.out 13).trans rfl, (Za J2.out 14).trans rfl, (Za J2.out 15).trans rfl, (Za J2.out 16).trans rfl, (Za J2.out 17).trans rfl, (Za J2.out 18).trans rfl, (Za J2.out 19).trans rfl, (Za J2.out 20).trans rfl, (Za J2.out 21).trans rfl, (Za J2.out 22).trans rfl, (Za J2.out 23).trans rfl, (Za J2.out 24).trans rfl, (Za J2.out 25).trans rfl, (Za J2.out 26).trans rfl, (Za J2.out 27).trans rfl, (Za J2.out 28).trans rfl, (Za J2.out 29).trans rfl, (Za J2.out 30).trans rfl, (Za J2.out 31).trans rfl⟩ (fun hHeld => ?_)
     clear hK K
     refine Jw (a' := ?_) ?_ ?_
     rotate_left
     ·show Act.put _ (some 24) _ = _
      simp only [Act.put, List.setIfInBounds_toArray, List.set_cons_zero, List.set_cons_succ, Xk]
      rfl
     refine one_ (i := 5) (N := some 27) #[true, true, true, true, true, true, false, false] rfl rfl (Vt HT_.out (by kernel_rfl)) (by decide) (fun K hK => ?_)
     refine Wp Try.func25 (by kernel_rfl) rfl #[.agg #[.int .i64 Jm, .int .i64 Jl, .int .i64 Jk, .bool Jj, .int .i64 Jh, .int .u64 Jg, .int .u64 Jf, .int .i64 Je, .bool Jd, .int .i64 Jb, .slice A0_26 J6.length c0_26, .int .i64 Ja, .int .i64 J9, .slice A0_29 J5.length c0_29]] (by rfl) rfl rfl (by (try simp only [List.map_toArray, List.map_cons, List.map_nil]); first | done | rfl | (simp only [List.length_drop, List.length_take]; rfl)) ?_
     with_reducible refine (Kz.calls k1 Jm Jl Jk Jj Jh Jg Jf Je Jd Jb _ _ J6 Ja J9 _ _ J5 t360 _ ?side1 ?side2 ?side3 ?side4 A21.out).mono ?_
     (case side1 => repeat (first | exact (Kd.Xw HO_353026.out).2.2 | (with_reducible refine Kd.C_alloc ?_ _) | (with_reducible refine Kd.C_drewN ?_ _) | (with_reducible refine Kd.C_drew ?_)))
     (case side2 => exact (Kd.Xw HO_353026.out).2.1)
     (case side3 => repeat (first | exact (Kd.Xw HO_353029.out).2.2 | (with_reducible refine Kd.C_alloc ?_ _) | (with_reducible refine Kd.C_drewN ?_ _) | (with_reducible refine Kd.C_drew ?_)))
     (case side4 => exact (Kd.Xw HO_353029.out).2.1)
     rintro e w28 ⟨rfl, hb⟩
     refine ⟨_, rfl, ?_⟩
     have n0_ := Zd.mk (Kd.Kr HO_10.out hb)
     have n1_ := Zd.mk (Kd.Xl HO_353012.out hb)
     have n2_ := Zd.mk (Kd.Xl HO_353015.out hb)
     have n3_ := Zd.mk (Kd.Xl HO_353026.out hb)
     have n4_ := Zd.mk (Kd.Xl HO_353029.out hb)
     have n5_ := Zd.mk (Zp J2.out hb)
     have n6_ := Zd.mk (Zj HB.out hb)
     clear HO_10
     clear HO_353012
     clear HO_353015
     clear HO_353026
     clear HO_353029
     clear J2
     clear HB
     have HO_10 := n0_
     have HO_353012 := n1_
     have HO_353015 := n2_
     have HO_353026 := n3_
     have HO_353029 := n4_
     have J2 := n5_
     have HB := n6_
     clear n0_ n1_ n2_ n3_ n4_ n5_ n6_
     (try clear hb)
     (try clear hb2)
     (try clear hk)
     (try clear hi)
     refine hK.out _ _ ⟨(Za J2.out 0).trans rfl, (Za J2.out 1).trans rfl, (Za J2.out 2).trans rfl, (Za J2.out 3).trans rfl, (Za J2.out 4).trans rfl, (Za J2.out 5).trans rfl, (Za J2.out 6).trans rfl, (Za J2.out 7).trans rfl, (Za J2.out 8).trans rfl, (Za J2.out 9).trans rfl, (Za J2.out 10).trans rfl, (Za J2.out 11).trans rfl, (Za J2.out 12).trans rfl, (Za J2.out 13).trans rfl, (Za J2.out 14).trans rfl, (Za J2.out 15).trans rfl, (Za J2.out 16).trans rfl, (Za J2.out 17).trans rfl, (Za J2.out 18).trans rfl, (Za J2.out 19).trans rfl, (Za J2.out 20).trans rfl, (Za J2.out 21).trans rfl, (Za J2.out 22).trans rfl, (Za J2.out 23).trans rfl, (Za J2.out 24).trans rfl, (Za J2.out 25).trans rfl, (Za J2.out 26).trans rfl, (Za J2.out 27).trans rfl, (Za J2.out 28).trans rfl, (Za J2.out 29).trans rfl, (Za J2.out 30).trans rfl, (Za J2.out 31).trans rfl⟩ (fun hHeld => ?_)
     clear hK K
     refine Jw (a' := ?_) ?_ ?_
     rotate_left
     ·show Act.put _ (some 27) _ = _
      simp only [Act.put, List.setIfInBounds_toArray, List.set_cons_zero, List.set_cons_succ, Xk]
      rfl
     refine Qe (i := 6) (N := some 28) (v := ?_) (a' := ?_) #[true, true, true, true, true, true, true, false] rfl rfl (Xu HT_.out (by kernel_rfl)) (fun _ _ _ h => h) (Or.inl ⟨by rfl, ?_⟩) ?_ ?_
     rotate_left
     ·intro w'
      go_simp
      with_reducible rfl
     rotate_left
     ·simp only [Act.put, List.setIfInBounds_toArray, List.set_cons_zero, List.set_cons_succ, Xk]
      rfl
     refine Qe (i := 7) (N := some 29) (v := ?_) (a' := ?_) #[true, true, true, true, true, true, true, true] rfl rfl (Xu HT_.out (by kernel_rfl)) (fun _ _ _ h => h) (Or.inl ⟨by rfl, ?_⟩) ?_ ?_
     rotate_left
     ·intro w'
      go_simp
      with_reducible rfl
     rotate_left
     ·simp only [Act.put, List.setIfInBounds_toArray, List.set_cons_zero, List.set_cons_succ, Xk]
      rfl
     refine done_ (done_of HT_.out (by kernel_rfl)) ?_
     try go_wp2
     go_ret
     exact ⟨by first | rfl | (simp [errW_none, errW_some] <;> rfl) | (simp [*, errW_none, errW_some] <;> rfl), HB.out⟩
end Go.Proofs.Ytkbkndfonccekaa.PF
namespace Go.Proofs.Ytkbkndfonccekaa.PF
open Go.RowKit Go.Proofs.YtkbkndfonccekaaW.PrintWords Go.Proofs.YtkbkndfonccekaaW.PrintLast Go.Proofs.YtkbkndfonccekaaW.PrintMore
attribute [local go_sem] Qn Qp Kq Kt
set_option linter.unusedVariables false
set_option linter.unusedSimpArgs false
def Wq.f (k : Nat) (l0 : List (Qh)) (l1 : List (Qh)) (a2 : Int) : Option (Bool) := if listB (sameB k) l0 l1 = true then some true else none
theorem Wq.calls (k : Nat) (A0 : Option Addr) (c0 : Nat) (l0 : List (Qh)) (A1 : Option Addr) (c1 : Nat) (l1 : List (Qh)) (a2 : Int) (r : Bool) (w : World) (hr0 : Kd.C k27 w A0 l0.length l0) (hc0 : l0.length ≤ c0) (hr1 : Kd.C k27 w A1 l1.length l1) (hc1 : l1.length ≤ c1) (h : Wq.f k l0 l1 a2 = some r) :
 Calls Try.prog 12 #[.slice A0 l0.length c0, .slice A1 l1.length c1, .func (.func 14) #[] #[]] w fun e w' => e = .returned (.bool r) ∧ Below w.heap.size w w' := by
 unfold Wq.f at h
 split at h
 ·rename_i hc
  obtain rfl := Option.some.inj h
  exact (eqfunc_walk (sameB k) (same_walk k) A0 A1 c0 c1 l0 l1 w hr0 hr1 hc).mono fun e w' ⟨he, hw⟩ => ⟨he, hw.below⟩
 ·cases h
end Go.Proofs.Ytkbkndfonccekaa.PF
namespace Go.Proofs.Ytkbkndfonccekaa
def CellsRow (w : World) (g : Nat) : Nat → List Value → Prop
  | _, [] => True
  | o, v :: r => w.cell? ⟨g, o, none⟩ = some v ∧ CellsRow w g (o + 1) r
theorem CellsRow.at {w : World} {g : Nat} : ∀ {o : Nat} {cs : List Value}, CellsRow w g o cs → ∀ j v, cs[j]? = some v → w.cell? ⟨g, o + j, none⟩ = some v
  | _, [], _, j, v, h => by simp at h
  | o, c :: r, h, 0, v, hv => by
    obtain rfl : c = v := by simpa using hv
    exact h.1
  | o, c :: r, h, j + 1, v, hv => by
    have := CellsRow.at h.2 j v (by simpa using hv)
    rwa [show o + 1 + j = o + (j + 1) by omega] at this
theorem exec_load_cells {P : Program} {o : Oper} {a : Act} {w : World} (ty : TypeId) (x : Operand) (ho : o.op = .load ty x) (g off : Nat) (hx : a.eval x = .pointer (some ⟨g, off, none⟩)) (cs : List Value) (d : TypeDesc)
    (hu : P.underlying ty = some d) (hd : (match d with | .struct _ | .array _ _ => true | _ => false) = true) (hi : (P.info? ty).map (·.size) = some cs.length) (h : CellsRow w g off cs) : (execOp a.eval o).run P w = .ok (.value (.agg cs.toArray)) w := by
  have hl : (loadCells ⟨g, off, none⟩ cs.length).run P w = .ok cs.toArray w := run_loadCells_list (P := P) w ⟨g, off, none⟩ cs (fun j v hv => by
    have hadd : (⟨g, off, none⟩ : Addr).add j = ⟨g, off + j, none⟩ := by unfold Addr.add; split <;> simp_all
    rw [hadd]
    exact h.at j v hv)
  have hload : (loadVar ty ⟨g, off, none⟩).run P w = .ok (.agg cs.toArray) w := by
    cases hq : P.info? ty with
    | none => simp [hq] at hi
    | some i =>
      have hs : i.size = cs.length := by simpa [hq] using hi
      have hagg : (isAgg ty).run P w = .ok true w := by
        unfold isAgg
        rw [Sem.run_bind, run_underlying hu w]
        cases d <;> simp_all
      simp [loadVar, Sem.run_bind, hagg, sizeOf, typeInfo, hq, hs, hl]
  unfold execOp
  simp only [ho, hx, Instr.loadAt, Instr.sureAddr, Sem.run_bind, Sem.run_pure, Result.andThen_ok, hload]
end Go.Proofs.Ytkbkndfonccekaa
