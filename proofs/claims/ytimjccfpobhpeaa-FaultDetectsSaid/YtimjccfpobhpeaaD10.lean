/- Joined by this session's own program out of its texts: PFx47. -/
import Derived.Test.YtimjccfpobhpeaaD1
import Derived.Test.YtimjccfpobhpeaaD2
import Derived.Test.YtimjccfpobhpeaaD5
import Derived.Test.YtimjccfpobhpeaaD8
import Derived.Test.YtimjccfpobhpeaaD6
import Derived.Test.YtimjccfpobhpeaaD7
import Derived.Test.YtimjccfpobhpeaaD9
namespace Go.Proofs.Ytimjccfpobhpeaa.PF
open Go.RowKit Go.Proofs.YtimjccfpobhpeaaW.PrintWords Go.Proofs.YtimjccfpobhpeaaW.PrintLast Go.Proofs.YtimjccfpobhpeaaW.PrintMore
attribute [local go_sem] Qq Kt
set_option linter.unusedVariables false
set_option linter.unusedSimpArgs false
mutual
def Zd.j0 : Nat → List (S29) → List (S55) → List (List Bool) → Int → Int → Bool → List ByteArray → List ByteArray → List (S82) → List (Kr) → List Int → Option (Bool)
  | 0, _, _, _, _, _, _, _, _, _, _, _ => none
  | k + 1, x1, x2, x7, x8, x9, x32, x530000, x530001, x530002, x530003, x530004 => if x32 = true then (Zd.j1 k x1 x2 x7 x8 3 x530000 x530001 x530002 x530003 x530004) else (Zd.j1 k x1 x2 x7 x8 x9 x530000 x530001 x530002 x530003 x530004)
def Zd.j1 : Nat → List (S29) → List (S55) → List (List Bool) → Int → Int → List ByteArray → List ByteArray → List (S82) → List (Kr) → List Int → Option (Bool)
  | 0, _, _, _, _, _, _, _, _, _, _ => none
  | k + 1, x1, x2, x7, x8, x9, x530000, x530001, x530002, x530003, x530004 => if x9 = 0 then ((Xm.f k x530000 x530001 x530002 x530003 x530004 x2).bind fun t535 => (Zd.j2 k x1 x2 x7 x8 t535 x530000 x530001 x530002 x530003 x530004)) else (Zd.j2 k x1 x2 x7 x8 x9 x530000 x530001 x530002 x530003 x530004)
def Zd.j2 : Nat → List (S29) → List (S55) → List (List Bool) → Int → Int → List ByteArray → List ByteArray → List (S82) → List (Kr) → List Int → Option (Bool)
  | 0, _, _, _, _, _, _, _, _, _, _ => none
  | k + 1, x1, x2, x7, x8, x9, x530000, x530001, x530002, x530003, x530004 => Zd.l0 k x1 x2 x7 x8 x9 0 x530000 x530001 x530002 x530003 x530004
def Zd.j4 : Nat → List (S29) → List (S55) → List (List Bool) → Int → Int → List ByteArray → List ByteArray → List (S82) → List (Kr) → List Int → Option (Bool)
  | 0, _, _, _, _, _, _, _, _, _, _ => none
  | k + 1, x1, x2, x7, x8, x9, x530000, x530001, x530002, x530003, x530004 => if x9 = 0 then ((Qm.f k).bind fun t539 => (if t539 = true then (if x8 = 0 then (Zd.j5 k x1 x2 x7 ((x7.length : Int) != (x1.length : Int)) x530000 x530001 x530002 x530003 x530004) else (Zd.j5 k x1 x2 x7 true x530000 x530001 x530002 x530003 x530004)) else (Zd.j5 k x1 x2 x7 true x530000 x530001 x530002 x530003 x530004))) else ((Qm.f k).bind fun t538 => (if t538 = true then (if x8 = x9 then (some ((x7.length : Int) == 0)) else (none)) else (none)))
def Zd.j5 : Nat → List (S29) → List (S55) → List (List Bool) → Bool → List ByteArray → List ByteArray → List (S82) → List (Kr) → List Int → Option (Bool)
  | 0, _, _, _, _, _, _, _, _, _ => none
  | k + 1, x1, x2, x7, x79, x530000, x530001, x530002, x530003, x530004 => if x79 = true then (none) else (if 0 ≤ (mn (x1.length : Int) 60) then (if (mn (x1.length : Int) 60) ≤ (x1.length : Int) then ((some (x1.take ((mn (x1.length : Int) 60) : Int).toNat : List (S29))).bind fun y540 => (Zd.l1 k x2 x7 y540 (y540.length : Int) 0 x530000 x530001 x530002 x530003 x530004)) else (none)) else (none))
def Zd.l1 : Nat → List (S55) → List (List Bool) → List (S29) → Int → Int → List ByteArray → List ByteArray → List (S82) → List (Kr) → List Int → Option (Bool)
  | 0, _, _, _, _, _, _, _, _, _, _ => none
  | k + 1, x2, x7, x84, x85, x86, x530000, x530001, x530002, x530003, x530004 => if x86 < x85 then (if 0 ≤ x86 then (if x86 < (x84.length : Int) then ((fault_Detects.f k x530000 x530001 x530002 x530003 x530004 ((Xc x84 x86).f0) ((Xc x84 x86).f1) ((Xc x84 x86).f2) x2).bind fun bt546 => (if bt546.2 = 0 then (if x86 < (x7.length : Int) then ((Zt.f k bt546.1 (rd_L15 x7 x86)).bind fun t551 => (if t551 = true then (Zd.j7 k x2 x7 bt546.1 x84 x85 x86 ((bt546.1.length : Int) != (x2.length : Int)) x530000 x530001 x530002 x530003 x530004 ((Xc x84 x86).f0) ((Xc x84 x86).f1) ((Xc x84 x86).f2)) else (Zd.j7 k x2 x7 bt546.1 x84 x85 x86 true x530000 x530001 x530002 x530003 x530004 ((Xc x84 x86).f0) ((Xc x84 x86).f1) ((Xc x84 x86).f2)))) else (none)) else (Zd.j7 k x2 x7 bt546.1 x84 x85 x86 true x530000 x530001 x530002 x530003 x530004 ((Xc x84 x86).f0) ((Xc x84 x86).f1) ((Xc x84 x86).f2)))) else (none)) else (none)) else (some true)
def Zd.j7 : Nat → List (S55) → List (List Bool) → List Bool → List (S29) → Int → Int → Bool → List ByteArray → List ByteArray → List (S82) → List (Kr) → List Int → Int → Int → Bool → Option (Bool)
  | 0, _, _, _, _, _, _, _, _, _, _, _, _, _, _, _ => none
  | k + 1, x2, x7, x13, x84, x85, x86, x115, x530000, x530001, x530002, x530003, x530004, x546000, x546001, x546002 => if x115 = true then (none) else (if 0 ≤ (mn (x2.length : Int) 20) then (if (mn (x2.length : Int) 20) ≤ (x2.length : Int) then ((some (x2.take ((mn (x2.length : Int) 20) : Int).toNat : List (S55))).bind fun y552 => (Zd.l2 k x2 x7 x13 x84 x85 x86 y552 (y552.length : Int) 0 x530000 x530001 x530002 x530003 x530004 x546000 x546001 x546002)) else (none)) else (none))
def Zd.l2 : Nat → List (S55) → List (List Bool) → List Bool → List (S29) → Int → Int → List (S55) → Int → Int → List ByteArray → List ByteArray → List (S82) → List (Kr) → List Int → Int → Int → Bool → Option (Bool)
  | 0, _, _, _, _, _, _, _, _, _, _, _, _, _, _, _, _, _ => none
  | k + 1, x2, x7, x13, x84, x85, x86, x120, x121, x122, x530000, x530001, x530002, x530003, x530004, x546000, x546001, x546002 => if x122 < x121 then (if 0 ≤ x122 then (if x122 < (x120.length : Int) then (if x122 < (x13.length : Int) then ((maskref2_Hit.f k x530000 x530001 x530002 x530003 x530004 x546000 x546001 x546002 ((Zz x120 x122).f0) ((Zz x120 x122).f1)).bind fun t559 => (if ((rdOf false x13 x122) != t559) = true then (none) else (Zd.l2 k x2 x7 x13 x84 x85 x86 x120 x121 (wrap64 (x122 + 1)) x530000 x530001 x530002 x530003 x530004 x546000 x546001 x546002))) else (none)) else (none)) else (none)) else (Zd.l1 k x2 x7 x84 x85 (wrap64 (x86 + 1)) x530000 x530001 x530002 x530003 x530004)
def Zd.l0 : Nat → List (S29) → List (S55) → List (List Bool) → Int → Int → Int → List ByteArray → List ByteArray → List (S82) → List (Kr) → List Int → Option (Bool)
  | 0, _, _, _, _, _, _, _, _, _, _, _ => none
  | k + 1, x1, x2, x7, x8, x9, x10, x530000, x530001, x530002, x530003, x530004 => if x10 < (x1.length : Int) then (if x9 = 0 then (if 0 ≤ x10 then ((Xh.f k x530000 x530001 x530002 x530003 x530004 ((Xc x1 x10).f0) ((Xc x1 x10).f1) ((Xc x1 x10).f2)).bind fun t537 => (Zd.l0 k x1 x2 x7 x8 t537 (wrap64 (x10 + 1)) x530000 x530001 x530002 x530003 x530004)) else (none)) else (Zd.j4 k x1 x2 x7 x8 x9 x530000 x530001 x530002 x530003 x530004)) else (Zd.j4 k x1 x2 x7 x8 x9 x530000 x530001 x530002 x530003 x530004)
end
def Zd.f (k : Nat) (l0_0 : List ByteArray) (l0_1 : List ByteArray) (l0_2 : List (S82)) (l0_3 : List (Kr)) (l0_4 : List Int) (l1 : List (S29)) (l2 : List (S55)) : Option (Bool) := (Qi.f k l0_0 l0_1 l0_2 l0_3 l0_4 l1 l2).bind fun bt530 => ((Ze.f k l0_0 l0_1 l0_2 l0_3 l0_4).bind fun t534 => (if t534 = 0 then (Zd.j0 k l1 l2 bt530.1 bt530.2 t534 (decide ((l1.length : Int) > 20000)) l0_0 l0_1 l0_2 l0_3 l0_4) else (Zd.j0 k l1 l2 bt530.1 bt530.2 t534 false l0_0 l0_1 l0_2 l0_3 l0_4)))
def Zd.T24 : Bool × List (List Nat × List Nat) := (true, [([], []), ([], []), ([0, 1], [0, 1]), ([2], [2]), ([], []), ([], []), ([], []), ([4, 5, 6], [4, 5, 6]), ([3, 7], [3, 7])])
def Zd.B24 : List Nat := [0, 0, 3, 7, 0, 0, 0, 112, 255]
theorem Zd.tab24 : rtab .any (opsOf Try.f7 24) = Zd.T24 := by kernel_rfl
theorem Zd.bits24 : waitsOk Zd.T24.2 Zd.B24 = true := by kernel_rfl
set_option maxHeartbeats 8000000 in
set_option maxRecDepth 100000 in
theorem Zd.calls (k : Nat) (A0_0 : Option Addr) (c0_0 : Nat) (l0_0 : List ByteArray) (A0_1 : Option Addr) (c0_1 : Nat) (l0_1 : List ByteArray) (A0_2 : Option Addr) (c0_2 : Nat) (l0_2 : List (S82)) (A0_3 : Option Addr) (c0_3 : Nat) (l0_3 : List (Kr)) (A0_4 : Option Addr) (c0_4 : Nat) (l0_4 : List Int) (A1 : Option Addr) (c1 : Nat) (l1 : List (S29)) (A2 : Option Addr) (c2 : Nat) (l2 : List (S55)) (r : Bool) (w : World) (hr0_0 : Kd.C Kd.string w A0_0 l0_0.length l0_0) (hc0_0 : l0_0.length ≤ c0_0) (hr0_1 : Kd.C Kd.string w A0_1 l0_1.length l0_1) (hc0_1 : l0_1.length ≤ c0_1) (hr0_2 : Kd.C k82 w A0_2 l0_2.length l0_2) (hc0_2 : l0_2.length ≤ c0_2) (hr0_3 : Kd.C k80 w A0_3 l0_3.length l0_3) (hc0_3 : l0_3.length ≤ c0_3) (hr0_4 : Kd.C (Kd.int .i64) w A0_4 l0_4.length l0_4) (hc0_4 : l0_4.length ≤ c0_4) (hr1 : Kd.C k29 w A1 l1.length l1) (hc1 : l1.length ≤ c1) (hr2 : Kd.C k55 w A2 l2.length l2) (hc2 : l2.length ≤ c2) (h : Zd.f k l0_0 l0_1 l0_2 l0_3 l0_4 l1 l2 = some r) :
 Calls Try.prog 7 #[.agg #[.slice A0_0 l0_0.length c0_0, .slice A0_1 l0_1.length c0_1, .slice A0_2 l0_2.length c0_2, .slice A0_3 l0_3.length c0_3, .slice A0_4 l0_4.length c0_4], .slice A1 l1.length c1, .slice A2 l2.length c2] w fun e w' => e = .returned (.bool r) ∧ Below w.heap.size w w' := by
 have hu27 := Try.underlying27
 have hu29 := Try.underlying29
 have hu55 := Try.underlying55
 have HR0_0 := Za.mk hr0_0
 have HC0_0 := Za.mk hc0_0
 clear hr0_0 hc0_0
 have HR0_1 := Za.mk hr0_1
 have HC0_1 := Za.mk hc0_1
 clear hr0_1 hc0_1
 have HR0_2 := Za.mk hr0_2
 have HC0_2 := Za.mk hc0_2
 clear hr0_2 hc0_2
 have HR0_3 := Za.mk hr0_3
 have HC0_3 := Za.mk hc0_3
 clear hr0_3 hc0_3
 have HR0_4 := Za.mk hr0_4
 have HC0_4 := Za.mk hc0_4
 clear hr0_4 hc0_4
 have HR1 := Za.mk hr1
 have HC1 := Za.mk hc1
 clear hr1 hc1
 have HR2 := Za.mk hr2
 have HC2 := Za.mk hc2
 clear hr2 hc2
 have HB := Za.mk (Below.refl w.heap.size w)
 have H : ((Qi.f k l0_0 l0_1 l0_2 l0_3 l0_4 l1 l2).bind fun bt530 => ((Ze.f k l0_0 l0_1 l0_2 l0_3 l0_4).bind fun t534 => (if t534 = 0 then (Zd.j0 k l1 l2 bt530.1 bt530.2 t534 (decide ((l1.length : Int) > 20000)) l0_0 l0_1 l0_2 l0_3 l0_4) else (Zd.j0 k l1 l2 bt530.1 bt530.2 t534 false l0_0 l0_1 l0_2 l0_3 l0_4)))) = some r := h
 clear h
 replace H := Option.bind_eq_some_iff.mp H
 obtain ⟨⟨t530, t533⟩, A40, H⟩ := H
 replace H : ((Ze.f k l0_0 l0_1 l0_2 l0_3 l0_4).bind fun t534 => (if t534 = 0 then (Zd.j0 k l1 l2 t530 t533 t534 (decide ((l1.length : Int) > 20000)) l0_0 l0_1 l0_2 l0_3 l0_4) else (Zd.j0 k l1 l2 t530 t533 t534 false l0_0 l0_1 l0_2 l0_3 l0_4))) = some r := H
 have A4 := Za.mk A40
 clear A40
 replace H := Option.bind_eq_some_iff.mp H
 obtain ⟨t534, A50, H⟩ := H
 replace H : (if t534 = 0 then (Zd.j0 k l1 l2 t530 t533 t534 (decide ((l1.length : Int) > 20000)) l0_0 l0_1 l0_2 l0_3 l0_4) else (Zd.j0 k l1 l2 t530 t533 t534 false l0_0 l0_1 l0_2 l0_3 l0_4)) = some r := H
 have A5 := Za.mk A50
 clear A50
 have HC6 := Za.mk H
 clear H
 go_enter Try.func7, Try.ntmps7
 go_upto_region 3 with (first | ((with_reducible refine Xg (N := 3) rfl ?_); (try (refine Qe (by rfl) ?_; dsimp only)); refine Xk ?hg (N := 3) ?hd (cs := #[.slice A0_0 l0_0.length c0_0, .slice A0_1 l0_1.length c0_1, .slice A0_2 l0_2.length c0_2, .slice A0_3 l0_3.length c0_3, .slice A0_4 l0_4.length c0_4]) (t := 27) ?hr ?_; (case hd => rfl); (case hg => rfl); (case hr => first | (go_simp; done) | (go_simp; rfl)); intro gb529 hg w7 hbox hb; have n0_ := Za.mk (Zh HB.out hb); have n1_ := Za.mk (hbox); have n2_ := Za.mk ((by rw [hg]; exact (Zg HB.out) : w.heap.size ≤ gb529)); have n3_ := n2_; clear HB; have HB := n0_; have BK529 := n1_; have GW529 := n2_; have GE529 := n3_; clear n0_ n1_ n2_ n3_; clear hb hbox hg; have hcz8_0 : w7.cell? ⟨gb529, 0, none⟩ = some (.slice A0_0 l0_0.length c0_0) := (Zc BK529.out 0).trans rfl; have hcz8_1 : w7.cell? ⟨gb529, 1, none⟩ = some (.slice A0_1 l0_1.length c0_1) := (Zc BK529.out 1).trans rfl; have hcz8_2 : w7.cell? ⟨gb529, 2, none⟩ = some (.slice A0_2 l0_2.length c0_2) := (Zc BK529.out 2).trans rfl; have hcz8_3 : w7.cell? ⟨gb529, 3, none⟩ = some (.slice A0_3 l0_3.length c0_3) := (Zc BK529.out 3).trans rfl; have hcz8_4 : w7.cell? ⟨gb529, 4, none⟩ = some (.slice A0_4 l0_4.length c0_4) := (Zc BK529.out 4).trans rfl; have hfz8_0 := Zb BK529.out 0; have hfz8_1 := Zb BK529.out 1; have hfz8_2 := Zb BK529.out 2; have hfz8_3 := Zb BK529.out 3; have hfz8_4 := Zb BK529.out 4) | ((with_reducible refine Xi (f := 25) rfl ?_); refine Qo (some 21) rfl rfl Try.func25 (by kernel_rfl) rfl #[.agg #[.slice A0_0 l0_0.length c0_0, .slice A0_1 l0_1.length c0_1, .slice A0_2 l0_2.length c0_2, .slice A0_3 l0_3.length c0_3, .slice A0_4 l0_4.length c0_4], .slice A1 l1.length c1, .slice A2 l2.length c2] rfl (by (try simp only [List.map_toArray, List.map_cons, List.map_nil]); first | done | rfl | (simp only [List.length_drop, List.length_take]; rfl)) ?_; (with_reducible refine (Qi.calls k _ _ l0_0 _ _ l0_1 _ _ l0_2 _ _ l0_3 _ _ l0_4 _ _ l1 _ _ l2 t530 t533 _ ?side1 ?side2 ?side3 ?side4 ?side5 ?side6 ?side7 ?side8 ?side9 ?side10 ?side11 ?side12 ?side13 ?side14 A4.out).mono ?_); (case side1 => exact (Kd.Zf HR0_0.out HB.out)); (case side2 => exact HC0_0.out); (case side3 => exact (Kd.Zf HR0_1.out HB.out)); (case side4 => exact HC0_1.out); (case side5 => exact (Kd.Zf HR0_2.out HB.out)); (case side6 => exact HC0_2.out); (case side7 => exact (Kd.Zf HR0_3.out HB.out)); (case side8 => exact HC0_3.out); (case side9 => exact (Kd.Zf HR0_4.out HB.out)); (case side10 => exact HC0_4.out); (case side11 => exact (Kd.Zf HR1.out HB.out)); (case side12 => exact HC1.out); (case side13 => exact (Kd.Zf HR2.out HB.out)); (case side14 => exact HC2.out); rintro e w9 ⟨v531, rfl, ho0, hb⟩; refine ⟨_, rfl, ?_⟩; have n0_ := Za.mk (Kd.S_lower ho0 (Zg HB.out)); have n1_ := Za.mk (Zo BK529.out hb); have n2_ := Za.mk (Zh HB.out hb); clear BK529; clear HB; have HO532 := n0_; have BK529 := n1_; have HB := n2_; clear n0_ n1_ n2_; (try clear hb); (try clear hb2); (try clear hk); (try clear hi); (try clear ho0); have hcz10_0 : w9.cell? ⟨gb529, 0, none⟩ = some (.slice A0_0 l0_0.length c0_0) := (Zc BK529.out 0).trans rfl; have hcz10_1 : w9.cell? ⟨gb529, 1, none⟩ = some (.slice A0_1 l0_1.length c0_1) := (Zc BK529.out 1).trans rfl; have hcz10_2 : w9.cell? ⟨gb529, 2, none⟩ = some (.slice A0_2 l0_2.length c0_2) := (Zc BK529.out 2).trans rfl; have hcz10_3 : w9.cell? ⟨gb529, 3, none⟩ = some (.slice A0_3 l0_3.length c0_3) := (Zc BK529.out 3).trans rfl; have hcz10_4 : w9.cell? ⟨gb529, 4, none⟩ = some (.slice A0_4 l0_4.length c0_4) := (Zc BK529.out 4).trans rfl; have hfz10_0 := Zb BK529.out 0; have hfz10_1 := Zb BK529.out 1; have hfz10_2 := Zb BK529.out 2; have hfz10_3 := Zb BK529.out 3; have hfz10_4 := Zb BK529.out 4) | ((with_reducible refine Xi (f := 9) rfl ?_); refine Qo (some 25) rfl rfl Try.func9 (by kernel_rfl) rfl #[.agg #[.slice A0_0 l0_0.length c0_0, .slice A0_1 l0_1.length c0_1, .slice A0_2 l0_2.length c0_2, .slice A0_3 l0_3.length c0_3, .slice A0_4 l0_4.length c0_4]] rfl (by (try simp only [List.map_toArray, List.map_cons, List.map_nil]); first | done | rfl | (simp only [List.length_drop, List.length_take]; rfl)) ?_; (with_reducible refine (Ze.calls k _ _ l0_0 _ _ l0_1 _ _ l0_2 _ _ l0_3 _ _ l0_4 t534 _ ?side1 ?side2 ?side3 ?side4 ?side5 ?side6 ?side7 ?side8 ?side9 ?side10 A5.out).mono ?_); (case side1 => exact (Kd.Zf HR0_0.out HB.out)); (case side2 => exact HC0_0.out); (case side3 => exact (Kd.Zf HR0_1.out HB.out)); (case side4 => exact HC0_1.out); (case side5 => exact (Kd.Zf HR0_2.out HB.out)); (case side6 => exact HC0_2.out); (case side7 => exact (Kd.Zf HR0_3.out HB.out)); (case side8 => exact HC0_3.out); (case side9 => exact (Kd.Zf HR0_4.out HB.out)); (case side10 => exact HC0_4.out); rintro e w11 ⟨rfl, hb⟩; refine ⟨_, rfl, ?_⟩; have n0_ := Za.mk (Kd.S_below HO532.out hb); have n1_ := Za.mk (Zo BK529.out hb); have n2_ := Za.mk (Zh HB.out hb); clear HO532; clear BK529; clear HB; have HO532 := n0_; have BK529 := n1_; have HB := n2_; clear n0_ n1_ n2_; (try clear hb); (try clear hb2); (try clear hk); (try clear hi)))
 (try simp only [Act.put, List.setIfInBounds_toArray, List.set_cons_zero, List.set_cons_succ])
 go_cut [32] (fun v32 wc => ∃ (kq : Nat) (x32_5 : Bool), v32 = .bool x32_5 ∧ Za (Zd.j0 kq l1 l2 t530 t533 t534 x32_5 l0_0 l0_1 l0_2 l0_3 l0_4 = some r) ∧ Za (kq ≤ k) ∧ Za (Kd.S (Kd.slice 4 Kd.bool) 53 wc w.heap.size (fun _ => True) v531 t530) ∧ Za (wc.heap[gb529]? = some (.cells #[(.slice A0_0 l0_0.length c0_0), (.slice A0_1 l0_1.length c0_1), (.slice A0_2 l0_2.length c0_2), (.slice A0_3 l0_3.length c0_3), (.slice A0_4 l0_4.length c0_4)] 27 (0, 0))) ∧ Za (Below w.heap.size w wc))
 case first =>
  have H := HC6.out
  clear HC6
  by_cases c12 : t534 = 0
  ·rw [if_pos c12] at H
   have c12b0 : (t534 == 0) = true := beq_iff_eq.mpr c12
   have c12b1 : (t534 != 0) = false := bne_eq_false_iff_eq.mpr c12
   clear c12
   (first | rw [c12b0] | (simp only [Xr, Xv]; rw [c12b0]) | skip)
   have H' := Za.mk H
   clear H
   go_wp2
   go_meet
   case rel => exact ⟨_, (decide ((l1.length : Int) > 20000)), (by first | rfl | (simp; done) | (simp [*]; done)), H', ⟨by first | omega | exact Nat.le_refl _⟩, ⟨HO532.out⟩, ⟨BK529.out⟩, ⟨HB.out⟩⟩
  ·rw [if_neg c12] at H
   have c12b0 : (t534 == 0) = false := beq_eq_false_iff_ne.mpr c12
   have c12b1 : (t534 != 0) = true := bne_iff_ne.mpr c12
   (first | rw [c12b0] | (simp only [Xr, Xv]; rw [c12b0]) | skip)
   have H' := Za.mk H
   clear H
   go_wp2
   go_meet
   case rel => exact ⟨_, (false), (by first | rfl | (simp; done) | (simp [*]; done)), H', ⟨by first | omega | exact Nat.le_refl _⟩, ⟨HO532.out⟩, ⟨BK529.out⟩, ⟨HB.out⟩⟩
 case rest =>
  clear HC6
  try clear hcz10_0
  try clear hcz10_1
  try clear hcz10_2
  try clear hcz10_3
  try clear hcz10_4
  try clear hcz8_0
  try clear hcz8_1
  try clear hcz8_2
  try clear hcz8_3
  try clear hcz8_4
  try clear hfz10_0
  try clear hfz10_1
  try clear hfz10_2
  try clear hfz10_3
  try clear hfz10_4
  try clear hfz8_0
  try clear hfz8_1
  try clear hfz8_2
  try clear hfz8_3
  try clear hfz8_4
  obtain ⟨kq, x32_5, rfl, HA, HJ5, HO_7, BK529, HB⟩ := hcut
  cases kq with
  | zero => exact absurd HA.out (by simp [Zd.j0])
  | succ kj5 =>
   have H := HA.out
   clear HA
   simp only [Zd.j0] at H
   have HC13 := Za.mk H
   clear H
   go_upto_if 32 with (fail)
   go_cut [9] (fun v9 wc => ∃ (kq : Nat) (x9_12 : Int), v9 = .int .i64 x9_12 ∧ Za (Zd.j1 kq l1 l2 t530 t533 x9_12 l0_0 l0_1 l0_2 l0_3 l0_4 = some r) ∧ Za (kq ≤ kj5) ∧ Za (Kd.S (Kd.slice 4 Kd.bool) 53 wc w.heap.size (fun _ => True) v531 t530) ∧ Za (wc.heap[gb529]? = some (.cells #[(.slice A0_0 l0_0.length c0_0), (.slice A0_1 l0_1.length c0_1), (.slice A0_2 l0_2.length c0_2), (.slice A0_3 l0_3.length c0_3), (.slice A0_4 l0_4.length c0_4)] 27 (0, 0))) ∧ Za (Below w.heap.size w wc))
   case first =>
    have H := HC13.out
    clear HC13
    by_cases c14 : x32_5 = true
    ·subst c14
     have H1 : (Zd.j1 kj5 l1 l2 t530 t533 3 l0_0 l0_1 l0_2 l0_3 l0_4) = some r := by rw [if_pos rfl] at H; exact H
     clear H
     have H := H1
     clear H1
     have H' := Za.mk H
     clear H
     go_wp2
     go_meet
     case rel => exact ⟨_, (3), (by first | rfl | (simp; done) | (simp [*]; done)), H', ⟨by have := HJ5.out; first | omega | exact Nat.le_refl _⟩, ⟨HO_7.out⟩, ⟨BK529.out⟩, ⟨HB.out⟩⟩
    ·replace c14 := Bool.eq_false_iff.mpr c14
     subst c14
     have H1 : (Zd.j1 kj5 l1 l2 t530 t533 t534 l0_0 l0_1 l0_2 l0_3 l0_4) = some r := by rw [if_neg (show ¬ (false = true) by decide)] at H; exact H
     clear H
     have H := H1
     clear H1
     have H' := Za.mk H
     clear H
     go_wp2
     go_meet
     case rel => exact ⟨_, (t534), (by first | rfl | (simp; done) | (simp [*]; done)), H', ⟨by have := HJ5.out; first | omega | exact Nat.le_refl _⟩, ⟨HO_7.out⟩, ⟨BK529.out⟩, ⟨HB.out⟩⟩
   case rest =>
    clear HC13
    obtain ⟨kq, x9_12, rfl, HA, HJ12, HO_7, BK529, HB⟩ := hcut
    cases kq with
    | zero => exact absurd HA.out (by simp [Zd.j1])
    | succ kj12 =>
     have H := HA.out
     clear HA
     simp only [Zd.j1] at H
     have HC15 := Za.mk H
     clear H
     go_upto_if 34 with (fail)
     go_cut [9] (fun v9 wc => ∃ (kq : Nat) (x9_14 : Int), v9 = .int .i64 x9_14 ∧ Za (Zd.j2 kq l1 l2 t530 t533 x9_14 l0_0 l0_1 l0_2 l0_3 l0_4 = some r) ∧ Za (kq ≤ kj12) ∧ Za (Kd.S (Kd.slice 4 Kd.bool) 53 wc w.heap.size (fun _ => True) v531 t530) ∧ Za (wc.heap[gb529]? = some (.cells #[(.slice A0_0 l0_0.length c0_0), (.slice A0_1 l0_1.length c0_1), (.slice A0_2 l0_2.length c0_2), (.slice A0_3 l0_3.length c0_3), (.slice A0_4 l0_4.length c0_4)] 27 (0, 0))) ∧ Za (Below w.heap.size w wc))
     case first =>
      have H := HC15.out
      clear HC15
      by_cases c16 : x9_12 = 0
      ·rw [if_pos c16] at H
       have c16b0 : (x9_12 == 0) = true := beq_iff_eq.mpr c16
       have c16b1 : (x9_12 != 0) = false := bne_eq_false_iff_eq.mpr c16
       clear c16
       (first | rw [c16b0] | (simp only [Xr, Xv]; rw [c16b0]) | skip)
       replace H := Option.bind_eq_some_iff.mp H
       obtain ⟨t535, A170, H⟩ := H
       replace H : (Zd.j2 kj12 l1 l2 t530 t533 t535 l0_0 l0_1 l0_2 l0_3 l0_4) = some r := H
       have A17 := Za.mk A170
       clear A170
       have H' := Za.mk H
       clear H
       have hcz18_0 : wc.cell? ⟨gb529, 0, none⟩ = some (.slice A0_0 l0_0.length c0_0) := (Zc BK529.out 0).trans rfl
       have hcz18_1 : wc.cell? ⟨gb529, 1, none⟩ = some (.slice A0_1 l0_1.length c0_1) := (Zc BK529.out 1).trans rfl
       have hcz18_2 : wc.cell? ⟨gb529, 2, none⟩ = some (.slice A0_2 l0_2.length c0_2) := (Zc BK529.out 2).trans rfl
       have hcz18_3 : wc.cell? ⟨gb529, 3, none⟩ = some (.slice A0_3 l0_3.length c0_3) := (Zc BK529.out 3).trans rfl
       have hcz18_4 : wc.cell? ⟨gb529, 4, none⟩ = some (.slice A0_4 l0_4.length c0_4) := (Zc BK529.out 4).trans rfl
       have hfz18_0 := Zb BK529.out 0
       have hfz18_1 := Zb BK529.out 1
       have hfz18_2 := Zb BK529.out 2
       have hfz18_3 := Zb BK529.out 3
       have hfz18_4 := Zb BK529.out 4
       go_wp2_with (((with_reducible refine Xi (f := 21) rfl ?_); refine Qo (some 37) rfl rfl Try.func21 (by kernel_rfl) rfl #[.agg #[.slice A0_0 l0_0.length c0_0, .slice A0_1 l0_1.length c0_1, .slice A0_2 l0_2.length c0_2, .slice A0_3 l0_3.length c0_3, .slice A0_4 l0_4.length c0_4], .slice A2 l2.length c2] rfl (by (try simp only [List.map_toArray, List.map_cons, List.map_nil]); first | done | rfl | (simp only [List.length_drop, List.length_take]; rfl)) ?_; (with_reducible refine (Xm.calls kj12 _ _ l0_0 _ _ l0_1 _ _ l0_2 _ _ l0_3 _ _ l0_4 _ _ l2 t535 _ ?side1 ?side2 ?side3 ?side4 ?side5 ?side6 ?side7 ?side8 ?side9 ?side10 ?side11 ?side12 A17.out).mono ?_); (case side1 => exact (Kd.Zf HR0_0.out HB.out)); (case side2 => exact HC0_0.out); (case side3 => exact (Kd.Zf HR0_1.out HB.out)); (case side4 => exact HC0_1.out); (case side5 => exact (Kd.Zf HR0_2.out HB.out)); (case side6 => exact HC0_2.out); (case side7 => exact (Kd.Zf HR0_3.out HB.out)); (case side8 => exact HC0_3.out); (case side9 => exact (Kd.Zf HR0_4.out HB.out)); (case side10 => exact HC0_4.out); (case side11 => exact (Kd.Zf HR2.out HB.out)); (case side12 => exact HC2.out); rintro e w19 ⟨rfl, hb⟩; refine ⟨_, rfl, ?_⟩; have n0_ := Za.mk (Kd.S_below HO_7.out hb); have n1_ := Za.mk (Zo BK529.out hb); have n2_ := Za.mk (Zh HB.out hb); clear HO_7; clear BK529; clear HB; have HO_7 := n0_; have BK529 := n1_; have HB := n2_; clear n0_ n1_ n2_; (try clear hb); (try clear hb2); (try clear hk); (try clear hi)))
       go_meet
       case rel => exact ⟨_, (t535), (by first | rfl | (simp; done) | (simp [*]; done)), H', ⟨by have := HJ5.out; have := HJ12.out; first | omega | exact Nat.le_refl _⟩, ⟨HO_7.out⟩, ⟨BK529.out⟩, ⟨HB.out⟩⟩
      ·rw [if_neg c16] at H
       have c16b0 : (x9_12 == 0) = false := beq_eq_false_iff_ne.mpr c16
       have c16b1 : (x9_12 != 0) = true := bne_iff_ne.mpr c16
       (first | rw [c16b0] | (simp only [Xr, Xv]; rw [c16b0]) | skip)
       have H' := Za.mk H
       clear H
       go_wp2
       go_meet
       case rel => exact ⟨_, (x9_12), (by first | rfl | (simp; done) | (simp [*]; done)), H', ⟨by have := HJ5.out; have := HJ12.out; first | omega | exact Nat.le_refl _⟩, ⟨HO_7.out⟩, ⟨BK529.out⟩, ⟨HB.out⟩⟩
     case rest =>
      clear HC15
      obtain ⟨kq, x9_14, rfl, HA, HJ14, HO_7, BK529, HB⟩ := hcut
      cases kq with
      | zero => exact absurd HA.out (by simp [Zd.j2])
      | succ kj14 =>
       have H := HA.out
       clear HA
       simp only [Zd.j2] at H
       have HC20 := Za.mk H
       clear H
       go_upto_block 0 with (fail)
       go_cut [9] (fun v9 wc => ∃ (kq : Nat) (x9_19 : Int), v9 = .int .i64 x9_19 ∧ Za (Zd.j4 kq l1 l2 t530 t533 x9_19 l0_0 l0_1 l0_2 l0_3 l0_4 = some r) ∧ Za (kq ≤ kj14) ∧ Za (Kd.S (Kd.slice 4 Kd.bool) 53 wc w.heap.size (fun _ => True) v531 t530) ∧ Za (wc.heap[gb529]? = some (.cells #[(.slice A0_0 l0_0.length c0_0), (.slice A0_1 l0_1.length c0_1), (.slice A0_2 l0_2.length c0_2), (.slice A0_3 l0_3.length c0_3), (.slice A0_4 l0_4.length c0_4)] 27 (0, 0))) ∧ Za (Below w.heap.size w wc))
       case first =>
        have H := HC20.out
        clear HC20
        have H' := Za.mk H
        clear H
        go_wp2
        go_loopg [9, 10] kj14 (fun kq v9 v10 w' => ∃ (x9_4 : Int) (x10_4 : Int), v9 = .int .i64 x9_4 ∧ v10 = .int .i64 x10_4 ∧ Za (Zd.l0 kq l1 l2 t530 t533 x9_4 x10_4 l0_0 l0_1 l0_2 l0_3 l0_4 = some r) ∧ Za (kq ≤ kj14) ∧ Za (Kd.S (Kd.slice 4 Kd.bool) 53 w' w.heap.size (fun _ => True) v531 t530) ∧ Za (w'.heap[gb529]? = some (.cells #[(.slice A0_0 l0_0.length c0_0), (.slice A0_1 l0_1.length c0_1), (.slice A0_2 l0_2.length c0_2), (.slice A0_3 l0_3.length c0_3), (.slice A0_4 l0_4.length c0_4)] 27 (0, 0))) ∧ Za (Below w.heap.size w w'))
        case atStart => exact ⟨(x9_14), (0), (by first | rfl | (simp; done) | (simp [*]; done)), (by first | rfl | (simp; done) | (simp [*]; done)), H', ⟨Nat.le_refl _⟩, ⟨HO_7.out⟩, ⟨BK529.out⟩, ⟨HB.out⟩⟩
        case round =>
         clear H'
         obtain ⟨x9_4, x10_4, rfl, rfl, HA, HK4, HO_7, BK529, HB⟩ := hrel
         cases gk with
         | zero => exact absurd HA.out (by simp [Zd.l0])
         | succ k4 =>
          have H := HA.out
          clear HA
          simp only [Zd.l0] at H
          by_cases c21 : x10_4 < (l1.length : Int)
          ·rw [if_pos c21] at H
           have c21b0 : decide (x10_4 < (l1.length : Int)) = true := decide_eq_true c21
           clear c21
           (first | rw [c21b0] | (simp only [Xr, Xv]; rw [c21b0]) | skip)
           by_cases c22 : x9_4 = 0
           ·rw [if_pos c22] at H
            have c22b0 : (x9_4 == 0) = true := beq_iff_eq.mpr c22
            have c22b1 : (x9_4 != 0) = false := bne_eq_false_iff_eq.mpr c22
            clear c22
            by_cases c23 : 0 ≤ x10_4
            ·rw [if_pos c23] at H
             have c23b0 : decide (0 ≤ x10_4) = true := decide_eq_true c23
             clear c23
             replace H := Option.bind_eq_some_iff.mp H
             obtain ⟨t537, A240, H⟩ := H
             replace H : (Zd.l0 k4 l1 l2 t530 t533 t537 (wrap64 (x10_4 + 1)) l0_0 l0_1 l0_2 l0_3 l0_4) = some r := H
             have A24 := Za.mk A240
             clear A240
             have H' := Za.mk H
             clear H
             try go_wp2
             have n0_ := Za.mk (Kd.S_drew HO_7.out)
             have n1_ := Za.mk (Zm BK529.out)
             have n2_ := Za.mk (Zv HB.out)
             clear HO_7
             clear BK529
             clear HB
             have HO_7 := n0_
             have BK529 := n1_
             have HB := n2_
             clear n0_ n1_ n2_
             have p536 : 0 ≤ (x10_4 : Int) := of_decide_eq_true (by first | (with_reducible assumption) | assumption)
             have q536 : x10_4 < (l1.length : Int) := of_decide_eq_true (by first | (with_reducible assumption) | assumption)
             obtain ⟨ad536, e536, hx536_0, hx536_1, hx536_2⟩ := at_T29 HR1.out x10_4 p536 q536
             have hw536_2 := hx536_2
             have hw536_1 := hx536_1
             have hw536_0 := hx536_0
             cases e536
             replace hx536_0 := (HB.out.cell (World.block_lt_of_cell? w _ hx536_0)).trans hx536_0
             replace hx536_1 := (HB.out.cell (World.block_lt_of_cell? w _ hx536_1)).trans hx536_1
             replace hx536_2 := (HB.out.cell (World.block_lt_of_cell? w _ hx536_2)).trans hx536_2
             replace p536 := eq_true p536
             replace q536 := eq_true q536
             refine start_ (n := 7) (S := fun w' => w'.cell? ⟨gb529, 0, none⟩ = some (.slice A0_0 l0_0.length c0_0) ∧ w'.cell? ⟨gb529, 1, none⟩ = some (.slice A0_1 l0_1.length c0_1) ∧ w'.cell? ⟨gb529, 2, none⟩ = some (.slice A0_2 l0_2.length c0_2) ∧ w'.cell? ⟨gb529, 3, none⟩ = some (.slice A0_3 l0_3.length c0_3) ∧ w'.cell? ⟨gb529, 4, none⟩ = some (.slice A0_4 l0_4.length c0_4) ∧ w'.cell? (ad536.add ((x10_4).toNat * 3)) = some (.int .i64 ((Xc l1 x10_4).f0)) ∧ w'.cell? ⟨(ad536.add ((x10_4).toNat * 3)).block, (ad536.add ((x10_4).toNat * 3)).off + 1, none⟩ = some (.int .i64 ((Xc l1 x10_4).f1)) ∧ w'.cell? ⟨(ad536.add ((x10_4).toNat * 3)).block, (ad536.add ((x10_4).toNat * 3)).off + 2, none⟩ = some (.bool ((Xc l1 x10_4).f2))) (ds := []) #[false, false, false, false, false, false, false] (by kernel_rfl) rfl rfl ⟨(Zc BK529.out 0).trans rfl, (Zc BK529.out 1).trans rfl, (Zc BK529.out 2).trans rfl, (Zc BK529.out 3).trans rfl, (Zc BK529.out 4).trans rfl, ((HB.out.cell (World.block_lt_of_cell? w _ hw536_0)).trans hw536_0), ((HB.out.cell (World.block_lt_of_cell? w _ hw536_1)).trans hw536_1), ((HB.out.cell (World.block_lt_of_cell? w _ hw536_2)).trans hw536_2)⟩ (fun hHeld => ?_)
             generalize wr.drew = w25 at HO_7 BK529 HB hx536_0 hx536_1 hx536_2 hHeld ⊢
             refine Qp (i := 1) (N := some 49) (v := ?_) (a' := ?_) #[false, true, false, false, false, false, false] rfl rfl (by kernel_rfl) (fun _ _ _ h => h) (Or.inl ⟨by rfl, ?_⟩) ?_ ?_
             rotate_left
             ·intro w'
              go_simp
              with_reducible rfl
             rotate_left
             ·simp only [Act.put, List.setIfInBounds_toArray, List.set_cons_zero, List.set_cons_succ, Xr, Xv]
              rfl
             refine Qp (i := 2) (N := some 50) (v := ?_) (a' := ?_) #[false, true, true, false, false, false, false] rfl rfl (by kernel_rfl) (fun _ _ _ h => h) (Or.inl ⟨by rfl, ?_⟩) ?_ ?_
             rotate_left
             ·intro w'
              go_simp
              with_reducible rfl
             rotate_left
             ·simp only [Act.put, List.setIfInBounds_toArray, List.set_cons_zero, List.set_cons_succ, Xr, Xv]
              rfl
             refine Qp (i := 3) (N := some 51) (v := ?_) (a' := ?_) #[false, true, true, true, false, false, false] rfl rfl (by kernel_rfl) (fun _ _ _ h => h) (Or.inl ⟨by rfl, ?_⟩) ?_ ?_
             rotate_left
             ·intro w'
              go_simp
              with_reducible rfl
             rotate_left
             ·simp only [Act.put, List.setIfInBounds_toArray, List.set_cons_zero, List.set_cons_succ, Xr, Xv]
              rfl
             refine take_ (i := 0) (N := some 48) (v := ?_) (a' := ?_) #[true, true, true, true, false, false, false] rfl rfl (by kernel_rfl) (fun _ _ _ h => h) (Or.inl ⟨by rfl, ?_⟩) hHeld ?_ ?_
             rotate_left
             ·rintro w' ⟨s0, s1, s2, s3, s4, s5, s6, s7⟩
              go_simp
              with_reducible rfl
             rotate_left
             ·simp only [Act.put, List.setIfInBounds_toArray, List.set_cons_zero, List.set_cons_succ, Xr, Xv]
              rfl
             refine take_ (i := 4) (N := some 52) (v := ?_) (a' := ?_) #[true, true, true, true, true, false, false] rfl rfl (by kernel_rfl) (fun _ _ _ h => h) (Or.inl ⟨by rfl, ?_⟩) hHeld ?_ ?_
             rotate_left
             ·rintro w' ⟨s0, s1, s2, s3, s4, s5, s6, s7⟩
              go_simp
              with_reducible rfl
             rotate_left
             ·simp only [Act.put, List.setIfInBounds_toArray, List.set_cons_zero, List.set_cons_succ, Xr, Xv]
              rfl
             refine one_ (i := 5) (N := some 53) #[true, true, true, true, true, true, false] rfl rfl (by kernel_rfl) (by decide) (fun K hK => ?_)
             refine goes_ Try.func10 (by kernel_rfl) rfl #[.agg #[.slice A0_0 l0_0.length c0_0, .slice A0_1 l0_1.length c0_1, .slice A0_2 l0_2.length c0_2, .slice A0_3 l0_3.length c0_3, .slice A0_4 l0_4.length c0_4], .agg #[.int .i64 ((Xc l1 x10_4).f0), .int .i64 ((Xc l1 x10_4).f1), .bool ((Xc l1 x10_4).f2)]] (by rfl) rfl rfl (by (try simp only [List.map_toArray, List.map_cons, List.map_nil]); first | done | rfl | (simp only [List.length_drop, List.length_take]; rfl)) ?_
             with_reducible refine (Xh.calls k4 _ _ l0_0 _ _ l0_1 _ _ l0_2 _ _ l0_3 _ _ l0_4 ((Xc l1 x10_4).f0) ((Xc l1 x10_4).f1) ((Xc l1 x10_4).f2) t537 _ ?side1 ?side2 ?side3 ?side4 ?side5 ?side6 ?side7 ?side8 ?side9 ?side10 A24.out).mono ?_
             (case side1 => exact (Kd.Zf HR0_0.out HB.out))
             (case side2 => exact HC0_0.out)
             (case side3 => exact (Kd.Zf HR0_1.out HB.out))
             (case side4 => exact HC0_1.out)
             (case side5 => exact (Kd.Zf HR0_2.out HB.out))
             (case side6 => exact HC0_2.out)
             (case side7 => exact (Kd.Zf HR0_3.out HB.out))
             (case side8 => exact HC0_3.out)
             (case side9 => exact (Kd.Zf HR0_4.out HB.out))
             (case side10 => exact HC0_4.out)
             rintro e w26 ⟨rfl, hb⟩
             refine ⟨_, rfl, ?_⟩
             have n0_ := Za.mk (Kd.S_below HO_7.out hb)
             have n1_ := Za.mk (Zo BK529.out hb)
             have n2_ := Za.mk (Zh HB.out hb)
             clear HO_7
             clear BK529
             clear HB
             have HO_7 := n0_
             have BK529 := n1_
             have HB := n2_
             clear n0_ n1_ n2_
             (try clear hb)
             (try clear hb2)
             (try clear hk)
             (try clear hi)
             refine hK.out _ _ ⟨(Zc BK529.out 0).trans rfl, (Zc BK529.out 1).trans rfl, (Zc BK529.out 2).trans rfl, (Zc BK529.out 3).trans rfl, (Zc BK529.out 4).trans rfl, ((HB.out.cell (World.block_lt_of_cell? w _ hw536_0)).trans hw536_0), ((HB.out.cell (World.block_lt_of_cell? w _ hw536_1)).trans hw536_1), ((HB.out.cell (World.block_lt_of_cell? w _ hw536_2)).trans hw536_2)⟩ (fun hHeld => ?_)
             clear hK K
             refine norm_ (a' := ?_) ?_ ?_
             rotate_left
             ·show Act.put _ (some 53) _ = _
              simp only [Act.put, List.setIfInBounds_toArray, List.set_cons_zero, List.set_cons_succ, Xr, Xv]
              rfl
             refine Qp (i := 6) (N := some 9) (v := ?_) (a' := ?_) #[true, true, true, true, true, true, true] rfl rfl (by kernel_rfl) (fun _ _ _ h => h) (Or.inl ⟨by rfl, ?_⟩) ?_ ?_
             rotate_left
             ·intro w'
              go_simp
              with_reducible rfl
             rotate_left
             ·simp only [Act.put, List.setIfInBounds_toArray, List.set_cons_zero, List.set_cons_succ, Xr, Xv]
              rfl
             refine done_ (by kernel_rfl) ?_
             try go_wp2
             go_roundg k4
             case measure => have := HJ5.out; have := HJ12.out; have := HJ14.out; have := HK4.out; omega
             case rel => exact ⟨(t537), (wrap64 (x10_4 + 1)), (by first | rfl | (simp; done) | (simp [*]; done)), (by first | rfl | (simp; done) | (simp [*]; done)), H', ⟨by have := HJ5.out; have := HJ12.out; have := HJ14.out; have := HK4.out; omega⟩, ⟨HO_7.out⟩, ⟨BK529.out⟩, ⟨HB.out⟩⟩
            ·rw [if_neg c23] at H
             exact absurd H (by simp)
           ·rw [if_neg c22] at H
            have c22b0 : (x9_4 == 0) = false := beq_eq_false_iff_ne.mpr c22
            have c22b1 : (x9_4 != 0) = true := bne_iff_ne.mpr c22
            have H' := Za.mk H
            clear H
            go_wp2
            go_meet
            case rel => exact ⟨_, (x9_4), (by first | rfl | (simp; done) | (simp [*]; done)), H', ⟨by have := HJ5.out; have := HJ12.out; have := HJ14.out; have := HK4.out; first | omega | exact Nat.le_refl _⟩, ⟨HO_7.out⟩, ⟨BK529.out⟩, ⟨HB.out⟩⟩
          ·rw [if_neg c21] at H
           have c21b0 : decide (x10_4 < (l1.length : Int)) = false := decide_eq_false c21
           clear c21
           (first | rw [c21b0] | (simp only [Xr, Xv]; rw [c21b0]) | skip)
           have H' := Za.mk H
           clear H
           go_wp2
           go_meet
           case rel => exact ⟨_, (x9_4), (by first | rfl | (simp; done) | (simp [*]; done)), H', ⟨by have := HJ5.out; have := HJ12.out; have := HJ14.out; have := HK4.out; first | omega | exact Nat.le_refl _⟩, ⟨HO_7.out⟩, ⟨BK529.out⟩, ⟨HB.out⟩⟩
       case rest =>
        clear HC20
        obtain ⟨kq, x9_19, rfl, HA, HJ19, HO_7, BK529, HB⟩ := hcut
        cases kq with
        | zero => exact absurd HA.out (by simp [Zd.j4])
        | succ kj19 =>
         have H := HA.out
         clear HA
         simp only [Zd.j4] at H
         by_cases c27 : x9_19 = 0
         ·rw [if_pos c27] at H
          have c27b0 : (x9_19 == 0) = true := beq_iff_eq.mpr c27
          have c27b1 : (x9_19 != 0) = false := bne_eq_false_iff_eq.mpr c27
          clear c27
          have HC28 := Za.mk H
          clear H
          go_upto_region 13 with (fail)
          go_cut [79] (fun v79 wc => ∃ (kq : Nat) (x79_27 : Bool), v79 = .bool x79_27 ∧ Za (Zd.j5 kq l1 l2 t530 x79_27 l0_0 l0_1 l0_2 l0_3 l0_4 = some r) ∧ Za (kq ≤ kj19) ∧ Za (Kd.S (Kd.slice 4 Kd.bool) 53 wc w.heap.size (fun _ => True) v531 t530) ∧ Za (wc.heap[gb529]? = some (.cells #[(.slice A0_0 l0_0.length c0_0), (.slice A0_1 l0_1.length c0_1), (.slice A0_2 l0_2.length c0_2), (.slice A0_3 l0_3.length c0_3), (.slice A0_4 l0_4.length c0_4)] 27 (0, 0))) ∧ Za (Below w.heap.size w wc))
          case first =>
           have H := HC28.out
           clear HC28
           replace H := Option.bind_eq_some_iff.mp H
           obtain ⟨t539, A290, H⟩ := H
           replace H : (if t539 = true then (if t533 = 0 then (Zd.j5 kj19 l1 l2 t530 ((t530.length : Int) != (l1.length : Int)) l0_0 l0_1 l0_2 l0_3 l0_4) else (Zd.j5 kj19 l1 l2 t530 true l0_0 l0_1 l0_2 l0_3 l0_4)) else (Zd.j5 kj19 l1 l2 t530 true l0_0 l0_1 l0_2 l0_3 l0_4)) = some r := H
           have A29 := Za.mk A290
           clear A290
           by_cases c30 : t539 = true
           ·subst c30
            have H1 : (if t533 = 0 then (Zd.j5 kj19 l1 l2 t530 ((t530.length : Int) != (l1.length : Int)) l0_0 l0_1 l0_2 l0_3 l0_4) else (Zd.j5 kj19 l1 l2 t530 true l0_0 l0_1 l0_2 l0_3 l0_4)) = some r := by rw [if_pos rfl] at H; exact H
            clear H
            have H := H1
            clear H1
            by_cases c31 : t533 = 0
            ·rw [if_pos c31] at H
             have c31b0 : (t533 == 0) = true := beq_iff_eq.mpr c31
             have c31b1 : (t533 != 0) = false := bne_eq_false_iff_eq.mpr c31
             clear c31
             (first | rw [c31b0] | (simp only [Xr, Xv]; rw [c31b0]) | skip)
             have H' := Za.mk H
             clear H
             go_wp2_with (((with_reducible refine Xi (f := 11) rfl ?_); refine Qo (some 67) rfl rfl Try.func11 (by kernel_rfl) rfl #[] rfl (by (try simp only [List.map_toArray, List.map_cons, List.map_nil]); first | done | rfl | (simp only [List.length_drop, List.length_take]; rfl)) ?_; (with_reducible refine (Qm.calls kj19  true _ A29.out).mono ?_); rintro e w32 ⟨rfl, hb⟩; refine ⟨_, rfl, ?_⟩; have n0_ := Za.mk (Kd.S_below HO_7.out hb); have n1_ := Za.mk (Zo BK529.out hb); have n2_ := Za.mk (Zh HB.out hb); clear HO_7; clear BK529; clear HB; have HO_7 := n0_; have BK529 := n1_; have HB := n2_; clear n0_ n1_ n2_; (try clear hb); (try clear hb2); (try clear hk); (try clear hi); obtain ⟨Ao33, co33, eo33⟩ := Kd.S_slice HO_7.out; subst eo33))
             go_meet
             case rel => exact ⟨_, (((t530.length : Int) != (l1.length : Int))), (by first | rfl | (simp; done) | (simp [*]; done)), H', ⟨by have := HJ5.out; have := HJ12.out; have := HJ14.out; have := HJ19.out; first | omega | exact Nat.le_refl _⟩, ⟨HO_7.out⟩, ⟨BK529.out⟩, ⟨HB.out⟩⟩
            ·rw [if_neg c31] at H
             have c31b0 : (t533 == 0) = false := beq_eq_false_iff_ne.mpr c31
             have c31b1 : (t533 != 0) = true := bne_iff_ne.mpr c31
             (first | rw [c31b0] | (simp only [Xr, Xv]; rw [c31b0]) | skip)
             have H' := Za.mk H
             clear H
             go_wp2_with (((with_reducible refine Xi (f := 11) rfl ?_); refine Qo (some 67) rfl rfl Try.func11 (by kernel_rfl) rfl #[] rfl (by (try simp only [List.map_toArray, List.map_cons, List.map_nil]); first | done | rfl | (simp only [List.length_drop, List.length_take]; rfl)) ?_; (with_reducible refine (Qm.calls kj19  true _ A29.out).mono ?_); rintro e w34 ⟨rfl, hb⟩; refine ⟨_, rfl, ?_⟩; have n0_ := Za.mk (Kd.S_below HO_7.out hb); have n1_ := Za.mk (Zo BK529.out hb); have n2_ := Za.mk (Zh HB.out hb); clear HO_7; clear BK529; clear HB; have HO_7 := n0_; have BK529 := n1_; have HB := n2_; clear n0_ n1_ n2_; (try clear hb); (try clear hb2); (try clear hk); (try clear hi)))
             go_meet
             case rel => exact ⟨_, (true), (by first | rfl | (simp; done) | (simp [*]; done)), H', ⟨by have := HJ5.out; have := HJ12.out; have := HJ14.out; have := HJ19.out; first | omega | exact Nat.le_refl _⟩, ⟨HO_7.out⟩, ⟨BK529.out⟩, ⟨HB.out⟩⟩
           ·replace c30 := Bool.eq_false_iff.mpr c30
            subst c30
            have H1 : (Zd.j5 kj19 l1 l2 t530 true l0_0 l0_1 l0_2 l0_3 l0_4) = some r := by rw [if_neg (show ¬ (false = true) by decide)] at H; exact H
            clear H
            have H := H1
            clear H1
            have H' := Za.mk H
            clear H
            go_wp2_with (((with_reducible refine Xi (f := 11) rfl ?_); refine Qo (some 67) rfl rfl Try.func11 (by kernel_rfl) rfl #[] rfl (by (try simp only [List.map_toArray, List.map_cons, List.map_nil]); first | done | rfl | (simp only [List.length_drop, List.length_take]; rfl)) ?_; (with_reducible refine (Qm.calls kj19  false _ A29.out).mono ?_); rintro e w35 ⟨rfl, hb⟩; refine ⟨_, rfl, ?_⟩; have n0_ := Za.mk (Kd.S_below HO_7.out hb); have n1_ := Za.mk (Zo BK529.out hb); have n2_ := Za.mk (Zh HB.out hb); clear HO_7; clear BK529; clear HB; have HO_7 := n0_; have BK529 := n1_; have HB := n2_; clear n0_ n1_ n2_; (try clear hb); (try clear hb2); (try clear hk); (try clear hi)))
            go_meet
            case rel => exact ⟨_, (true), (by first | rfl | (simp; done) | (simp [*]; done)), H', ⟨by have := HJ5.out; have := HJ12.out; have := HJ14.out; have := HJ19.out; first | omega | exact Nat.le_refl _⟩, ⟨HO_7.out⟩, ⟨BK529.out⟩, ⟨HB.out⟩⟩
          case rest =>
           clear HC28
           try clear c27b0
           try clear c27b1
           obtain ⟨kq, x79_27, rfl, HA, HJ27, HO_7, BK529, HB⟩ := hcut
           cases kq with
           | zero => exact absurd HA.out (by simp [Zd.j5])
           | succ kj27 =>
            have H := HA.out
            clear HA
            simp only [Zd.j5] at H
            by_cases c36 : x79_27 = true
            ·subst c36
             have H1 : (none) = some r := by rw [if_pos rfl] at H; exact H
             exact absurd H1 (by simp)
            ·replace c36 := Bool.eq_false_iff.mpr c36
             subst c36
             have H1 : (if 0 ≤ (mn (l1.length : Int) 60) then (if (mn (l1.length : Int) 60) ≤ (l1.length : Int) then ((some (l1.take ((mn (l1.length : Int) 60) : Int).toNat : List (S29))).bind fun y540 => (Zd.l1 kj27 l2 t530 y540 (y540.length : Int) 0 l0_0 l0_1 l0_2 l0_3 l0_4)) else (none)) else (none)) = some r := by rw [if_neg (show ¬ (false = true) by decide)] at H; exact H
             clear H
             have H := H1
             clear H1
             obtain ⟨ji37, hji37⟩ : ∃ j_ : Int, (mn (l1.length : Int) 60) = j_ := ⟨_, rfl⟩
             replace H : (if 0 ≤ (ji37) then (if (ji37) ≤ (l1.length : Int) then ((some (l1.take ((ji37) : Int).toNat : List (S29))).bind fun y540 => (Zd.l1 kj27 l2 t530 y540 (y540.length : Int) 0 l0_0 l0_1 l0_2 l0_3 l0_4)) else (none)) else (none)) = some r := by first | (rw [hji37] at H; exact H) | (simp only [hji37] at H ⊢; exact H)
             have hji37_ : (if 60 < (l1.length : Int) then 60 else (l1.length : Int)) = ji37 := hji37
             by_cases c38 : 0 ≤ (ji37)
             ·rw [if_pos c38] at H
              have c38b0 := eq_true c38
              have c38b1 : decide (0 ≤ (ji37)) = true := decide_eq_true c38
              clear c38
              by_cases c39 : (ji37) ≤ (l1.length : Int)
              ·rw [if_pos c39] at H
               have c39b0 := eq_true c39
               have c39b1 : decide ((ji37) ≤ (l1.length : Int)) = true := decide_eq_true c39
               clear c39
               obtain ⟨y540, hy540⟩ : ∃ y_ : List (S29), y_ = (l1.take ((ji37) : Int).toNat) := ⟨_, rfl⟩
               replace H : (Zd.l1 kj27 l2 t530 y540 (y540.length : Int) 0 l0_0 l0_1 l0_2 l0_3 l0_4) = some r := by first | (rw [hy540]; with_reducible exact H) | (have H2_ := (Option.bind_some _ _).symm.trans H; rw [hy540]; with_reducible exact H2_) | (have H2_ := (Option.bind_some _ _).symm.trans H; with_reducible exact H2_) | with_reducible exact H | (rw [hy540]; exact H) | exact H
               have Ny540 := Za.mk hy540
               clear hy540
               have H' := Za.mk H
               clear H
               have q40 : ((ji37) : Int) ≤ ((l1.length : Int) : Int) := of_decide_eq_true (by first | (with_reducible assumption) | assumption)
               obtain ⟨i040, hi040, _, hsz40, _⟩ := info_parts info29
               have hroom40 : l1.length ≤ c1 := HC1.out
               have hC40 : Kd.C k29 _ A1 l1.length l1 := HR1.out
               have hcut40 := cut_to (P := Try.prog) 39 29 .i64 Try.underlying39 hi040 A1 l1.length c1 (ji37) (of_decide_eq_true (by first | (with_reducible assumption) | assumption)) q40 hroom40
               have hr40 := Kd.C_take (m := ((ji37) : Int).toNat) hC40 (by omega)
               have hy40 : y540.length = ((ji37) : Int).toNat := (by rw [Ny540.out, List.length_take]; omega)
               rw [← Ny540.out] at hr40
               rw [← hy40] at hcut40
               have HR543 := Za.mk hr40
               have HC543 := Za.mk (show y540.length ≤ c1 from by omega)
               clear hr40 hC40 hroom40 hi040 hsz40
               have KY40 := Za.mk hy40
               clear hy40
               replace q40 := eq_true q40
               go_wp2
               go_loopg [86] kj27 (fun kq v86 w' => ∃ (x86_6 : Int), v86 = .int .i64 x86_6 ∧ Za (Zd.l1 kq l2 t530 y540 (y540.length : Int) x86_6 l0_0 l0_1 l0_2 l0_3 l0_4 = some r) ∧ Za (kq ≤ kj27) ∧ Za (Kd.S (Kd.slice 4 Kd.bool) 53 w' w.heap.size (fun _ => True) v531 t530) ∧ Za (w'.heap[gb529]? = some (.cells #[(.slice A0_0 l0_0.length c0_0), (.slice A0_1 l0_1.length c0_1), (.slice A0_2 l0_2.length c0_2), (.slice A0_3 l0_3.length c0_3), (.slice A0_4 l0_4.length c0_4)] 27 (0, 0))) ∧ Za (Below w.heap.size w w'))
               case atStart => exact ⟨(0), (by first | rfl | (simp; done) | (simp [*]; done)), H', ⟨Nat.le_refl _⟩, ⟨HO_7.out⟩, ⟨BK529.out⟩, ⟨HB.out⟩⟩
               case round =>
                clear H'
                try clear c38b0
                try clear c38b1
                try clear c39b0
                try clear c39b1
                try clear q40
                obtain ⟨x86_6, rfl, HA, HK6, HO_7, BK529, HB⟩ := hrel
                cases gk with
                | zero => exact absurd HA.out (by simp [Zd.l1])
                | succ k6 =>
                 have H := HA.out
                 clear HA
                 simp only [Zd.l1] at H
                 by_cases c41 : x86_6 < (y540.length : Int)
                 ·rw [if_pos c41] at H
                  have c41b0 : decide (x86_6 < (y540.length : Int)) = true := decide_eq_true c41
                  clear c41
                  by_cases c42 : 0 ≤ x86_6
                  ·rw [if_pos c42] at H
                   have c42b0 : decide (0 ≤ x86_6) = true := decide_eq_true c42
                   clear c42
                   by_cases c43 : x86_6 < (y540.length : Int)
                   ·rw [if_pos c43] at H
                    have c43b0 : decide (x86_6 < (y540.length : Int)) = true := decide_eq_true c43
                    clear c43
                    replace H := Option.bind_eq_some_iff.mp H
                    obtain ⟨⟨t546, t549⟩, A440, H⟩ := H
                    replace H : (if t549 = 0 then (if x86_6 < (t530.length : Int) then ((Zt.f k6 t546 (rd_L15 t530 x86_6)).bind fun t551 => (if t551 = true then (Zd.j7 k6 l2 t530 t546 y540 (y540.length : Int) x86_6 ((t546.length : Int) != (l2.length : Int)) l0_0 l0_1 l0_2 l0_3 l0_4 ((Xc y540 x86_6).f0) ((Xc y540 x86_6).f1) ((Xc y540 x86_6).f2)) else (Zd.j7 k6 l2 t530 t546 y540 (y540.length : Int) x86_6 true l0_0 l0_1 l0_2 l0_3 l0_4 ((Xc y540 x86_6).f0) ((Xc y540 x86_6).f1) ((Xc y540 x86_6).f2)))) else (none)) else (Zd.j7 k6 l2 t530 t546 y540 (y540.length : Int) x86_6 true l0_0 l0_1 l0_2 l0_3 l0_4 ((Xc y540 x86_6).f0) ((Xc y540 x86_6).f1) ((Xc y540 x86_6).f2))) = some r := H
                    have A44 := Za.mk A440
                    clear A440
                    have HC45 := Za.mk H
                    clear H
                    have p544 : 0 ≤ (x86_6 : Int) := of_decide_eq_true (by first | (with_reducible assumption) | assumption)
                    have q544 : x86_6 < (y540.length : Int) := of_decide_eq_true (by first | (with_reducible assumption) | assumption)
                    obtain ⟨ad544, e544, hx544_0, hx544_1, hx544_2⟩ := at_T29 HR543.out x86_6 p544 q544
                    cases e544
                    replace hx544_0 := (HB.out.cell (World.block_lt_of_cell? w _ hx544_0)).trans hx544_0
                    replace hx544_1 := (HB.out.cell (World.block_lt_of_cell? w _ hx544_1)).trans hx544_1
                    replace hx544_2 := (HB.out.cell (World.block_lt_of_cell? w _ hx544_2)).trans hx544_2
                    replace p544 := eq_true p544
                    replace q544 := eq_true q544
                    go_upto_region 19 with (first | ((with_reducible refine Xg (N := 12) rfl ?_); (try (refine Qe (by rfl) ?_; dsimp only)); refine Xk ?hg (N := 12) ?hd (cs := #[.int .i64 0, .int .i64 0, .bool false]) (t := 29) ?hr ?_; (case hd => rfl); (case hg => rfl); (case hr => first | (go_simp; done) | (go_simp; rfl)); intro gb545 hg w46 hbox hb; have n0_ := Za.mk (Kd.S_below HO_7.out hb); have n1_ := Za.mk (Zo BK529.out hb); have n2_ := Za.mk (Zh HB.out hb); have n3_ := Za.mk (hbox); have n4_ := Za.mk ((by rw [hg]; exact (Zg HB.out) : w.heap.size ≤ gb545)); have n5_ := n4_; have n6_ := Za.mk ((by rw [hg]; exact Nat.ne_of_lt (Xz BK529.out) : gb529 ≠ gb545)); have n7_ := Za.mk ((by rw [hg]; exact Nat.ne_of_gt (Xz BK529.out) : gb545 ≠ gb529)); clear HO_7; clear BK529; clear HB; have HO_7 := n0_; have BK529 := n1_; have HB := n2_; have BK545 := n3_; have GW545 := n4_; have GE545 := n5_; have NB529_545 := n6_; have NB545_529 := n7_; clear n0_ n1_ n2_ n3_ n4_ n5_ n6_ n7_; clear hb hbox hg; have hnb47 := NB545_529.out; have hnc47 := NB529_545.out; have hcz48_0 : w46.cell? ⟨gb545, 0, none⟩ = some (.int .i64 0) := (Zc BK545.out 0).trans rfl; have hcz48_1 : w46.cell? ⟨gb545, 1, none⟩ = some (.int .i64 0) := (Zc BK545.out 1).trans rfl; have hcz48_2 : w46.cell? ⟨gb545, 2, none⟩ = some (.bool false) := (Zc BK545.out 2).trans rfl; have hfz48_0 := Zb BK545.out 0; have hfz48_1 := Zb BK545.out 1; have hfz48_2 := Zb BK545.out 2; have hcz49_0 : w46.cell? ⟨gb529, 0, none⟩ = some (.slice A0_0 l0_0.length c0_0) := (Zc BK529.out 0).trans rfl; have hcz49_1 : w46.cell? ⟨gb529, 1, none⟩ = some (.slice A0_1 l0_1.length c0_1) := (Zc BK529.out 1).trans rfl; have hcz49_2 : w46.cell? ⟨gb529, 2, none⟩ = some (.slice A0_2 l0_2.length c0_2) := (Zc BK529.out 2).trans rfl; have hcz49_3 : w46.cell? ⟨gb529, 3, none⟩ = some (.slice A0_3 l0_3.length c0_3) := (Zc BK529.out 3).trans rfl; have hcz49_4 : w46.cell? ⟨gb529, 4, none⟩ = some (.slice A0_4 l0_4.length c0_4) := (Zc BK529.out 4).trans rfl; have hfz49_0 := Zb BK529.out 0; have hfz49_1 := Zb BK529.out 1; have hfz49_2 := Zb BK529.out 2; have hfz49_3 := Zb BK529.out 3; have hfz49_4 := Zb BK529.out 4) | ((with_reducible refine Xi (f := 24) rfl ?_); refine Qo (some 95) rfl rfl Try.func24 (by kernel_rfl) rfl #[.agg #[.slice A0_0 l0_0.length c0_0, .slice A0_1 l0_1.length c0_1, .slice A0_2 l0_2.length c0_2, .slice A0_3 l0_3.length c0_3, .slice A0_4 l0_4.length c0_4], .agg #[.int .i64 ((Xc y540 x86_6).f0), .int .i64 ((Xc y540 x86_6).f1), .bool ((Xc y540 x86_6).f2)], .slice A2 l2.length c2] rfl (by (try simp only [List.map_toArray, List.map_cons, List.map_nil]); first | done | rfl | (simp only [List.length_drop, List.length_take]; rfl)) ?_; (with_reducible refine (fault_Detects.calls k6 _ _ l0_0 _ _ l0_1 _ _ l0_2 _ _ l0_3 _ _ l0_4 ((Xc y540 x86_6).f0) ((Xc y540 x86_6).f1) ((Xc y540 x86_6).f2) _ _ l2 t546 t549 _ ?side1 ?side2 ?side3 ?side4 ?side5 ?side6 ?side7 ?side8 ?side9 ?side10 ?side11 ?side12 A44.out).mono ?_); (case side1 => exact Kd.Zf HR0_0.out (by repeat (first | (with_reducible first | exact HB.out | apply Zn | apply Zq | apply Zv | refine Zl ?_ GE529.out | refine Zl ?_ GE545.out) | exact HB.out))); (case side2 => exact HC0_0.out); (case side3 => exact Kd.Zf HR0_1.out (by repeat (first | (with_reducible first | exact HB.out | apply Zn | apply Zq | apply Zv | refine Zl ?_ GE529.out | refine Zl ?_ GE545.out) | exact HB.out))); (case side4 => exact HC0_1.out); (case side5 => exact Kd.Zf HR0_2.out (by repeat (first | (with_reducible first | exact HB.out | apply Zn | apply Zq | apply Zv | refine Zl ?_ GE529.out | refine Zl ?_ GE545.out) | exact HB.out))); (case side6 => exact HC0_2.out); (case side7 => exact Kd.Zf HR0_3.out (by repeat (first | (with_reducible first | exact HB.out | apply Zn | apply Zq | apply Zv | refine Zl ?_ GE529.out | refine Zl ?_ GE545.out) | exact HB.out))); (case side8 => exact HC0_3.out); (case side9 => exact Kd.Zf HR0_4.out (by repeat (first | (with_reducible first | exact HB.out | apply Zn | apply Zq | apply Zv | refine Zl ?_ GE529.out | refine Zl ?_ GE545.out) | exact HB.out))); (case side10 => exact HC0_4.out); (case side11 => exact Kd.Zf HR2.out (by repeat (first | (with_reducible first | exact HB.out | apply Zn | apply Zq | apply Zv | refine Zl ?_ GE529.out | refine Zl ?_ GE545.out) | exact HB.out))); (case side12 => exact HC2.out); rintro e w50 ⟨v547, rfl, ho0, hb⟩; refine ⟨_, rfl, ?_⟩; have n0_ := Za.mk (Kd.S_elder' (by (with_reducible repeat (first | apply Kd.S_alloc | apply Kd.S_drewN | apply Kd.S_drew)); exact (Kd.S_mono (Kd.S_far (p := ⟨gb545, 2, none⟩) (Kd.S_far (p := ⟨gb545, 1, none⟩) (Kd.S_far (p := ⟨gb545, 0, none⟩) (Kd.S_types HO_7.out BK545.out (by decide)) (fun _ hk => hk.2) (.int .i64 ((Xc y540 x86_6).f0))) (fun _ hk => hk.2) (.int .i64 ((Xc y540 x86_6).f1))) (fun _ hk => hk.2) (.bool ((Xc y540 x86_6).f2))) (fun _ h_ => h_.1))) (Kd.Xu ho0) hb); have n1_ := Za.mk (Kd.Xn ho0 (Zg (by repeat (first | (with_reducible first | exact HB.out | apply Zn | apply Zq | apply Zv | refine Zl ?_ GE529.out | refine Zl ?_ GE545.out) | exact HB.out)))); have n2_ := Za.mk (Zo (g := gb529) (o := .cells #[.slice A0_0 l0_0.length c0_0, .slice A0_1 l0_1.length c0_1, .slice A0_2 l0_2.length c0_2, .slice A0_3 l0_3.length c0_3, .slice A0_4 l0_4.length c0_4] 27 (0, 0)) (by (with_reducible repeat (first | refine Zk ?_ _ | refine Zm ?_ | refine Zj ?_ _)); refine Qc ?_ NB529_545.out _; (with_reducible repeat (first | refine Zk ?_ _ | refine Zm ?_ | refine Zj ?_ _)); refine Qc ?_ NB529_545.out _; (with_reducible repeat (first | refine Zk ?_ _ | refine Zm ?_ | refine Zj ?_ _)); refine Qc ?_ NB529_545.out _; (with_reducible repeat (first | refine Zk ?_ _ | refine Zm ?_ | refine Zj ?_ _)); exact BK529.out) hb); have n3_ := Za.mk (Zo (g := gb545) (o := .cells #[.int .i64 ((Xc y540 x86_6).f0), .int .i64 ((Xc y540 x86_6).f1), .bool ((Xc y540 x86_6).f2)] 29 (0, 0)) (by (with_reducible repeat (first | refine Zk ?_ _ | refine Zm ?_ | refine Zj ?_ _)); refine Ql (cs := #[.int .i64 ((Xc y540 x86_6).f0), .int .i64 ((Xc y540 x86_6).f1), .bool false]) ?_ 2 _ rfl; (with_reducible repeat (first | refine Zk ?_ _ | refine Zm ?_ | refine Zj ?_ _)); refine Ql (cs := #[.int .i64 ((Xc y540 x86_6).f0), .int .i64 0, .bool false]) ?_ 1 _ rfl; (with_reducible repeat (first | refine Zk ?_ _ | refine Zm ?_ | refine Zj ?_ _)); refine Ql (cs := #[.int .i64 0, .int .i64 0, .bool false]) ?_ 0 _ rfl; (with_reducible repeat (first | refine Zk ?_ _ | refine Zm ?_ | refine Zj ?_ _)); exact BK545.out) hb); have n4_ := Za.mk (Zh (by repeat (first | (with_reducible first | exact HB.out | apply Zn | apply Zq | apply Zv | refine Zl ?_ GE529.out | refine Zl ?_ GE545.out) | exact HB.out)) hb); clear HO_7; clear BK529; clear BK545; clear HB; have HO_7 := n0_; have HO548 := n1_; have BK529 := n2_; have BK545 := n3_; have HB := n4_; clear n0_ n1_ n2_ n3_ n4_; (try clear hb); (try clear hb2); (try clear hk); (try clear hi); (try clear ho0)))
                    (try simp only [Act.put, List.setIfInBounds_toArray, List.set_cons_zero, List.set_cons_succ])
                    go_cut [115] (fun v115 wc => ∃ (kq : Nat) (x115_44 : Bool), v115 = .bool x115_44 ∧ Za (Zd.j7 kq l2 t530 t546 y540 (y540.length : Int) x86_6 x115_44 l0_0 l0_1 l0_2 l0_3 l0_4 ((Xc y540 x86_6).f0) ((Xc y540 x86_6).f1) ((Xc y540 x86_6).f2) = some r) ∧ Za (kq ≤ k6) ∧ Za (Kd.S (Kd.slice 4 Kd.bool) 53 wc w.heap.size (fun k_ => some k_ ≠ (v547 : Value).ownBlock) v531 t530) ∧ Za (Kd.R Kd.bool 4 wc w.heap.size (fun _ => True) v547 t546) ∧ Za (wc.heap[gb529]? = some (.cells #[(.slice A0_0 l0_0.length c0_0), (.slice A0_1 l0_1.length c0_1), (.slice A0_2 l0_2.length c0_2), (.slice A0_3 l0_3.length c0_3), (.slice A0_4 l0_4.length c0_4)] 27 (0, 0))) ∧ Za (wc.heap[gb545]? = some (.cells #[.int .i64 ((Xc y540 x86_6).f0), .int .i64 ((Xc y540 x86_6).f1), .bool ((Xc y540 x86_6).f2)] 29 (0, 0))) ∧ Za (Below w.heap.size w wc))
                    case first =>
                     have H := HC45.out
                     clear HC45
                     by_cases c51 : t549 = 0
                     ·rw [if_pos c51] at H
                      have c51b0 : (t549 == 0) = true := beq_iff_eq.mpr c51
                      have c51b1 : (t549 != 0) = false := bne_eq_false_iff_eq.mpr c51
                      clear c51
                      (first | rw [c51b0] | (simp only [Xr, Xv]; rw [c51b0]) | skip)
                      by_cases c52 : x86_6 < (t530.length : Int)
                      ·rw [if_pos c52] at H
                       have c52b0 : decide (x86_6 < (t530.length : Int)) = true := decide_eq_true c52
                       clear c52
                       replace H := Option.bind_eq_some_iff.mp H
                       obtain ⟨t551, A530, H⟩ := H
                       replace H : (if t551 = true then (Zd.j7 k6 l2 t530 t546 y540 (y540.length : Int) x86_6 ((t546.length : Int) != (l2.length : Int)) l0_0 l0_1 l0_2 l0_3 l0_4 ((Xc y540 x86_6).f0) ((Xc y540 x86_6).f1) ((Xc y540 x86_6).f2)) else (Zd.j7 k6 l2 t530 t546 y540 (y540.length : Int) x86_6 true l0_0 l0_1 l0_2 l0_3 l0_4 ((Xc y540 x86_6).f0) ((Xc y540 x86_6).f1) ((Xc y540 x86_6).f2))) = some r := H
                       have A53 := Za.mk A530
                       clear A530
                       by_cases c54 : t551 = true
                       ·subst c54
                        have H1 : (Zd.j7 k6 l2 t530 t546 y540 (y540.length : Int) x86_6 ((t546.length : Int) != (l2.length : Int)) l0_0 l0_1 l0_2 l0_3 l0_4 ((Xc y540 x86_6).f0) ((Xc y540 x86_6).f1) ((Xc y540 x86_6).f2)) = some r := by rw [if_pos rfl] at H; exact H
                        clear H
                        have H := H1
                        clear H1
                        have H' := Za.mk H
                        clear H
                        obtain ⟨Ao55, co55, eo55⟩ := Kd.S_slice HO_7.out
                        subst eo55
                        have p550 : 0 ≤ (x86_6 : Int) := of_decide_eq_true (by first | (with_reducible assumption) | assumption)
                        have q550 : x86_6 < (t530.length : Int) := of_decide_eq_true (by first | (with_reducible assumption) | assumption)
                        obtain ⟨ad550, A550_0, c550_0, e550, hx550_0, hl550_0, hi550_0⟩ := at_L15 (Kd.S_reads' HO_7.out).2.2 x86_6 p550 q550
                        cases e550
                        obtain ⟨ce550, hce550, hMe550, hcc550⟩ := Kd.S_get HO_7.out [] x86_6 p550 (by first | exact q550 | exact of_decide_eq_true (by first | (with_reducible assumption) | assumption) | (have e_ := (Kd.S_reads' HO_7.out).1; omega))
                        obtain ⟨ve550_0, rfl, ge550_0⟩ := hMe550
                        have hv550_0 := hcc550 0 _ rfl
                        rw [Nat.add_zero, show ((Kd.slice 4 Kd.bool)).sz = 1 from rfl, Nat.mul_one] at hv550_0
                        replace hv550_0 := Option.some.inj (hv550_0.symm.trans hx550_0)
                        rw [hv550_0] at ge550_0
                        have HL550_0 := Za.mk (show Kd.R Kd.bool 4 _ _ _ _ (rd_L15 t530 x86_6) from ge550_0)
                        clear hv550_0 ge550_0
                        clear hcc550 hce550
                        have HR550_0 := Za.mk hi550_0
                        have HC550_0 := Za.mk hl550_0
                        clear hi550_0 hl550_0
                        replace p550 := eq_true p550
                        replace q550 := eq_true q550
                        obtain ⟨Ao56, co56, eo56⟩ := Kd.Xd HO548.out
                        subst eo56
                        go_wp2_with (first | (go_at_call 23; (with_reducible refine (Zt.calls k6 _ _ t546 _ _ (rd_L15 t530 x86_6) true _ ?side1 ?side2 ?side3 ?side4 A53.out).mono ?_); (case side1 => repeat (first | exact (Kd.Xl HO548.out).2.2 | (with_reducible refine Kd.C_alloc ?_ _) | (with_reducible refine Kd.C_drewN ?_ _) | (with_reducible refine Kd.C_drew ?_))); (case side2 => exact (Kd.Xl HO548.out).2.1); (case side3 => repeat (first | exact (by repeat (first | (with_reducible exact HR550_0.out) | (with_reducible refine Kd.C_alloc ?_ _) | (with_reducible refine Kd.C_drewN ?_ _) | (with_reducible refine Kd.C_drew ?_) | exact HR550_0.out)) | (with_reducible refine Kd.C_alloc ?_ _) | (with_reducible refine Kd.C_drewN ?_ _) | (with_reducible refine Kd.C_drew ?_))); (case side4 => exact HC550_0.out); rintro e w' ⟨rfl, ⟨nd, rfl⟩⟩))
                        go_meet
                        case rel => exact ⟨_, (((t546.length : Int) != (l2.length : Int))), (by first | rfl | (simp; done) | (simp [*]; done)), H', ⟨by have := HJ5.out; have := HJ12.out; have := HJ14.out; have := HJ19.out; have := HJ27.out; have := HK6.out; first | omega | exact Nat.le_refl _⟩, ⟨by (with_reducible repeat (first | apply Kd.S_alloc | apply Kd.S_drewN | apply Kd.S_drew)); exact Kd.S_mono HO_7.out (fun _ hk => hk.2)⟩, ⟨by (with_reducible repeat (first | apply Kd.R_alloc | apply Kd.Xx | apply Kd.Qa)); exact HO548.out⟩, ⟨by (with_reducible repeat (first | refine Zk ?_ _ | refine Zm ?_ | refine Zj ?_ _)); exact BK529.out⟩, ⟨by (with_reducible repeat (first | refine Zk ?_ _ | refine Zm ?_ | refine Zj ?_ _)); exact BK545.out⟩, ⟨by repeat (first | (with_reducible first | exact HB.out | apply Zn | apply Zq | apply Zv | refine Zl ?_ GE529.out | refine Zl ?_ GE545.out) | exact HB.out)⟩⟩
                       ·replace c54 := Bool.eq_false_iff.mpr c54
                        subst c54
                        have H1 : (Zd.j7 k6 l2 t530 t546 y540 (y540.length : Int) x86_6 true l0_0 l0_1 l0_2 l0_3 l0_4 ((Xc y540 x86_6).f0) ((Xc y540 x86_6).f1) ((Xc y540 x86_6).f2)) = some r := by rw [if_neg (show ¬ (false = true) by decide)] at H; exact H
                        clear H
                        have H := H1
                        clear H1
                        have H' := Za.mk H
                        clear H
                        obtain ⟨Ao57, co57, eo57⟩ := Kd.S_slice HO_7.out
                        subst eo57
                        have p550 : 0 ≤ (x86_6 : Int) := of_decide_eq_true (by first | (with_reducible assumption) | assumption)
                        have q550 : x86_6 < (t530.length : Int) := of_decide_eq_true (by first | (with_reducible assumption) | assumption)
                        obtain ⟨ad550, A550_0, c550_0, e550, hx550_0, hl550_0, hi550_0⟩ := at_L15 (Kd.S_reads' HO_7.out).2.2 x86_6 p550 q550
                        cases e550
                        obtain ⟨ce550, hce550, hMe550, hcc550⟩ := Kd.S_get HO_7.out [] x86_6 p550 (by first | exact q550 | exact of_decide_eq_true (by first | (with_reducible assumption) | assumption) | (have e_ := (Kd.S_reads' HO_7.out).1; omega))
                        obtain ⟨ve550_0, rfl, ge550_0⟩ := hMe550
                        have hv550_0 := hcc550 0 _ rfl
                        rw [Nat.add_zero, show ((Kd.slice 4 Kd.bool)).sz = 1 from rfl, Nat.mul_one] at hv550_0
                        replace hv550_0 := Option.some.inj (hv550_0.symm.trans hx550_0)
                        rw [hv550_0] at ge550_0
                        have HL550_0 := Za.mk (show Kd.R Kd.bool 4 _ _ _ _ (rd_L15 t530 x86_6) from ge550_0)
                        clear hv550_0 ge550_0
                        clear hcc550 hce550
                        have HR550_0 := Za.mk hi550_0
                        have HC550_0 := Za.mk hl550_0
                        clear hi550_0 hl550_0
                        replace p550 := eq_true p550
                        replace q550 := eq_true q550
                        obtain ⟨Ao58, co58, eo58⟩ := Kd.Xd HO548.out
                        subst eo58
                        go_wp2_with (first | (go_at_call 23; (with_reducible refine (Zt.calls k6 _ _ t546 _ _ (rd_L15 t530 x86_6) false _ ?side1 ?side2 ?side3 ?side4 A53.out).mono ?_); (case side1 => repeat (first | exact (Kd.Xl HO548.out).2.2 | (with_reducible refine Kd.C_alloc ?_ _) | (with_reducible refine Kd.C_drewN ?_ _) | (with_reducible refine Kd.C_drew ?_))); (case side2 => exact (Kd.Xl HO548.out).2.1); (case side3 => repeat (first | exact (by repeat (first | (with_reducible exact HR550_0.out) | (with_reducible refine Kd.C_alloc ?_ _) | (with_reducible refine Kd.C_drewN ?_ _) | (with_reducible refine Kd.C_drew ?_) | exact HR550_0.out)) | (with_reducible refine Kd.C_alloc ?_ _) | (with_reducible refine Kd.C_drewN ?_ _) | (with_reducible refine Kd.C_drew ?_))); (case side4 => exact HC550_0.out); rintro e w' ⟨rfl, ⟨nd, rfl⟩⟩))
                        go_meet
                        case rel => exact ⟨_, (true), (by first | rfl | (simp; done) | (simp [*]; done)), H', ⟨by have := HJ5.out; have := HJ12.out; have := HJ14.out; have := HJ19.out; have := HJ27.out; have := HK6.out; first | omega | exact Nat.le_refl _⟩, ⟨by (with_reducible repeat (first | apply Kd.S_alloc | apply Kd.S_drewN | apply Kd.S_drew)); exact Kd.S_mono HO_7.out (fun _ hk => hk.2)⟩, ⟨by (with_reducible repeat (first | apply Kd.R_alloc | apply Kd.Xx | apply Kd.Qa)); exact HO548.out⟩, ⟨by (with_reducible repeat (first | refine Zk ?_ _ | refine Zm ?_ | refine Zj ?_ _)); exact BK529.out⟩, ⟨by (with_reducible repeat (first | refine Zk ?_ _ | refine Zm ?_ | refine Zj ?_ _)); exact BK545.out⟩, ⟨by repeat (first | (with_reducible first | exact HB.out | apply Zn | apply Zq | apply Zv | refine Zl ?_ GE529.out | refine Zl ?_ GE545.out) | exact HB.out)⟩⟩
                      ·rw [if_neg c52] at H
                       exact absurd H (by simp)
                     ·rw [if_neg c51] at H
                      have c51b0 : (t549 == 0) = false := beq_eq_false_iff_ne.mpr c51
                      have c51b1 : (t549 != 0) = true := bne_iff_ne.mpr c51
                      (first | rw [c51b0] | (simp only [Xr, Xv]; rw [c51b0]) | skip)
                      have H' := Za.mk H
                      clear H
                      go_wp2
                      go_meet
                      case rel => exact ⟨_, (true), (by first | rfl | (simp; done) | (simp [*]; done)), H', ⟨by have := HJ5.out; have := HJ12.out; have := HJ14.out; have := HJ19.out; have := HJ27.out; have := HK6.out; first | omega | exact Nat.le_refl _⟩, ⟨by (with_reducible repeat (first | apply Kd.S_alloc | apply Kd.S_drewN | apply Kd.S_drew)); exact Kd.S_mono HO_7.out (fun _ hk => hk.2)⟩, ⟨HO548.out⟩, ⟨BK529.out⟩, ⟨BK545.out⟩, ⟨HB.out⟩⟩
                    case rest =>
                     clear HC45
                     try clear c41b0
                     try clear c42b0
                     try clear c43b0
                     try clear hcz48_0
                     try clear hcz48_1
                     try clear hcz48_2
                     try clear hcz49_0
                     try clear hcz49_1
                     try clear hcz49_2
                     try clear hcz49_3
                     try clear hcz49_4
                     try clear hfz48_0
                     try clear hfz48_1
                     try clear hfz48_2
                     try clear hfz49_0
                     try clear hfz49_1
                     try clear hfz49_2
                     try clear hfz49_3
                     try clear hfz49_4
                     try clear hx544_0
                     try clear hx544_1
                     try clear hx544_2
                     try clear p544
                     try clear q544
                     obtain ⟨kq, x115_44, rfl, HA, HJ44, HO_7, HO_13, BK529, BK545, HB⟩ := hcut
                     cases kq with
                     | zero => exact absurd HA.out (by simp [Zd.j7])
                     | succ kj44 =>
                      have H := HA.out
                      clear HA
                      simp only [Zd.j7] at H
                      by_cases c59 : x115_44 = true
                      ·subst c59
                       have H1 : (none) = some r := by rw [if_pos rfl] at H; exact H
                       exact absurd H1 (by simp)
                      ·replace c59 := Bool.eq_false_iff.mpr c59
                       subst c59
                       have H1 : (if 0 ≤ (mn (l2.length : Int) 20) then (if (mn (l2.length : Int) 20) ≤ (l2.length : Int) then ((some (l2.take ((mn (l2.length : Int) 20) : Int).toNat : List (S55))).bind fun y552 => (Zd.l2 kj44 l2 t530 t546 y540 (y540.length : Int) x86_6 y552 (y552.length : Int) 0 l0_0 l0_1 l0_2 l0_3 l0_4 ((Xc y540 x86_6).f0) ((Xc y540 x86_6).f1) ((Xc y540 x86_6).f2))) else (none)) else (none)) = some r := by rw [if_neg (show ¬ (false = true) by decide)] at H; exact H
                       clear H
                       have H := H1
                       clear H1
                       obtain ⟨ji60, hji60⟩ : ∃ j_ : Int, (mn (l2.length : Int) 20) = j_ := ⟨_, rfl⟩
                       replace H : (if 0 ≤ (ji60) then (if (ji60) ≤ (l2.length : Int) then ((some (l2.take ((ji60) : Int).toNat : List (S55))).bind fun y552 => (Zd.l2 kj44 l2 t530 t546 y540 (y540.length : Int) x86_6 y552 (y552.length : Int) 0 l0_0 l0_1 l0_2 l0_3 l0_4 ((Xc y540 x86_6).f0) ((Xc y540 x86_6).f1) ((Xc y540 x86_6).f2))) else (none)) else (none)) = some r := by first | (rw [hji60] at H; exact H) | (simp only [hji60] at H ⊢; exact H)
                       have hji60_ : (if 20 < (l2.length : Int) then 20 else (l2.length : Int)) = ji60 := hji60
                       by_cases c61 : 0 ≤ (ji60)
                       ·rw [if_pos c61] at H
                        have c61b0 := eq_true c61
                        have c61b1 : decide (0 ≤ (ji60)) = true := decide_eq_true c61
                        clear c61
                        by_cases c62 : (ji60) ≤ (l2.length : Int)
                        ·rw [if_pos c62] at H
                         have c62b0 := eq_true c62
                         have c62b1 : decide ((ji60) ≤ (l2.length : Int)) = true := decide_eq_true c62
                         clear c62
                         obtain ⟨y552, hy552⟩ : ∃ y_ : List (S55), y_ = (l2.take ((ji60) : Int).toNat) := ⟨_, rfl⟩
                         replace H : (Zd.l2 kj44 l2 t530 t546 y540 (y540.length : Int) x86_6 y552 (y552.length : Int) 0 l0_0 l0_1 l0_2 l0_3 l0_4 ((Xc y540 x86_6).f0) ((Xc y540 x86_6).f1) ((Xc y540 x86_6).f2)) = some r := by first | (rw [hy552]; with_reducible exact H) | (have H2_ := (Option.bind_some _ _).symm.trans H; rw [hy552]; with_reducible exact H2_) | (have H2_ := (Option.bind_some _ _).symm.trans H; with_reducible exact H2_) | with_reducible exact H | (rw [hy552]; exact H) | exact H
                         have Ny552 := Za.mk hy552
                         clear hy552
                         have H' := Za.mk H
                         clear H
                         have q63 : ((ji60) : Int) ≤ ((l2.length : Int) : Int) := of_decide_eq_true (by first | (with_reducible assumption) | assumption)
                         obtain ⟨i063, hi063, _, hsz63, _⟩ := info_parts info55
                         have hroom63 : l2.length ≤ c2 := HC2.out
                         have hC63 : Kd.C k55 _ A2 l2.length l2 := HR2.out
                         have hcut63 := cut_to (P := Try.prog) 49 55 .i64 Try.underlying49 hi063 A2 l2.length c2 (ji60) (of_decide_eq_true (by first | (with_reducible assumption) | assumption)) q63 hroom63
                         have hr63 := Kd.C_take (m := ((ji60) : Int).toNat) hC63 (by omega)
                         have hy63 : y552.length = ((ji60) : Int).toNat := (by rw [Ny552.out, List.length_take]; omega)
                         rw [← Ny552.out] at hr63
                         rw [← hy63] at hcut63
                         have HR555 := Za.mk hr63
                         have HC555 := Za.mk (show y552.length ≤ c2 from by omega)
                         clear hr63 hC63 hroom63 hi063 hsz63
                         have KY63 := Za.mk hy63
                         clear hy63
                         replace q63 := eq_true q63
                         go_wp2
                         go_loopg [122] kj44 (fun kq v122 w' => ∃ (x122_8 : Int), v122 = .int .i64 x122_8 ∧ Za (Zd.l2 kq l2 t530 t546 y540 (y540.length : Int) x86_6 y552 (y552.length : Int) x122_8 l0_0 l0_1 l0_2 l0_3 l0_4 ((Xc y540 x86_6).f0) ((Xc y540 x86_6).f1) ((Xc y540 x86_6).f2) = some r) ∧ Za (kq ≤ kj44) ∧ Za (Kd.S (Kd.slice 4 Kd.bool) 53 w' w.heap.size (fun k_ => some k_ ≠ (v547 : Value).ownBlock) v531 t530) ∧ Za (Kd.R Kd.bool 4 w' w.heap.size (fun _ => True) v547 t546) ∧ Za (w'.heap[gb529]? = some (.cells #[(.slice A0_0 l0_0.length c0_0), (.slice A0_1 l0_1.length c0_1), (.slice A0_2 l0_2.length c0_2), (.slice A0_3 l0_3.length c0_3), (.slice A0_4 l0_4.length c0_4)] 27 (0, 0))) ∧ Za (w'.heap[gb545]? = some (.cells #[.int .i64 ((Xc y540 x86_6).f0), .int .i64 ((Xc y540 x86_6).f1), .bool ((Xc y540 x86_6).f2)] 29 (0, 0))) ∧ Za (Below w.heap.size w w'))
                         case atStart => exact ⟨(0), (by first | rfl | (simp; done) | (simp [*]; done)), H', ⟨Nat.le_refl _⟩, ⟨HO_7.out⟩, ⟨HO_13.out⟩, ⟨BK529.out⟩, ⟨BK545.out⟩, ⟨HB.out⟩⟩
                         case round =>
                          clear H'
                          try clear c61b0
                          try clear c61b1
                          try clear c62b0
                          try clear c62b1
                          try clear q63
                          obtain ⟨x122_8, rfl, HA, HK8, HO_7, HO_13, BK529, BK545, HB⟩ := hrel
                          cases gk with
                          | zero => exact absurd HA.out (by simp [Zd.l2])
                          | succ k8 =>
                           have H := HA.out
                           clear HA
                           simp only [Zd.l2] at H
                           by_cases c64 : x122_8 < (y552.length : Int)
                           ·rw [if_pos c64] at H
                            have c64b0 : decide (x122_8 < (y552.length : Int)) = true := decide_eq_true c64
                            clear c64
                            by_cases c65 : 0 ≤ x122_8
                            ·rw [if_pos c65] at H
                             have c65b0 : decide (0 ≤ x122_8) = true := decide_eq_true c65
                             clear c65
                             by_cases c66 : x122_8 < (y552.length : Int)
                             ·rw [if_pos c66] at H
                              have c66b0 : decide (x122_8 < (y552.length : Int)) = true := decide_eq_true c66
                              clear c66
                              by_cases c67 : x122_8 < (t546.length : Int)
                              ·rw [if_pos c67] at H
                               have c67b0 : decide (x122_8 < (t546.length : Int)) = true := decide_eq_true c67
                               clear c67
                               replace H := Option.bind_eq_some_iff.mp H
                               obtain ⟨t559, A680, H⟩ := H
                               replace H : (if ((rdOf false t546 x122_8) != t559) = true then (none) else (Zd.l2 k8 l2 t530 t546 y540 (y540.length : Int) x86_6 y552 (y552.length : Int) (wrap64 (x122_8 + 1)) l0_0 l0_1 l0_2 l0_3 l0_4 ((Xc y540 x86_6).f0) ((Xc y540 x86_6).f1) ((Xc y540 x86_6).f2))) = some r := H
                               have A68 := Za.mk A680
                               clear A680
                               by_cases c69 : ((rdOf false t546 x122_8) != t559) = true
                               ·rw [if_pos c69] at H
                                exact absurd H (by simp)
                               ·rw [if_neg c69] at H
                                have c69b0 : ((rdOf false t546 x122_8) != t559) = false := by simpa using c69
                                (try (have c69b1 : decide ((rdOf false t546 x122_8) = t559) = true := by simpa using c69))
                                (try (have c69b2 : ((rdOf false t546 x122_8) == t559) = true := by simpa using c69))
                                clear c69
                                have H' := Za.mk H
                                clear H
                                have p556 : 0 ≤ (x122_8 : Int) := of_decide_eq_true (by first | (with_reducible assumption) | assumption)
                                have q556 : x122_8 < (y552.length : Int) := of_decide_eq_true (by first | (with_reducible assumption) | assumption)
                                obtain ⟨ad556, A556_0, c556_0, A556_1, c556_1, e556, hx556_0, hx556_1, hl556_0, hi556_0, hl556_1, hi556_1⟩ := at_T55 HR555.out x122_8 p556 q556
                                cases e556
                                replace hx556_0 := (HB.out.cell (World.block_lt_of_cell? w _ hx556_0)).trans hx556_0
                                replace hx556_1 := (HB.out.cell (World.block_lt_of_cell? w _ hx556_1)).trans hx556_1
                                have HR556_0 := Za.mk hi556_0
                                have HC556_0 := Za.mk hl556_0
                                clear hi556_0 hl556_0
                                have HR556_1 := Za.mk hi556_1
                                have HC556_1 := Za.mk hl556_1
                                clear hi556_1 hl556_1
                                replace p556 := eq_true p556
                                replace q556 := eq_true q556
                                try go_wp2_with (((with_reducible refine Xg (N := 16) rfl ?_); (try (refine Qe (by rfl) ?_; dsimp only)); refine Xk ?hg (N := 16) ?hd (cs := #[.slice none 0 0, .slice none 0 0]) (t := 55) ?hr ?_; (case hd => rfl); (case hg => rfl); (case hr => first | (go_simp; done) | (go_simp; rfl)); intro gb557 hg w78 hbox hb; have n0_ := Za.mk (Kd.S_below HO_7.out hb); have n1_ := Za.mk (Kd.Zr HO_13.out hb); have n2_ := Za.mk (Zo BK529.out hb); have n3_ := Za.mk (Zo BK545.out hb); have n4_ := Za.mk (Zh HB.out hb); have n5_ := Za.mk (hbox); have n6_ := Za.mk ((by rw [hg]; exact (Zg HB.out) : w.heap.size ≤ gb557)); have n7_ := n6_; have n8_ := Za.mk ((by rw [hg]; exact Nat.ne_of_lt (Xz BK529.out) : gb529 ≠ gb557)); have n9_ := Za.mk ((by rw [hg]; exact Nat.ne_of_gt (Xz BK529.out) : gb557 ≠ gb529)); have n10_ := Za.mk ((by rw [hg]; exact Nat.ne_of_lt (Xz BK545.out) : gb545 ≠ gb557)); have n11_ := Za.mk ((by rw [hg]; exact Nat.ne_of_gt (Xz BK545.out) : gb557 ≠ gb545)); clear HO_7; clear HO_13; clear BK529; clear BK545; clear HB; have HO_7 := n0_; have HO_13 := n1_; have BK529 := n2_; have BK545 := n3_; have HB := n4_; have BK557 := n5_; have GW557 := n6_; have GE557 := n7_; have NB529_557 := n8_; have NB557_529 := n9_; have NB545_557 := n10_; have NB557_545 := n11_; clear n0_ n1_ n2_ n3_ n4_ n5_ n6_ n7_ n8_ n9_ n10_ n11_; clear hb hbox hg; have hnb79 := NB557_529.out; have hnc79 := NB529_557.out; have hnb80 := NB557_545.out; have hnc80 := NB545_557.out; have hcz81_0 : w78.cell? ⟨gb557, 0, none⟩ = some (.slice none 0 0) := (Zc BK557.out 0).trans rfl; have hcz81_1 : w78.cell? ⟨gb557, 1, none⟩ = some (.slice none 0 0) := (Zc BK557.out 1).trans rfl; have hfz81_0 := Zb BK557.out 0; have hfz81_1 := Zb BK557.out 1))
                                have n0_ : Za (Kd.S (Kd.slice 4 Kd.bool) 53 ((w78.setCell ⟨gb557, 0, none⟩ (.slice A556_0 ((Zz y552 x122_8).f0).length c556_0)).setCell ⟨gb557, 1, none⟩ (.slice A556_1 ((Zz y552 x122_8).f1).length c556_1)) w.heap.size (fun k_ => some k_ ≠ (v547 : Value).ownBlock) v531 t530) := ⟨by (with_reducible repeat (first | apply Kd.S_alloc | apply Kd.S_drewN | apply Kd.S_drew)); exact Kd.S_mono (Kd.S_far (p := ⟨gb557, 1, none⟩) (Kd.S_far (p := ⟨gb557, 0, none⟩) (Kd.S_types HO_7.out BK557.out (by decide)) (fun _ hk => hk.2) (.slice A556_0 ((Zz y552 x122_8).f0).length c556_0)) (fun _ hk => hk.2) (.slice A556_1 ((Zz y552 x122_8).f1).length c556_1)) (fun _ hk => hk.1)⟩
                                have n1_ : Za (Kd.R Kd.bool 4 ((w78.setCell ⟨gb557, 0, none⟩ (.slice A556_0 ((Zz y552 x122_8).f0).length c556_0)).setCell ⟨gb557, 1, none⟩ (.slice A556_1 ((Zz y552 x122_8).f1).length c556_1)) w.heap.size (fun _ => True) v547 t546) := ⟨by (with_reducible repeat (first | apply Kd.R_alloc | apply Kd.Xx | apply Kd.Qa)); exact Kd.Xj (Kd.Xt (p := ⟨gb557, 1, none⟩) (Kd.Xt (p := ⟨gb557, 0, none⟩) (Kd.Qz HO_13.out BK557.out (by decide)) (fun _ hk => hk.2) (.slice A556_0 ((Zz y552 x122_8).f0).length c556_0)) (fun _ hk => hk.2) (.slice A556_1 ((Zz y552 x122_8).f1).length c556_1)) (fun _ hk => trivial)⟩
                                have n2_ : Za (((w78.setCell ⟨gb557, 0, none⟩ (.slice A556_0 ((Zz y552 x122_8).f0).length c556_0)).setCell ⟨gb557, 1, none⟩ (.slice A556_1 ((Zz y552 x122_8).f1).length c556_1)).heap[gb529]? = some (.cells #[.slice A0_0 l0_0.length c0_0, .slice A0_1 l0_1.length c0_1, .slice A0_2 l0_2.length c0_2, .slice A0_3 l0_3.length c0_3, .slice A0_4 l0_4.length c0_4] 27 (0, 0))) := ⟨by (with_reducible repeat (first | refine Zk ?_ _ | refine Zm ?_ | refine Zj ?_ _)); refine Qc ?_ NB529_557.out _; (with_reducible repeat (first | refine Zk ?_ _ | refine Zm ?_ | refine Zj ?_ _)); refine Qc ?_ NB529_557.out _; (with_reducible repeat (first | refine Zk ?_ _ | refine Zm ?_ | refine Zj ?_ _)); exact BK529.out⟩
                                have n3_ : Za (((w78.setCell ⟨gb557, 0, none⟩ (.slice A556_0 ((Zz y552 x122_8).f0).length c556_0)).setCell ⟨gb557, 1, none⟩ (.slice A556_1 ((Zz y552 x122_8).f1).length c556_1)).heap[gb545]? = some (.cells #[.int .i64 ((Xc y540 x86_6).f0), .int .i64 ((Xc y540 x86_6).f1), .bool ((Xc y540 x86_6).f2)] 29 (0, 0))) := ⟨by (with_reducible repeat (first | refine Zk ?_ _ | refine Zm ?_ | refine Zj ?_ _)); refine Qc ?_ NB545_557.out _; (with_reducible repeat (first | refine Zk ?_ _ | refine Zm ?_ | refine Zj ?_ _)); refine Qc ?_ NB545_557.out _; (with_reducible repeat (first | refine Zk ?_ _ | refine Zm ?_ | refine Zj ?_ _)); exact BK545.out⟩
                                have n4_ : Za (((w78.setCell ⟨gb557, 0, none⟩ (.slice A556_0 ((Zz y552 x122_8).f0).length c556_0)).setCell ⟨gb557, 1, none⟩ (.slice A556_1 ((Zz y552 x122_8).f1).length c556_1)).heap[gb557]? = some (.cells #[.slice A556_0 ((Zz y552 x122_8).f0).length c556_0, .slice A556_1 ((Zz y552 x122_8).f1).length c556_1] 55 (0, 0))) := ⟨by (with_reducible repeat (first | refine Zk ?_ _ | refine Zm ?_ | refine Zj ?_ _)); refine Ql (cs := #[.slice A556_0 ((Zz y552 x122_8).f0).length c556_0, .slice none 0 0]) ?_ 1 _ rfl; (with_reducible repeat (first | refine Zk ?_ _ | refine Zm ?_ | refine Zj ?_ _)); refine Ql (cs := #[.slice none 0 0, .slice none 0 0]) ?_ 0 _ rfl; (with_reducible repeat (first | refine Zk ?_ _ | refine Zm ?_ | refine Zj ?_ _)); exact BK557.out⟩
                                have n5_ : Za (Below w.heap.size w ((w78.setCell ⟨gb557, 0, none⟩ (.slice A556_0 ((Zz y552 x122_8).f0).length c556_0)).setCell ⟨gb557, 1, none⟩ (.slice A556_1 ((Zz y552 x122_8).f1).length c556_1))) := ⟨by repeat (first | (with_reducible first | exact HB.out | apply Zn | apply Zq | apply Zv | refine Zl ?_ GE529.out | refine Zl ?_ GE545.out | refine Zl ?_ GE557.out) | exact HB.out)⟩
                                (try clear HO_7)
                                (try clear HO_13)
                                (try clear BK529)
                                (try clear BK545)
                                (try clear BK557)
                                (try clear HB)
                                generalize ((w78.setCell ⟨gb557, 0, none⟩ (.slice A556_0 ((Zz y552 x122_8).f0).length c556_0)).setCell ⟨gb557, 1, none⟩ (.slice A556_1 ((Zz y552 x122_8).f1).length c556_1)) = w82 at n0_ n1_ n2_ n3_ n4_ n5_ ⊢
                                have HO_7 := n0_
                                have HO_13 := n1_
                                have BK529 := n2_
                                have BK545 := n3_
                                have BK557 := n4_
                                have HB := n5_
                                clear n0_ n1_ n2_ n3_ n4_ n5_
                                have n0_ := Za.mk (Kd.S_drew HO_7.out)
                                have n1_ := Za.mk (Kd.Qa HO_13.out)
                                have n2_ := Za.mk (Zm BK529.out)
                                have n3_ := Za.mk (Zm BK545.out)
                                have n4_ := Za.mk (Zm BK557.out)
                                have n5_ := Za.mk (Zv HB.out)
                                clear HO_7
                                clear HO_13
                                clear BK529
                                clear BK545
                                clear BK557
                                clear HB
                                have HO_7 := n0_
                                have HO_13 := n1_
                                have BK529 := n2_
                                have BK545 := n3_
                                have BK557 := n4_
                                have HB := n5_
                                clear n0_ n1_ n2_ n3_ n4_ n5_
                                obtain ⟨Ao84, co84, eo84⟩ := Kd.Xd HO_13.out
                                (first | subst eo84 | (injection eo84 with f1_ f2_ f3_; have f4_ := f1_.symm; have f5_ := f3_.symm; clear f1_ f2_ f3_; subst f4_; subst f5_))
                                have p558 : 0 ≤ (x122_8 : Int) := of_decide_eq_true (by first | (with_reducible assumption) | assumption)
                                have q558 : x122_8 < (t546.length : Int) := of_decide_eq_true (by first | (with_reducible assumption) | assumption)
                                obtain ⟨ad558, e558, hx558_0⟩ := Kd.at_bool (Kd.Xl HO_13.out).2.2 x122_8 p558 q558
                                cases e558
                                replace p558 := eq_true p558
                                replace q558 := eq_true q558
                                refine start_ (n := 9) (S := fun w' => w'.cell? ⟨gb529, 0, none⟩ = some (.slice A0_0 l0_0.length c0_0) ∧ w'.cell? ⟨gb529, 1, none⟩ = some (.slice A0_1 l0_1.length c0_1) ∧ w'.cell? ⟨gb529, 2, none⟩ = some (.slice A0_2 l0_2.length c0_2) ∧ w'.cell? ⟨gb529, 3, none⟩ = some (.slice A0_3 l0_3.length c0_3) ∧ w'.cell? ⟨gb529, 4, none⟩ = some (.slice A0_4 l0_4.length c0_4) ∧ w'.cell? ⟨gb545, 0, none⟩ = some (.int .i64 ((Xc y540 x86_6).f0)) ∧ w'.cell? ⟨gb545, 1, none⟩ = some (.int .i64 ((Xc y540 x86_6).f1)) ∧ w'.cell? ⟨gb545, 2, none⟩ = some (.bool ((Xc y540 x86_6).f2)) ∧ w'.cell? ⟨gb557, 0, none⟩ = some (.slice A556_0 ((Zz y552 x122_8).f0).length c556_0) ∧ w'.cell? ⟨gb557, 1, none⟩ = some (.slice A556_1 ((Zz y552 x122_8).f1).length c556_1) ∧ w'.cell? (ad558.add (x122_8).toNat) = some (.bool (rdOf false t546 x122_8))) (ds := []) #[false, false, false, false, false, false, false, false, false] (by kernel_rfl) rfl rfl ⟨(Zc BK529.out 0).trans rfl, (Zc BK529.out 1).trans rfl, (Zc BK529.out 2).trans rfl, (Zc BK529.out 3).trans rfl, (Zc BK529.out 4).trans rfl, (Zc BK545.out 0).trans rfl, (Zc BK545.out 1).trans rfl, (Zc BK545.out 2).trans rfl, (Zc BK557.out 0).trans rfl, (Zc BK557.out 1).trans rfl, hx558_0⟩ (fun hHeld => ?_); refine with_tabW Zd.tab24 Zd.bits24 (fun HT_ HW_ => ?_)
                                generalize w82.drew = w83 at HO_7 HO_13 BK529 BK545 BK557 HB hx558_0 hHeld ⊢
                                refine Qp (i := 0) (N := some 127) (v := ?_) (a' := ?_) #[true, false, false, false, false, false, false, false, false] rfl rfl (Qn HT_.out (by kernel_rfl)) (fun _ _ _ h => h) (Or.inl ⟨by rfl, ?_⟩) ?_ ?_
                                rotate_left
                                ·intro w'
                                 go_simp
                                 with_reducible rfl
                                rotate_left
                                ·simp only [Act.put, List.setIfInBounds_toArray, List.set_cons_zero, List.set_cons_succ, Xr, Xv]
                                 rfl
                                refine Qp (i := 1) (N := some 128) (v := ?_) (a' := ?_) #[true, true, false, false, false, false, false, false, false] rfl rfl (Qn HT_.out (by kernel_rfl)) (fun _ _ _ h => h) (Or.inl ⟨by rfl, ?_⟩) ?_ ?_
                                rotate_left
                                ·intro w'
                                 go_simp
                                 with_reducible rfl
                                rotate_left
                                ·simp only [Act.put, List.setIfInBounds_toArray, List.set_cons_zero, List.set_cons_succ, Xr, Xv]
                                 rfl
                                refine Qp (i := 2) (N := some 129) (v := ?_) (a' := ?_) #[true, true, true, false, false, false, false, false, false] rfl rfl (Qn HT_.out (by kernel_rfl)) (fun _ _ _ h => h) (Or.inl ⟨by rfl, ?_⟩) ?_ ?_
                                rotate_left
                                ·intro w'
                                 go_simp
                                 with_reducible rfl
                                rotate_left
                                ·simp only [Act.put, List.setIfInBounds_toArray, List.set_cons_zero, List.set_cons_succ, Xr, Xv]
                                 rfl
                                refine take_ (i := 3) (N := some 130) (v := ?_) (a' := ?_) #[true, true, true, true, false, false, false, false, false] rfl rfl (take_ofW HT_.out HW_.out (by kernel_rfl)) (fun _ _ _ h => h) (Or.inl ⟨by rfl, ?_⟩) hHeld ?_ ?_
                                rotate_left
                                ·rintro w' ⟨s0, s1, s2, s3, s4, s5, s6, s7, s8, s9, s10⟩
                                 go_simp
                                 with_reducible rfl
                                rotate_left
                                ·simp only [Act.put, List.setIfInBounds_toArray, List.set_cons_zero, List.set_cons_succ, Xr, Xv]
                                 rfl
                                refine take_ (i := 4) (N := some 131) (v := ?_) (a' := ?_) #[true, true, true, true, true, false, false, false, false] rfl rfl (take_ofW HT_.out HW_.out (by kernel_rfl)) (fun _ _ _ h => h) (Or.inl ⟨by rfl, ?_⟩) hHeld ?_ ?_
                                rotate_left
                                ·rintro w' ⟨s0, s1, s2, s3, s4, s5, s6, s7, s8, s9, s10⟩
                                 go_simp
                                 with_reducible rfl
                                rotate_left
                                ·simp only [Act.put, List.setIfInBounds_toArray, List.set_cons_zero, List.set_cons_succ, Xr, Xv]
                                 rfl
                                refine take_ (i := 5) (N := some 132) (v := ?_) (a' := ?_) #[true, true, true, true, true, true, false, false, false] rfl rfl (take_ofW HT_.out HW_.out (by kernel_rfl)) (fun _ _ _ h => h) (Or.inl ⟨by rfl, ?_⟩) hHeld ?_ ?_
                                rotate_left
                                ·rintro w' ⟨s0, s1, s2, s3, s4, s5, s6, s7, s8, s9, s10⟩
                                 go_simp
                                 with_reducible rfl
                                rotate_left
                                ·simp only [Act.put, List.setIfInBounds_toArray, List.set_cons_zero, List.set_cons_succ, Xr, Xv]
                                 rfl
                                refine take_ (i := 6) (N := some 133) (v := ?_) (a' := ?_) #[true, true, true, true, true, true, true, false, false] rfl rfl (take_ofW HT_.out HW_.out (by kernel_rfl)) (fun _ _ _ h => h) (Or.inl ⟨by rfl, ?_⟩) hHeld ?_ ?_
                                rotate_left
                                ·rintro w' ⟨s0, s1, s2, s3, s4, s5, s6, s7, s8, s9, s10⟩
                                 go_simp
                                 with_reducible rfl
                                rotate_left
                                ·simp only [Act.put, List.setIfInBounds_toArray, List.set_cons_zero, List.set_cons_succ, Xr, Xv]
                                 rfl
                                refine one_ (i := 7) (N := some 134) #[true, true, true, true, true, true, true, true, false] rfl rfl (one_of HT_.out (by kernel_rfl)) (by decide) (fun K hK => ?_)
                                refine goes_ Try.func26 (by kernel_rfl) rfl #[.agg #[.slice A0_0 l0_0.length c0_0, .slice A0_1 l0_1.length c0_1, .slice A0_2 l0_2.length c0_2, .slice A0_3 l0_3.length c0_3, .slice A0_4 l0_4.length c0_4], .agg #[.int .i64 ((Xc y540 x86_6).f0), .int .i64 ((Xc y540 x86_6).f1), .bool ((Xc y540 x86_6).f2)], .agg #[.slice A556_0 ((Zz y552 x122_8).f0).length c556_0, .slice A556_1 ((Zz y552 x122_8).f1).length c556_1]] (by rfl) rfl rfl (by (try simp only [List.map_toArray, List.map_cons, List.map_nil]); first | done | rfl | (simp only [List.length_drop, List.length_take]; rfl)) ?_
                                with_reducible refine (maskref2_Hit.calls k8 _ _ l0_0 _ _ l0_1 _ _ l0_2 _ _ l0_3 _ _ l0_4 ((Xc y540 x86_6).f0) ((Xc y540 x86_6).f1) ((Xc y540 x86_6).f2) _ _ ((Zz y552 x122_8).f0) _ _ ((Zz y552 x122_8).f1) t559 _ ?side1 ?side2 ?side3 ?side4 ?side5 ?side6 ?side7 ?side8 ?side9 ?side10 ?side11 ?side12 ?side13 ?side14 A68.out).mono ?_
                                (case side1 => exact (Kd.Zf HR0_0.out HB.out))
                                (case side2 => exact HC0_0.out)
                                (case side3 => exact (Kd.Zf HR0_1.out HB.out))
                                (case side4 => exact HC0_1.out)
                                (case side5 => exact (Kd.Zf HR0_2.out HB.out))
                                (case side6 => exact HC0_2.out)
                                (case side7 => exact (Kd.Zf HR0_3.out HB.out))
                                (case side8 => exact HC0_3.out)
                                (case side9 => exact (Kd.Zf HR0_4.out HB.out))
                                (case side10 => exact HC0_4.out)
                                (case side11 => exact (Kd.Zf HR556_0.out HB.out))
                                (case side12 => exact HC556_0.out)
                                (case side13 => exact (Kd.Zf HR556_1.out HB.out))
                                (case side14 => exact HC556_1.out)
                                rintro e w85 ⟨rfl, hb⟩
                                have HS10_ := (hb.cell (World.block_lt_of_cell? _ _ (hHeld.2.2.2.2.2.2.2.2.2.2))).trans (hHeld.2.2.2.2.2.2.2.2.2.2)
                                refine ⟨_, rfl, ?_⟩
                                have n0_ := Za.mk (Kd.S_below HO_7.out hb)
                                have n1_ := Za.mk (Kd.Zr HO_13.out hb)
                                have n2_ := Za.mk (Zo BK529.out hb)
                                have n3_ := Za.mk (Zo BK545.out hb)
                                have n4_ := Za.mk (Zo BK557.out hb)
                                have n5_ := Za.mk (Zh HB.out hb)
                                clear HO_7
                                clear HO_13
                                clear BK529
                                clear BK545
                                clear BK557
                                clear HB
                                have HO_7 := n0_
                                have HO_13 := n1_
                                have BK529 := n2_
                                have BK545 := n3_
                                have BK557 := n4_
                                have HB := n5_
                                clear n0_ n1_ n2_ n3_ n4_ n5_
                                (try clear hb)
                                (try clear hb2)
                                (try clear hk)
                                (try clear hi)
                                refine hK.out _ _ ⟨(Zc BK529.out 0).trans rfl, (Zc BK529.out 1).trans rfl, (Zc BK529.out 2).trans rfl, (Zc BK529.out 3).trans rfl, (Zc BK529.out 4).trans rfl, (Zc BK545.out 0).trans rfl, (Zc BK545.out 1).trans rfl, (Zc BK545.out 2).trans rfl, (Zc BK557.out 0).trans rfl, (Zc BK557.out 1).trans rfl, HS10_⟩ (fun hHeld => ?_)
                                clear hK K
                                refine norm_ (a' := ?_) ?_ ?_
                                rotate_left
                                ·show Act.put _ (some 134) _ = _
                                 simp only [Act.put, List.setIfInBounds_toArray, List.set_cons_zero, List.set_cons_succ, Xr, Xv]
                                 rfl
                                refine Qp (i := 8) (N := some 135) (v := ?_) (a' := ?_) #[true, true, true, true, true, true, true, true, true] rfl rfl (Qn HT_.out (by kernel_rfl)) (fun _ _ _ h => h) (Or.inl ⟨by rfl, ?_⟩) ?_ ?_
                                rotate_left
                                ·intro w'
                                 go_simp
                                 with_reducible rfl
                                rotate_left
                                ·simp only [Act.put, List.setIfInBounds_toArray, List.set_cons_zero, List.set_cons_succ, Xr, Xv]
                                 rfl
                                refine done_ (done_of HT_.out (by kernel_rfl)) ?_
                                try go_wp2
                                go_roundg k8
                                case measure => have := HJ5.out; have := HJ12.out; have := HJ14.out; have := HJ19.out; have := HJ27.out; have := HK6.out; have := HJ44.out; have := HK8.out; omega
                                case rel => exact ⟨(wrap64 (x122_8 + 1)), (by first | rfl | (simp; done) | (simp [*]; done)), H', ⟨by have := HJ5.out; have := HJ12.out; have := HJ14.out; have := HJ19.out; have := HJ27.out; have := HK6.out; have := HJ44.out; have := HK8.out; omega⟩, ⟨HO_7.out⟩, ⟨HO_13.out⟩, ⟨BK529.out⟩, ⟨BK545.out⟩, ⟨HB.out⟩⟩
                              ·rw [if_neg c67] at H
                               exact absurd H (by simp)
                             ·rw [if_neg c66] at H
                              exact absurd H (by simp)
                            ·rw [if_neg c65] at H
                             exact absurd H (by simp)
                           ·rw [if_neg c64] at H
                            have c64b0 : decide (x122_8 < (y552.length : Int)) = false := decide_eq_false c64
                            clear c64
                            have H' := Za.mk H
                            clear H
                            go_wp2
                            go_roundg k8
                            case measure => have := HJ5.out; have := HJ12.out; have := HJ14.out; have := HJ19.out; have := HJ27.out; have := HK6.out; have := HJ44.out; have := HK8.out; omega
                            case rel => exact ⟨(wrap64 (x86_6 + 1)), (by first | rfl | (simp; done) | (simp [*]; done)), H', ⟨by have := HJ5.out; have := HJ12.out; have := HJ14.out; have := HJ19.out; have := HJ27.out; have := HK6.out; have := HJ44.out; have := HK8.out; omega⟩, ⟨by (with_reducible repeat (first | apply Kd.S_alloc | apply Kd.S_drewN | apply Kd.S_drew)); exact Kd.S_mono HO_7.out (fun _ hk => trivial)⟩, ⟨BK529.out⟩, ⟨HB.out⟩⟩
                        ·rw [if_neg c62] at H
                         exact absurd H (by simp)
                       ·rw [if_neg c61] at H
                        exact absurd H (by simp)
                   ·rw [if_neg c43] at H
                    exact absurd H (by simp)
                  ·rw [if_neg c42] at H
                   exact absurd H (by simp)
                 ·rw [if_neg c41] at H
                  have c41b0 : decide (x86_6 < (y540.length : Int)) = false := decide_eq_false c41
                  clear c41
                  obtain rfl := Option.some.inj H
                  go_wp2
                  go_ret
                  exact ⟨by first | rfl | (simp [errW_none, errW_some] <;> rfl) | (simp only [← hji37]; first | rfl | (simp [errW_none, errW_some] <;> rfl)) | (simp [*, errW_none, errW_some] <;> rfl), HB.out⟩
              ·rw [if_neg c39] at H
               exact absurd H (by simp)
             ·rw [if_neg c38] at H
              exact absurd H (by simp)
         ·rw [if_neg c27] at H
          have c27b0 : (x9_19 == 0) = false := beq_eq_false_iff_ne.mpr c27
          have c27b1 : (x9_19 != 0) = true := bne_iff_ne.mpr c27
          replace H := Option.bind_eq_some_iff.mp H
          obtain ⟨t538, A860, H⟩ := H
          replace H : (if t538 = true then (if t533 = x9_19 then (some ((t530.length : Int) == 0)) else (none)) else (none)) = some r := H
          have A86 := Za.mk A860
          clear A860
          by_cases c87 : t538 = true
          ·subst c87
           have H1 : (if t533 = x9_19 then (some ((t530.length : Int) == 0)) else (none)) = some r := by rw [if_pos rfl] at H; exact H
           clear H
           have H := H1
           clear H1
           by_cases c88 : t533 = x9_19
           ·rw [if_pos c88] at H
            have c88b0 : (t533 == x9_19) = true := beq_iff_eq.mpr c88
            have c88b1 : (t533 != x9_19) = false := bne_eq_false_iff_eq.mpr c88
            clear c88
            obtain rfl := Option.some.inj H
            go_wp2_with (((with_reducible refine Xi (f := 11) rfl ?_); refine Qo (some 56) rfl rfl Try.func11 (by kernel_rfl) rfl #[] rfl (by (try simp only [List.map_toArray, List.map_cons, List.map_nil]); first | done | rfl | (simp only [List.length_drop, List.length_take]; rfl)) ?_; (with_reducible refine (Qm.calls kj19  true _ A86.out).mono ?_); rintro e w89 ⟨rfl, hb⟩; refine ⟨_, rfl, ?_⟩; have n0_ := Za.mk (Kd.S_below HO_7.out hb); have n1_ := Za.mk (Zo BK529.out hb); have n2_ := Za.mk (Zh HB.out hb); clear HO_7; clear BK529; clear HB; have HO_7 := n0_; have BK529 := n1_; have HB := n2_; clear n0_ n1_ n2_; (try clear hb); (try clear hb2); (try clear hk); (try clear hi); obtain ⟨Ao90, co90, eo90⟩ := Kd.S_slice HO_7.out; subst eo90))
            go_ret
            exact ⟨by first | rfl | (simp [errW_none, errW_some] <;> rfl) | (simp [*, errW_none, errW_some] <;> rfl), HB.out⟩
           ·rw [if_neg c88] at H
            exact absurd H (by simp)
          ·replace c87 := Bool.eq_false_iff.mpr c87
           subst c87
           have H1 : (none) = some r := by rw [if_neg (show ¬ (false = true) by decide)] at H; exact H
           exact absurd H1 (by simp)
end Go.Proofs.Ytimjccfpobhpeaa.PF
