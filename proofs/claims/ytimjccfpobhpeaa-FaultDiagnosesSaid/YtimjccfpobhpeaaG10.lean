/- Joined by this session's own program out of its texts: PFx40. -/
import Derived.Test.YtimjccfpobhpeaaG1
import Derived.Test.YtimjccfpobhpeaaG2
import Derived.Test.YtimjccfpobhpeaaG6
import Derived.Test.YtimjccfpobhpeaaG8
import Derived.Test.YtimjccfpobhpeaaG9
import Derived.Test.YtimjccfpobhpeaaG7
namespace Go.Proofs.Ytimjccfpobhpeaa.PF
open Go.RowKit Go.Proofs.YtimjccfpobhpeaaW.PrintWords Go.Proofs.YtimjccfpobhpeaaW.PrintLast Go.Proofs.YtimjccfpobhpeaaW.PrintMore
set_option linter.unusedVariables false
set_option linter.unusedSimpArgs false
mutual
def Zd.j0 : Nat → List (S29) → List (S55) → List (S60) → List Int → Int → Int → Bool → List ByteArray → List ByteArray → List (S82) → List (Ky) → List Int → Option (Bool)
  | 0, _, _, _, _, _, _, _, _, _, _, _, _ => none
  | k + 1, x1, x2, x3, x9, x10, x11, x37, x437000, x437001, x437002, x437003, x437004 => if x37 = true then (Zd.j1 k x1 x2 x3 x9 x10 3 x437000 x437001 x437002 x437003 x437004) else (Zd.j1 k x1 x2 x3 x9 x10 x11 x437000 x437001 x437002 x437003 x437004)
def Zd.j1 : Nat → List (S29) → List (S55) → List (S60) → List Int → Int → Int → List ByteArray → List ByteArray → List (S82) → List (Ky) → List Int → Option (Bool)
  | 0, _, _, _, _, _, _, _, _, _, _, _ => none
  | k + 1, x1, x2, x3, x9, x10, x11, x437000, x437001, x437002, x437003, x437004 => if x11 = 0 then ((Xt.f k x437000 x437001 x437002 x437003 x437004 x2).bind fun t442 => (Zd.j2 k x1 x2 x3 x9 x10 t442 x437000 x437001 x437002 x437003 x437004)) else (Zd.j2 k x1 x2 x3 x9 x10 x11 x437000 x437001 x437002 x437003 x437004)
def Zd.j2 : Nat → List (S29) → List (S55) → List (S60) → List Int → Int → Int → List ByteArray → List ByteArray → List (S82) → List (Ky) → List Int → Option (Bool)
  | 0, _, _, _, _, _, _, _, _, _, _, _ => none
  | k + 1, x1, x2, x3, x9, x10, x11, x437000, x437001, x437002, x437003, x437004 => Zd.l0 k x1 x2 x3 x9 x10 x11 0 x437000 x437001 x437002 x437003 x437004
def Zd.j4 : Nat → List (S29) → List (S55) → List (S60) → List Int → Int → Int → List ByteArray → List ByteArray → List (S82) → List (Ky) → List Int → Option (Bool)
  | 0, _, _, _, _, _, _, _, _, _, _, _ => none
  | k + 1, x1, x2, x3, x9, x10, x11, x437000, x437001, x437002, x437003, x437004 => if x11 = 0 then (Zd.j5 k x1 x2 x3 x9 x10 x11 ((x3.length : Int) != (x2.length : Int)) x437000 x437001 x437002 x437003 x437004) else (Zd.j5 k x1 x2 x3 x9 x10 x11 false x437000 x437001 x437002 x437003 x437004)
def Zd.j5 : Nat → List (S29) → List (S55) → List (S60) → List Int → Int → Int → Bool → List ByteArray → List ByteArray → List (S82) → List (Ky) → List Int → Option (Bool)
  | 0, _, _, _, _, _, _, _, _, _, _, _, _ => none
  | k + 1, x1, x2, x3, x9, x10, x11, x67, x437000, x437001, x437002, x437003, x437004 => if x67 = true then (Zd.j6 k x1 x2 x3 x9 x10 11 x437000 x437001 x437002 x437003 x437004) else (Zd.j6 k x1 x2 x3 x9 x10 x11 x437000 x437001 x437002 x437003 x437004)
def Zd.j6 : Nat → List (S29) → List (S55) → List (S60) → List Int → Int → Int → List ByteArray → List ByteArray → List (S82) → List (Ky) → List Int → Option (Bool)
  | 0, _, _, _, _, _, _, _, _, _, _, _ => none
  | k + 1, x1, x2, x3, x9, x10, x11, x437000, x437001, x437002, x437003, x437004 => if x11 = 0 then (if (wrap64 ((x1.length : Int) * (x2.length : Int))) > 4000 then ((Qn.f k).bind fun t446 => (some t446)) else (Zd.l1 k x2 x3 x9 x10 ([] : List Int) x1 (x1.length : Int) 0 x437000 x437001 x437002 x437003 x437004)) else ((Qn.f k).bind fun t445 => (if t445 = true then (if x10 = x11 then (some ((x9.length : Int) == 0)) else (none)) else (none)))
def Zd.l1 : Nat → List (S55) → List (S60) → List Int → Int → List Int → List (S29) → Int → Int → List ByteArray → List ByteArray → List (S82) → List (Ky) → List Int → Option (Bool)
  | 0, _, _, _, _, _, _, _, _, _, _, _, _, _ => none
  | k + 1, x2, x3, x9, x10, x13, x88, x89, x90, x437000, x437001, x437002, x437003, x437004 => if x90 < x89 then (if 0 ≤ x90 then (if x90 < (x88.length : Int) then (Zd.l2 k x2 x3 x9 x10 x13 x90 true x88 x89 x90 x2 (x2.length : Int) 0 x437000 x437001 x437002 x437003 x437004 ((Zr x88 x90).f0) ((Zr x88 x90).f1) ((Zr x88 x90).f2)) else (none)) else (none)) else ((Qn.f k).bind fun t447 => (if t447 = true then (if x10 = 0 then ((Zw.f k x9 x13).bind fun t448 => (some t448)) else (none)) else (none)))
def Zd.l2 : Nat → List (S55) → List (S60) → List Int → Int → List Int → Int → Bool → List (S29) → Int → Int → List (S55) → Int → Int → List ByteArray → List ByteArray → List (S82) → List (Ky) → List Int → Int → Int → Bool → Option (Bool)
  | 0, _, _, _, _, _, _, _, _, _, _, _, _, _, _, _, _, _, _, _, _, _ => none
  | k + 1, x2, x3, x9, x10, x13, x14, x16, x88, x89, x90, x95, x96, x97, x437000, x437001, x437002, x437003, x437004, x451000, x451001, x451002 => if x97 < x96 then (if 0 ≤ x97 then (if x97 < (x95.length : Int) then ((Ku.f k x437000 x437001 x437002 x437003 x437004 (([(⟨x451000, x451001, x451002⟩ : S29)] : List (S29))) ((Zx x95 x97).f0) ((Zx x95 x97).f1)).bind fun bt456 => (if x16 = true then (if x97 < (x3.length : Int) then ((Zt.f k bt456.1 ((rd_T60 x3 x97).f0)).bind fun t463 => (if t463 = true then ((Zt.f k bt456.2 ((rd_T60 x3 x97).f1)).bind fun t465 => (Zd.l2 k x2 x3 x9 x10 x13 x14 t465 x88 x89 x90 x95 x96 (wrap64 (x97 + 1)) x437000 x437001 x437002 x437003 x437004 x451000 x451001 x451002)) else (Zd.l2 k x2 x3 x9 x10 x13 x14 false x88 x89 x90 x95 x96 (wrap64 (x97 + 1)) x437000 x437001 x437002 x437003 x437004 x451000 x451001 x451002))) else (none)) else (Zd.l2 k x2 x3 x9 x10 x13 x14 false x88 x89 x90 x95 x96 (wrap64 (x97 + 1)) x437000 x437001 x437002 x437003 x437004 x451000 x451001 x451002))) else (none)) else (none)) else (if x16 = true then (if x13.length < 17592186044416 then (Zd.l1 k x2 x3 x9 x10 (x13 ++ [x14]) x88 x89 (wrap64 (x90 + 1)) x437000 x437001 x437002 x437003 x437004) else (none)) else (Zd.l1 k x2 x3 x9 x10 x13 x88 x89 (wrap64 (x90 + 1)) x437000 x437001 x437002 x437003 x437004))
def Zd.l0 : Nat → List (S29) → List (S55) → List (S60) → List Int → Int → Int → Int → List ByteArray → List ByteArray → List (S82) → List (Ky) → List Int → Option (Bool)
  | 0, _, _, _, _, _, _, _, _, _, _, _, _ => none
  | k + 1, x1, x2, x3, x9, x10, x11, x12, x437000, x437001, x437002, x437003, x437004 => if x12 < (x1.length : Int) then (if x11 = 0 then (if 0 ≤ x12 then ((Xq.f k x437000 x437001 x437002 x437003 x437004 ((Zr x1 x12).f0) ((Zr x1 x12).f1) ((Zr x1 x12).f2)).bind fun t444 => (Zd.l0 k x1 x2 x3 x9 x10 t444 (wrap64 (x12 + 1)) x437000 x437001 x437002 x437003 x437004)) else (none)) else (Zd.j4 k x1 x2 x3 x9 x10 x11 x437000 x437001 x437002 x437003 x437004)) else (Zd.j4 k x1 x2 x3 x9 x10 x11 x437000 x437001 x437002 x437003 x437004)
end
def Zd.f (k : Nat) (l0_0 : List ByteArray) (l0_1 : List ByteArray) (l0_2 : List (S82)) (l0_3 : List (Ky)) (l0_4 : List Int) (l1 : List (S29)) (l2 : List (S55)) (l3 : List (S60)) : Option (Bool) := (Zu.f k l0_0 l0_1 l0_2 l0_3 l0_4 l1 l2 l3).bind fun bt437 => ((Ze.f k l0_0 l0_1 l0_2 l0_3 l0_4).bind fun t441 => (if t441 = 0 then (Zd.j0 k l1 l2 l3 bt437.1 bt437.2 t441 (decide ((l1.length : Int) > 20000)) l0_0 l0_1 l0_2 l0_3 l0_4) else (Zd.j0 k l1 l2 l3 bt437.1 bt437.2 t441 false l0_0 l0_1 l0_2 l0_3 l0_4)))
set_option maxHeartbeats 8000000 in
set_option maxRecDepth 100000 in
theorem Zd.calls (k : Nat) (A0_0 : Option Addr) (c0_0 : Nat) (l0_0 : List ByteArray) (A0_1 : Option Addr) (c0_1 : Nat) (l0_1 : List ByteArray) (A0_2 : Option Addr) (c0_2 : Nat) (l0_2 : List (S82)) (A0_3 : Option Addr) (c0_3 : Nat) (l0_3 : List (Ky)) (A0_4 : Option Addr) (c0_4 : Nat) (l0_4 : List Int) (A1 : Option Addr) (c1 : Nat) (l1 : List (S29)) (A2 : Option Addr) (c2 : Nat) (l2 : List (S55)) (A3 : Option Addr) (c3 : Nat) (l3 : List (S60)) (r : Bool) (w : World) (hr0_0 : Kd.C Kd.string w A0_0 l0_0.length l0_0) (hc0_0 : l0_0.length ≤ c0_0) (hr0_1 : Kd.C Kd.string w A0_1 l0_1.length l0_1) (hc0_1 : l0_1.length ≤ c0_1) (hr0_2 : Kd.C k82 w A0_2 l0_2.length l0_2) (hc0_2 : l0_2.length ≤ c0_2) (hr0_3 : Kd.C k80 w A0_3 l0_3.length l0_3) (hc0_3 : l0_3.length ≤ c0_3) (hr0_4 : Kd.C (Kd.int .i64) w A0_4 l0_4.length l0_4) (hc0_4 : l0_4.length ≤ c0_4) (hr1 : Kd.C k29 w A1 l1.length l1) (hc1 : l1.length ≤ c1) (hr2 : Kd.C k55 w A2 l2.length l2) (hc2 : l2.length ≤ c2) (hr3 : Kd.C k60 w A3 l3.length l3) (hc3 : l3.length ≤ c3) (h : Zd.f k l0_0 l0_1 l0_2 l0_3 l0_4 l1 l2 l3 = some r) :
 Calls Try.prog 5 #[.agg #[.slice A0_0 l0_0.length c0_0, .slice A0_1 l0_1.length c0_1, .slice A0_2 l0_2.length c0_2, .slice A0_3 l0_3.length c0_3, .slice A0_4 l0_4.length c0_4], .slice A1 l1.length c1, .slice A2 l2.length c2, .slice A3 l3.length c3] w fun e w' => e = .returned (.bool r) ∧ Below w.heap.size w w' := by
 have hu27 := Try.underlying27
 have hu29 := Try.underlying29
 have hu55 := Try.underlying55
 have HR0_0 := Za.mk hr0_0
 have HC0_0 := Za.mk hc0_0
 clear hr0_0 hc0_0
 have HR0_1 := Za.mk hr0_1
 have HC0_1 := Za.mk hc0_1
 clear hr0_1 hc0_1
 have HR0_2 := Za.mk hr0_2
 have HC0_2 := Za.mk hc0_2
 clear hr0_2 hc0_2
 have HR0_3 := Za.mk hr0_3
 have HC0_3 := Za.mk hc0_3
 clear hr0_3 hc0_3
 have HR0_4 := Za.mk hr0_4
 have HC0_4 := Za.mk hc0_4
 clear hr0_4 hc0_4
 have HR1 := Za.mk hr1
 have HC1 := Za.mk hc1
 clear hr1 hc1
 have HR2 := Za.mk hr2
 have HC2 := Za.mk hc2
 clear hr2 hc2
 have HR3 := Za.mk hr3
 have HC3 := Za.mk hc3
 clear hr3 hc3
 have HB := Za.mk (Below.refl w.heap.size w)
 have H : ((Zu.f k l0_0 l0_1 l0_2 l0_3 l0_4 l1 l2 l3).bind fun bt437 => ((Ze.f k l0_0 l0_1 l0_2 l0_3 l0_4).bind fun t441 => (if t441 = 0 then (Zd.j0 k l1 l2 l3 bt437.1 bt437.2 t441 (decide ((l1.length : Int) > 20000)) l0_0 l0_1 l0_2 l0_3 l0_4) else (Zd.j0 k l1 l2 l3 bt437.1 bt437.2 t441 false l0_0 l0_1 l0_2 l0_3 l0_4)))) = some r := h
 clear h
 replace H := Option.bind_eq_some_iff.mp H
 obtain ⟨⟨t437, t440⟩, A50, H⟩ := H
 replace H : ((Ze.f k l0_0 l0_1 l0_2 l0_3 l0_4).bind fun t441 => (if t441 = 0 then (Zd.j0 k l1 l2 l3 t437 t440 t441 (decide ((l1.length : Int) > 20000)) l0_0 l0_1 l0_2 l0_3 l0_4) else (Zd.j0 k l1 l2 l3 t437 t440 t441 false l0_0 l0_1 l0_2 l0_3 l0_4))) = some r := H
 have A5 := Za.mk A50
 clear A50
 replace H := Option.bind_eq_some_iff.mp H
 obtain ⟨t441, A60, H⟩ := H
 replace H : (if t441 = 0 then (Zd.j0 k l1 l2 l3 t437 t440 t441 (decide ((l1.length : Int) > 20000)) l0_0 l0_1 l0_2 l0_3 l0_4) else (Zd.j0 k l1 l2 l3 t437 t440 t441 false l0_0 l0_1 l0_2 l0_3 l0_4)) = some r := H
 have A6 := Za.mk A60
 clear A60
 have HC7 := Za.mk H
 clear H
 go_enter Try.func5, Try.ntmps5
 go_upto_region 3 with (first | ((with_reducible refine Xl (N := 4) rfl ?_); (try (refine Qd (by rfl) ?_; dsimp only)); refine Xr ?hg (N := 4) ?hd (cs := #[.slice A0_0 l0_0.length c0_0, .slice A0_1 l0_1.length c0_1, .slice A0_2 l0_2.length c0_2, .slice A0_3 l0_3.length c0_3, .slice A0_4 l0_4.length c0_4]) (t := 27) ?hr ?_; (case hd => rfl); (case hg => rfl); (case hr => first | (go_simp; done) | (go_simp; rfl)); intro gb436 hg w8 hbox hb; have n0_ := Za.mk (Zn HB.out hb); have n1_ := Za.mk (hbox); have n2_ := Za.mk ((by rw [hg]; exact (Zm HB.out) : w.heap.size ≤ gb436)); have n3_ := n2_; clear HB; have HB := n0_; have BK436 := n1_; have GW436 := n2_; have GE436 := n3_; clear n0_ n1_ n2_ n3_; clear hb hbox hg; have hcz9_0 : w8.cell? ⟨gb436, 0, none⟩ = some (.slice A0_0 l0_0.length c0_0) := (Zc BK436.out 0).trans rfl; have hcz9_1 : w8.cell? ⟨gb436, 1, none⟩ = some (.slice A0_1 l0_1.length c0_1) := (Zc BK436.out 1).trans rfl; have hcz9_2 : w8.cell? ⟨gb436, 2, none⟩ = some (.slice A0_2 l0_2.length c0_2) := (Zc BK436.out 2).trans rfl; have hcz9_3 : w8.cell? ⟨gb436, 3, none⟩ = some (.slice A0_3 l0_3.length c0_3) := (Zc BK436.out 3).trans rfl; have hcz9_4 : w8.cell? ⟨gb436, 4, none⟩ = some (.slice A0_4 l0_4.length c0_4) := (Zc BK436.out 4).trans rfl; have hfz9_0 := Zb BK436.out 0; have hfz9_1 := Zb BK436.out 1; have hfz9_2 := Zb BK436.out 2; have hfz9_3 := Zb BK436.out 3; have hfz9_4 := Zb BK436.out 4) | ((with_reducible refine Xo (f := 20) rfl ?_); refine Qp (some 26) rfl rfl Try.func20 (by kernel_rfl) rfl #[.agg #[.slice A0_0 l0_0.length c0_0, .slice A0_1 l0_1.length c0_1, .slice A0_2 l0_2.length c0_2, .slice A0_3 l0_3.length c0_3, .slice A0_4 l0_4.length c0_4], .slice A1 l1.length c1, .slice A2 l2.length c2, .slice A3 l3.length c3] rfl (by (try simp only [List.map_toArray, List.map_cons, List.map_nil]); first | done | rfl | (simp only [List.length_drop, List.length_take]; rfl)) ?_; (with_reducible refine (Zu.calls k _ _ l0_0 _ _ l0_1 _ _ l0_2 _ _ l0_3 _ _ l0_4 _ _ l1 _ _ l2 _ _ l3 t437 t440 _ ?side1 ?side2 ?side3 ?side4 ?side5 ?side6 ?side7 ?side8 ?side9 ?side10 ?side11 ?side12 ?side13 ?side14 ?side15 ?side16 A5.out).mono ?_); (case side1 => exact (Kd.Zk HR0_0.out HB.out)); (case side2 => exact HC0_0.out); (case side3 => exact (Kd.Zk HR0_1.out HB.out)); (case side4 => exact HC0_1.out); (case side5 => exact (Kd.Zk HR0_2.out HB.out)); (case side6 => exact HC0_2.out); (case side7 => exact (Kd.Zk HR0_3.out HB.out)); (case side8 => exact HC0_3.out); (case side9 => exact (Kd.Zk HR0_4.out HB.out)); (case side10 => exact HC0_4.out); (case side11 => exact (Kd.Zk HR1.out HB.out)); (case side12 => exact HC1.out); (case side13 => exact (Kd.Zk HR2.out HB.out)); (case side14 => exact HC2.out); (case side15 => exact (Kd.Zk HR3.out HB.out)); (case side16 => exact HC3.out); rintro e w10 ⟨v438, rfl, ho0, hb⟩; refine ⟨_, rfl, ?_⟩; have n0_ := Za.mk (Kd.Xm ho0 (Zm HB.out)); have n1_ := Za.mk (Zq BK436.out hb); have n2_ := Za.mk (Zn HB.out hb); clear BK436; clear HB; have HO439 := n0_; have BK436 := n1_; have HB := n2_; clear n0_ n1_ n2_; (try clear hb); (try clear hb2); (try clear hk); (try clear hi); (try clear ho0); have hcz11_0 : w10.cell? ⟨gb436, 0, none⟩ = some (.slice A0_0 l0_0.length c0_0) := (Zc BK436.out 0).trans rfl; have hcz11_1 : w10.cell? ⟨gb436, 1, none⟩ = some (.slice A0_1 l0_1.length c0_1) := (Zc BK436.out 1).trans rfl; have hcz11_2 : w10.cell? ⟨gb436, 2, none⟩ = some (.slice A0_2 l0_2.length c0_2) := (Zc BK436.out 2).trans rfl; have hcz11_3 : w10.cell? ⟨gb436, 3, none⟩ = some (.slice A0_3 l0_3.length c0_3) := (Zc BK436.out 3).trans rfl; have hcz11_4 : w10.cell? ⟨gb436, 4, none⟩ = some (.slice A0_4 l0_4.length c0_4) := (Zc BK436.out 4).trans rfl; have hfz11_0 := Zb BK436.out 0; have hfz11_1 := Zb BK436.out 1; have hfz11_2 := Zb BK436.out 2; have hfz11_3 := Zb BK436.out 3; have hfz11_4 := Zb BK436.out 4) | ((with_reducible refine Xo (f := 9) rfl ?_); refine Qp (some 30) rfl rfl Try.func9 (by kernel_rfl) rfl #[.agg #[.slice A0_0 l0_0.length c0_0, .slice A0_1 l0_1.length c0_1, .slice A0_2 l0_2.length c0_2, .slice A0_3 l0_3.length c0_3, .slice A0_4 l0_4.length c0_4]] rfl (by (try simp only [List.map_toArray, List.map_cons, List.map_nil]); first | done | rfl | (simp only [List.length_drop, List.length_take]; rfl)) ?_; (with_reducible refine (Ze.calls k _ _ l0_0 _ _ l0_1 _ _ l0_2 _ _ l0_3 _ _ l0_4 t441 _ ?side1 ?side2 ?side3 ?side4 ?side5 ?side6 ?side7 ?side8 ?side9 ?side10 A6.out).mono ?_); (case side1 => exact (Kd.Zk HR0_0.out HB.out)); (case side2 => exact HC0_0.out); (case side3 => exact (Kd.Zk HR0_1.out HB.out)); (case side4 => exact HC0_1.out); (case side5 => exact (Kd.Zk HR0_2.out HB.out)); (case side6 => exact HC0_2.out); (case side7 => exact (Kd.Zk HR0_3.out HB.out)); (case side8 => exact HC0_3.out); (case side9 => exact (Kd.Zk HR0_4.out HB.out)); (case side10 => exact HC0_4.out); rintro e w12 ⟨rfl, hb⟩; refine ⟨_, rfl, ?_⟩; have n0_ := Za.mk (Kd.Zp HO439.out hb); have n1_ := Za.mk (Zq BK436.out hb); have n2_ := Za.mk (Zn HB.out hb); clear HO439; clear BK436; clear HB; have HO439 := n0_; have BK436 := n1_; have HB := n2_; clear n0_ n1_ n2_; (try clear hb); (try clear hb2); (try clear hk); (try clear hi)))
 (try simp only [Act.put, List.setIfInBounds_toArray, List.set_cons_zero, List.set_cons_succ])
 go_cut [37] (fun v37 wc => ∃ (kq : Nat) (x37_6 : Bool), v37 = .bool x37_6 ∧ Za (Zd.j0 kq l1 l2 l3 t437 t440 t441 x37_6 l0_0 l0_1 l0_2 l0_3 l0_4 = some r) ∧ Za (kq ≤ k) ∧ Za (Kd.R (Kd.int .i64) 3 wc w.heap.size (fun _ => True) v438 t437) ∧ Za (wc.heap[gb436]? = some (.cells #[(.slice A0_0 l0_0.length c0_0), (.slice A0_1 l0_1.length c0_1), (.slice A0_2 l0_2.length c0_2), (.slice A0_3 l0_3.length c0_3), (.slice A0_4 l0_4.length c0_4)] 27 (0, 0))) ∧ Za (Below w.heap.size w wc))
 case first =>
  have H := HC7.out
  clear HC7
  by_cases c13 : t441 = 0
  ·rw [if_pos c13] at H
   have c13b0 : (t441 == 0) = true := beq_iff_eq.mpr c13
   have c13b1 : (t441 != 0) = false := bne_eq_false_iff_eq.mpr c13
   clear c13
   (first | rw [c13b0] | (simp only [Qb, Qc]; rw [c13b0]) | skip)
   have H' := Za.mk H
   clear H
   go_wp2
   go_meet
   case rel => exact ⟨_, (decide ((l1.length : Int) > 20000)), (by first | rfl | (simp; done) | (simp [*]; done)), H', ⟨by first | omega | exact Nat.le_refl _⟩, ⟨HO439.out⟩, ⟨BK436.out⟩, ⟨HB.out⟩⟩
  ·rw [if_neg c13] at H
   have c13b0 : (t441 == 0) = false := beq_eq_false_iff_ne.mpr c13
   have c13b1 : (t441 != 0) = true := bne_iff_ne.mpr c13
   (first | rw [c13b0] | (simp only [Qb, Qc]; rw [c13b0]) | skip)
   have H' := Za.mk H
   clear H
   go_wp2
   go_meet
   case rel => exact ⟨_, (false), (by first | rfl | (simp; done) | (simp [*]; done)), H', ⟨by first | omega | exact Nat.le_refl _⟩, ⟨HO439.out⟩, ⟨BK436.out⟩, ⟨HB.out⟩⟩
 case rest =>
  clear HC7
  try clear hcz11_0
  try clear hcz11_1
  try clear hcz11_2
  try clear hcz11_3
  try clear hcz11_4
  try clear hcz9_0
  try clear hcz9_1
  try clear hcz9_2
  try clear hcz9_3
  try clear hcz9_4
  try clear hfz11_0
  try clear hfz11_1
  try clear hfz11_2
  try clear hfz11_3
  try clear hfz11_4
  try clear hfz9_0
  try clear hfz9_1
  try clear hfz9_2
  try clear hfz9_3
  try clear hfz9_4
  obtain ⟨kq, x37_6, rfl, HA, HJ6, HO_9, BK436, HB⟩ := hcut
  cases kq with
  | zero => exact absurd HA.out (by simp [Zd.j0])
  | succ kj6 =>
   have H := HA.out
   clear HA
   simp only [Zd.j0] at H
   have HC14 := Za.mk H
   clear H
   go_upto_if 37 with (fail)
   go_cut [11] (fun v11 wc => ∃ (kq : Nat) (x11_13 : Int), v11 = .int .i64 x11_13 ∧ Za (Zd.j1 kq l1 l2 l3 t437 t440 x11_13 l0_0 l0_1 l0_2 l0_3 l0_4 = some r) ∧ Za (kq ≤ kj6) ∧ Za (Kd.R (Kd.int .i64) 3 wc w.heap.size (fun _ => True) v438 t437) ∧ Za (wc.heap[gb436]? = some (.cells #[(.slice A0_0 l0_0.length c0_0), (.slice A0_1 l0_1.length c0_1), (.slice A0_2 l0_2.length c0_2), (.slice A0_3 l0_3.length c0_3), (.slice A0_4 l0_4.length c0_4)] 27 (0, 0))) ∧ Za (Below w.heap.size w wc))
   case first =>
    have H := HC14.out
    clear HC14
    by_cases c15 : x37_6 = true
    ·subst c15
     have H1 : (Zd.j1 kj6 l1 l2 l3 t437 t440 3 l0_0 l0_1 l0_2 l0_3 l0_4) = some r := by rw [if_pos rfl] at H; exact H
     clear H
     have H := H1
     clear H1
     have H' := Za.mk H
     clear H
     go_wp2
     go_meet
     case rel => exact ⟨_, (3), (by first | rfl | (simp; done) | (simp [*]; done)), H', ⟨by have := HJ6.out; first | omega | exact Nat.le_refl _⟩, ⟨HO_9.out⟩, ⟨BK436.out⟩, ⟨HB.out⟩⟩
    ·replace c15 := Bool.eq_false_iff.mpr c15
     subst c15
     have H1 : (Zd.j1 kj6 l1 l2 l3 t437 t440 t441 l0_0 l0_1 l0_2 l0_3 l0_4) = some r := by rw [if_neg (show ¬ (false = true) by decide)] at H; exact H
     clear H
     have H := H1
     clear H1
     have H' := Za.mk H
     clear H
     go_wp2
     go_meet
     case rel => exact ⟨_, (t441), (by first | rfl | (simp; done) | (simp [*]; done)), H', ⟨by have := HJ6.out; first | omega | exact Nat.le_refl _⟩, ⟨HO_9.out⟩, ⟨BK436.out⟩, ⟨HB.out⟩⟩
   case rest =>
    clear HC14
    obtain ⟨kq, x11_13, rfl, HA, HJ13, HO_9, BK436, HB⟩ := hcut
    cases kq with
    | zero => exact absurd HA.out (by simp [Zd.j1])
    | succ kj13 =>
     have H := HA.out
     clear HA
     simp only [Zd.j1] at H
     have HC16 := Za.mk H
     clear H
     go_upto_if 39 with (fail)
     go_cut [11] (fun v11 wc => ∃ (kq : Nat) (x11_15 : Int), v11 = .int .i64 x11_15 ∧ Za (Zd.j2 kq l1 l2 l3 t437 t440 x11_15 l0_0 l0_1 l0_2 l0_3 l0_4 = some r) ∧ Za (kq ≤ kj13) ∧ Za (Kd.R (Kd.int .i64) 3 wc w.heap.size (fun _ => True) v438 t437) ∧ Za (wc.heap[gb436]? = some (.cells #[(.slice A0_0 l0_0.length c0_0), (.slice A0_1 l0_1.length c0_1), (.slice A0_2 l0_2.length c0_2), (.slice A0_3 l0_3.length c0_3), (.slice A0_4 l0_4.length c0_4)] 27 (0, 0))) ∧ Za (Below w.heap.size w wc))
     case first =>
      have H := HC16.out
      clear HC16
      by_cases c17 : x11_13 = 0
      ·rw [if_pos c17] at H
       have c17b0 : (x11_13 == 0) = true := beq_iff_eq.mpr c17
       have c17b1 : (x11_13 != 0) = false := bne_eq_false_iff_eq.mpr c17
       clear c17
       (first | rw [c17b0] | (simp only [Qb, Qc]; rw [c17b0]) | skip)
       replace H := Option.bind_eq_some_iff.mp H
       obtain ⟨t442, A180, H⟩ := H
       replace H : (Zd.j2 kj13 l1 l2 l3 t437 t440 t442 l0_0 l0_1 l0_2 l0_3 l0_4) = some r := H
       have A18 := Za.mk A180
       clear A180
       have H' := Za.mk H
       clear H
       have hcz19_0 : wc.cell? ⟨gb436, 0, none⟩ = some (.slice A0_0 l0_0.length c0_0) := (Zc BK436.out 0).trans rfl
       have hcz19_1 : wc.cell? ⟨gb436, 1, none⟩ = some (.slice A0_1 l0_1.length c0_1) := (Zc BK436.out 1).trans rfl
       have hcz19_2 : wc.cell? ⟨gb436, 2, none⟩ = some (.slice A0_2 l0_2.length c0_2) := (Zc BK436.out 2).trans rfl
       have hcz19_3 : wc.cell? ⟨gb436, 3, none⟩ = some (.slice A0_3 l0_3.length c0_3) := (Zc BK436.out 3).trans rfl
       have hcz19_4 : wc.cell? ⟨gb436, 4, none⟩ = some (.slice A0_4 l0_4.length c0_4) := (Zc BK436.out 4).trans rfl
       have hfz19_0 := Zb BK436.out 0
       have hfz19_1 := Zb BK436.out 1
       have hfz19_2 := Zb BK436.out 2
       have hfz19_3 := Zb BK436.out 3
       have hfz19_4 := Zb BK436.out 4
       go_wp2_with (((with_reducible refine Xo (f := 21) rfl ?_); refine Qp (some 42) rfl rfl Try.func21 (by kernel_rfl) rfl #[.agg #[.slice A0_0 l0_0.length c0_0, .slice A0_1 l0_1.length c0_1, .slice A0_2 l0_2.length c0_2, .slice A0_3 l0_3.length c0_3, .slice A0_4 l0_4.length c0_4], .slice A2 l2.length c2] rfl (by (try simp only [List.map_toArray, List.map_cons, List.map_nil]); first | done | rfl | (simp only [List.length_drop, List.length_take]; rfl)) ?_; (with_reducible refine (Xt.calls kj13 _ _ l0_0 _ _ l0_1 _ _ l0_2 _ _ l0_3 _ _ l0_4 _ _ l2 t442 _ ?side1 ?side2 ?side3 ?side4 ?side5 ?side6 ?side7 ?side8 ?side9 ?side10 ?side11 ?side12 A18.out).mono ?_); (case side1 => exact (Kd.Zk HR0_0.out HB.out)); (case side2 => exact HC0_0.out); (case side3 => exact (Kd.Zk HR0_1.out HB.out)); (case side4 => exact HC0_1.out); (case side5 => exact (Kd.Zk HR0_2.out HB.out)); (case side6 => exact HC0_2.out); (case side7 => exact (Kd.Zk HR0_3.out HB.out)); (case side8 => exact HC0_3.out); (case side9 => exact (Kd.Zk HR0_4.out HB.out)); (case side10 => exact HC0_4.out); (case side11 => exact (Kd.Zk HR2.out HB.out)); (case side12 => exact HC2.out); rintro e w20 ⟨rfl, hb⟩; refine ⟨_, rfl, ?_⟩; have n0_ := Za.mk (Kd.Zp HO_9.out hb); have n1_ := Za.mk (Zq BK436.out hb); have n2_ := Za.mk (Zn HB.out hb); clear HO_9; clear BK436; clear HB; have HO_9 := n0_; have BK436 := n1_; have HB := n2_; clear n0_ n1_ n2_; (try clear hb); (try clear hb2); (try clear hk); (try clear hi)))
       go_meet
       case rel => exact ⟨_, (t442), (by first | rfl | (simp; done) | (simp [*]; done)), H', ⟨by have := HJ6.out; have := HJ13.out; first | omega | exact Nat.le_refl _⟩, ⟨HO_9.out⟩, ⟨BK436.out⟩, ⟨HB.out⟩⟩
      ·rw [if_neg c17] at H
       have c17b0 : (x11_13 == 0) = false := beq_eq_false_iff_ne.mpr c17
       have c17b1 : (x11_13 != 0) = true := bne_iff_ne.mpr c17
       (first | rw [c17b0] | (simp only [Qb, Qc]; rw [c17b0]) | skip)
       have H' := Za.mk H
       clear H
       go_wp2
       go_meet
       case rel => exact ⟨_, (x11_13), (by first | rfl | (simp; done) | (simp [*]; done)), H', ⟨by have := HJ6.out; have := HJ13.out; first | omega | exact Nat.le_refl _⟩, ⟨HO_9.out⟩, ⟨BK436.out⟩, ⟨HB.out⟩⟩
     case rest =>
      clear HC16
      obtain ⟨kq, x11_15, rfl, HA, HJ15, HO_9, BK436, HB⟩ := hcut
      cases kq with
      | zero => exact absurd HA.out (by simp [Zd.j2])
      | succ kj15 =>
       have H := HA.out
       clear HA
       simp only [Zd.j2] at H
       have HC21 := Za.mk H
       clear H
       go_upto_block 0 with (fail)
       go_cut [11] (fun v11 wc => ∃ (kq : Nat) (x11_20 : Int), v11 = .int .i64 x11_20 ∧ Za (Zd.j4 kq l1 l2 l3 t437 t440 x11_20 l0_0 l0_1 l0_2 l0_3 l0_4 = some r) ∧ Za (kq ≤ kj15) ∧ Za (Kd.R (Kd.int .i64) 3 wc w.heap.size (fun _ => True) v438 t437) ∧ Za (wc.heap[gb436]? = some (.cells #[(.slice A0_0 l0_0.length c0_0), (.slice A0_1 l0_1.length c0_1), (.slice A0_2 l0_2.length c0_2), (.slice A0_3 l0_3.length c0_3), (.slice A0_4 l0_4.length c0_4)] 27 (0, 0))) ∧ Za (Below w.heap.size w wc))
       case first =>
        have H := HC21.out
        clear HC21
        have H' := Za.mk H
        clear H
        go_wp2
        go_loopg [11, 12] kj15 (fun kq v11 v12 w' => ∃ (x11_4 : Int) (x12_4 : Int), v11 = .int .i64 x11_4 ∧ v12 = .int .i64 x12_4 ∧ Za (Zd.l0 kq l1 l2 l3 t437 t440 x11_4 x12_4 l0_0 l0_1 l0_2 l0_3 l0_4 = some r) ∧ Za (kq ≤ kj15) ∧ Za (Kd.R (Kd.int .i64) 3 w' w.heap.size (fun _ => True) v438 t437) ∧ Za (w'.heap[gb436]? = some (.cells #[(.slice A0_0 l0_0.length c0_0), (.slice A0_1 l0_1.length c0_1), (.slice A0_2 l0_2.length c0_2), (.slice A0_3 l0_3.length c0_3), (.slice A0_4 l0_4.length c0_4)] 27 (0, 0))) ∧ Za (Below w.heap.size w w'))
        case atStart => exact ⟨(x11_15), (0), (by first | rfl | (simp; done) | (simp [*]; done)), (by first | rfl | (simp; done) | (simp [*]; done)), H', ⟨Nat.le_refl _⟩, ⟨HO_9.out⟩, ⟨BK436.out⟩, ⟨HB.out⟩⟩
        case round =>
         clear H'
         obtain ⟨x11_4, x12_4, rfl, rfl, HA, HK4, HO_9, BK436, HB⟩ := hrel
         cases gk with
         | zero => exact absurd HA.out (by simp [Zd.l0])
         | succ k4 =>
          have H := HA.out
          clear HA
          simp only [Zd.l0] at H
          by_cases c22 : x12_4 < (l1.length : Int)
          ·rw [if_pos c22] at H
           have c22b0 : decide (x12_4 < (l1.length : Int)) = true := decide_eq_true c22
           clear c22
           (first | rw [c22b0] | (simp only [Qb, Qc]; rw [c22b0]) | skip)
           by_cases c23 : x11_4 = 0
           ·rw [if_pos c23] at H
            have c23b0 : (x11_4 == 0) = true := beq_iff_eq.mpr c23
            have c23b1 : (x11_4 != 0) = false := bne_eq_false_iff_eq.mpr c23
            clear c23
            by_cases c24 : 0 ≤ x12_4
            ·rw [if_pos c24] at H
             have c24b0 : decide (0 ≤ x12_4) = true := decide_eq_true c24
             clear c24
             replace H := Option.bind_eq_some_iff.mp H
             obtain ⟨t444, A250, H⟩ := H
             replace H : (Zd.l0 k4 l1 l2 l3 t437 t440 t444 (wrap64 (x12_4 + 1)) l0_0 l0_1 l0_2 l0_3 l0_4) = some r := H
             have A25 := Za.mk A250
             clear A250
             have H' := Za.mk H
             clear H
             try go_wp2
             have n0_ := Za.mk (Kd.Xg HO_9.out)
             have n1_ := Za.mk (Zi BK436.out)
             have n2_ := Za.mk (Zo HB.out)
             clear HO_9
             clear BK436
             clear HB
             have HO_9 := n0_
             have BK436 := n1_
             have HB := n2_
             clear n0_ n1_ n2_
             have p443 : 0 ≤ (x12_4 : Int) := of_decide_eq_true (by first | (with_reducible assumption) | assumption)
             have q443 : x12_4 < (l1.length : Int) := of_decide_eq_true (by first | (with_reducible assumption) | assumption)
             obtain ⟨ad443, e443, hx443_0, hx443_1, hx443_2⟩ := at_T29 HR1.out x12_4 p443 q443
             have hw443_2 := hx443_2
             have hw443_1 := hx443_1
             have hw443_0 := hx443_0
             cases e443
             replace hx443_0 := (HB.out.cell (World.block_lt_of_cell? w _ hx443_0)).trans hx443_0
             replace hx443_1 := (HB.out.cell (World.block_lt_of_cell? w _ hx443_1)).trans hx443_1
             replace hx443_2 := (HB.out.cell (World.block_lt_of_cell? w _ hx443_2)).trans hx443_2
             replace p443 := eq_true p443
             replace q443 := eq_true q443
             refine start_ (n := 7) (S := fun w' => w'.cell? ⟨gb436, 0, none⟩ = some (.slice A0_0 l0_0.length c0_0) ∧ w'.cell? ⟨gb436, 1, none⟩ = some (.slice A0_1 l0_1.length c0_1) ∧ w'.cell? ⟨gb436, 2, none⟩ = some (.slice A0_2 l0_2.length c0_2) ∧ w'.cell? ⟨gb436, 3, none⟩ = some (.slice A0_3 l0_3.length c0_3) ∧ w'.cell? ⟨gb436, 4, none⟩ = some (.slice A0_4 l0_4.length c0_4) ∧ w'.cell? (ad443.add ((x12_4).toNat * 3)) = some (.int .i64 ((Zr l1 x12_4).f0)) ∧ w'.cell? ⟨(ad443.add ((x12_4).toNat * 3)).block, (ad443.add ((x12_4).toNat * 3)).off + 1, none⟩ = some (.int .i64 ((Zr l1 x12_4).f1)) ∧ w'.cell? ⟨(ad443.add ((x12_4).toNat * 3)).block, (ad443.add ((x12_4).toNat * 3)).off + 2, none⟩ = some (.bool ((Zr l1 x12_4).f2))) (ds := []) #[false, false, false, false, false, false, false] (by kernel_rfl) rfl rfl ⟨(Zc BK436.out 0).trans rfl, (Zc BK436.out 1).trans rfl, (Zc BK436.out 2).trans rfl, (Zc BK436.out 3).trans rfl, (Zc BK436.out 4).trans rfl, ((HB.out.cell (World.block_lt_of_cell? w _ hw443_0)).trans hw443_0), ((HB.out.cell (World.block_lt_of_cell? w _ hw443_1)).trans hw443_1), ((HB.out.cell (World.block_lt_of_cell? w _ hw443_2)).trans hw443_2)⟩ (fun hHeld => ?_)
             generalize wr.drew = w26 at HO_9 BK436 HB hx443_0 hx443_1 hx443_2 hHeld ⊢
             refine Kq (i := 1) (N := some 54) (v := ?_) (a' := ?_) #[false, true, false, false, false, false, false] rfl rfl (by kernel_rfl) (fun _ _ _ h => h) (Or.inl ⟨by rfl, ?_⟩) ?_ ?_
             rotate_left
             ·intro w'
              go_simp
              with_reducible rfl
             rotate_left
             ·simp only [Act.put, List.setIfInBounds_toArray, List.set_cons_zero, List.set_cons_succ, Qb, Qc]
              rfl
             refine Kq (i := 2) (N := some 55) (v := ?_) (a' := ?_) #[false, true, true, false, false, false, false] rfl rfl (by kernel_rfl) (fun _ _ _ h => h) (Or.inl ⟨by rfl, ?_⟩) ?_ ?_
             rotate_left
             ·intro w'
              go_simp
              with_reducible rfl
             rotate_left
             ·simp only [Act.put, List.setIfInBounds_toArray, List.set_cons_zero, List.set_cons_succ, Qb, Qc]
              rfl
             refine Kq (i := 3) (N := some 56) (v := ?_) (a' := ?_) #[false, true, true, true, false, false, false] rfl rfl (by kernel_rfl) (fun _ _ _ h => h) (Or.inl ⟨by rfl, ?_⟩) ?_ ?_
             rotate_left
             ·intro w'
              go_simp
              with_reducible rfl
             rotate_left
             ·simp only [Act.put, List.setIfInBounds_toArray, List.set_cons_zero, List.set_cons_succ, Qb, Qc]
              rfl
             refine take_ (i := 0) (N := some 53) (v := ?_) (a' := ?_) #[true, true, true, true, false, false, false] rfl rfl (by kernel_rfl) (fun _ _ _ h => h) (Or.inl ⟨by rfl, ?_⟩) hHeld ?_ ?_
             rotate_left
             ·rintro w' ⟨s0, s1, s2, s3, s4, s5, s6, s7⟩
              go_simp
              with_reducible rfl
             rotate_left
             ·simp only [Act.put, List.setIfInBounds_toArray, List.set_cons_zero, List.set_cons_succ, Qb, Qc]
              rfl
             refine take_ (i := 4) (N := some 57) (v := ?_) (a' := ?_) #[true, true, true, true, true, false, false] rfl rfl (by kernel_rfl) (fun _ _ _ h => h) (Or.inl ⟨by rfl, ?_⟩) hHeld ?_ ?_
             rotate_left
             ·rintro w' ⟨s0, s1, s2, s3, s4, s5, s6, s7⟩
              go_simp
              with_reducible rfl
             rotate_left
             ·simp only [Act.put, List.setIfInBounds_toArray, List.set_cons_zero, List.set_cons_succ, Qb, Qc]
              rfl
             refine one_ (i := 5) (N := some 58) #[true, true, true, true, true, true, false] rfl rfl (by kernel_rfl) (by decide) (fun K hK => ?_)
             refine goes_ Try.func10 (by kernel_rfl) rfl #[.agg #[.slice A0_0 l0_0.length c0_0, .slice A0_1 l0_1.length c0_1, .slice A0_2 l0_2.length c0_2, .slice A0_3 l0_3.length c0_3, .slice A0_4 l0_4.length c0_4], .agg #[.int .i64 ((Zr l1 x12_4).f0), .int .i64 ((Zr l1 x12_4).f1), .bool ((Zr l1 x12_4).f2)]] (by rfl) rfl rfl (by (try simp only [List.map_toArray, List.map_cons, List.map_nil]); first | done | rfl | (simp only [List.length_drop, List.length_take]; rfl)) ?_
             with_reducible refine (Xq.calls k4 _ _ l0_0 _ _ l0_1 _ _ l0_2 _ _ l0_3 _ _ l0_4 ((Zr l1 x12_4).f0) ((Zr l1 x12_4).f1) ((Zr l1 x12_4).f2) t444 _ ?side1 ?side2 ?side3 ?side4 ?side5 ?side6 ?side7 ?side8 ?side9 ?side10 A25.out).mono ?_
             (case side1 => exact (Kd.Zk HR0_0.out HB.out))
             (case side2 => exact HC0_0.out)
             (case side3 => exact (Kd.Zk HR0_1.out HB.out))
             (case side4 => exact HC0_1.out)
             (case side5 => exact (Kd.Zk HR0_2.out HB.out))
             (case side6 => exact HC0_2.out)
             (case side7 => exact (Kd.Zk HR0_3.out HB.out))
             (case side8 => exact HC0_3.out)
             (case side9 => exact (Kd.Zk HR0_4.out HB.out))
             (case side10 => exact HC0_4.out)
             rintro e w27 ⟨rfl, hb⟩
             refine ⟨_, rfl, ?_⟩
             have n0_ := Za.mk (Kd.Zp HO_9.out hb)
             have n1_ := Za.mk (Zq BK436.out hb)
             have n2_ := Za.mk (Zn HB.out hb)
             clear HO_9
             clear BK436
             clear HB
             have HO_9 := n0_
             have BK436 := n1_
             have HB := n2_
             clear n0_ n1_ n2_
             (try clear hb)
             (try clear hb2)
             (try clear hk)
             (try clear hi)
             refine hK.out _ _ ⟨(Zc BK436.out 0).trans rfl, (Zc BK436.out 1).trans rfl, (Zc BK436.out 2).trans rfl, (Zc BK436.out 3).trans rfl, (Zc BK436.out 4).trans rfl, ((HB.out.cell (World.block_lt_of_cell? w _ hw443_0)).trans hw443_0), ((HB.out.cell (World.block_lt_of_cell? w _ hw443_1)).trans hw443_1), ((HB.out.cell (World.block_lt_of_cell? w _ hw443_2)).trans hw443_2)⟩ (fun hHeld => ?_)
             clear hK K
             refine norm_ (a' := ?_) ?_ ?_
             rotate_left
             ·show Act.put _ (some 58) _ = _
              simp only [Act.put, List.setIfInBounds_toArray, List.set_cons_zero, List.set_cons_succ, Qb, Qc]
              rfl
             refine Kq (i := 6) (N := some 11) (v := ?_) (a' := ?_) #[true, true, true, true, true, true, true] rfl rfl (by kernel_rfl) (fun _ _ _ h => h) (Or.inl ⟨by rfl, ?_⟩) ?_ ?_
             rotate_left
             ·intro w'
              go_simp
              with_reducible rfl
             rotate_left
             ·simp only [Act.put, List.setIfInBounds_toArray, List.set_cons_zero, List.set_cons_succ, Qb, Qc]
              rfl
             refine done_ (by kernel_rfl) ?_
             try go_wp2
             go_roundg k4
             case measure => have := HJ6.out; have := HJ13.out; have := HJ15.out; have := HK4.out; omega
             case rel => exact ⟨(t444), (wrap64 (x12_4 + 1)), (by first | rfl | (simp; done) | (simp [*]; done)), (by first | rfl | (simp; done) | (simp [*]; done)), H', ⟨by have := HJ6.out; have := HJ13.out; have := HJ15.out; have := HK4.out; omega⟩, ⟨HO_9.out⟩, ⟨BK436.out⟩, ⟨HB.out⟩⟩
            ·rw [if_neg c24] at H
             exact absurd H (by simp)
           ·rw [if_neg c23] at H
            have c23b0 : (x11_4 == 0) = false := beq_eq_false_iff_ne.mpr c23
            have c23b1 : (x11_4 != 0) = true := bne_iff_ne.mpr c23
            have H' := Za.mk H
            clear H
            go_wp2
            go_meet
            case rel => exact ⟨_, (x11_4), (by first | rfl | (simp; done) | (simp [*]; done)), H', ⟨by have := HJ6.out; have := HJ13.out; have := HJ15.out; have := HK4.out; first | omega | exact Nat.le_refl _⟩, ⟨HO_9.out⟩, ⟨BK436.out⟩, ⟨HB.out⟩⟩
          ·rw [if_neg c22] at H
           have c22b0 : decide (x12_4 < (l1.length : Int)) = false := decide_eq_false c22
           clear c22
           (first | rw [c22b0] | (simp only [Qb, Qc]; rw [c22b0]) | skip)
           have H' := Za.mk H
           clear H
           go_wp2
           go_meet
           case rel => exact ⟨_, (x11_4), (by first | rfl | (simp; done) | (simp [*]; done)), H', ⟨by have := HJ6.out; have := HJ13.out; have := HJ15.out; have := HK4.out; first | omega | exact Nat.le_refl _⟩, ⟨HO_9.out⟩, ⟨BK436.out⟩, ⟨HB.out⟩⟩
       case rest =>
        clear HC21
        obtain ⟨kq, x11_20, rfl, HA, HJ20, HO_9, BK436, HB⟩ := hcut
        cases kq with
        | zero => exact absurd HA.out (by simp [Zd.j4])
        | succ kj20 =>
         have H := HA.out
         clear HA
         simp only [Zd.j4] at H
         have HC28 := Za.mk H
         clear H
         go_upto_region 11 with (fail)
         go_cut [67] (fun v67 wc => ∃ (kq : Nat) (x67_27 : Bool), v67 = .bool x67_27 ∧ Za (Zd.j5 kq l1 l2 l3 t437 t440 x11_20 x67_27 l0_0 l0_1 l0_2 l0_3 l0_4 = some r) ∧ Za (kq ≤ kj20) ∧ Za (Kd.R (Kd.int .i64) 3 wc w.heap.size (fun _ => True) v438 t437) ∧ Za (wc.heap[gb436]? = some (.cells #[(.slice A0_0 l0_0.length c0_0), (.slice A0_1 l0_1.length c0_1), (.slice A0_2 l0_2.length c0_2), (.slice A0_3 l0_3.length c0_3), (.slice A0_4 l0_4.length c0_4)] 27 (0, 0))) ∧ Za (Below w.heap.size w wc))
         case first =>
          have H := HC28.out
          clear HC28
          by_cases c29 : x11_20 = 0
          ·rw [if_pos c29] at H
           have c29b0 : (x11_20 == 0) = true := beq_iff_eq.mpr c29
           have c29b1 : (x11_20 != 0) = false := bne_eq_false_iff_eq.mpr c29
           clear c29
           (first | rw [c29b0] | (simp only [Qb, Qc]; rw [c29b0]) | skip)
           have H' := Za.mk H
           clear H
           go_wp2
           go_meet
           case rel => exact ⟨_, (((l3.length : Int) != (l2.length : Int))), (by first | rfl | (simp; done) | (simp [*]; done)), H', ⟨by have := HJ6.out; have := HJ13.out; have := HJ15.out; have := HJ20.out; first | omega | exact Nat.le_refl _⟩, ⟨HO_9.out⟩, ⟨BK436.out⟩, ⟨HB.out⟩⟩
          ·rw [if_neg c29] at H
           have c29b0 : (x11_20 == 0) = false := beq_eq_false_iff_ne.mpr c29
           have c29b1 : (x11_20 != 0) = true := bne_iff_ne.mpr c29
           (first | rw [c29b0] | (simp only [Qb, Qc]; rw [c29b0]) | skip)
           have H' := Za.mk H
           clear H
           go_wp2
           go_meet
           case rel => exact ⟨_, (false), (by first | rfl | (simp; done) | (simp [*]; done)), H', ⟨by have := HJ6.out; have := HJ13.out; have := HJ15.out; have := HJ20.out; first | omega | exact Nat.le_refl _⟩, ⟨HO_9.out⟩, ⟨BK436.out⟩, ⟨HB.out⟩⟩
         case rest =>
          clear HC28
          obtain ⟨kq, x67_27, rfl, HA, HJ27, HO_9, BK436, HB⟩ := hcut
          cases kq with
          | zero => exact absurd HA.out (by simp [Zd.j5])
          | succ kj27 =>
           have H := HA.out
           clear HA
           simp only [Zd.j5] at H
           have HC30 := Za.mk H
           clear H
           go_upto_if 67 with (fail)
           go_cut [11] (fun v11 wc => ∃ (kq : Nat) (x11_29 : Int), v11 = .int .i64 x11_29 ∧ Za (Zd.j6 kq l1 l2 l3 t437 t440 x11_29 l0_0 l0_1 l0_2 l0_3 l0_4 = some r) ∧ Za (kq ≤ kj27) ∧ Za (Kd.R (Kd.int .i64) 3 wc w.heap.size (fun _ => True) v438 t437) ∧ Za (wc.heap[gb436]? = some (.cells #[(.slice A0_0 l0_0.length c0_0), (.slice A0_1 l0_1.length c0_1), (.slice A0_2 l0_2.length c0_2), (.slice A0_3 l0_3.length c0_3), (.slice A0_4 l0_4.length c0_4)] 27 (0, 0))) ∧ Za (Below w.heap.size w wc))
           case first =>
            have H := HC30.out
            clear HC30
            by_cases c31 : x67_27 = true
            ·subst c31
             have H1 : (Zd.j6 kj27 l1 l2 l3 t437 t440 11 l0_0 l0_1 l0_2 l0_3 l0_4) = some r := by rw [if_pos rfl] at H; exact H
             clear H
             have H := H1
             clear H1
             have H' := Za.mk H
             clear H
             go_wp2
             go_meet
             case rel => exact ⟨_, (11), (by first | rfl | (simp; done) | (simp [*]; done)), H', ⟨by have := HJ6.out; have := HJ13.out; have := HJ15.out; have := HJ20.out; have := HJ27.out; first | omega | exact Nat.le_refl _⟩, ⟨HO_9.out⟩, ⟨BK436.out⟩, ⟨HB.out⟩⟩
            ·replace c31 := Bool.eq_false_iff.mpr c31
             subst c31
             have H1 : (Zd.j6 kj27 l1 l2 l3 t437 t440 x11_20 l0_0 l0_1 l0_2 l0_3 l0_4) = some r := by rw [if_neg (show ¬ (false = true) by decide)] at H; exact H
             clear H
             have H := H1
             clear H1
             have H' := Za.mk H
             clear H
             go_wp2
             go_meet
             case rel => exact ⟨_, (x11_20), (by first | rfl | (simp; done) | (simp [*]; done)), H', ⟨by have := HJ6.out; have := HJ13.out; have := HJ15.out; have := HJ20.out; have := HJ27.out; first | omega | exact Nat.le_refl _⟩, ⟨HO_9.out⟩, ⟨BK436.out⟩, ⟨HB.out⟩⟩
           case rest =>
            clear HC30
            obtain ⟨kq, x11_29, rfl, HA, HJ29, HO_9, BK436, HB⟩ := hcut
            cases kq with
            | zero => exact absurd HA.out (by simp [Zd.j6])
            | succ kj29 =>
             have H := HA.out
             clear HA
             simp only [Zd.j6] at H
             by_cases c32 : x11_29 = 0
             ·rw [if_pos c32] at H
              have c32b0 : (x11_29 == 0) = true := beq_iff_eq.mpr c32
              have c32b1 : (x11_29 != 0) = false := bne_eq_false_iff_eq.mpr c32
              clear c32
              by_cases c33 : (wrap64 ((l1.length : Int) * (l2.length : Int))) > 4000
              ·rw [if_pos c33] at H
               have c33b0 : decide (4000 < (wrap64 ((l1.length : Int) * (l2.length : Int)))) = true := decide_eq_true c33
               clear c33
               replace H := Option.bind_eq_some_iff.mp H
               obtain ⟨t446, A340, H⟩ := H
               replace H : (some t446) = some r := H
               have A34 := Za.mk A340
               clear A340
               obtain rfl := Option.some.inj H
               go_wp2_with (((with_reducible refine Xo (f := 11) rfl ?_); refine Qp (some 87) rfl rfl Try.func11 (by kernel_rfl) rfl #[] rfl (by (try simp only [List.map_toArray, List.map_cons, List.map_nil]); first | done | rfl | (simp only [List.length_drop, List.length_take]; rfl)) ?_; (with_reducible refine (Qn.calls kj29  t446 _ A34.out).mono ?_); rintro e w35 ⟨rfl, hb⟩; refine ⟨_, rfl, ?_⟩; have n0_ := Za.mk (Kd.Zp HO_9.out hb); have n1_ := Za.mk (Zq BK436.out hb); have n2_ := Za.mk (Zn HB.out hb); clear HO_9; clear BK436; clear HB; have HO_9 := n0_; have BK436 := n1_; have HB := n2_; clear n0_ n1_ n2_; (try clear hb); (try clear hb2); (try clear hk); (try clear hi)))
               go_ret
               exact ⟨by first | rfl | (simp [errW_none, errW_some] <;> rfl) | (simp [*, errW_none, errW_some] <;> rfl), HB.out⟩
              ·rw [if_neg c33] at H
               have c33b0 : decide (4000 < (wrap64 ((l1.length : Int) * (l2.length : Int)))) = false := decide_eq_false c33
               clear c33
               have H' := Za.mk H
               clear H
               go_wp2
               go_loopg [13, 90] kj29 (fun kq v13 v90 w' => ∃ (x13_7 : List Int) (x90_7 : Int), v90 = .int .i64 x90_7 ∧ Za (Zd.l1 kq l2 l3 t437 t440 x13_7 l1 (l1.length : Int) x90_7 l0_0 l0_1 l0_2 l0_3 l0_4 = some r) ∧ Za (kq ≤ kj29) ∧ Za (Kd.R (Kd.int .i64) 3 w' w.heap.size (fun k_ => some k_ ≠ (v13 : Value).ownBlock) v438 t437) ∧ Za (Kd.R (Kd.int .i64) 3 w' w.heap.size (fun k_ => some k_ ≠ (v438 : Value).ownBlock) v13 x13_7) ∧ Za (w'.heap[gb436]? = some (.cells #[(.slice A0_0 l0_0.length c0_0), (.slice A0_1 l0_1.length c0_1), (.slice A0_2 l0_2.length c0_2), (.slice A0_3 l0_3.length c0_3), (.slice A0_4 l0_4.length c0_4)] 27 (0, 0))) ∧ Za (Below w.heap.size w w'))
               case atStart => exact ⟨(([] : List Int)), (0), (by first | rfl | (simp; done) | (simp [*]; done)), H', ⟨Nat.le_refl _⟩, ⟨by (with_reducible repeat (first | apply Kd.R_alloc | apply Kd.Zy | apply Kd.Xg)); exact Kd.Xh HO_9.out (fun _ hk => (by simp [Value.ownBlock]))⟩, ⟨by first | exact Kd.R_nil _ _ _ _ _ | exact Kd.N_nil _ _ _ _ _ | exact Kd.V_nil _ _ _ _ _ | exact Kd.Q_nil _ _ _ _ _ | exact Kd.S_nil _ _ _ _ _⟩, ⟨BK436.out⟩, ⟨HB.out⟩⟩
               case round =>
                clear H'
                try clear c32b0
                try clear c32b1
                try clear c33b0
                obtain ⟨x13_7, x90_7, rfl, HA, HK7, HO_9, HO_13, BK436, HB⟩ := hrel
                cases gk with
                | zero => exact absurd HA.out (by simp [Zd.l1])
                | succ k7 =>
                 have H := HA.out
                 clear HA
                 simp only [Zd.l1] at H
                 by_cases c36 : x90_7 < (l1.length : Int)
                 ·rw [if_pos c36] at H
                  have c36b0 : decide (x90_7 < (l1.length : Int)) = true := decide_eq_true c36
                  clear c36
                  by_cases c37 : 0 ≤ x90_7
                  ·rw [if_pos c37] at H
                   have c37b0 : decide (0 ≤ x90_7) = true := decide_eq_true c37
                   clear c37
                   by_cases c38 : x90_7 < (l1.length : Int)
                   ·rw [if_pos c38] at H
                    have c38b0 : decide (x90_7 < (l1.length : Int)) = true := decide_eq_true c38
                    clear c38
                    have H' := Za.mk H
                    clear H
                    have p449 : 0 ≤ (x90_7 : Int) := of_decide_eq_true (by first | (with_reducible assumption) | assumption)
                    have q449 : x90_7 < (l1.length : Int) := of_decide_eq_true (by first | (with_reducible assumption) | assumption)
                    obtain ⟨ad449, e449, hx449_0, hx449_1, hx449_2⟩ := at_T29 HR1.out x90_7 p449 q449
                    cases e449
                    replace hx449_0 := (HB.out.cell (World.block_lt_of_cell? w _ hx449_0)).trans hx449_0
                    replace hx449_1 := (HB.out.cell (World.block_lt_of_cell? w _ hx449_1)).trans hx449_1
                    replace hx449_2 := (HB.out.cell (World.block_lt_of_cell? w _ hx449_2)).trans hx449_2
                    replace p449 := eq_true p449
                    replace q449 := eq_true q449
                    go_wp2_with (((with_reducible refine Xl (N := 15) rfl ?_); (try (refine Qd (by rfl) ?_; dsimp only)); refine Xr ?hg (N := 15) ?hd (cs := #[.int .i64 0, .int .i64 0, .bool false]) (t := 29) ?hr ?_; (case hd => rfl); (case hg => rfl); (case hr => first | (go_simp; done) | (go_simp; rfl)); intro gb450 hg w39 hbox hb; have n0_ := Za.mk (Kd.Zp HO_9.out hb); have n1_ := Za.mk (Kd.Zp HO_13.out hb); have n2_ := Za.mk (Zq BK436.out hb); have n3_ := Za.mk (Zn HB.out hb); have n4_ := Za.mk (hbox); have n5_ := Za.mk ((by rw [hg]; exact (Zm HB.out) : w.heap.size ≤ gb450)); have n6_ := n5_; have n7_ := Za.mk ((by rw [hg]; exact Nat.ne_of_lt (Xx BK436.out) : gb436 ≠ gb450)); have n8_ := Za.mk ((by rw [hg]; exact Nat.ne_of_gt (Xx BK436.out) : gb450 ≠ gb436)); clear HO_9; clear HO_13; clear BK436; clear HB; have HO_9 := n0_; have HO_13 := n1_; have BK436 := n2_; have HB := n3_; have BK450 := n4_; have GW450 := n5_; have GE450 := n6_; have NB436_450 := n7_; have NB450_436 := n8_; clear n0_ n1_ n2_ n3_ n4_ n5_ n6_ n7_ n8_; clear hb hbox hg; have hnb40 := NB450_436.out; have hnc40 := NB436_450.out; have hcz41_0 : w39.cell? ⟨gb450, 0, none⟩ = some (.int .i64 0) := (Zc BK450.out 0).trans rfl; have hcz41_1 : w39.cell? ⟨gb450, 1, none⟩ = some (.int .i64 0) := (Zc BK450.out 1).trans rfl; have hcz41_2 : w39.cell? ⟨gb450, 2, none⟩ = some (.bool false) := (Zc BK450.out 2).trans rfl; have hfz41_0 := Zb BK450.out 0; have hfz41_1 := Zb BK450.out 1; have hfz41_2 := Zb BK450.out 2))
                    go_loopg [16, 97] k7 (fun kq v16 v97 w' => ∃ (x16_8 : Bool) (x97_8 : Int), v16 = .bool x16_8 ∧ v97 = .int .i64 x97_8 ∧ Za (Zd.l2 kq l2 l3 t437 t440 x13_7 x90_7 x16_8 l1 (l1.length : Int) x90_7 l2 (l2.length : Int) x97_8 l0_0 l0_1 l0_2 l0_3 l0_4 ((Zr l1 x90_7).f0) ((Zr l1 x90_7).f1) ((Zr l1 x90_7).f2) = some r) ∧ Za (kq ≤ k7) ∧ Za (Kd.R (Kd.int .i64) 3 w' w.heap.size (fun k_ => some k_ ≠ (u13 : Value).ownBlock) v438 t437) ∧ Za (Kd.R (Kd.int .i64) 3 w' w.heap.size (fun k_ => some k_ ≠ (v438 : Value).ownBlock) u13 x13_7) ∧ Za (w'.heap[gb436]? = some (.cells #[(.slice A0_0 l0_0.length c0_0), (.slice A0_1 l0_1.length c0_1), (.slice A0_2 l0_2.length c0_2), (.slice A0_3 l0_3.length c0_3), (.slice A0_4 l0_4.length c0_4)] 27 (0, 0))) ∧ Za (w'.heap[gb450]? = some (.cells #[.int .i64 ((Zr l1 x90_7).f0), .int .i64 ((Zr l1 x90_7).f1), .bool ((Zr l1 x90_7).f2)] 29 (0, 0))) ∧ Za (Below w.heap.size w w'))
                    case atStart => exact ⟨(true), (0), (by first | rfl | (simp; done) | (simp [*]; done)), (by first | rfl | (simp; done) | (simp [*]; done)), H', ⟨Nat.le_refl _⟩, ⟨by (with_reducible repeat (first | apply Kd.R_alloc | apply Kd.Zy | apply Kd.Xg)); exact Kd.Xh (Kd.Xb (p := ⟨gb450, 2, none⟩) (Kd.Xb (p := ⟨gb450, 1, none⟩) (Kd.Xb (p := ⟨gb450, 0, none⟩) (Kd.Xv HO_9.out BK450.out (by decide)) (fun _ hk => hk.2) (.int .i64 ((Zr l1 x90_7).f0))) (fun _ hk => hk.2) (.int .i64 ((Zr l1 x90_7).f1))) (fun _ hk => hk.2) (.bool ((Zr l1 x90_7).f2))) (fun _ hk => hk.1)⟩, ⟨by (with_reducible repeat (first | apply Kd.R_alloc | apply Kd.Zy | apply Kd.Xg)); exact Kd.Xh (Kd.Xb (p := ⟨gb450, 2, none⟩) (Kd.Xb (p := ⟨gb450, 1, none⟩) (Kd.Xb (p := ⟨gb450, 0, none⟩) (Kd.Xv HO_13.out BK450.out (by decide)) (fun _ hk => hk.2) (.int .i64 ((Zr l1 x90_7).f0))) (fun _ hk => hk.2) (.int .i64 ((Zr l1 x90_7).f1))) (fun _ hk => hk.2) (.bool ((Zr l1 x90_7).f2))) (fun _ hk => hk.1)⟩, ⟨by (with_reducible repeat (first | refine Zg ?_ _ | refine Zi ?_ | refine Zf ?_ _)); refine Xp ?_ NB436_450.out _; (with_reducible repeat (first | refine Zg ?_ _ | refine Zi ?_ | refine Zf ?_ _)); refine Xp ?_ NB436_450.out _; (with_reducible repeat (first | refine Zg ?_ _ | refine Zi ?_ | refine Zf ?_ _)); refine Xp ?_ NB436_450.out _; (with_reducible repeat (first | refine Zg ?_ _ | refine Zi ?_ | refine Zf ?_ _)); exact BK436.out⟩, ⟨by (with_reducible repeat (first | refine Zg ?_ _ | refine Zi ?_ | refine Zf ?_ _)); refine Qa (cs := #[.int .i64 ((Zr l1 x90_7).f0), .int .i64 ((Zr l1 x90_7).f1), .bool false]) ?_ 2 _ rfl; (with_reducible repeat (first | refine Zg ?_ _ | refine Zi ?_ | refine Zf ?_ _)); refine Qa (cs := #[.int .i64 ((Zr l1 x90_7).f0), .int .i64 0, .bool false]) ?_ 1 _ rfl; (with_reducible repeat (first | refine Zg ?_ _ | refine Zi ?_ | refine Zf ?_ _)); refine Qa (cs := #[.int .i64 0, .int .i64 0, .bool false]) ?_ 0 _ rfl; (with_reducible repeat (first | refine Zg ?_ _ | refine Zi ?_ | refine Zf ?_ _)); exact BK450.out⟩, ⟨by repeat (first | (with_reducible first | exact HB.out | apply Zl | apply Zj | apply Zo | refine Zh ?_ GE436.out | refine Zh ?_ GE450.out) | exact HB.out)⟩⟩
                    case round =>
                     clear H'
                     try clear c36b0
                     try clear c37b0
                     try clear c38b0
                     try clear hcz41_0
                     try clear hcz41_1
                     try clear hcz41_2
                     try clear hfz41_0
                     try clear hfz41_1
                     try clear hfz41_2
                     try clear hx449_0
                     try clear hx449_1
                     try clear hx449_2
                     try clear p449
                     try clear q449
                     obtain ⟨x16_8, x97_8, rfl, rfl, HA, HK8, HO_9, HO_13, BK436, BK450, HB⟩ := hrel
                     cases gk with
                     | zero => exact absurd HA.out (by simp [Zd.l2])
                     | succ k8 =>
                      have H := HA.out
                      clear HA
                      simp only [Zd.l2] at H
                      by_cases c42 : x97_8 < (l2.length : Int)
                      ·rw [if_pos c42] at H
                       have c42b0 : decide (x97_8 < (l2.length : Int)) = true := decide_eq_true c42
                       clear c42
                       by_cases c43 : 0 ≤ x97_8
                       ·rw [if_pos c43] at H
                        have c43b0 : decide (0 ≤ x97_8) = true := decide_eq_true c43
                        clear c43
                        by_cases c44 : x97_8 < (l2.length : Int)
                        ·rw [if_pos c44] at H
                         have c44b0 : decide (x97_8 < (l2.length : Int)) = true := decide_eq_true c44
                         clear c44
                         obtain ⟨y453, hy453⟩ : ∃ y_ : List (S29), y_ = (([(⟨((Zr l1 x90_7).f0), ((Zr l1 x90_7).f1), ((Zr l1 x90_7).f2)⟩ : S29)] : List (S29))) := ⟨_, rfl⟩
                         replace H : ((Ku.f k8 l0_0 l0_1 l0_2 l0_3 l0_4 y453 ((Zx l2 x97_8).f0) ((Zx l2 x97_8).f1)).bind fun bt456 => (if x16_8 = true then (if x97_8 < (l3.length : Int) then ((Zt.f k8 bt456.1 ((rd_T60 l3 x97_8).f0)).bind fun t463 => (if t463 = true then ((Zt.f k8 bt456.2 ((rd_T60 l3 x97_8).f1)).bind fun t465 => (Zd.l2 k8 l2 l3 t437 t440 x13_7 x90_7 t465 l1 (l1.length : Int) x90_7 l2 (l2.length : Int) (wrap64 (x97_8 + 1)) l0_0 l0_1 l0_2 l0_3 l0_4 ((Zr l1 x90_7).f0) ((Zr l1 x90_7).f1) ((Zr l1 x90_7).f2))) else (Zd.l2 k8 l2 l3 t437 t440 x13_7 x90_7 false l1 (l1.length : Int) x90_7 l2 (l2.length : Int) (wrap64 (x97_8 + 1)) l0_0 l0_1 l0_2 l0_3 l0_4 ((Zr l1 x90_7).f0) ((Zr l1 x90_7).f1) ((Zr l1 x90_7).f2)))) else (none)) else (Zd.l2 k8 l2 l3 t437 t440 x13_7 x90_7 false l1 (l1.length : Int) x90_7 l2 (l2.length : Int) (wrap64 (x97_8 + 1)) l0_0 l0_1 l0_2 l0_3 l0_4 ((Zr l1 x90_7).f0) ((Zr l1 x90_7).f1) ((Zr l1 x90_7).f2)))) = some r := by first | (rw [hy453]; with_reducible exact H) | (have H2_ := (Option.bind_some _ _).symm.trans H; rw [hy453]; with_reducible exact H2_) | (have H2_ := (Option.bind_some _ _).symm.trans H; with_reducible exact H2_) | with_reducible exact H | (rw [hy453]; exact H) | exact H
                         have Ny453 := Za.mk hy453
                         clear hy453
                         replace H := Option.bind_eq_some_iff.mp H
                         obtain ⟨⟨t456, t459⟩, A450, H⟩ := H
                         replace H : (if x16_8 = true then (if x97_8 < (l3.length : Int) then ((Zt.f k8 t456 ((rd_T60 l3 x97_8).f0)).bind fun t463 => (if t463 = true then ((Zt.f k8 t459 ((rd_T60 l3 x97_8).f1)).bind fun t465 => (Zd.l2 k8 l2 l3 t437 t440 x13_7 x90_7 t465 l1 (l1.length : Int) x90_7 l2 (l2.length : Int) (wrap64 (x97_8 + 1)) l0_0 l0_1 l0_2 l0_3 l0_4 ((Zr l1 x90_7).f0) ((Zr l1 x90_7).f1) ((Zr l1 x90_7).f2))) else (Zd.l2 k8 l2 l3 t437 t440 x13_7 x90_7 false l1 (l1.length : Int) x90_7 l2 (l2.length : Int) (wrap64 (x97_8 + 1)) l0_0 l0_1 l0_2 l0_3 l0_4 ((Zr l1 x90_7).f0) ((Zr l1 x90_7).f1) ((Zr l1 x90_7).f2)))) else (none)) else (Zd.l2 k8 l2 l3 t437 t440 x13_7 x90_7 false l1 (l1.length : Int) x90_7 l2 (l2.length : Int) (wrap64 (x97_8 + 1)) l0_0 l0_1 l0_2 l0_3 l0_4 ((Zr l1 x90_7).f0) ((Zr l1 x90_7).f1) ((Zr l1 x90_7).f2))) = some r := H
                         have A45 := Za.mk A450
                         clear A450
                         by_cases c46 : x16_8 = true
                         ·subst c46
                          have H1 : (if x97_8 < (l3.length : Int) then ((Zt.f k8 t456 ((rd_T60 l3 x97_8).f0)).bind fun t463 => (if t463 = true then ((Zt.f k8 t459 ((rd_T60 l3 x97_8).f1)).bind fun t465 => (Zd.l2 k8 l2 l3 t437 t440 x13_7 x90_7 t465 l1 (l1.length : Int) x90_7 l2 (l2.length : Int) (wrap64 (x97_8 + 1)) l0_0 l0_1 l0_2 l0_3 l0_4 ((Zr l1 x90_7).f0) ((Zr l1 x90_7).f1) ((Zr l1 x90_7).f2))) else (Zd.l2 k8 l2 l3 t437 t440 x13_7 x90_7 false l1 (l1.length : Int) x90_7 l2 (l2.length : Int) (wrap64 (x97_8 + 1)) l0_0 l0_1 l0_2 l0_3 l0_4 ((Zr l1 x90_7).f0) ((Zr l1 x90_7).f1) ((Zr l1 x90_7).f2)))) else (none)) = some r := by rw [if_pos rfl] at H; exact H
                          clear H
                          have H := H1
                          clear H1
                          by_cases c47 : x97_8 < (l3.length : Int)
                          ·rw [if_pos c47] at H
                           have c47b0 : decide (x97_8 < (l3.length : Int)) = true := decide_eq_true c47
                           clear c47
                           replace H := Option.bind_eq_some_iff.mp H
                           obtain ⟨t463, A480, H⟩ := H
                           replace H : (if t463 = true then ((Zt.f k8 t459 ((rd_T60 l3 x97_8).f1)).bind fun t465 => (Zd.l2 k8 l2 l3 t437 t440 x13_7 x90_7 t465 l1 (l1.length : Int) x90_7 l2 (l2.length : Int) (wrap64 (x97_8 + 1)) l0_0 l0_1 l0_2 l0_3 l0_4 ((Zr l1 x90_7).f0) ((Zr l1 x90_7).f1) ((Zr l1 x90_7).f2))) else (Zd.l2 k8 l2 l3 t437 t440 x13_7 x90_7 false l1 (l1.length : Int) x90_7 l2 (l2.length : Int) (wrap64 (x97_8 + 1)) l0_0 l0_1 l0_2 l0_3 l0_4 ((Zr l1 x90_7).f0) ((Zr l1 x90_7).f1) ((Zr l1 x90_7).f2))) = some r := H
                           have A48 := Za.mk A480
                           clear A480
                           by_cases c49 : t463 = true
                           ·subst c49
                            have H1 : ((Zt.f k8 t459 ((rd_T60 l3 x97_8).f1)).bind fun t465 => (Zd.l2 k8 l2 l3 t437 t440 x13_7 x90_7 t465 l1 (l1.length : Int) x90_7 l2 (l2.length : Int) (wrap64 (x97_8 + 1)) l0_0 l0_1 l0_2 l0_3 l0_4 ((Zr l1 x90_7).f0) ((Zr l1 x90_7).f1) ((Zr l1 x90_7).f2))) = some r := by rw [if_pos rfl] at H; exact H
                            clear H
                            have H := H1
                            clear H1
                            replace H := Option.bind_eq_some_iff.mp H
                            obtain ⟨t465, A500, H⟩ := H
                            replace H : (Zd.l2 k8 l2 l3 t437 t440 x13_7 x90_7 t465 l1 (l1.length : Int) x90_7 l2 (l2.length : Int) (wrap64 (x97_8 + 1)) l0_0 l0_1 l0_2 l0_3 l0_4 ((Zr l1 x90_7).f0) ((Zr l1 x90_7).f1) ((Zr l1 x90_7).f2)) = some r := H
                            have A50 := Za.mk A500
                            clear A500
                            have H' := Za.mk H
                            clear H
                            have p451 : 0 ≤ (x97_8 : Int) := of_decide_eq_true (by first | (with_reducible assumption) | assumption)
                            have q451 : x97_8 < (l2.length : Int) := of_decide_eq_true (by first | (with_reducible assumption) | assumption)
                            obtain ⟨ad451, A451_0, c451_0, A451_1, c451_1, e451, hx451_0, hx451_1, hl451_0, hi451_0, hl451_1, hi451_1⟩ := at_T55 HR2.out x97_8 p451 q451
                            cases e451
                            replace hx451_0 := (HB.out.cell (World.block_lt_of_cell? w _ hx451_0)).trans hx451_0
                            replace hx451_1 := (HB.out.cell (World.block_lt_of_cell? w _ hx451_1)).trans hx451_1
                            have HR451_0 := Za.mk hi451_0
                            have HC451_0 := Za.mk hl451_0
                            clear hi451_0 hl451_0
                            have HR451_1 := Za.mk hi451_1
                            have HC451_1 := Za.mk hl451_1
                            clear hi451_1 hl451_1
                            replace p451 := eq_true p451
                            replace q451 := eq_true q451
                            go_wp2_with (first | ((with_reducible refine Xl (N := 18) rfl ?_); (try (refine Qd (by rfl) ?_; dsimp only)); refine Xr ?hg (N := 18) ?hd (cs := #[.slice none 0 0, .slice none 0 0]) (t := 55) ?hr ?_; (case hd => rfl); (case hg => rfl); (case hr => first | (go_simp; done) | (go_simp; rfl)); intro gb452 hg w51 hbox hb; have n0_ := Za.mk (Kd.Zp HO_9.out hb); have n1_ := Za.mk (Kd.Zp HO_13.out hb); have n2_ := Za.mk (Zq BK436.out hb); have n3_ := Za.mk (Zq BK450.out hb); have n4_ := Za.mk (Zn HB.out hb); have n5_ := Za.mk (hbox); have n6_ := Za.mk ((by rw [hg]; exact (Zm HB.out) : w.heap.size ≤ gb452)); have n7_ := n6_; have n8_ := Za.mk ((by rw [hg]; exact Nat.ne_of_lt (Xx BK436.out) : gb436 ≠ gb452)); have n9_ := Za.mk ((by rw [hg]; exact Nat.ne_of_gt (Xx BK436.out) : gb452 ≠ gb436)); have n10_ := Za.mk ((by rw [hg]; exact Nat.ne_of_lt (Xx BK450.out) : gb450 ≠ gb452)); have n11_ := Za.mk ((by rw [hg]; exact Nat.ne_of_gt (Xx BK450.out) : gb452 ≠ gb450)); clear HO_9; clear HO_13; clear BK436; clear BK450; clear HB; have HO_9 := n0_; have HO_13 := n1_; have BK436 := n2_; have BK450 := n3_; have HB := n4_; have BK452 := n5_; have GW452 := n6_; have GE452 := n7_; have NB436_452 := n8_; have NB452_436 := n9_; have NB450_452 := n10_; have NB452_450 := n11_; clear n0_ n1_ n2_ n3_ n4_ n5_ n6_ n7_ n8_ n9_ n10_ n11_; clear hb hbox hg; have hnb52 := NB452_436.out; have hnc52 := NB436_452.out; have hnb53 := NB452_450.out; have hnc53 := NB450_452.out; have hcz54_0 : w51.cell? ⟨gb452, 0, none⟩ = some (.slice none 0 0) := (Zc BK452.out 0).trans rfl; have hcz54_1 : w51.cell? ⟨gb452, 1, none⟩ = some (.slice none 0 0) := (Zc BK452.out 1).trans rfl; have hfz54_0 := Zb BK452.out 0; have hfz54_1 := Zb BK452.out 1; have hnb55 := NB436_450.out; have hnc55 := NB450_436.out; have hcz56_0 : w51.cell? ⟨gb436, 0, none⟩ = some (.slice A0_0 l0_0.length c0_0) := (Zc BK436.out 0).trans rfl; have hcz56_1 : w51.cell? ⟨gb436, 1, none⟩ = some (.slice A0_1 l0_1.length c0_1) := (Zc BK436.out 1).trans rfl; have hcz56_2 : w51.cell? ⟨gb436, 2, none⟩ = some (.slice A0_2 l0_2.length c0_2) := (Zc BK436.out 2).trans rfl; have hcz56_3 : w51.cell? ⟨gb436, 3, none⟩ = some (.slice A0_3 l0_3.length c0_3) := (Zc BK436.out 3).trans rfl; have hcz56_4 : w51.cell? ⟨gb436, 4, none⟩ = some (.slice A0_4 l0_4.length c0_4) := (Zc BK436.out 4).trans rfl; have hfz56_0 := Zb BK436.out 0; have hfz56_1 := Zb BK436.out 1; have hfz56_2 := Zb BK436.out 2; have hfz56_3 := Zb BK436.out 3; have hfz56_4 := Zb BK436.out 4; have hcz57_0 : w51.cell? ⟨gb450, 0, none⟩ = some (.int .i64 ((Zr l1 x90_7).f0)) := (Zc BK450.out 0).trans rfl; have hcz57_1 : w51.cell? ⟨gb450, 1, none⟩ = some (.int .i64 ((Zr l1 x90_7).f1)) := (Zc BK450.out 1).trans rfl; have hcz57_2 : w51.cell? ⟨gb450, 2, none⟩ = some (.bool ((Zr l1 x90_7).f2)) := (Zc BK450.out 2).trans rfl; have hfz57_0 := Zb BK450.out 0; have hfz57_1 := Zb BK450.out 1; have hfz57_2 := Zb BK450.out 2) | ((with_reducible refine Xl (N := 105) rfl ?_); (try (refine Qd (by rfl) ?_; dsimp only)); refine Kd.R_lit k29 _ 29 ?hg (N := 105) ?hd (xs := ([(⟨((Zr l1 x90_7).f0), ((Zr l1 x90_7).f1), ((Zr l1 x90_7).f2)⟩ : S29)] : List (S29))) (inner := [.int .i64 ((Zr l1 x90_7).f0), .int .i64 ((Zr l1 x90_7).f1), .bool ((Zr l1 x90_7).f2)]) (ok := fun _ => True) (okp := fun _ => True) ?hr ?hp (fun _ hk => hk) trivial (Below.refl _ _) (Nat.le_refl _) (by simp) ?_; (case hd => rfl); (case hg => rfl); (case hr => first | (go_simp; done) | (go_simp; rfl)); (case hp => exact (Reps.c3 (show Kd.M k29 _ _ _ (⟨((Zr l1 x90_7).f0), ((Zr l1 x90_7).f1), ((Zr l1 x90_7).f2)⟩ : S29) [.int .i64 ((Zr l1 x90_7).f0), .int .i64 ((Zr l1 x90_7).f1), .bool ((Zr l1 x90_7).f2)] from (k29_mkM _ _ _ (⟨((Zr l1 x90_7).f0), ((Zr l1 x90_7).f1), ((Zr l1 x90_7).f2)⟩ : S29) )) (Reps.none _ _))); intro v454 w58 ho59 hb hg_ hnew_; clear hg_ hnew_; (first | rw [← Ny453.out] at ho59 | (simp only [Int.reduceToNat] at ho59; rw [← Ny453.out] at ho59)); have n0_ := Za.mk (Kd.Zp (by (with_reducible repeat (first | apply Kd.R_alloc | apply Kd.Zy | apply Kd.Xg)); exact (Kd.Xh (Kd.Xb (p := ⟨gb452, 1, none⟩) (Kd.Xb (p := ⟨gb452, 0, none⟩) (Kd.Xv HO_9.out BK452.out (by decide)) (fun _ hk => hk.2) (.slice A451_0 ((Zx l2 x97_8).f0).length c451_0)) (fun _ hk => hk.2) (.slice A451_1 ((Zx l2 x97_8).f1).length c451_1)) (fun _ h_ => h_.1))) hb); have n1_ := Za.mk (Kd.Zp (by (with_reducible repeat (first | apply Kd.R_alloc | apply Kd.Zy | apply Kd.Xg)); exact (Kd.Xh (Kd.Xb (p := ⟨gb452, 1, none⟩) (Kd.Xb (p := ⟨gb452, 0, none⟩) (Kd.Xv HO_13.out BK452.out (by decide)) (fun _ hk => hk.2) (.slice A451_0 ((Zx l2 x97_8).f0).length c451_0)) (fun _ hk => hk.2) (.slice A451_1 ((Zx l2 x97_8).f1).length c451_1)) (fun _ h_ => h_.1))) hb); have n2_ := Za.mk (Kd.Xm (Kd.R_newB ho59 (g := gb450) (o := .cells #[.int .i64 ((Zr l1 x90_7).f0), .int .i64 ((Zr l1 x90_7).f1), .bool ((Zr l1 x90_7).f2)] 29 (0, 0)) (by (with_reducible repeat (first | refine Zg ?_ _ | refine Zi ?_ | refine Zf ?_ _)); refine Xp ?_ NB450_452.out _; (with_reducible repeat (first | refine Zg ?_ _ | refine Zi ?_ | refine Zf ?_ _)); refine Xp ?_ NB450_452.out _; (with_reducible repeat (first | refine Zg ?_ _ | refine Zi ?_ | refine Zf ?_ _)); exact BK450.out)) (Zm (by repeat (first | (with_reducible first | exact HB.out | apply Zl | apply Zj | apply Zo | refine Zh ?_ GE436.out | refine Zh ?_ GE450.out | refine Zh ?_ GE452.out) | exact HB.out)))); have n3_ := Za.mk (Zq (g := gb436) (o := .cells #[.slice A0_0 l0_0.length c0_0, .slice A0_1 l0_1.length c0_1, .slice A0_2 l0_2.length c0_2, .slice A0_3 l0_3.length c0_3, .slice A0_4 l0_4.length c0_4] 27 (0, 0)) (by (with_reducible repeat (first | refine Zg ?_ _ | refine Zi ?_ | refine Zf ?_ _)); refine Xp ?_ NB436_452.out _; (with_reducible repeat (first | refine Zg ?_ _ | refine Zi ?_ | refine Zf ?_ _)); refine Xp ?_ NB436_452.out _; (with_reducible repeat (first | refine Zg ?_ _ | refine Zi ?_ | refine Zf ?_ _)); exact BK436.out) hb); have n4_ := Za.mk (Zq (g := gb450) (o := .cells #[.int .i64 ((Zr l1 x90_7).f0), .int .i64 ((Zr l1 x90_7).f1), .bool ((Zr l1 x90_7).f2)] 29 (0, 0)) (by (with_reducible repeat (first | refine Zg ?_ _ | refine Zi ?_ | refine Zf ?_ _)); refine Xp ?_ NB450_452.out _; (with_reducible repeat (first | refine Zg ?_ _ | refine Zi ?_ | refine Zf ?_ _)); refine Xp ?_ NB450_452.out _; (with_reducible repeat (first | refine Zg ?_ _ | refine Zi ?_ | refine Zf ?_ _)); exact BK450.out) hb); have n5_ := Za.mk (Zq (g := gb452) (o := .cells #[.slice A451_0 ((Zx l2 x97_8).f0).length c451_0, .slice A451_1 ((Zx l2 x97_8).f1).length c451_1] 55 (0, 0)) (by (with_reducible repeat (first | refine Zg ?_ _ | refine Zi ?_ | refine Zf ?_ _)); refine Qa (cs := #[.slice A451_0 ((Zx l2 x97_8).f0).length c451_0, .slice none 0 0]) ?_ 1 _ rfl; (with_reducible repeat (first | refine Zg ?_ _ | refine Zi ?_ | refine Zf ?_ _)); refine Qa (cs := #[.slice none 0 0, .slice none 0 0]) ?_ 0 _ rfl; (with_reducible repeat (first | refine Zg ?_ _ | refine Zi ?_ | refine Zf ?_ _)); exact BK452.out) hb); have n6_ := Za.mk (Zn (by repeat (first | (with_reducible first | exact HB.out | apply Zl | apply Zj | apply Zo | refine Zh ?_ GE436.out | refine Zh ?_ GE450.out | refine Zh ?_ GE452.out) | exact HB.out)) hb); clear HO_9; clear HO_13; clear BK436; clear BK450; clear BK452; clear HB; have HO_9 := n0_; have HO_13 := n1_; have HO455 := n2_; have BK436 := n3_; have BK450 := n4_; have BK452 := n5_; have HB := n6_; clear n0_ n1_ n2_ n3_ n4_ n5_ n6_; clear hb ho59; have hcz60_0 : w58.cell? ⟨gb452, 0, none⟩ = some (.slice A451_0 ((Zx l2 x97_8).f0).length c451_0) := (Zc BK452.out 0).trans rfl; have hcz60_1 : w58.cell? ⟨gb452, 1, none⟩ = some (.slice A451_1 ((Zx l2 x97_8).f1).length c451_1) := (Zc BK452.out 1).trans rfl; have hfz60_0 := Zb BK452.out 0; have hfz60_1 := Zb BK452.out 1; obtain ⟨Ao61, co61, eo61⟩ := Kd.Xi HO455.out; subst eo61) | ((with_reducible refine Xo (f := 22) rfl ?_); refine Qp (some 110) rfl rfl Try.func22 (by kernel_rfl) rfl #[.agg #[.slice A0_0 l0_0.length c0_0, .slice A0_1 l0_1.length c0_1, .slice A0_2 l0_2.length c0_2, .slice A0_3 l0_3.length c0_3, .slice A0_4 l0_4.length c0_4], .slice Ao61 y453.length co61, .slice A451_0 ((Zx l2 x97_8).f0).length c451_0, .slice A451_1 ((Zx l2 x97_8).f1).length c451_1] rfl (by (try simp only [List.map_toArray, List.map_cons, List.map_nil]); first | done | rfl | (simp only [List.length_drop, List.length_take]; rfl)) ?_; (with_reducible refine (Ku.calls k8 _ _ l0_0 _ _ l0_1 _ _ l0_2 _ _ l0_3 _ _ l0_4 _ _ y453 _ _ ((Zx l2 x97_8).f0) _ _ ((Zx l2 x97_8).f1) t456 t459 _ ?side1 ?side2 ?side3 ?side4 ?side5 ?side6 ?side7 ?side8 ?side9 ?side10 ?side11 ?side12 ?side13 ?side14 ?side15 ?side16 A45.out).mono ?_); (case side1 => exact (Kd.Zk HR0_0.out HB.out)); (case side2 => exact HC0_0.out); (case side3 => exact (Kd.Zk HR0_1.out HB.out)); (case side4 => exact HC0_1.out); (case side5 => exact (Kd.Zk HR0_2.out HB.out)); (case side6 => exact HC0_2.out); (case side7 => exact (Kd.Zk HR0_3.out HB.out)); (case side8 => exact HC0_3.out); (case side9 => exact (Kd.Zk HR0_4.out HB.out)); (case side10 => exact HC0_4.out); (case side11 => repeat (first | exact (Kd.Xd HO455.out).2.2 | (with_reducible refine Kd.C_alloc ?_ _) | (with_reducible refine Kd.C_drewN ?_ _) | (with_reducible refine Kd.C_drew ?_))); (case side12 => exact (Kd.Xd HO455.out).2.1); (case side13 => exact (Kd.Zk HR451_0.out HB.out)); (case side14 => exact HC451_0.out); (case side15 => exact (Kd.Zk HR451_1.out HB.out)); (case side16 => exact HC451_1.out); rintro e w62 ⟨v457, v460, rfl, ho0, ho1, hb⟩; refine ⟨_, rfl, ?_⟩; have n0_ := Za.mk (Kd.Zp HO_9.out hb); have n1_ := Za.mk (Kd.Zp HO_13.out hb); have n2_ := Za.mk (Kd.Zp HO455.out hb); have n3_ := Za.mk (Kd.Xm ho0 (Zm HB.out)); have n4_ := Za.mk (Kd.Xm ho1 (Zm HB.out)); have n5_ := Za.mk (Zq BK436.out hb); have n6_ := Za.mk (Zq BK450.out hb); have n7_ := Za.mk (Zq BK452.out hb); have n8_ := Za.mk (Zn HB.out hb); clear HO_9; clear HO_13; clear HO455; clear BK436; clear BK450; clear BK452; clear HB; have HO_9 := n0_; have HO_13 := n1_; have HO455 := n2_; have HO458 := n3_; have HO461 := n4_; have BK436 := n5_; have BK450 := n6_; have BK452 := n7_; have HB := n8_; clear n0_ n1_ n2_ n3_ n4_ n5_ n6_ n7_ n8_; (try clear hb); (try clear hb2); (try clear hk); (try clear hi); (try clear ho0); (try clear ho1); have p462 : 0 ≤ (x97_8 : Int) := of_decide_eq_true (by first | (with_reducible assumption) | assumption); have q462 : x97_8 < (l3.length : Int) := of_decide_eq_true (by first | (with_reducible assumption) | assumption); obtain ⟨ad462, A462_0, c462_0, A462_1, c462_1, e462, hx462_0, hx462_1, hl462_0, hi462_0, hl462_1, hi462_1⟩ := at_T60 HR3.out x97_8 p462 q462; cases e462; replace hx462_0 := (HB.out.cell (World.block_lt_of_cell? w _ hx462_0)).trans hx462_0; replace hx462_1 := (HB.out.cell (World.block_lt_of_cell? w _ hx462_1)).trans hx462_1; have HR462_0 := Za.mk hi462_0; have HC462_0 := Za.mk hl462_0; clear hi462_0 hl462_0; have HR462_1 := Za.mk hi462_1; have HC462_1 := Za.mk hl462_1; clear hi462_1 hl462_1; replace p462 := eq_true p462; replace q462 := eq_true q462; obtain ⟨Ao63, co63, eo63⟩ := Kd.Xi HO458.out; subst eo63) | (go_at_call 23; (with_reducible refine (Zt.calls k8 _ _ t456 _ _ ((rd_T60 l3 x97_8).f0) true _ ?side1 ?side2 ?side3 ?side4 A48.out).mono ?_); (case side1 => repeat (first | exact (Kd.Xd HO458.out).2.2 | (with_reducible refine Kd.C_alloc ?_ _) | (with_reducible refine Kd.C_drewN ?_ _) | (with_reducible refine Kd.C_drew ?_))); (case side2 => exact (Kd.Xd HO458.out).2.1); (case side3 => exact (Kd.Zk HR462_0.out HB.out)); (case side4 => exact HC462_0.out); rintro e w' ⟨rfl, ⟨nd, rfl⟩⟩; have p464 : 0 ≤ (x97_8 : Int) := of_decide_eq_true (by first | (with_reducible assumption) | assumption); have q464 : x97_8 < (l3.length : Int) := of_decide_eq_true (by first | (with_reducible assumption) | assumption); obtain ⟨ad464, A464_0, c464_0, A464_1, c464_1, e464, hx464_0, hx464_1, hl464_0, hi464_0, hl464_1, hi464_1⟩ := at_T60 HR3.out x97_8 p464 q464; obtain rfl : ad462 = ad464 := (by injection e464); replace hx464_0 := (HB.out.cell (World.block_lt_of_cell? w _ hx464_0)).trans hx464_0; replace hx464_1 := (HB.out.cell (World.block_lt_of_cell? w _ hx464_1)).trans hx464_1; have HR464_0 := Za.mk hi464_0; have HC464_0 := Za.mk hl464_0; clear hi464_0 hl464_0; have HR464_1 := Za.mk hi464_1; have HC464_1 := Za.mk hl464_1; clear hi464_1 hl464_1; replace p464 := eq_true p464; replace q464 := eq_true q464; have ea_ := Option.some.inj (hx462_0.symm.trans hx464_0); injection ea_ with ea_ en_ ec_; subst ea_; subst ec_; clear en_; have ea_ := Option.some.inj (hx462_1.symm.trans hx464_1); injection ea_ with ea_ en_ ec_; subst ea_; subst ec_; clear en_; obtain ⟨Ao64, co64, eo64⟩ := Kd.Xi HO461.out; subst eo64) | (go_at_call 23; (with_reducible refine (Zt.calls k8 _ _ t459 _ _ ((rd_T60 l3 x97_8).f1) t465 _ ?side1 ?side2 ?side3 ?side4 A50.out).mono ?_); (case side1 => repeat (first | exact (Kd.Xd HO461.out).2.2 | (with_reducible refine Kd.C_alloc ?_ _) | (with_reducible refine Kd.C_drewN ?_ _) | (with_reducible refine Kd.C_drew ?_))); (case side2 => exact (Kd.Xd HO461.out).2.1); (case side3 => repeat (first | exact (Kd.Zk HR464_1.out (by repeat (first | (with_reducible first | exact HB.out | apply Zl | apply Zj | apply Zo | refine Zh ?_ GE436.out | refine Zh ?_ GE450.out | refine Zh ?_ GE452.out) | exact HB.out))) | (with_reducible refine Kd.C_alloc ?_ _) | (with_reducible refine Kd.C_drewN ?_ _) | (with_reducible refine Kd.C_drew ?_))); (case side4 => exact HC464_1.out); rintro e w' ⟨rfl, ⟨nd, rfl⟩⟩))
                            go_roundg k8
                            case measure => have := HJ6.out; have := HJ13.out; have := HJ15.out; have := HJ20.out; have := HJ27.out; have := HJ29.out; have := HK7.out; have := HK8.out; omega
                            case rel => exact ⟨(t465), (wrap64 (x97_8 + 1)), (by first | rfl | (simp; done) | (simp [*]; done)), (by first | rfl | (simp; done) | (simp [*]; done)), H', ⟨by have := HJ6.out; have := HJ13.out; have := HJ15.out; have := HJ20.out; have := HJ27.out; have := HJ29.out; have := HK7.out; have := HK8.out; omega⟩, ⟨by (with_reducible repeat (first | apply Kd.R_alloc | apply Kd.Zy | apply Kd.Xg)); exact HO_9.out⟩, ⟨by (with_reducible repeat (first | apply Kd.R_alloc | apply Kd.Zy | apply Kd.Xg)); exact HO_13.out⟩, ⟨by (with_reducible repeat (first | refine Zg ?_ _ | refine Zi ?_ | refine Zf ?_ _)); exact BK436.out⟩, ⟨by (with_reducible repeat (first | refine Zg ?_ _ | refine Zi ?_ | refine Zf ?_ _)); exact BK450.out⟩, ⟨by repeat (first | (with_reducible first | exact HB.out | apply Zl | apply Zj | apply Zo | refine Zh ?_ GE436.out | refine Zh ?_ GE450.out | refine Zh ?_ GE452.out) | exact HB.out)⟩⟩
                           ·replace c49 := Bool.eq_false_iff.mpr c49
                            subst c49
                            have H1 : (Zd.l2 k8 l2 l3 t437 t440 x13_7 x90_7 false l1 (l1.length : Int) x90_7 l2 (l2.length : Int) (wrap64 (x97_8 + 1)) l0_0 l0_1 l0_2 l0_3 l0_4 ((Zr l1 x90_7).f0) ((Zr l1 x90_7).f1) ((Zr l1 x90_7).f2)) = some r := by rw [if_neg (show ¬ (false = true) by decide)] at H; exact H
                            clear H
                            have H := H1
                            clear H1
                            have H' := Za.mk H
                            clear H
                            have p451 : 0 ≤ (x97_8 : Int) := of_decide_eq_true (by first | (with_reducible assumption) | assumption)
                            have q451 : x97_8 < (l2.length : Int) := of_decide_eq_true (by first | (with_reducible assumption) | assumption)
                            obtain ⟨ad451, A451_0, c451_0, A451_1, c451_1, e451, hx451_0, hx451_1, hl451_0, hi451_0, hl451_1, hi451_1⟩ := at_T55 HR2.out x97_8 p451 q451
                            cases e451
                            replace hx451_0 := (HB.out.cell (World.block_lt_of_cell? w _ hx451_0)).trans hx451_0
                            replace hx451_1 := (HB.out.cell (World.block_lt_of_cell? w _ hx451_1)).trans hx451_1
                            have HR451_0 := Za.mk hi451_0
                            have HC451_0 := Za.mk hl451_0
                            clear hi451_0 hl451_0
                            have HR451_1 := Za.mk hi451_1
                            have HC451_1 := Za.mk hl451_1
                            clear hi451_1 hl451_1
                            replace p451 := eq_true p451
                            replace q451 := eq_true q451
                            go_wp2_with (first | ((with_reducible refine Xl (N := 18) rfl ?_); (try (refine Qd (by rfl) ?_; dsimp only)); refine Xr ?hg (N := 18) ?hd (cs := #[.slice none 0 0, .slice none 0 0]) (t := 55) ?hr ?_; (case hd => rfl); (case hg => rfl); (case hr => first | (go_simp; done) | (go_simp; rfl)); intro gb452 hg w65 hbox hb; have n0_ := Za.mk (Kd.Zp HO_9.out hb); have n1_ := Za.mk (Kd.Zp HO_13.out hb); have n2_ := Za.mk (Zq BK436.out hb); have n3_ := Za.mk (Zq BK450.out hb); have n4_ := Za.mk (Zn HB.out hb); have n5_ := Za.mk (hbox); have n6_ := Za.mk ((by rw [hg]; exact (Zm HB.out) : w.heap.size ≤ gb452)); have n7_ := n6_; have n8_ := Za.mk ((by rw [hg]; exact Nat.ne_of_lt (Xx BK436.out) : gb436 ≠ gb452)); have n9_ := Za.mk ((by rw [hg]; exact Nat.ne_of_gt (Xx BK436.out) : gb452 ≠ gb436)); have n10_ := Za.mk ((by rw [hg]; exact Nat.ne_of_lt (Xx BK450.out) : gb450 ≠ gb452)); have n11_ := Za.mk ((by rw [hg]; exact Nat.ne_of_gt (Xx BK450.out) : gb452 ≠ gb450)); clear HO_9; clear HO_13; clear BK436; clear BK450; clear HB; have HO_9 := n0_; have HO_13 := n1_; have BK436 := n2_; have BK450 := n3_; have HB := n4_; have BK452 := n5_; have GW452 := n6_; have GE452 := n7_; have NB436_452 := n8_; have NB452_436 := n9_; have NB450_452 := n10_; have NB452_450 := n11_; clear n0_ n1_ n2_ n3_ n4_ n5_ n6_ n7_ n8_ n9_ n10_ n11_; clear hb hbox hg; have hnb66 := NB452_436.out; have hnc66 := NB436_452.out; have hnb67 := NB452_450.out; have hnc67 := NB450_452.out; have hcz68_0 : w65.cell? ⟨gb452, 0, none⟩ = some (.slice none 0 0) := (Zc BK452.out 0).trans rfl; have hcz68_1 : w65.cell? ⟨gb452, 1, none⟩ = some (.slice none 0 0) := (Zc BK452.out 1).trans rfl; have hfz68_0 := Zb BK452.out 0; have hfz68_1 := Zb BK452.out 1; have hnb69 := NB436_450.out; have hnc69 := NB450_436.out; have hcz70_0 : w65.cell? ⟨gb436, 0, none⟩ = some (.slice A0_0 l0_0.length c0_0) := (Zc BK436.out 0).trans rfl; have hcz70_1 : w65.cell? ⟨gb436, 1, none⟩ = some (.slice A0_1 l0_1.length c0_1) := (Zc BK436.out 1).trans rfl; have hcz70_2 : w65.cell? ⟨gb436, 2, none⟩ = some (.slice A0_2 l0_2.length c0_2) := (Zc BK436.out 2).trans rfl; have hcz70_3 : w65.cell? ⟨gb436, 3, none⟩ = some (.slice A0_3 l0_3.length c0_3) := (Zc BK436.out 3).trans rfl; have hcz70_4 : w65.cell? ⟨gb436, 4, none⟩ = some (.slice A0_4 l0_4.length c0_4) := (Zc BK436.out 4).trans rfl; have hfz70_0 := Zb BK436.out 0; have hfz70_1 := Zb BK436.out 1; have hfz70_2 := Zb BK436.out 2; have hfz70_3 := Zb BK436.out 3; have hfz70_4 := Zb BK436.out 4; have hcz71_0 : w65.cell? ⟨gb450, 0, none⟩ = some (.int .i64 ((Zr l1 x90_7).f0)) := (Zc BK450.out 0).trans rfl; have hcz71_1 : w65.cell? ⟨gb450, 1, none⟩ = some (.int .i64 ((Zr l1 x90_7).f1)) := (Zc BK450.out 1).trans rfl; have hcz71_2 : w65.cell? ⟨gb450, 2, none⟩ = some (.bool ((Zr l1 x90_7).f2)) := (Zc BK450.out 2).trans rfl; have hfz71_0 := Zb BK450.out 0; have hfz71_1 := Zb BK450.out 1; have hfz71_2 := Zb BK450.out 2) | ((with_reducible refine Xl (N := 105) rfl ?_); (try (refine Qd (by rfl) ?_; dsimp only)); refine Kd.R_lit k29 _ 29 ?hg (N := 105) ?hd (xs := ([(⟨((Zr l1 x90_7).f0), ((Zr l1 x90_7).f1), ((Zr l1 x90_7).f2)⟩ : S29)] : List (S29))) (inner := [.int .i64 ((Zr l1 x90_7).f0), .int .i64 ((Zr l1 x90_7).f1), .bool ((Zr l1 x90_7).f2)]) (ok := fun _ => True) (okp := fun _ => True) ?hr ?hp (fun _ hk => hk) trivial (Below.refl _ _) (Nat.le_refl _) (by simp) ?_; (case hd => rfl); (case hg => rfl); (case hr => first | (go_simp; done) | (go_simp; rfl)); (case hp => exact (Reps.c3 (show Kd.M k29 _ _ _ (⟨((Zr l1 x90_7).f0), ((Zr l1 x90_7).f1), ((Zr l1 x90_7).f2)⟩ : S29) [.int .i64 ((Zr l1 x90_7).f0), .int .i64 ((Zr l1 x90_7).f1), .bool ((Zr l1 x90_7).f2)] from (k29_mkM _ _ _ (⟨((Zr l1 x90_7).f0), ((Zr l1 x90_7).f1), ((Zr l1 x90_7).f2)⟩ : S29) )) (Reps.none _ _))); intro v454 w72 ho73 hb hg_ hnew_; clear hg_ hnew_; (first | rw [← Ny453.out] at ho73 | (simp only [Int.reduceToNat] at ho73; rw [← Ny453.out] at ho73)); have n0_ := Za.mk (Kd.Zp (by (with_reducible repeat (first | apply Kd.R_alloc | apply Kd.Zy | apply Kd.Xg)); exact (Kd.Xh (Kd.Xb (p := ⟨gb452, 1, none⟩) (Kd.Xb (p := ⟨gb452, 0, none⟩) (Kd.Xv HO_9.out BK452.out (by decide)) (fun _ hk => hk.2) (.slice A451_0 ((Zx l2 x97_8).f0).length c451_0)) (fun _ hk => hk.2) (.slice A451_1 ((Zx l2 x97_8).f1).length c451_1)) (fun _ h_ => h_.1))) hb); have n1_ := Za.mk (Kd.Zp (by (with_reducible repeat (first | apply Kd.R_alloc | apply Kd.Zy | apply Kd.Xg)); exact (Kd.Xh (Kd.Xb (p := ⟨gb452, 1, none⟩) (Kd.Xb (p := ⟨gb452, 0, none⟩) (Kd.Xv HO_13.out BK452.out (by decide)) (fun _ hk => hk.2) (.slice A451_0 ((Zx l2 x97_8).f0).length c451_0)) (fun _ hk => hk.2) (.slice A451_1 ((Zx l2 x97_8).f1).length c451_1)) (fun _ h_ => h_.1))) hb); have n2_ := Za.mk (Kd.Xm (Kd.R_newB ho73 (g := gb450) (o := .cells #[.int .i64 ((Zr l1 x90_7).f0), .int .i64 ((Zr l1 x90_7).f1), .bool ((Zr l1 x90_7).f2)] 29 (0, 0)) (by (with_reducible repeat (first | refine Zg ?_ _ | refine Zi ?_ | refine Zf ?_ _)); refine Xp ?_ NB450_452.out _; (with_reducible repeat (first | refine Zg ?_ _ | refine Zi ?_ | refine Zf ?_ _)); refine Xp ?_ NB450_452.out _; (with_reducible repeat (first | refine Zg ?_ _ | refine Zi ?_ | refine Zf ?_ _)); exact BK450.out)) (Zm (by repeat (first | (with_reducible first | exact HB.out | apply Zl | apply Zj | apply Zo | refine Zh ?_ GE436.out | refine Zh ?_ GE450.out | refine Zh ?_ GE452.out) | exact HB.out)))); have n3_ := Za.mk (Zq (g := gb436) (o := .cells #[.slice A0_0 l0_0.length c0_0, .slice A0_1 l0_1.length c0_1, .slice A0_2 l0_2.length c0_2, .slice A0_3 l0_3.length c0_3, .slice A0_4 l0_4.length c0_4] 27 (0, 0)) (by (with_reducible repeat (first | refine Zg ?_ _ | refine Zi ?_ | refine Zf ?_ _)); refine Xp ?_ NB436_452.out _; (with_reducible repeat (first | refine Zg ?_ _ | refine Zi ?_ | refine Zf ?_ _)); refine Xp ?_ NB436_452.out _; (with_reducible repeat (first | refine Zg ?_ _ | refine Zi ?_ | refine Zf ?_ _)); exact BK436.out) hb); have n4_ := Za.mk (Zq (g := gb450) (o := .cells #[.int .i64 ((Zr l1 x90_7).f0), .int .i64 ((Zr l1 x90_7).f1), .bool ((Zr l1 x90_7).f2)] 29 (0, 0)) (by (with_reducible repeat (first | refine Zg ?_ _ | refine Zi ?_ | refine Zf ?_ _)); refine Xp ?_ NB450_452.out _; (with_reducible repeat (first | refine Zg ?_ _ | refine Zi ?_ | refine Zf ?_ _)); refine Xp ?_ NB450_452.out _; (with_reducible repeat (first | refine Zg ?_ _ | refine Zi ?_ | refine Zf ?_ _)); exact BK450.out) hb); have n5_ := Za.mk (Zq (g := gb452) (o := .cells #[.slice A451_0 ((Zx l2 x97_8).f0).length c451_0, .slice A451_1 ((Zx l2 x97_8).f1).length c451_1] 55 (0, 0)) (by (with_reducible repeat (first | refine Zg ?_ _ | refine Zi ?_ | refine Zf ?_ _)); refine Qa (cs := #[.slice A451_0 ((Zx l2 x97_8).f0).length c451_0, .slice none 0 0]) ?_ 1 _ rfl; (with_reducible repeat (first | refine Zg ?_ _ | refine Zi ?_ | refine Zf ?_ _)); refine Qa (cs := #[.slice none 0 0, .slice none 0 0]) ?_ 0 _ rfl; (with_reducible repeat (first | refine Zg ?_ _ | refine Zi ?_ | refine Zf ?_ _)); exact BK452.out) hb); have n6_ := Za.mk (Zn (by repeat (first | (with_reducible first | exact HB.out | apply Zl | apply Zj | apply Zo | refine Zh ?_ GE436.out | refine Zh ?_ GE450.out | refine Zh ?_ GE452.out) | exact HB.out)) hb); clear HO_9; clear HO_13; clear BK436; clear BK450; clear BK452; clear HB; have HO_9 := n0_; have HO_13 := n1_; have HO455 := n2_; have BK436 := n3_; have BK450 := n4_; have BK452 := n5_; have HB := n6_; clear n0_ n1_ n2_ n3_ n4_ n5_ n6_; clear hb ho73; have hcz74_0 : w72.cell? ⟨gb452, 0, none⟩ = some (.slice A451_0 ((Zx l2 x97_8).f0).length c451_0) := (Zc BK452.out 0).trans rfl; have hcz74_1 : w72.cell? ⟨gb452, 1, none⟩ = some (.slice A451_1 ((Zx l2 x97_8).f1).length c451_1) := (Zc BK452.out 1).trans rfl; have hfz74_0 := Zb BK452.out 0; have hfz74_1 := Zb BK452.out 1; obtain ⟨Ao75, co75, eo75⟩ := Kd.Xi HO455.out; subst eo75) | ((with_reducible refine Xo (f := 22) rfl ?_); refine Qp (some 110) rfl rfl Try.func22 (by kernel_rfl) rfl #[.agg #[.slice A0_0 l0_0.length c0_0, .slice A0_1 l0_1.length c0_1, .slice A0_2 l0_2.length c0_2, .slice A0_3 l0_3.length c0_3, .slice A0_4 l0_4.length c0_4], .slice Ao75 y453.length co75, .slice A451_0 ((Zx l2 x97_8).f0).length c451_0, .slice A451_1 ((Zx l2 x97_8).f1).length c451_1] rfl (by (try simp only [List.map_toArray, List.map_cons, List.map_nil]); first | done | rfl | (simp only [List.length_drop, List.length_take]; rfl)) ?_; (with_reducible refine (Ku.calls k8 _ _ l0_0 _ _ l0_1 _ _ l0_2 _ _ l0_3 _ _ l0_4 _ _ y453 _ _ ((Zx l2 x97_8).f0) _ _ ((Zx l2 x97_8).f1) t456 t459 _ ?side1 ?side2 ?side3 ?side4 ?side5 ?side6 ?side7 ?side8 ?side9 ?side10 ?side11 ?side12 ?side13 ?side14 ?side15 ?side16 A45.out).mono ?_); (case side1 => exact (Kd.Zk HR0_0.out HB.out)); (case side2 => exact HC0_0.out); (case side3 => exact (Kd.Zk HR0_1.out HB.out)); (case side4 => exact HC0_1.out); (case side5 => exact (Kd.Zk HR0_2.out HB.out)); (case side6 => exact HC0_2.out); (case side7 => exact (Kd.Zk HR0_3.out HB.out)); (case side8 => exact HC0_3.out); (case side9 => exact (Kd.Zk HR0_4.out HB.out)); (case side10 => exact HC0_4.out); (case side11 => repeat (first | exact (Kd.Xd HO455.out).2.2 | (with_reducible refine Kd.C_alloc ?_ _) | (with_reducible refine Kd.C_drewN ?_ _) | (with_reducible refine Kd.C_drew ?_))); (case side12 => exact (Kd.Xd HO455.out).2.1); (case side13 => exact (Kd.Zk HR451_0.out HB.out)); (case side14 => exact HC451_0.out); (case side15 => exact (Kd.Zk HR451_1.out HB.out)); (case side16 => exact HC451_1.out); rintro e w76 ⟨v457, v460, rfl, ho0, ho1, hb⟩; refine ⟨_, rfl, ?_⟩; have n0_ := Za.mk (Kd.Zp HO_9.out hb); have n1_ := Za.mk (Kd.Zp HO_13.out hb); have n2_ := Za.mk (Kd.Zp HO455.out hb); have n3_ := Za.mk (Kd.Xm ho0 (Zm HB.out)); have n4_ := Za.mk (Kd.Xm ho1 (Zm HB.out)); have n5_ := Za.mk (Zq BK436.out hb); have n6_ := Za.mk (Zq BK450.out hb); have n7_ := Za.mk (Zq BK452.out hb); have n8_ := Za.mk (Zn HB.out hb); clear HO_9; clear HO_13; clear HO455; clear BK436; clear BK450; clear BK452; clear HB; have HO_9 := n0_; have HO_13 := n1_; have HO455 := n2_; have HO458 := n3_; have HO461 := n4_; have BK436 := n5_; have BK450 := n6_; have BK452 := n7_; have HB := n8_; clear n0_ n1_ n2_ n3_ n4_ n5_ n6_ n7_ n8_; (try clear hb); (try clear hb2); (try clear hk); (try clear hi); (try clear ho0); (try clear ho1); have p462 : 0 ≤ (x97_8 : Int) := of_decide_eq_true (by first | (with_reducible assumption) | assumption); have q462 : x97_8 < (l3.length : Int) := of_decide_eq_true (by first | (with_reducible assumption) | assumption); obtain ⟨ad462, A462_0, c462_0, A462_1, c462_1, e462, hx462_0, hx462_1, hl462_0, hi462_0, hl462_1, hi462_1⟩ := at_T60 HR3.out x97_8 p462 q462; cases e462; replace hx462_0 := (HB.out.cell (World.block_lt_of_cell? w _ hx462_0)).trans hx462_0; replace hx462_1 := (HB.out.cell (World.block_lt_of_cell? w _ hx462_1)).trans hx462_1; have HR462_0 := Za.mk hi462_0; have HC462_0 := Za.mk hl462_0; clear hi462_0 hl462_0; have HR462_1 := Za.mk hi462_1; have HC462_1 := Za.mk hl462_1; clear hi462_1 hl462_1; replace p462 := eq_true p462; replace q462 := eq_true q462; obtain ⟨Ao77, co77, eo77⟩ := Kd.Xi HO458.out; subst eo77) | (go_at_call 23; (with_reducible refine (Zt.calls k8 _ _ t456 _ _ ((rd_T60 l3 x97_8).f0) false _ ?side1 ?side2 ?side3 ?side4 A48.out).mono ?_); (case side1 => repeat (first | exact (Kd.Xd HO458.out).2.2 | (with_reducible refine Kd.C_alloc ?_ _) | (with_reducible refine Kd.C_drewN ?_ _) | (with_reducible refine Kd.C_drew ?_))); (case side2 => exact (Kd.Xd HO458.out).2.1); (case side3 => exact (Kd.Zk HR462_0.out HB.out)); (case side4 => exact HC462_0.out); rintro e w' ⟨rfl, ⟨nd, rfl⟩⟩))
                            go_roundg k8
                            case measure => have := HJ6.out; have := HJ13.out; have := HJ15.out; have := HJ20.out; have := HJ27.out; have := HJ29.out; have := HK7.out; have := HK8.out; omega
                            case rel => exact ⟨(false), (wrap64 (x97_8 + 1)), (by first | rfl | (simp; done) | (simp [*]; done)), (by first | rfl | (simp; done) | (simp [*]; done)), H', ⟨by have := HJ6.out; have := HJ13.out; have := HJ15.out; have := HJ20.out; have := HJ27.out; have := HJ29.out; have := HK7.out; have := HK8.out; omega⟩, ⟨by (with_reducible repeat (first | apply Kd.R_alloc | apply Kd.Zy | apply Kd.Xg)); exact HO_9.out⟩, ⟨by (with_reducible repeat (first | apply Kd.R_alloc | apply Kd.Zy | apply Kd.Xg)); exact HO_13.out⟩, ⟨by (with_reducible repeat (first | refine Zg ?_ _ | refine Zi ?_ | refine Zf ?_ _)); exact BK436.out⟩, ⟨by (with_reducible repeat (first | refine Zg ?_ _ | refine Zi ?_ | refine Zf ?_ _)); exact BK450.out⟩, ⟨by repeat (first | (with_reducible first | exact HB.out | apply Zl | apply Zj | apply Zo | refine Zh ?_ GE436.out | refine Zh ?_ GE450.out | refine Zh ?_ GE452.out) | exact HB.out)⟩⟩
                          ·rw [if_neg c47] at H
                           exact absurd H (by simp)
                         ·replace c46 := Bool.eq_false_iff.mpr c46
                          subst c46
                          have H1 : (Zd.l2 k8 l2 l3 t437 t440 x13_7 x90_7 false l1 (l1.length : Int) x90_7 l2 (l2.length : Int) (wrap64 (x97_8 + 1)) l0_0 l0_1 l0_2 l0_3 l0_4 ((Zr l1 x90_7).f0) ((Zr l1 x90_7).f1) ((Zr l1 x90_7).f2)) = some r := by rw [if_neg (show ¬ (false = true) by decide)] at H; exact H
                          clear H
                          have H := H1
                          clear H1
                          have H' := Za.mk H
                          clear H
                          have p451 : 0 ≤ (x97_8 : Int) := of_decide_eq_true (by first | (with_reducible assumption) | assumption)
                          have q451 : x97_8 < (l2.length : Int) := of_decide_eq_true (by first | (with_reducible assumption) | assumption)
                          obtain ⟨ad451, A451_0, c451_0, A451_1, c451_1, e451, hx451_0, hx451_1, hl451_0, hi451_0, hl451_1, hi451_1⟩ := at_T55 HR2.out x97_8 p451 q451
                          cases e451
                          replace hx451_0 := (HB.out.cell (World.block_lt_of_cell? w _ hx451_0)).trans hx451_0
                          replace hx451_1 := (HB.out.cell (World.block_lt_of_cell? w _ hx451_1)).trans hx451_1
                          have HR451_0 := Za.mk hi451_0
                          have HC451_0 := Za.mk hl451_0
                          clear hi451_0 hl451_0
                          have HR451_1 := Za.mk hi451_1
                          have HC451_1 := Za.mk hl451_1
                          clear hi451_1 hl451_1
                          replace p451 := eq_true p451
                          replace q451 := eq_true q451
                          go_wp2_with (first | ((with_reducible refine Xl (N := 18) rfl ?_); (try (refine Qd (by rfl) ?_; dsimp only)); refine Xr ?hg (N := 18) ?hd (cs := #[.slice none 0 0, .slice none 0 0]) (t := 55) ?hr ?_; (case hd => rfl); (case hg => rfl); (case hr => first | (go_simp; done) | (go_simp; rfl)); intro gb452 hg w78 hbox hb; have n0_ := Za.mk (Kd.Zp HO_9.out hb); have n1_ := Za.mk (Kd.Zp HO_13.out hb); have n2_ := Za.mk (Zq BK436.out hb); have n3_ := Za.mk (Zq BK450.out hb); have n4_ := Za.mk (Zn HB.out hb); have n5_ := Za.mk (hbox); have n6_ := Za.mk ((by rw [hg]; exact (Zm HB.out) : w.heap.size ≤ gb452)); have n7_ := n6_; have n8_ := Za.mk ((by rw [hg]; exact Nat.ne_of_lt (Xx BK436.out) : gb436 ≠ gb452)); have n9_ := Za.mk ((by rw [hg]; exact Nat.ne_of_gt (Xx BK436.out) : gb452 ≠ gb436)); have n10_ := Za.mk ((by rw [hg]; exact Nat.ne_of_lt (Xx BK450.out) : gb450 ≠ gb452)); have n11_ := Za.mk ((by rw [hg]; exact Nat.ne_of_gt (Xx BK450.out) : gb452 ≠ gb450)); clear HO_9; clear HO_13; clear BK436; clear BK450; clear HB; have HO_9 := n0_; have HO_13 := n1_; have BK436 := n2_; have BK450 := n3_; have HB := n4_; have BK452 := n5_; have GW452 := n6_; have GE452 := n7_; have NB436_452 := n8_; have NB452_436 := n9_; have NB450_452 := n10_; have NB452_450 := n11_; clear n0_ n1_ n2_ n3_ n4_ n5_ n6_ n7_ n8_ n9_ n10_ n11_; clear hb hbox hg; have hnb79 := NB452_436.out; have hnc79 := NB436_452.out; have hnb80 := NB452_450.out; have hnc80 := NB450_452.out; have hcz81_0 : w78.cell? ⟨gb452, 0, none⟩ = some (.slice none 0 0) := (Zc BK452.out 0).trans rfl; have hcz81_1 : w78.cell? ⟨gb452, 1, none⟩ = some (.slice none 0 0) := (Zc BK452.out 1).trans rfl; have hfz81_0 := Zb BK452.out 0; have hfz81_1 := Zb BK452.out 1; have hnb82 := NB436_450.out; have hnc82 := NB450_436.out; have hcz83_0 : w78.cell? ⟨gb436, 0, none⟩ = some (.slice A0_0 l0_0.length c0_0) := (Zc BK436.out 0).trans rfl; have hcz83_1 : w78.cell? ⟨gb436, 1, none⟩ = some (.slice A0_1 l0_1.length c0_1) := (Zc BK436.out 1).trans rfl; have hcz83_2 : w78.cell? ⟨gb436, 2, none⟩ = some (.slice A0_2 l0_2.length c0_2) := (Zc BK436.out 2).trans rfl; have hcz83_3 : w78.cell? ⟨gb436, 3, none⟩ = some (.slice A0_3 l0_3.length c0_3) := (Zc BK436.out 3).trans rfl; have hcz83_4 : w78.cell? ⟨gb436, 4, none⟩ = some (.slice A0_4 l0_4.length c0_4) := (Zc BK436.out 4).trans rfl; have hfz83_0 := Zb BK436.out 0; have hfz83_1 := Zb BK436.out 1; have hfz83_2 := Zb BK436.out 2; have hfz83_3 := Zb BK436.out 3; have hfz83_4 := Zb BK436.out 4; have hcz84_0 : w78.cell? ⟨gb450, 0, none⟩ = some (.int .i64 ((Zr l1 x90_7).f0)) := (Zc BK450.out 0).trans rfl; have hcz84_1 : w78.cell? ⟨gb450, 1, none⟩ = some (.int .i64 ((Zr l1 x90_7).f1)) := (Zc BK450.out 1).trans rfl; have hcz84_2 : w78.cell? ⟨gb450, 2, none⟩ = some (.bool ((Zr l1 x90_7).f2)) := (Zc BK450.out 2).trans rfl; have hfz84_0 := Zb BK450.out 0; have hfz84_1 := Zb BK450.out 1; have hfz84_2 := Zb BK450.out 2) | ((with_reducible refine Xl (N := 105) rfl ?_); (try (refine Qd (by rfl) ?_; dsimp only)); refine Kd.R_lit k29 _ 29 ?hg (N := 105) ?hd (xs := ([(⟨((Zr l1 x90_7).f0), ((Zr l1 x90_7).f1), ((Zr l1 x90_7).f2)⟩ : S29)] : List (S29))) (inner := [.int .i64 ((Zr l1 x90_7).f0), .int .i64 ((Zr l1 x90_7).f1), .bool ((Zr l1 x90_7).f2)]) (ok := fun _ => True) (okp := fun _ => True) ?hr ?hp (fun _ hk => hk) trivial (Below.refl _ _) (Nat.le_refl _) (by simp) ?_; (case hd => rfl); (case hg => rfl); (case hr => first | (go_simp; done) | (go_simp; rfl)); (case hp => exact (Reps.c3 (show Kd.M k29 _ _ _ (⟨((Zr l1 x90_7).f0), ((Zr l1 x90_7).f1), ((Zr l1 x90_7).f2)⟩ : S29) [.int .i64 ((Zr l1 x90_7).f0), .int .i64 ((Zr l1 x90_7).f1), .bool ((Zr l1 x90_7).f2)] from (k29_mkM _ _ _ (⟨((Zr l1 x90_7).f0), ((Zr l1 x90_7).f1), ((Zr l1 x90_7).f2)⟩ : S29) )) (Reps.none _ _))); intro v454 w85 ho86 hb hg_ hnew_; clear hg_ hnew_; (first | rw [← Ny453.out] at ho86 | (simp only [Int.reduceToNat] at ho86; rw [← Ny453.out] at ho86)); have n0_ := Za.mk (Kd.Zp (by (with_reducible repeat (first | apply Kd.R_alloc | apply Kd.Zy | apply Kd.Xg)); exact (Kd.Xh (Kd.Xb (p := ⟨gb452, 1, none⟩) (Kd.Xb (p := ⟨gb452, 0, none⟩) (Kd.Xv HO_9.out BK452.out (by decide)) (fun _ hk => hk.2) (.slice A451_0 ((Zx l2 x97_8).f0).length c451_0)) (fun _ hk => hk.2) (.slice A451_1 ((Zx l2 x97_8).f1).length c451_1)) (fun _ h_ => h_.1))) hb); have n1_ := Za.mk (Kd.Zp (by (with_reducible repeat (first | apply Kd.R_alloc | apply Kd.Zy | apply Kd.Xg)); exact (Kd.Xh (Kd.Xb (p := ⟨gb452, 1, none⟩) (Kd.Xb (p := ⟨gb452, 0, none⟩) (Kd.Xv HO_13.out BK452.out (by decide)) (fun _ hk => hk.2) (.slice A451_0 ((Zx l2 x97_8).f0).length c451_0)) (fun _ hk => hk.2) (.slice A451_1 ((Zx l2 x97_8).f1).length c451_1)) (fun _ h_ => h_.1))) hb); have n2_ := Za.mk (Kd.Xm (Kd.R_newB ho86 (g := gb450) (o := .cells #[.int .i64 ((Zr l1 x90_7).f0), .int .i64 ((Zr l1 x90_7).f1), .bool ((Zr l1 x90_7).f2)] 29 (0, 0)) (by (with_reducible repeat (first | refine Zg ?_ _ | refine Zi ?_ | refine Zf ?_ _)); refine Xp ?_ NB450_452.out _; (with_reducible repeat (first | refine Zg ?_ _ | refine Zi ?_ | refine Zf ?_ _)); refine Xp ?_ NB450_452.out _; (with_reducible repeat (first | refine Zg ?_ _ | refine Zi ?_ | refine Zf ?_ _)); exact BK450.out)) (Zm (by repeat (first | (with_reducible first | exact HB.out | apply Zl | apply Zj | apply Zo | refine Zh ?_ GE436.out | refine Zh ?_ GE450.out | refine Zh ?_ GE452.out) | exact HB.out)))); have n3_ := Za.mk (Zq (g := gb436) (o := .cells #[.slice A0_0 l0_0.length c0_0, .slice A0_1 l0_1.length c0_1, .slice A0_2 l0_2.length c0_2, .slice A0_3 l0_3.length c0_3, .slice A0_4 l0_4.length c0_4] 27 (0, 0)) (by (with_reducible repeat (first | refine Zg ?_ _ | refine Zi ?_ | refine Zf ?_ _)); refine Xp ?_ NB436_452.out _; (with_reducible repeat (first | refine Zg ?_ _ | refine Zi ?_ | refine Zf ?_ _)); refine Xp ?_ NB436_452.out _; (with_reducible repeat (first | refine Zg ?_ _ | refine Zi ?_ | refine Zf ?_ _)); exact BK436.out) hb); have n4_ := Za.mk (Zq (g := gb450) (o := .cells #[.int .i64 ((Zr l1 x90_7).f0), .int .i64 ((Zr l1 x90_7).f1), .bool ((Zr l1 x90_7).f2)] 29 (0, 0)) (by (with_reducible repeat (first | refine Zg ?_ _ | refine Zi ?_ | refine Zf ?_ _)); refine Xp ?_ NB450_452.out _; (with_reducible repeat (first | refine Zg ?_ _ | refine Zi ?_ | refine Zf ?_ _)); refine Xp ?_ NB450_452.out _; (with_reducible repeat (first | refine Zg ?_ _ | refine Zi ?_ | refine Zf ?_ _)); exact BK450.out) hb); have n5_ := Za.mk (Zq (g := gb452) (o := .cells #[.slice A451_0 ((Zx l2 x97_8).f0).length c451_0, .slice A451_1 ((Zx l2 x97_8).f1).length c451_1] 55 (0, 0)) (by (with_reducible repeat (first | refine Zg ?_ _ | refine Zi ?_ | refine Zf ?_ _)); refine Qa (cs := #[.slice A451_0 ((Zx l2 x97_8).f0).length c451_0, .slice none 0 0]) ?_ 1 _ rfl; (with_reducible repeat (first | refine Zg ?_ _ | refine Zi ?_ | refine Zf ?_ _)); refine Qa (cs := #[.slice none 0 0, .slice none 0 0]) ?_ 0 _ rfl; (with_reducible repeat (first | refine Zg ?_ _ | refine Zi ?_ | refine Zf ?_ _)); exact BK452.out) hb); have n6_ := Za.mk (Zn (by repeat (first | (with_reducible first | exact HB.out | apply Zl | apply Zj | apply Zo | refine Zh ?_ GE436.out | refine Zh ?_ GE450.out | refine Zh ?_ GE452.out) | exact HB.out)) hb); clear HO_9; clear HO_13; clear BK436; clear BK450; clear BK452; clear HB; have HO_9 := n0_; have HO_13 := n1_; have HO455 := n2_; have BK436 := n3_; have BK450 := n4_; have BK452 := n5_; have HB := n6_; clear n0_ n1_ n2_ n3_ n4_ n5_ n6_; clear hb ho86; have hcz87_0 : w85.cell? ⟨gb452, 0, none⟩ = some (.slice A451_0 ((Zx l2 x97_8).f0).length c451_0) := (Zc BK452.out 0).trans rfl; have hcz87_1 : w85.cell? ⟨gb452, 1, none⟩ = some (.slice A451_1 ((Zx l2 x97_8).f1).length c451_1) := (Zc BK452.out 1).trans rfl; have hfz87_0 := Zb BK452.out 0; have hfz87_1 := Zb BK452.out 1; obtain ⟨Ao88, co88, eo88⟩ := Kd.Xi HO455.out; subst eo88) | ((with_reducible refine Xo (f := 22) rfl ?_); refine Qp (some 110) rfl rfl Try.func22 (by kernel_rfl) rfl #[.agg #[.slice A0_0 l0_0.length c0_0, .slice A0_1 l0_1.length c0_1, .slice A0_2 l0_2.length c0_2, .slice A0_3 l0_3.length c0_3, .slice A0_4 l0_4.length c0_4], .slice Ao88 y453.length co88, .slice A451_0 ((Zx l2 x97_8).f0).length c451_0, .slice A451_1 ((Zx l2 x97_8).f1).length c451_1] rfl (by (try simp only [List.map_toArray, List.map_cons, List.map_nil]); first | done | rfl | (simp only [List.length_drop, List.length_take]; rfl)) ?_; (with_reducible refine (Ku.calls k8 _ _ l0_0 _ _ l0_1 _ _ l0_2 _ _ l0_3 _ _ l0_4 _ _ y453 _ _ ((Zx l2 x97_8).f0) _ _ ((Zx l2 x97_8).f1) t456 t459 _ ?side1 ?side2 ?side3 ?side4 ?side5 ?side6 ?side7 ?side8 ?side9 ?side10 ?side11 ?side12 ?side13 ?side14 ?side15 ?side16 A45.out).mono ?_); (case side1 => exact (Kd.Zk HR0_0.out HB.out)); (case side2 => exact HC0_0.out); (case side3 => exact (Kd.Zk HR0_1.out HB.out)); (case side4 => exact HC0_1.out); (case side5 => exact (Kd.Zk HR0_2.out HB.out)); (case side6 => exact HC0_2.out); (case side7 => exact (Kd.Zk HR0_3.out HB.out)); (case side8 => exact HC0_3.out); (case side9 => exact (Kd.Zk HR0_4.out HB.out)); (case side10 => exact HC0_4.out); (case side11 => repeat (first | exact (Kd.Xd HO455.out).2.2 | (with_reducible refine Kd.C_alloc ?_ _) | (with_reducible refine Kd.C_drewN ?_ _) | (with_reducible refine Kd.C_drew ?_))); (case side12 => exact (Kd.Xd HO455.out).2.1); (case side13 => exact (Kd.Zk HR451_0.out HB.out)); (case side14 => exact HC451_0.out); (case side15 => exact (Kd.Zk HR451_1.out HB.out)); (case side16 => exact HC451_1.out); rintro e w89 ⟨v457, v460, rfl, ho0, ho1, hb⟩; refine ⟨_, rfl, ?_⟩; have n0_ := Za.mk (Kd.Zp HO_9.out hb); have n1_ := Za.mk (Kd.Zp HO_13.out hb); have n2_ := Za.mk (Kd.Zp HO455.out hb); have n3_ := Za.mk (Kd.Xm ho0 (Zm HB.out)); have n4_ := Za.mk (Kd.Xm ho1 (Zm HB.out)); have n5_ := Za.mk (Zq BK436.out hb); have n6_ := Za.mk (Zq BK450.out hb); have n7_ := Za.mk (Zq BK452.out hb); have n8_ := Za.mk (Zn HB.out hb); clear HO_9; clear HO_13; clear HO455; clear BK436; clear BK450; clear BK452; clear HB; have HO_9 := n0_; have HO_13 := n1_; have HO455 := n2_; have HO458 := n3_; have HO461 := n4_; have BK436 := n5_; have BK450 := n6_; have BK452 := n7_; have HB := n8_; clear n0_ n1_ n2_ n3_ n4_ n5_ n6_ n7_ n8_; (try clear hb); (try clear hb2); (try clear hk); (try clear hi); (try clear ho0); (try clear ho1)))
                          go_roundg k8
                          case measure => have := HJ6.out; have := HJ13.out; have := HJ15.out; have := HJ20.out; have := HJ27.out; have := HJ29.out; have := HK7.out; have := HK8.out; omega
                          case rel => exact ⟨(false), (wrap64 (x97_8 + 1)), (by first | rfl | (simp; done) | (simp [*]; done)), (by first | rfl | (simp; done) | (simp [*]; done)), H', ⟨by have := HJ6.out; have := HJ13.out; have := HJ15.out; have := HJ20.out; have := HJ27.out; have := HJ29.out; have := HK7.out; have := HK8.out; omega⟩, ⟨HO_9.out⟩, ⟨HO_13.out⟩, ⟨BK436.out⟩, ⟨BK450.out⟩, ⟨HB.out⟩⟩
                        ·rw [if_neg c44] at H
                         exact absurd H (by simp)
                       ·rw [if_neg c43] at H
                        exact absurd H (by simp)
                      ·rw [if_neg c42] at H
                       have c42b0 : decide (x97_8 < (l2.length : Int)) = false := decide_eq_false c42
                       clear c42
                       by_cases c90 : x16_8 = true
                       ·subst c90
                        have H1 : (if x13_7.length < 17592186044416 then (Zd.l1 k8 l2 l3 t437 t440 (x13_7 ++ [x90_7]) l1 (l1.length : Int) (wrap64 (x90_7 + 1)) l0_0 l0_1 l0_2 l0_3 l0_4) else (none)) = some r := by rw [if_pos rfl] at H; exact H
                        clear H
                        have H := H1
                        clear H1
                        by_cases c91 : x13_7.length < 17592186044416
                        ·rw [if_pos c91] at H
                         have LMc91 := Za.mk c91
                         clear c91
                         obtain ⟨y466, hy466⟩ : ∃ y_ : List Int, y_ = (x13_7 ++ [x90_7]) := ⟨_, rfl⟩
                         replace H : (Zd.l1 k8 l2 l3 t437 t440 y466 l1 (l1.length : Int) (wrap64 (x90_7 + 1)) l0_0 l0_1 l0_2 l0_3 l0_4) = some r := by first | (rw [hy466]; with_reducible exact H) | (have H2_ := (Option.bind_some _ _).symm.trans H; rw [hy466]; with_reducible exact H2_) | (have H2_ := (Option.bind_some _ _).symm.trans H; with_reducible exact H2_) | with_reducible exact H | (rw [hy466]; exact H) | exact H
                         have Ny466 := Za.mk hy466
                         clear hy466
                         have H' := Za.mk H
                         clear H
                         go_wp2_with (((with_reducible refine gate_builtin (b := .append) (xs := #[.tmp 134, .tmp 136]) rfl ?_); (try (refine Qd (by rfl) ?_; dsimp only)); at_builtin; refine Kd.R_append (Kd.int .i64) (w0 := w) w.heap.size rfl (.tmp 134) (.tmp 136) 25 3 (.int .i64 0) 8 rfl Try.underlying25 info3 rfl (by decide) (by omega) u13 x13_7 x90_7 [.int .i64 x90_7] (fun k_ => some k_ ≠ (v438 : Value).ownBlock) (fun _ => False) rfl rfl ?aP (fun _ hk => hk.elim) ?aF ?aO ?aB ?aS ?aL ?_; (case aP => exact rfl); (case aB => exact HB.out); (case aF => exact (fun k_ hk => Kd.fresh' (Kd.R_lt HO_9.out) k_ hk)); (case aO => exact HO_13.out); (case aS => exact (Zm HB.out)); (case aL => have := LMc91.out; omega); intro v467 w92 ho hb hg hat; rw [← Ny466.out] at ho; have n0_ := Za.mk (Kd.R_after (ok := (fun _ => True)) (by (with_reducible repeat (first | apply Kd.R_alloc | apply Kd.Zy | apply Kd.Xg)); exact Kd.Xh HO_9.out (fun _ hk => ⟨trivial, hk⟩)) hg hat); have n1_ := Za.mk (blk_grown BK436.out hg (Kd.R_ne HO_13.out BK436.out (by decide))); have n2_ := Za.mk (blk_grown BK450.out hg (Kd.R_ne HO_13.out BK450.out (by decide))); have n3_ := Za.mk (hb); have n4_ := Za.mk (ho); clear HO_9; clear BK436; clear BK450; clear HB; clear HO_13; have HO_9 := n0_; have BK436 := n1_; have BK450 := n2_; have HB := n3_; have HO468 := n4_; clear n0_ n1_ n2_ n3_ n4_; clear ho hb hg hat))
                         go_roundg k8
                         case measure => have := HJ6.out; have := HJ13.out; have := HJ15.out; have := HJ20.out; have := HJ27.out; have := HJ29.out; have := HK7.out; have := HK8.out; omega
                         case rel => exact ⟨(y466), (wrap64 (x90_7 + 1)), (by first | rfl | (simp; done) | (simp [*]; done)), H', ⟨by have := HJ6.out; have := HJ13.out; have := HJ15.out; have := HJ20.out; have := HJ27.out; have := HJ29.out; have := HK7.out; have := HK8.out; omega⟩, ⟨by (with_reducible repeat (first | apply Kd.R_alloc | apply Kd.Zy | apply Kd.Xg)); exact Kd.Xh HO_9.out (fun _ hk => hk.2)⟩, ⟨HO468.out⟩, ⟨BK436.out⟩, ⟨HB.out⟩⟩
                        ·rw [if_neg c91] at H
                         exact absurd H (by simp)
                       ·replace c90 := Bool.eq_false_iff.mpr c90
                        subst c90
                        have H1 : (Zd.l1 k8 l2 l3 t437 t440 x13_7 l1 (l1.length : Int) (wrap64 (x90_7 + 1)) l0_0 l0_1 l0_2 l0_3 l0_4) = some r := by rw [if_neg (show ¬ (false = true) by decide)] at H; exact H
                        clear H
                        have H := H1
                        clear H1
                        have H' := Za.mk H
                        clear H
                        go_wp2
                        go_roundg k8
                        case measure => have := HJ6.out; have := HJ13.out; have := HJ15.out; have := HJ20.out; have := HJ27.out; have := HJ29.out; have := HK7.out; have := HK8.out; omega
                        case rel => exact ⟨(x13_7), (wrap64 (x90_7 + 1)), (by first | rfl | (simp; done) | (simp [*]; done)), H', ⟨by have := HJ6.out; have := HJ13.out; have := HJ15.out; have := HJ20.out; have := HJ27.out; have := HJ29.out; have := HK7.out; have := HK8.out; omega⟩, ⟨HO_9.out⟩, ⟨HO_13.out⟩, ⟨BK436.out⟩, ⟨HB.out⟩⟩
                   ·rw [if_neg c38] at H
                    exact absurd H (by simp)
                  ·rw [if_neg c37] at H
                   exact absurd H (by simp)
                 ·rw [if_neg c36] at H
                  have c36b0 : decide (x90_7 < (l1.length : Int)) = false := decide_eq_false c36
                  clear c36
                  replace H := Option.bind_eq_some_iff.mp H
                  obtain ⟨t447, A930, H⟩ := H
                  replace H : (if t447 = true then (if t440 = 0 then ((Zw.f k7 t437 x13_7).bind fun t448 => (some t448)) else (none)) else (none)) = some r := H
                  have A93 := Za.mk A930
                  clear A930
                  by_cases c94 : t447 = true
                  ·subst c94
                   have H1 : (if t440 = 0 then ((Zw.f k7 t437 x13_7).bind fun t448 => (some t448)) else (none)) = some r := by rw [if_pos rfl] at H; exact H
                   clear H
                   have H := H1
                   clear H1
                   by_cases c95 : t440 = 0
                   ·rw [if_pos c95] at H
                    have c95b0 : (t440 == 0) = true := beq_iff_eq.mpr c95
                    have c95b1 : (t440 != 0) = false := bne_eq_false_iff_eq.mpr c95
                    clear c95
                    replace H := Option.bind_eq_some_iff.mp H
                    obtain ⟨t448, A960, H⟩ := H
                    replace H : (some t448) = some r := H
                    have A96 := Za.mk A960
                    clear A960
                    obtain rfl := Option.some.inj H
                    go_wp2_with (first | ((with_reducible refine Xo (f := 11) rfl ?_); refine Qp (some 139) rfl rfl Try.func11 (by kernel_rfl) rfl #[] rfl (by (try simp only [List.map_toArray, List.map_cons, List.map_nil]); first | done | rfl | (simp only [List.length_drop, List.length_take]; rfl)) ?_; (with_reducible refine (Qn.calls k7  true _ A93.out).mono ?_); rintro e w97 ⟨rfl, hb⟩; refine ⟨_, rfl, ?_⟩; have n0_ := Za.mk (Kd.Zp HO_9.out hb); have n1_ := Za.mk (Kd.Zp HO_13.out hb); have n2_ := Za.mk (Zq BK436.out hb); have n3_ := Za.mk (Zn HB.out hb); clear HO_9; clear HO_13; clear BK436; clear HB; have HO_9 := n0_; have HO_13 := n1_; have BK436 := n2_; have HB := n3_; clear n0_ n1_ n2_ n3_; (try clear hb); (try clear hb2); (try clear hk); (try clear hi); obtain ⟨Ao98, co98, eo98⟩ := Kd.Xi HO_9.out; subst eo98; obtain ⟨Ao99, co99, eo99⟩ := Kd.Xi HO_13.out; subst eo99) | (go_at_call 18; (with_reducible refine (Zw.calls k7 _ _ t437 _ _ x13_7 t448 _ ?side1 ?side2 ?side3 ?side4 A96.out).mono ?_); (case side1 => repeat (first | exact (Kd.Xd HO_9.out).2.2 | (with_reducible refine Kd.C_alloc ?_ _) | (with_reducible refine Kd.C_drewN ?_ _) | (with_reducible refine Kd.C_drew ?_))); (case side2 => exact (Kd.Xd HO_9.out).2.1); (case side3 => repeat (first | exact (Kd.Xd HO_13.out).2.2 | (with_reducible refine Kd.C_alloc ?_ _) | (with_reducible refine Kd.C_drewN ?_ _) | (with_reducible refine Kd.C_drew ?_))); (case side4 => exact (Kd.Xd HO_13.out).2.1); rintro e w' ⟨rfl, ⟨nd, rfl⟩⟩))
                    go_ret
                    exact ⟨by first | rfl | (simp [errW_none, errW_some] <;> rfl) | (simp [*, errW_none, errW_some] <;> rfl), by repeat (first | (with_reducible first | exact HB.out | apply Zl | apply Zj | apply Zo | refine Zh ?_ GE436.out) | exact HB.out)⟩
                   ·rw [if_neg c95] at H
                    exact absurd H (by simp)
                  ·replace c94 := Bool.eq_false_iff.mpr c94
                   subst c94
                   have H1 : (none) = some r := by rw [if_neg (show ¬ (false = true) by decide)] at H; exact H
                   exact absurd H1 (by simp)
             ·rw [if_neg c32] at H
              have c32b0 : (x11_29 == 0) = false := beq_eq_false_iff_ne.mpr c32
              have c32b1 : (x11_29 != 0) = true := bne_iff_ne.mpr c32
              replace H := Option.bind_eq_some_iff.mp H
              obtain ⟨t445, A1020, H⟩ := H
              replace H : (if t445 = true then (if t440 = x11_29 then (some ((t437.length : Int) == 0)) else (none)) else (none)) = some r := H
              have A102 := Za.mk A1020
              clear A1020
              by_cases c103 : t445 = true
              ·subst c103
               have H1 : (if t440 = x11_29 then (some ((t437.length : Int) == 0)) else (none)) = some r := by rw [if_pos rfl] at H; exact H
               clear H
               have H := H1
               clear H1
               by_cases c104 : t440 = x11_29
               ·rw [if_pos c104] at H
                have c104b0 : (t440 == x11_29) = true := beq_iff_eq.mpr c104
                have c104b1 : (t440 != x11_29) = false := bne_eq_false_iff_eq.mpr c104
                clear c104
                obtain rfl := Option.some.inj H
                go_wp2_with (((with_reducible refine Xo (f := 11) rfl ?_); refine Qp (some 70) rfl rfl Try.func11 (by kernel_rfl) rfl #[] rfl (by (try simp only [List.map_toArray, List.map_cons, List.map_nil]); first | done | rfl | (simp only [List.length_drop, List.length_take]; rfl)) ?_; (with_reducible refine (Qn.calls kj29  true _ A102.out).mono ?_); rintro e w105 ⟨rfl, hb⟩; refine ⟨_, rfl, ?_⟩; have n0_ := Za.mk (Kd.Zp HO_9.out hb); have n1_ := Za.mk (Zq BK436.out hb); have n2_ := Za.mk (Zn HB.out hb); clear HO_9; clear BK436; clear HB; have HO_9 := n0_; have BK436 := n1_; have HB := n2_; clear n0_ n1_ n2_; (try clear hb); (try clear hb2); (try clear hk); (try clear hi); obtain ⟨Ao106, co106, eo106⟩ := Kd.Xi HO_9.out; subst eo106))
                go_ret
                exact ⟨by first | rfl | (simp [errW_none, errW_some] <;> rfl) | (simp [*, errW_none, errW_some] <;> rfl), HB.out⟩
               ·rw [if_neg c104] at H
                exact absurd H (by simp)
              ·replace c103 := Bool.eq_false_iff.mpr c103
               subst c103
               have H1 : (none) = some r := by rw [if_neg (show ¬ (false = true) by decide)] at H; exact H
               exact absurd H1 (by simp)
end Go.Proofs.Ytimjccfpobhpeaa.PF
