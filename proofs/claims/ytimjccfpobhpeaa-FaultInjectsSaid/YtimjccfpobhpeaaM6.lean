-- joined from: PFx25 InjLaw Opens OpensN FaultInjects
import Derived.Test.YtimjccfpobhpeaaM0
import Derived.Test.YtimjccfpobhpeaaM3
import Derived.Test.YtimjccfpobhpeaaM4
import Derived.Test.YtimjccfpobhpeaaM5
import Derived.ProofKit
import Derived.OpenShut
import Derived.ShutString
import Derived.ChangeOld
import Derived.Below
import Derived.SizedLaws
import Derived.Test.YtimjccfpobhpeaaRows
namespace Go.Proofs.Ytimjccfpobhpeaa.PF
open Go.RowKit Go.Proofs.YtimjccfpobhpeaaW.PrintWords Go.Proofs.YtimjccfpobhpeaaW.PrintLast Go.Proofs.YtimjccfpobhpeaaW.PrintMore
attribute [local go_sem] max2_int min2_int max_two min_two max_three min_three max_four min_four   -- for this text's walks alone
set_option linter.unusedVariables false
set_option linter.unusedSimpArgs false
def masklaw2_FaultInjects.j0 : Nat → Int → Int → List ByteArray → List ByteArray → List (S82) → List (S80) → List Int → Int → Int → Bool → List ByteArray → List ByteArray → List (S82) → List (S80) → List Int → Option (Bool)
 | 0, _, _, _, _, _, _, _, _, _, _, _, _, _, _, _ => none
 | k + 1, x6, x7, x235000, x235001, x235002, x235003, x235004, x236000, x236001, x236002, x253000, x253001, x253002, x253003, x253004 => if x7 = 0 then ((masklaw2_faulty.f k).bind fun t255 => (if t255 = true then (if x6 = 0 then ((maskref2_Broken.f k x235000 x235001 x235002 x235003 x235004 x236000 x236001 x236002).bind fun bt256 => ((netlist_Same.f x253000 x253001 x253002 x253003 x253004 bt256.1 bt256.2.1 bt256.2.2.1 bt256.2.2.2.1 bt256.2.2.2.2).bind fun t271 => (some t271))) else (none)) else (none))) else ((masklaw2_faulty.f k).bind fun t272 => (if t272 = true then (if x6 = x7 then ((netlist_Same.f x253000 x253001 x253002 x253003 x253004 ([] : List ByteArray) ([] : List ByteArray) ([] : List (S82)) ([] : List (S80)) ([] : List Int)).bind fun t273 => (some t273)) else (none)) else (none)))
def masklaw2_FaultInjects.f (k : Nat) (l0_0 : List ByteArray) (l0_1 : List ByteArray) (l0_2 : List (S82)) (l0_3 : List (S80)) (l0_4 : List Int) (a1_0 : Int) (a1_1 : Int) (a1_2 : Bool) : Option (Bool) := (fault_Inject.f k l0_0 l0_1 l0_2 l0_3 l0_4 a1_0 a1_1 a1_2).bind fun bt236 => ((netlist_Form.f k l0_0 l0_1 l0_2 l0_3 l0_4).bind fun t253 => (if t253 = 0 then ((maskref2_FaultFault.f k l0_0 l0_1 l0_2 l0_3 l0_4 a1_0 a1_1 a1_2).bind fun t254 => (masklaw2_FaultInjects.j0 k bt236.2.2.2.2.2 t254 l0_0 l0_1 l0_2 l0_3 l0_4 a1_0 a1_1 a1_2 bt236.1 bt236.2.1 bt236.2.2.1 bt236.2.2.2.1 bt236.2.2.2.2.1)) else (masklaw2_FaultInjects.j0 k bt236.2.2.2.2.2 t253 l0_0 l0_1 l0_2 l0_3 l0_4 a1_0 a1_1 a1_2 bt236.1 bt236.2.1 bt236.2.2.1 bt236.2.2.2.1 bt236.2.2.2.2.1)))
theorem masklaw2_FaultInjects.mono_l : ∀ k, (∀ y0 y1 y2 y3 y4 y5 y6 y7 y8 y9 y10 y11 y12 y13 y14, LeO (masklaw2_FaultInjects.j0 k y0 y1 y2 y3 y4 y5 y6 y7 y8 y9 y10 y11 y12 y13 y14) (masklaw2_FaultInjects.j0 (k + 1) y0 y1 y2 y3 y4 y5 y6 y7 y8 y9 y10 y11 y12 y13 y14))
 | 0 => fun _ _ _ _ _ _ _ _ _ _ _ _ _ _ _ r h => by simp [masklaw2_FaultInjects.j0] at h
 | k + 1 => by
   have ih0 := masklaw2_FaultInjects.mono_l k
   · intro y0 y1 y2 y3 y4 y5 y6 y7 y8 y9 y10 y11 y12 y13 y14
     unfold masklaw2_FaultInjects.j0
     repeat' first
     | (with_reducible exact ih0 _ _ _ _ _ _ _ _ _ _ _ _ _ _ _)
     | (with_reducible exact fault_Inject.mono _ _ _ _ _ _ _ _ _)
     | (with_reducible exact masklaw2_faulty.mono _)
     | (with_reducible exact maskref2_Broken.mono _ _ _ _ _ _ _ _ _)
     | (with_reducible exact maskref2_FaultFault.mono _ _ _ _ _ _ _ _ _)
     | (with_reducible exact netlist_Form.mono _ _ _ _ _ _)
     | (with_reducible exact LeO.refl _)
     | (with_reducible exact LeO.none _)
     | (with_reducible refine LeO.ite ?_ ?_)
     | (with_reducible refine LeO.bind ?_ (fun _ => ?_))
     | exact ih0 _ _ _ _ _ _ _ _ _ _ _ _ _ _ _
     | exact fault_Inject.mono _ _ _ _ _ _ _ _ _
     | exact masklaw2_faulty.mono _
     | exact maskref2_Broken.mono _ _ _ _ _ _ _ _ _
     | exact maskref2_FaultFault.mono _ _ _ _ _ _ _ _ _
     | exact netlist_Form.mono _ _ _ _ _ _
     | exact LeO.none _
     | refine LeO.ite ?_ ?_
     | refine LeO.bind ?_ (fun _ => ?_)
theorem masklaw2_FaultInjects.mono : ∀ a0 a1 a2 a3 a4 a5 a6 a7 k, LeO (masklaw2_FaultInjects.f k a0 a1 a2 a3 a4 a5 a6 a7) (masklaw2_FaultInjects.f (k + 1) a0 a1 a2 a3 a4 a5 a6 a7) := by
 intro a0 a1 a2 a3 a4 a5 a6 a7 k
 have ih0 := masklaw2_FaultInjects.mono_l k
 unfold masklaw2_FaultInjects.f
 repeat' first
     | (with_reducible exact ih0 _ _ _ _ _ _ _ _ _ _ _ _ _ _ _)
     | (with_reducible exact fault_Inject.mono _ _ _ _ _ _ _ _ _)
     | (with_reducible exact masklaw2_faulty.mono _)
     | (with_reducible exact maskref2_Broken.mono _ _ _ _ _ _ _ _ _)
     | (with_reducible exact maskref2_FaultFault.mono _ _ _ _ _ _ _ _ _)
     | (with_reducible exact netlist_Form.mono _ _ _ _ _ _)
     | (with_reducible exact LeO.refl _)
     | (with_reducible exact LeO.none _)
     | (with_reducible refine LeO.ite ?_ ?_)
     | (with_reducible refine LeO.bind ?_ (fun _ => ?_))
     | exact ih0 _ _ _ _ _ _ _ _ _ _ _ _ _ _ _
     | exact fault_Inject.mono _ _ _ _ _ _ _ _ _
     | exact masklaw2_faulty.mono _
     | exact maskref2_Broken.mono _ _ _ _ _ _ _ _ _
     | exact maskref2_FaultFault.mono _ _ _ _ _ _ _ _ _
     | exact netlist_Form.mono _ _ _ _ _ _
     | exact LeO.none _
     | refine LeO.ite ?_ ?_
     | refine LeO.bind ?_ (fun _ => ?_)
def masklaw2_FaultInjects.T7 : Bool × List (List Nat × List Nat) := (true, [([], []), ([0, 0], [0]), ([1], [1]), ([2, 1], [1, 2]), ([1, 3], [1, 3]), ([4, 1], [4]), ([5], [5]), ([5], [5]), ([5], [5]), ([7, 8, 5, 5], [5, 7, 8]), ([6, 9, 9, 5], [5, 6, 9]), ([5, 10], [5, 10]), ([11, 10, 0, 1, 2, 3, 4, 5, 6, 7, 8, 9, 10, 11], [11])])
def masklaw2_FaultInjects.B7 : List Nat := [0, 1, 3, 7, 15, 31, 63, 63, 63, 447, 1023, 2047, 4095]
theorem masklaw2_FaultInjects.tab7 : rtab .any (opsOf Try.f3 7) = masklaw2_FaultInjects.T7 := by kernel_rfl
theorem masklaw2_FaultInjects.bits7 : waitsOk masklaw2_FaultInjects.T7.2 masklaw2_FaultInjects.B7 = true := by kernel_rfl
set_option maxHeartbeats 8000000 in
set_option maxRecDepth 100000 in
theorem masklaw2_FaultInjects.calls (k : Nat) (A0_0 : Option Addr) (c0_0 : Nat) (l0_0 : List ByteArray) (A0_1 : Option Addr) (c0_1 : Nat) (l0_1 : List ByteArray) (A0_2 : Option Addr) (c0_2 : Nat) (l0_2 : List (S82)) (A0_3 : Option Addr) (c0_3 : Nat) (l0_3 : List (S80)) (A0_4 : Option Addr) (c0_4 : Nat) (l0_4 : List Int) (a1_0 : Int) (a1_1 : Int) (a1_2 : Bool) (r : Bool) (w : World) (hr0_0 : Kd.C Kd.string w A0_0 l0_0.length l0_0) (hc0_0 : l0_0.length ≤ c0_0) (hr0_1 : Kd.C Kd.string w A0_1 l0_1.length l0_1) (hc0_1 : l0_1.length ≤ c0_1) (hr0_2 : Kd.C k82 w A0_2 l0_2.length l0_2) (hc0_2 : l0_2.length ≤ c0_2) (hr0_3 : Kd.C k80 w A0_3 l0_3.length l0_3) (hc0_3 : l0_3.length ≤ c0_3) (hr0_4 : Kd.C (Kd.int .i64) w A0_4 l0_4.length l0_4) (hc0_4 : l0_4.length ≤ c0_4) (h : masklaw2_FaultInjects.f k l0_0 l0_1 l0_2 l0_3 l0_4 a1_0 a1_1 a1_2 = some r) :
   Calls Try.prog 3 #[.agg #[.slice A0_0 l0_0.length c0_0, .slice A0_1 l0_1.length c0_1, .slice A0_2 l0_2.length c0_2, .slice A0_3 l0_3.length c0_3, .slice A0_4 l0_4.length c0_4], .agg #[.int .i64 a1_0, .int .i64 a1_1, .bool a1_2]] w fun e w' => e = .returned (.bool r) ∧ Below w.heap.size w w' := by
 have hu27 := Try.underlying27
 have hu29 := Try.underlying29
 have HR0_0 := Aside0.mk hr0_0
 have HC0_0 := Aside0.mk hc0_0
 clear hr0_0 hc0_0
 have HR0_1 := Aside0.mk hr0_1
 have HC0_1 := Aside0.mk hc0_1
 clear hr0_1 hc0_1
 have HR0_2 := Aside0.mk hr0_2
 have HC0_2 := Aside0.mk hc0_2
 clear hr0_2 hc0_2
 have HR0_3 := Aside0.mk hr0_3
 have HC0_3 := Aside0.mk hc0_3
 clear hr0_3 hc0_3
 have HR0_4 := Aside0.mk hr0_4
 have HC0_4 := Aside0.mk hc0_4
 clear hr0_4 hc0_4
 have HB := Aside0.mk (Below.refl w.heap.size w)
 have H : ((fault_Inject.f k l0_0 l0_1 l0_2 l0_3 l0_4 a1_0 a1_1 a1_2).bind fun bt236 => ((netlist_Form.f k l0_0 l0_1 l0_2 l0_3 l0_4).bind fun t253 => (if t253 = 0 then ((maskref2_FaultFault.f k l0_0 l0_1 l0_2 l0_3 l0_4 a1_0 a1_1 a1_2).bind fun t254 => (masklaw2_FaultInjects.j0 k bt236.2.2.2.2.2 t254 l0_0 l0_1 l0_2 l0_3 l0_4 a1_0 a1_1 a1_2 bt236.1 bt236.2.1 bt236.2.2.1 bt236.2.2.2.1 bt236.2.2.2.2.1)) else (masklaw2_FaultInjects.j0 k bt236.2.2.2.2.2 t253 l0_0 l0_1 l0_2 l0_3 l0_4 a1_0 a1_1 a1_2 bt236.1 bt236.2.1 bt236.2.2.1 bt236.2.2.2.1 bt236.2.2.2.2.1)))) = some r := h
 clear h
 replace H := Option.bind_eq_some_iff.mp H
 obtain ⟨⟨t236, t239, t242, t245, t248, t251⟩, A30, H⟩ := H
 replace H : ((netlist_Form.f k l0_0 l0_1 l0_2 l0_3 l0_4).bind fun t253 => (if t253 = 0 then ((maskref2_FaultFault.f k l0_0 l0_1 l0_2 l0_3 l0_4 a1_0 a1_1 a1_2).bind fun t254 => (masklaw2_FaultInjects.j0 k t251 t254 l0_0 l0_1 l0_2 l0_3 l0_4 a1_0 a1_1 a1_2 t236 t239 t242 t245 t248)) else (masklaw2_FaultInjects.j0 k t251 t253 l0_0 l0_1 l0_2 l0_3 l0_4 a1_0 a1_1 a1_2 t236 t239 t242 t245 t248))) = some r := H
 have A3 := Aside0.mk A30
 clear A30
 replace H := Option.bind_eq_some_iff.mp H
 obtain ⟨t253, A40, H⟩ := H
 replace H : (if t253 = 0 then ((maskref2_FaultFault.f k l0_0 l0_1 l0_2 l0_3 l0_4 a1_0 a1_1 a1_2).bind fun t254 => (masklaw2_FaultInjects.j0 k t251 t254 l0_0 l0_1 l0_2 l0_3 l0_4 a1_0 a1_1 a1_2 t236 t239 t242 t245 t248)) else (masklaw2_FaultInjects.j0 k t251 t253 l0_0 l0_1 l0_2 l0_3 l0_4 a1_0 a1_1 a1_2 t236 t239 t242 t245 t248)) = some r := H
 have A4 := Aside0.mk A40
 clear A40
 have HC5 := Aside0.mk H
 clear H
 go_enter Try.func3, Try.ntmps3
 go_upto_if 17 with (first | ((with_reducible refine gate_dst (N := 2) rfl ?_); refine box_event ?hg (N := 2) ?hd (cs := #[.slice A0_0 l0_0.length c0_0, .slice A0_1 l0_1.length c0_1, .slice A0_2 l0_2.length c0_2, .slice A0_3 l0_3.length c0_3, .slice A0_4 l0_4.length c0_4]) (t := 27) ?hr ?_; (case hd => rfl); (case hg => rfl); (case hr => first | (go_simp; done) | (go_simp; rfl)); intro gb234 hg w6 hbox hb; have n0_ := Aside0.mk (below_step (by repeat (first | (with_reducible first | exact HB.out | apply below_alloc | apply pw_below_drewN | apply below_drew1) | exact HB.out)) hb); have n1_ := Aside0.mk (hbox); have n2_ := Aside0.mk ((by rw [hg]; exact (below_size (by repeat (first | (with_reducible first | exact HB.out | apply below_alloc | apply pw_below_drewN | apply below_drew1) | exact HB.out))) : w.heap.size ≤ gb234)); have n3_ := Aside0.mk ((by rw [hg]; exact (below_size (by repeat (first | (with_reducible first | exact HB.out | apply below_alloc | apply pw_below_drewN | apply below_drew1) | exact HB.out))) : w.heap.size ≤ gb234)); clear HB; have HB := n0_; have BK234 := n1_; have GW234 := n2_; have GE234 := n3_; clear n0_ n1_ n2_ n3_; clear hb hbox hg) | ((with_reducible refine gate_dst (N := 3) rfl ?_); refine box_event ?hg (N := 3) ?hd (cs := #[.int .i64 a1_0, .int .i64 a1_1, .bool a1_2]) (t := 29) ?hr ?_; (case hd => rfl); (case hg => rfl); (case hr => first | (go_simp; done) | (go_simp; rfl)); intro gb235 hg w7 hbox hb; have n0_ := Aside0.mk (blk_below (g := gb234) (o := .cells #[.slice A0_0 l0_0.length c0_0, .slice A0_1 l0_1.length c0_1, .slice A0_2 l0_2.length c0_2, .slice A0_3 l0_3.length c0_3, .slice A0_4 l0_4.length c0_4] 27 (0, 0)) (by (with_reducible repeat (first | refine blk_drewN ?_ _ | refine blk_drew ?_ | refine blk_alloc ?_ _)); exact BK234.out) hb); have n1_ := Aside0.mk (below_step (by repeat (first | (with_reducible first | exact HB.out | apply below_alloc | apply pw_below_drewN | apply below_drew1 | refine below_set ?_ GE234.out) | exact HB.out)) hb); have n2_ := Aside0.mk (hbox); have n3_ := Aside0.mk ((by rw [hg]; exact (below_size (by repeat (first | (with_reducible first | exact HB.out | apply below_alloc | apply pw_below_drewN | apply below_drew1 | refine below_set ?_ GE234.out) | exact HB.out))) : w.heap.size ≤ gb235)); have n4_ := Aside0.mk ((by rw [hg]; exact (below_size (by repeat (first | (with_reducible first | exact HB.out | apply below_alloc | apply pw_below_drewN | apply below_drew1 | refine below_set ?_ GE234.out) | exact HB.out))) : w.heap.size ≤ gb235)); have n5_ := Aside0.mk ((by rw [hg]; exact Nat.ne_of_lt (blk_lt (g := gb234) (o := .cells #[.slice A0_0 l0_0.length c0_0, .slice A0_1 l0_1.length c0_1, .slice A0_2 l0_2.length c0_2, .slice A0_3 l0_3.length c0_3, .slice A0_4 l0_4.length c0_4] 27 (0, 0)) (by (with_reducible repeat (first | refine blk_drewN ?_ _ | refine blk_drew ?_ | refine blk_alloc ?_ _)); exact BK234.out)) : gb234 ≠ gb235)); have n6_ := Aside0.mk ((by rw [hg]; exact Nat.ne_of_gt (blk_lt (g := gb234) (o := .cells #[.slice A0_0 l0_0.length c0_0, .slice A0_1 l0_1.length c0_1, .slice A0_2 l0_2.length c0_2, .slice A0_3 l0_3.length c0_3, .slice A0_4 l0_4.length c0_4] 27 (0, 0)) (by (with_reducible repeat (first | refine blk_drewN ?_ _ | refine blk_drew ?_ | refine blk_alloc ?_ _)); exact BK234.out)) : gb235 ≠ gb234)); clear BK234; clear HB; have BK234 := n0_; have HB := n1_; have BK235 := n2_; have GW235 := n3_; have GE235 := n4_; have NB234_235 := n5_; have NB235_234 := n6_; clear n0_ n1_ n2_ n3_ n4_ n5_ n6_; clear hb hbox hg; have hnb8 := NB234_235.out; have hnc8 := NB235_234.out; have hcz9_0 : w7.cell? ⟨gb234, 0, none⟩ = some (.slice A0_0 l0_0.length c0_0) := (blk_cell BK234.out 0).trans rfl; have hcz9_1 : w7.cell? ⟨gb234, 1, none⟩ = some (.slice A0_1 l0_1.length c0_1) := (blk_cell BK234.out 1).trans rfl; have hcz9_2 : w7.cell? ⟨gb234, 2, none⟩ = some (.slice A0_2 l0_2.length c0_2) := (blk_cell BK234.out 2).trans rfl; have hcz9_3 : w7.cell? ⟨gb234, 3, none⟩ = some (.slice A0_3 l0_3.length c0_3) := (blk_cell BK234.out 3).trans rfl; have hcz9_4 : w7.cell? ⟨gb234, 4, none⟩ = some (.slice A0_4 l0_4.length c0_4) := (blk_cell BK234.out 4).trans rfl; have hfz9_0 := blk_frozen BK234.out 0; have hfz9_1 := blk_frozen BK234.out 1; have hfz9_2 := blk_frozen BK234.out 2; have hfz9_3 := blk_frozen BK234.out 3; have hfz9_4 := blk_frozen BK234.out 4; have hcz10_0 : w7.cell? ⟨gb235, 0, none⟩ = some (.int .i64 a1_0) := (blk_cell BK235.out 0).trans rfl; have hcz10_1 : w7.cell? ⟨gb235, 1, none⟩ = some (.int .i64 a1_1) := (blk_cell BK235.out 1).trans rfl; have hcz10_2 : w7.cell? ⟨gb235, 2, none⟩ = some (.bool a1_2) := (blk_cell BK235.out 2).trans rfl; have hfz10_0 := blk_frozen BK235.out 0; have hfz10_1 := blk_frozen BK235.out 1; have hfz10_2 := blk_frozen BK235.out 2) | ((with_reducible refine gate_callee (f := 8) rfl ?_); refine goesL_ (some 11) rfl rfl Try.func8 (by kernel_rfl) rfl #[.agg #[.slice A0_0 l0_0.length c0_0, .slice A0_1 l0_1.length c0_1, .slice A0_2 l0_2.length c0_2, .slice A0_3 l0_3.length c0_3, .slice A0_4 l0_4.length c0_4], .agg #[.int .i64 a1_0, .int .i64 a1_1, .bool a1_2]] rfl (by (try simp only [List.map_toArray, List.map_cons, List.map_nil]); first | done | rfl | (simp only [List.length_drop, List.length_take]; rfl)) ?_; (with_reducible refine (fault_Inject.calls k _ _ l0_0 _ _ l0_1 _ _ l0_2 _ _ l0_3 _ _ l0_4 a1_0 a1_1 a1_2 t236 t239 t242 t245 t248 t251 _ ?side1 ?side2 ?side3 ?side4 ?side5 ?side6 ?side7 ?side8 ?side9 ?side10 A3.out).mono ?_); (case side1 => repeat (first | exact (Kd.C_below HR0_0.out HB.out) | (with_reducible refine Kd.C_alloc ?_ _) | (with_reducible refine Kd.C_drewN ?_ _) | (with_reducible refine Kd.C_drew ?_))); (case side2 => exact HC0_0.out); (case side3 => repeat (first | exact (Kd.C_below HR0_1.out HB.out) | (with_reducible refine Kd.C_alloc ?_ _) | (with_reducible refine Kd.C_drewN ?_ _) | (with_reducible refine Kd.C_drew ?_))); (case side4 => exact HC0_1.out); (case side5 => repeat (first | exact (Kd.C_below HR0_2.out HB.out) | (with_reducible refine Kd.C_alloc ?_ _) | (with_reducible refine Kd.C_drewN ?_ _) | (with_reducible refine Kd.C_drew ?_))); (case side6 => exact HC0_2.out); (case side7 => repeat (first | exact (Kd.C_below HR0_3.out HB.out) | (with_reducible refine Kd.C_alloc ?_ _) | (with_reducible refine Kd.C_drewN ?_ _) | (with_reducible refine Kd.C_drew ?_))); (case side8 => exact HC0_3.out); (case side9 => repeat (first | exact (Kd.C_below HR0_4.out HB.out) | (with_reducible refine Kd.C_alloc ?_ _) | (with_reducible refine Kd.C_drewN ?_ _) | (with_reducible refine Kd.C_drew ?_))); (case side10 => exact HC0_4.out); rintro e w11 ⟨v237, v240, v243, v246, v249, rfl, ho0, ho1, ho2, ho3, ho4, hb⟩; refine ⟨_, rfl, ?_⟩; have n0_ := Aside0.mk (Kd.R_lower ho0 (below_size (by repeat (first | (with_reducible first | exact HB.out | apply below_alloc | apply pw_below_drewN | apply below_drew1 | refine below_set ?_ GE234.out | refine below_set ?_ GE235.out) | exact HB.out)))); have n1_ := Aside0.mk (Kd.R_lower ho1 (below_size (by repeat (first | (with_reducible first | exact HB.out | apply below_alloc | apply pw_below_drewN | apply below_drew1 | refine below_set ?_ GE234.out | refine below_set ?_ GE235.out) | exact HB.out)))); have n2_ := Aside0.mk (Kd.R_lower ho2 (below_size (by repeat (first | (with_reducible first | exact HB.out | apply below_alloc | apply pw_below_drewN | apply below_drew1 | refine below_set ?_ GE234.out | refine below_set ?_ GE235.out) | exact HB.out)))); have n3_ := Aside0.mk (Kd.S_lower ho3 (below_size (by repeat (first | (with_reducible first | exact HB.out | apply below_alloc | apply pw_below_drewN | apply below_drew1 | refine below_set ?_ GE234.out | refine below_set ?_ GE235.out) | exact HB.out)))); have n4_ := Aside0.mk (Kd.R_lower ho4 (below_size (by repeat (first | (with_reducible first | exact HB.out | apply below_alloc | apply pw_below_drewN | apply below_drew1 | refine below_set ?_ GE234.out | refine below_set ?_ GE235.out) | exact HB.out)))); have n5_ := Aside0.mk (blk_below (g := gb234) (o := .cells #[.slice A0_0 l0_0.length c0_0, .slice A0_1 l0_1.length c0_1, .slice A0_2 l0_2.length c0_2, .slice A0_3 l0_3.length c0_3, .slice A0_4 l0_4.length c0_4] 27 (0, 0)) (by (with_reducible repeat (first | refine blk_drewN ?_ _ | refine blk_drew ?_ | refine blk_alloc ?_ _)); exact BK234.out) hb); have n6_ := Aside0.mk (blk_below (g := gb235) (o := .cells #[.int .i64 a1_0, .int .i64 a1_1, .bool a1_2] 29 (0, 0)) (by (with_reducible repeat (first | refine blk_drewN ?_ _ | refine blk_drew ?_ | refine blk_alloc ?_ _)); exact BK235.out) hb); have n7_ := Aside0.mk (below_step (by repeat (first | (with_reducible first | exact HB.out | apply below_alloc | apply pw_below_drewN | apply below_drew1 | refine below_set ?_ GE234.out | refine below_set ?_ GE235.out) | exact HB.out)) hb); clear BK234; clear BK235; clear HB; have HO238 := n0_; have HO241 := n1_; have HO244 := n2_; have HO247 := n3_; have HO250 := n4_; have BK234 := n5_; have BK235 := n6_; have HB := n7_; clear n0_ n1_ n2_ n3_ n4_ n5_ n6_ n7_; (try clear hb); (try clear hb2); (try clear hk); (try clear hi); (try clear ho0); (try clear ho1); (try clear ho2); (try clear ho3); (try clear ho4)) | ((with_reducible refine gate_dst (N := 5) rfl ?_); refine box_event ?hg (N := 5) ?hd (cs := #[.slice none 0 0, .slice none 0 0, .slice none 0 0, .slice none 0 0, .slice none 0 0]) (t := 27) ?hr ?_; (case hd => rfl); (case hg => rfl); (case hr => first | (go_simp; done) | (go_simp; rfl)); intro gb252 hg w12 hbox hb; have n0_ := Aside0.mk (Kd.R_below (by (with_reducible repeat (first | apply Kd.R_alloc | apply Kd.R_drewN | apply Kd.R_drew)); exact HO238.out) hb); have n1_ := Aside0.mk (Kd.R_below (by (with_reducible repeat (first | apply Kd.R_alloc | apply Kd.R_drewN | apply Kd.R_drew)); exact HO241.out) hb); have n2_ := Aside0.mk (Kd.R_below (by (with_reducible repeat (first | apply Kd.R_alloc | apply Kd.R_drewN | apply Kd.R_drew)); exact HO244.out) hb); have n3_ := Aside0.mk (Kd.S_below (by (with_reducible repeat (first | apply Kd.S_alloc | apply Kd.S_drewN | apply Kd.S_drew)); exact HO247.out) hb); have n4_ := Aside0.mk (Kd.R_below (by (with_reducible repeat (first | apply Kd.R_alloc | apply Kd.R_drewN | apply Kd.R_drew)); exact HO250.out) hb); have n5_ := Aside0.mk (blk_below (g := gb234) (o := .cells #[.slice A0_0 l0_0.length c0_0, .slice A0_1 l0_1.length c0_1, .slice A0_2 l0_2.length c0_2, .slice A0_3 l0_3.length c0_3, .slice A0_4 l0_4.length c0_4] 27 (0, 0)) (by (with_reducible repeat (first | refine blk_drewN ?_ _ | refine blk_drew ?_ | refine blk_alloc ?_ _)); exact BK234.out) hb); have n6_ := Aside0.mk (blk_below (g := gb235) (o := .cells #[.int .i64 a1_0, .int .i64 a1_1, .bool a1_2] 29 (0, 0)) (by (with_reducible repeat (first | refine blk_drewN ?_ _ | refine blk_drew ?_ | refine blk_alloc ?_ _)); exact BK235.out) hb); have n7_ := Aside0.mk (below_step (by repeat (first | (with_reducible first | exact HB.out | apply below_alloc | apply pw_below_drewN | apply below_drew1 | refine below_set ?_ GE234.out | refine below_set ?_ GE235.out) | exact HB.out)) hb); have n8_ := Aside0.mk (hbox); have n9_ := Aside0.mk ((by rw [hg]; exact (below_size (by repeat (first | (with_reducible first | exact HB.out | apply below_alloc | apply pw_below_drewN | apply below_drew1 | refine below_set ?_ GE234.out | refine below_set ?_ GE235.out) | exact HB.out))) : w.heap.size ≤ gb252)); have n10_ := Aside0.mk ((by rw [hg]; exact (below_size (by repeat (first | (with_reducible first | exact HB.out | apply below_alloc | apply pw_below_drewN | apply below_drew1 | refine below_set ?_ GE234.out | refine below_set ?_ GE235.out) | exact HB.out))) : w.heap.size ≤ gb252)); have n11_ := Aside0.mk ((by rw [hg]; exact Nat.ne_of_lt (blk_lt (g := gb234) (o := .cells #[.slice A0_0 l0_0.length c0_0, .slice A0_1 l0_1.length c0_1, .slice A0_2 l0_2.length c0_2, .slice A0_3 l0_3.length c0_3, .slice A0_4 l0_4.length c0_4] 27 (0, 0)) (by (with_reducible repeat (first | refine blk_drewN ?_ _ | refine blk_drew ?_ | refine blk_alloc ?_ _)); exact BK234.out)) : gb234 ≠ gb252)); have n12_ := Aside0.mk ((by rw [hg]; exact Nat.ne_of_gt (blk_lt (g := gb234) (o := .cells #[.slice A0_0 l0_0.length c0_0, .slice A0_1 l0_1.length c0_1, .slice A0_2 l0_2.length c0_2, .slice A0_3 l0_3.length c0_3, .slice A0_4 l0_4.length c0_4] 27 (0, 0)) (by (with_reducible repeat (first | refine blk_drewN ?_ _ | refine blk_drew ?_ | refine blk_alloc ?_ _)); exact BK234.out)) : gb252 ≠ gb234)); have n13_ := Aside0.mk ((by rw [hg]; exact Nat.ne_of_lt (blk_lt (g := gb235) (o := .cells #[.int .i64 a1_0, .int .i64 a1_1, .bool a1_2] 29 (0, 0)) (by (with_reducible repeat (first | refine blk_drewN ?_ _ | refine blk_drew ?_ | refine blk_alloc ?_ _)); exact BK235.out)) : gb235 ≠ gb252)); have n14_ := Aside0.mk ((by rw [hg]; exact Nat.ne_of_gt (blk_lt (g := gb235) (o := .cells #[.int .i64 a1_0, .int .i64 a1_1, .bool a1_2] 29 (0, 0)) (by (with_reducible repeat (first | refine blk_drewN ?_ _ | refine blk_drew ?_ | refine blk_alloc ?_ _)); exact BK235.out)) : gb252 ≠ gb235)); clear HO238; clear HO241; clear HO244; clear HO247; clear HO250; clear BK234; clear BK235; clear HB; have HO238 := n0_; have HO241 := n1_; have HO244 := n2_; have HO247 := n3_; have HO250 := n4_; have BK234 := n5_; have BK235 := n6_; have HB := n7_; have BK252 := n8_; have GW252 := n9_; have GE252 := n10_; have NB234_252 := n11_; have NB252_234 := n12_; have NB235_252 := n13_; have NB252_235 := n14_; clear n0_ n1_ n2_ n3_ n4_ n5_ n6_ n7_ n8_ n9_ n10_ n11_ n12_ n13_ n14_; clear hb hbox hg; obtain ⟨Ao13, co13, eo13⟩ := Kd.R_slice HO238.out; subst eo13; have hnb14 := NB252_234.out; have hnc14 := NB234_252.out; have hnb15 := NB252_235.out; have hnc15 := NB235_252.out; have hcz16_0 : w12.cell? ⟨gb252, 0, none⟩ = some (.slice none 0 0) := (blk_cell BK252.out 0).trans rfl; have hcz16_1 : w12.cell? ⟨gb252, 1, none⟩ = some (.slice none 0 0) := (blk_cell BK252.out 1).trans rfl; have hcz16_2 : w12.cell? ⟨gb252, 2, none⟩ = some (.slice none 0 0) := (blk_cell BK252.out 2).trans rfl; have hcz16_3 : w12.cell? ⟨gb252, 3, none⟩ = some (.slice none 0 0) := (blk_cell BK252.out 3).trans rfl; have hcz16_4 : w12.cell? ⟨gb252, 4, none⟩ = some (.slice none 0 0) := (blk_cell BK252.out 4).trans rfl; have hfz16_0 := blk_frozen BK252.out 0; have hfz16_1 := blk_frozen BK252.out 1; have hfz16_2 := blk_frozen BK252.out 2; have hfz16_3 := blk_frozen BK252.out 3; have hfz16_4 := blk_frozen BK252.out 4; obtain ⟨Ao17, co17, eo17⟩ := Kd.R_slice HO241.out; subst eo17; obtain ⟨Ao18, co18, eo18⟩ := Kd.R_slice HO244.out; subst eo18; obtain ⟨Ao19, co19, eo19⟩ := Kd.S_slice HO247.out; subst eo19; obtain ⟨Ao20, co20, eo20⟩ := Kd.R_slice HO250.out; subst eo20; have hcz21_0 : w12.cell? ⟨gb234, 0, none⟩ = some (.slice A0_0 l0_0.length c0_0) := (blk_cell BK234.out 0).trans rfl; have hcz21_1 : w12.cell? ⟨gb234, 1, none⟩ = some (.slice A0_1 l0_1.length c0_1) := (blk_cell BK234.out 1).trans rfl; have hcz21_2 : w12.cell? ⟨gb234, 2, none⟩ = some (.slice A0_2 l0_2.length c0_2) := (blk_cell BK234.out 2).trans rfl; have hcz21_3 : w12.cell? ⟨gb234, 3, none⟩ = some (.slice A0_3 l0_3.length c0_3) := (blk_cell BK234.out 3).trans rfl; have hcz21_4 : w12.cell? ⟨gb234, 4, none⟩ = some (.slice A0_4 l0_4.length c0_4) := (blk_cell BK234.out 4).trans rfl; have hfz21_0 := blk_frozen BK234.out 0; have hfz21_1 := blk_frozen BK234.out 1; have hfz21_2 := blk_frozen BK234.out 2; have hfz21_3 := blk_frozen BK234.out 3; have hfz21_4 := blk_frozen BK234.out 4) | ((with_reducible refine gate_callee (f := 9) rfl ?_); refine goesL_ (some 15) rfl rfl Try.func9 (by kernel_rfl) rfl #[.agg #[.slice A0_0 l0_0.length c0_0, .slice A0_1 l0_1.length c0_1, .slice A0_2 l0_2.length c0_2, .slice A0_3 l0_3.length c0_3, .slice A0_4 l0_4.length c0_4]] rfl (by (try simp only [List.map_toArray, List.map_cons, List.map_nil]); first | done | rfl | (simp only [List.length_drop, List.length_take]; rfl)) ?_; (with_reducible refine (netlist_Form.calls k _ _ l0_0 _ _ l0_1 _ _ l0_2 _ _ l0_3 _ _ l0_4 t253 _ ?side1 ?side2 ?side3 ?side4 ?side5 ?side6 ?side7 ?side8 ?side9 ?side10 A4.out).mono ?_); (case side1 => exact Kd.C_below HR0_0.out (by repeat (first | (with_reducible first | exact HB.out | apply below_alloc | apply pw_below_drewN | apply below_drew1 | refine below_set ?_ GE234.out | refine below_set ?_ GE235.out | refine below_set ?_ GE252.out) | exact HB.out))); (case side2 => exact HC0_0.out); (case side3 => exact Kd.C_below HR0_1.out (by repeat (first | (with_reducible first | exact HB.out | apply below_alloc | apply pw_below_drewN | apply below_drew1 | refine below_set ?_ GE234.out | refine below_set ?_ GE235.out | refine below_set ?_ GE252.out) | exact HB.out))); (case side4 => exact HC0_1.out); (case side5 => exact Kd.C_below HR0_2.out (by repeat (first | (with_reducible first | exact HB.out | apply below_alloc | apply pw_below_drewN | apply below_drew1 | refine below_set ?_ GE234.out | refine below_set ?_ GE235.out | refine below_set ?_ GE252.out) | exact HB.out))); (case side6 => exact HC0_2.out); (case side7 => exact Kd.C_below HR0_3.out (by repeat (first | (with_reducible first | exact HB.out | apply below_alloc | apply pw_below_drewN | apply below_drew1 | refine below_set ?_ GE234.out | refine below_set ?_ GE235.out | refine below_set ?_ GE252.out) | exact HB.out))); (case side8 => exact HC0_3.out); (case side9 => exact Kd.C_below HR0_4.out (by repeat (first | (with_reducible first | exact HB.out | apply below_alloc | apply pw_below_drewN | apply below_drew1 | refine below_set ?_ GE234.out | refine below_set ?_ GE235.out | refine below_set ?_ GE252.out) | exact HB.out))); (case side10 => exact HC0_4.out); rintro e w22 ⟨rfl, hb⟩; refine ⟨_, rfl, ?_⟩; have n0_ := Aside0.mk (Kd.R_below (by (with_reducible repeat (first | apply Kd.R_alloc | apply Kd.R_drewN | apply Kd.R_drew)); exact (Kd.R_mono (Kd.R_far (p := ⟨gb252, 4, none⟩) (Kd.R_far (p := ⟨gb252, 3, none⟩) (Kd.R_far (p := ⟨gb252, 2, none⟩) (Kd.R_far (p := ⟨gb252, 1, none⟩) (Kd.R_far (p := ⟨gb252, 0, none⟩) (Kd.R_types HO238.out BK252.out (by decide)) (fun _ hk => hk.2) (.slice Ao13 t236.length co13)) (fun _ hk => hk.2) (.slice Ao17 t239.length co17)) (fun _ hk => hk.2) (.slice Ao18 t242.length co18)) (fun _ hk => hk.2) (.slice Ao19 t245.length co19)) (fun _ hk => hk.2) (.slice Ao20 t248.length co20)) (fun _ h_ => h_.1))) hb); have n1_ := Aside0.mk (Kd.R_below (by (with_reducible repeat (first | apply Kd.R_alloc | apply Kd.R_drewN | apply Kd.R_drew)); exact (Kd.R_mono (Kd.R_far (p := ⟨gb252, 4, none⟩) (Kd.R_far (p := ⟨gb252, 3, none⟩) (Kd.R_far (p := ⟨gb252, 2, none⟩) (Kd.R_far (p := ⟨gb252, 1, none⟩) (Kd.R_far (p := ⟨gb252, 0, none⟩) (Kd.R_types HO241.out BK252.out (by decide)) (fun _ hk => hk.2) (.slice Ao13 t236.length co13)) (fun _ hk => hk.2) (.slice Ao17 t239.length co17)) (fun _ hk => hk.2) (.slice Ao18 t242.length co18)) (fun _ hk => hk.2) (.slice Ao19 t245.length co19)) (fun _ hk => hk.2) (.slice Ao20 t248.length co20)) (fun _ h_ => h_.1))) hb); have n2_ := Aside0.mk (Kd.R_below (by (with_reducible repeat (first | apply Kd.R_alloc | apply Kd.R_drewN | apply Kd.R_drew)); exact (Kd.R_mono (Kd.R_far (p := ⟨gb252, 4, none⟩) (Kd.R_far (p := ⟨gb252, 3, none⟩) (Kd.R_far (p := ⟨gb252, 2, none⟩) (Kd.R_far (p := ⟨gb252, 1, none⟩) (Kd.R_far (p := ⟨gb252, 0, none⟩) (Kd.R_types HO244.out BK252.out (by decide)) (fun _ hk => hk.2) (.slice Ao13 t236.length co13)) (fun _ hk => hk.2) (.slice Ao17 t239.length co17)) (fun _ hk => hk.2) (.slice Ao18 t242.length co18)) (fun _ hk => hk.2) (.slice Ao19 t245.length co19)) (fun _ hk => hk.2) (.slice Ao20 t248.length co20)) (fun _ h_ => h_.1))) hb); have n3_ := Aside0.mk (Kd.S_below (by (with_reducible repeat (first | apply Kd.S_alloc | apply Kd.S_drewN | apply Kd.S_drew)); exact (Kd.S_mono (Kd.S_far (p := ⟨gb252, 4, none⟩) (Kd.S_far (p := ⟨gb252, 3, none⟩) (Kd.S_far (p := ⟨gb252, 2, none⟩) (Kd.S_far (p := ⟨gb252, 1, none⟩) (Kd.S_far (p := ⟨gb252, 0, none⟩) (Kd.S_types HO247.out BK252.out (by decide)) (fun _ hk => hk.2) (.slice Ao13 t236.length co13)) (fun _ hk => hk.2) (.slice Ao17 t239.length co17)) (fun _ hk => hk.2) (.slice Ao18 t242.length co18)) (fun _ hk => hk.2) (.slice Ao19 t245.length co19)) (fun _ hk => hk.2) (.slice Ao20 t248.length co20)) (fun _ h_ => h_.1))) hb); have n4_ := Aside0.mk (Kd.R_below (by (with_reducible repeat (first | apply Kd.R_alloc | apply Kd.R_drewN | apply Kd.R_drew)); exact (Kd.R_mono (Kd.R_far (p := ⟨gb252, 4, none⟩) (Kd.R_far (p := ⟨gb252, 3, none⟩) (Kd.R_far (p := ⟨gb252, 2, none⟩) (Kd.R_far (p := ⟨gb252, 1, none⟩) (Kd.R_far (p := ⟨gb252, 0, none⟩) (Kd.R_types HO250.out BK252.out (by decide)) (fun _ hk => hk.2) (.slice Ao13 t236.length co13)) (fun _ hk => hk.2) (.slice Ao17 t239.length co17)) (fun _ hk => hk.2) (.slice Ao18 t242.length co18)) (fun _ hk => hk.2) (.slice Ao19 t245.length co19)) (fun _ hk => hk.2) (.slice Ao20 t248.length co20)) (fun _ h_ => h_.1))) hb); have n5_ := Aside0.mk (blk_below (g := gb234) (o := .cells #[.slice A0_0 l0_0.length c0_0, .slice A0_1 l0_1.length c0_1, .slice A0_2 l0_2.length c0_2, .slice A0_3 l0_3.length c0_3, .slice A0_4 l0_4.length c0_4] 27 (0, 0)) (by (with_reducible repeat (first | refine blk_drewN ?_ _ | refine blk_drew ?_ | refine blk_alloc ?_ _)); refine blk_far ?_ NB234_252.out _; (with_reducible repeat (first | refine blk_drewN ?_ _ | refine blk_drew ?_ | refine blk_alloc ?_ _)); refine blk_far ?_ NB234_252.out _; (with_reducible repeat (first | refine blk_drewN ?_ _ | refine blk_drew ?_ | refine blk_alloc ?_ _)); refine blk_far ?_ NB234_252.out _; (with_reducible repeat (first | refine blk_drewN ?_ _ | refine blk_drew ?_ | refine blk_alloc ?_ _)); refine blk_far ?_ NB234_252.out _; (with_reducible repeat (first | refine blk_drewN ?_ _ | refine blk_drew ?_ | refine blk_alloc ?_ _)); refine blk_far ?_ NB234_252.out _; (with_reducible repeat (first | refine blk_drewN ?_ _ | refine blk_drew ?_ | refine blk_alloc ?_ _)); exact BK234.out) hb); have n6_ := Aside0.mk (blk_below (g := gb235) (o := .cells #[.int .i64 a1_0, .int .i64 a1_1, .bool a1_2] 29 (0, 0)) (by (with_reducible repeat (first | refine blk_drewN ?_ _ | refine blk_drew ?_ | refine blk_alloc ?_ _)); refine blk_far ?_ NB235_252.out _; (with_reducible repeat (first | refine blk_drewN ?_ _ | refine blk_drew ?_ | refine blk_alloc ?_ _)); refine blk_far ?_ NB235_252.out _; (with_reducible repeat (first | refine blk_drewN ?_ _ | refine blk_drew ?_ | refine blk_alloc ?_ _)); refine blk_far ?_ NB235_252.out _; (with_reducible repeat (first | refine blk_drewN ?_ _ | refine blk_drew ?_ | refine blk_alloc ?_ _)); refine blk_far ?_ NB235_252.out _; (with_reducible repeat (first | refine blk_drewN ?_ _ | refine blk_drew ?_ | refine blk_alloc ?_ _)); refine blk_far ?_ NB235_252.out _; (with_reducible repeat (first | refine blk_drewN ?_ _ | refine blk_drew ?_ | refine blk_alloc ?_ _)); exact BK235.out) hb); have n7_ := Aside0.mk (blk_below (g := gb252) (o := .cells #[.slice Ao13 t236.length co13, .slice Ao17 t239.length co17, .slice Ao18 t242.length co18, .slice Ao19 t245.length co19, .slice Ao20 t248.length co20] 27 (0, 0)) (by (with_reducible repeat (first | refine blk_drewN ?_ _ | refine blk_drew ?_ | refine blk_alloc ?_ _)); refine blk_put (cs := #[.slice Ao13 t236.length co13, .slice Ao17 t239.length co17, .slice Ao18 t242.length co18, .slice Ao19 t245.length co19, .slice none 0 0]) ?_ 4 _ rfl; (with_reducible repeat (first | refine blk_drewN ?_ _ | refine blk_drew ?_ | refine blk_alloc ?_ _)); refine blk_put (cs := #[.slice Ao13 t236.length co13, .slice Ao17 t239.length co17, .slice Ao18 t242.length co18, .slice none 0 0, .slice none 0 0]) ?_ 3 _ rfl; (with_reducible repeat (first | refine blk_drewN ?_ _ | refine blk_drew ?_ | refine blk_alloc ?_ _)); refine blk_put (cs := #[.slice Ao13 t236.length co13, .slice Ao17 t239.length co17, .slice none 0 0, .slice none 0 0, .slice none 0 0]) ?_ 2 _ rfl; (with_reducible repeat (first | refine blk_drewN ?_ _ | refine blk_drew ?_ | refine blk_alloc ?_ _)); refine blk_put (cs := #[.slice Ao13 t236.length co13, .slice none 0 0, .slice none 0 0, .slice none 0 0, .slice none 0 0]) ?_ 1 _ rfl; (with_reducible repeat (first | refine blk_drewN ?_ _ | refine blk_drew ?_ | refine blk_alloc ?_ _)); refine blk_put (cs := #[.slice none 0 0, .slice none 0 0, .slice none 0 0, .slice none 0 0, .slice none 0 0]) ?_ 0 _ rfl; (with_reducible repeat (first | refine blk_drewN ?_ _ | refine blk_drew ?_ | refine blk_alloc ?_ _)); exact BK252.out) hb); have n8_ := Aside0.mk (below_step (by repeat (first | (with_reducible first | exact HB.out | apply below_alloc | apply pw_below_drewN | apply below_drew1 | refine below_set ?_ GE234.out | refine below_set ?_ GE235.out | refine below_set ?_ GE252.out) | exact HB.out)) hb); clear HO238; clear HO241; clear HO244; clear HO247; clear HO250; clear BK234; clear BK235; clear BK252; clear HB; have HO238 := n0_; have HO241 := n1_; have HO244 := n2_; have HO247 := n3_; have HO250 := n4_; have BK234 := n5_; have BK235 := n6_; have BK252 := n7_; have HB := n8_; clear n0_ n1_ n2_ n3_ n4_ n5_ n6_ n7_ n8_; (try clear hb); (try clear hb2); (try clear hk); (try clear hi)))
 (try simp only [Act.put, List.setIfInBounds_toArray, List.set_cons_zero, List.set_cons_succ])
 go_cut [7] (fun v7 wc => ∃ (kq : Nat) (x7_4 : Int), v7 = .int .i64 x7_4 ∧ Aside0 (masklaw2_FaultInjects.j0 kq t251 x7_4 l0_0 l0_1 l0_2 l0_3 l0_4 a1_0 a1_1 a1_2 t236 t239 t242 t245 t248 = some r) ∧ Aside0 (kq ≤ k) ∧ Aside0 (Kd.R Kd.string 9 wc w.heap.size (fun k_ => some k_ ≠ ((.slice Ao17 t239.length co17) : Value).ownBlock) (.slice Ao13 t236.length co13) t236) ∧ Aside0 (Kd.R Kd.string 9 wc w.heap.size (fun k_ => some k_ ≠ ((.slice Ao13 t236.length co13) : Value).ownBlock) (.slice Ao17 t239.length co17) t239) ∧ Aside0 (Kd.R k82 82 wc w.heap.size (fun _ => True) (.slice Ao18 t242.length co18) t242) ∧ Aside0 (Kd.S k80 80 wc w.heap.size (fun k_ => some k_ ≠ ((.slice Ao20 t248.length co20) : Value).ownBlock) (.slice Ao19 t245.length co19) t245) ∧ Aside0 (Kd.R (Kd.int .i64) 3 wc w.heap.size (fun _ => True) (.slice Ao20 t248.length co20) t248) ∧ Aside0 (wc.heap[gb234]? = some (.cells #[(.slice A0_0 l0_0.length c0_0), (.slice A0_1 l0_1.length c0_1), (.slice A0_2 l0_2.length c0_2), (.slice A0_3 l0_3.length c0_3), (.slice A0_4 l0_4.length c0_4)] 27 (0, 0))) ∧ Aside0 (wc.heap[gb235]? = some (.cells #[.int .i64 a1_0, .int .i64 a1_1, .bool a1_2] 29 (0, 0))) ∧ Aside0 (wc.heap[gb252]? = some (.cells #[(.slice Ao13 t236.length co13), (.slice Ao17 t239.length co17), (.slice Ao18 t242.length co18), (.slice Ao19 t245.length co19), (.slice Ao20 t248.length co20)] 27 (0, 0))) ∧ Aside0 (Below w.heap.size w wc))
 case first =>
   have H := HC5.out
   clear HC5
   by_cases c23 : t253 = 0
   · rw [if_pos c23] at H
     have c23b0 : (t253 == 0) = true := beq_iff_eq.mpr c23
     have c23b1 : (t253 != 0) = false := bne_eq_false_iff_eq.mpr c23
     clear c23
     (first | rw [c23b0] | (simp only [i64_w, i32_w]; rw [c23b0]) | skip)
     replace H := Option.bind_eq_some_iff.mp H
     obtain ⟨t254, A240, H⟩ := H
     replace H : (masklaw2_FaultInjects.j0 k t251 t254 l0_0 l0_1 l0_2 l0_3 l0_4 a1_0 a1_1 a1_2 t236 t239 t242 t245 t248) = some r := H
     have A24 := Aside0.mk A240
     clear A240
     have H' := Aside0.mk H
     clear H
     have hnb25 := NB234_235.out
     have hnc25 := NB235_234.out
     have hnb26 := NB234_252.out
     have hnc26 := NB252_234.out
     have hcz27_0 : w22.cell? ⟨gb234, 0, none⟩ = some (.slice A0_0 l0_0.length c0_0) := (blk_cell BK234.out 0).trans rfl
     have hcz27_1 : w22.cell? ⟨gb234, 1, none⟩ = some (.slice A0_1 l0_1.length c0_1) := (blk_cell BK234.out 1).trans rfl
     have hcz27_2 : w22.cell? ⟨gb234, 2, none⟩ = some (.slice A0_2 l0_2.length c0_2) := (blk_cell BK234.out 2).trans rfl
     have hcz27_3 : w22.cell? ⟨gb234, 3, none⟩ = some (.slice A0_3 l0_3.length c0_3) := (blk_cell BK234.out 3).trans rfl
     have hcz27_4 : w22.cell? ⟨gb234, 4, none⟩ = some (.slice A0_4 l0_4.length c0_4) := (blk_cell BK234.out 4).trans rfl
     have hfz27_0 := blk_frozen BK234.out 0
     have hfz27_1 := blk_frozen BK234.out 1
     have hfz27_2 := blk_frozen BK234.out 2
     have hfz27_3 := blk_frozen BK234.out 3
     have hfz27_4 := blk_frozen BK234.out 4
     have hnb28 := NB235_252.out
     have hnc28 := NB252_235.out
     have hcz29_0 : w22.cell? ⟨gb235, 0, none⟩ = some (.int .i64 a1_0) := (blk_cell BK235.out 0).trans rfl
     have hcz29_1 : w22.cell? ⟨gb235, 1, none⟩ = some (.int .i64 a1_1) := (blk_cell BK235.out 1).trans rfl
     have hcz29_2 : w22.cell? ⟨gb235, 2, none⟩ = some (.bool a1_2) := (blk_cell BK235.out 2).trans rfl
     have hfz29_0 := blk_frozen BK235.out 0
     have hfz29_1 := blk_frozen BK235.out 1
     have hfz29_2 := blk_frozen BK235.out 2
     go_wp2_with (first | ((with_reducible refine gate_callee (f := 10) rfl ?_); refine goesL_ (some 20) rfl rfl Try.func10 (by kernel_rfl) rfl #[.agg #[.slice A0_0 l0_0.length c0_0, .slice A0_1 l0_1.length c0_1, .slice A0_2 l0_2.length c0_2, .slice A0_3 l0_3.length c0_3, .slice A0_4 l0_4.length c0_4], .agg #[.int .i64 a1_0, .int .i64 a1_1, .bool a1_2]] rfl (by (try simp only [List.map_toArray, List.map_cons, List.map_nil]); first | done | rfl | (simp only [List.length_drop, List.length_take]; rfl)) ?_; (with_reducible refine (maskref2_FaultFault.calls k _ _ l0_0 _ _ l0_1 _ _ l0_2 _ _ l0_3 _ _ l0_4 a1_0 a1_1 a1_2 t254 _ ?side1 ?side2 ?side3 ?side4 ?side5 ?side6 ?side7 ?side8 ?side9 ?side10 A24.out).mono ?_); (case side1 => repeat (first | exact (Kd.C_below HR0_0.out HB.out) | (with_reducible refine Kd.C_alloc ?_ _) | (with_reducible refine Kd.C_drewN ?_ _) | (with_reducible refine Kd.C_drew ?_))); (case side2 => exact HC0_0.out); (case side3 => repeat (first | exact (Kd.C_below HR0_1.out HB.out) | (with_reducible refine Kd.C_alloc ?_ _) | (with_reducible refine Kd.C_drewN ?_ _) | (with_reducible refine Kd.C_drew ?_))); (case side4 => exact HC0_1.out); (case side5 => repeat (first | exact (Kd.C_below HR0_2.out HB.out) | (with_reducible refine Kd.C_alloc ?_ _) | (with_reducible refine Kd.C_drewN ?_ _) | (with_reducible refine Kd.C_drew ?_))); (case side6 => exact HC0_2.out); (case side7 => repeat (first | exact (Kd.C_below HR0_3.out HB.out) | (with_reducible refine Kd.C_alloc ?_ _) | (with_reducible refine Kd.C_drewN ?_ _) | (with_reducible refine Kd.C_drew ?_))); (case side8 => exact HC0_3.out); (case side9 => repeat (first | exact (Kd.C_below HR0_4.out HB.out) | (with_reducible refine Kd.C_alloc ?_ _) | (with_reducible refine Kd.C_drewN ?_ _) | (with_reducible refine Kd.C_drew ?_))); (case side10 => exact HC0_4.out); rintro e w30 ⟨rfl, hb⟩; refine ⟨_, rfl, ?_⟩; have n0_ := Aside0.mk (Kd.R_below (by (with_reducible repeat (first | apply Kd.R_alloc | apply Kd.R_drewN | apply Kd.R_drew)); exact HO238.out) hb); have n1_ := Aside0.mk (Kd.R_below (by (with_reducible repeat (first | apply Kd.R_alloc | apply Kd.R_drewN | apply Kd.R_drew)); exact HO241.out) hb); have n2_ := Aside0.mk (Kd.R_below (by (with_reducible repeat (first | apply Kd.R_alloc | apply Kd.R_drewN | apply Kd.R_drew)); exact HO244.out) hb); have n3_ := Aside0.mk (Kd.S_below (by (with_reducible repeat (first | apply Kd.S_alloc | apply Kd.S_drewN | apply Kd.S_drew)); exact HO247.out) hb); have n4_ := Aside0.mk (Kd.R_below (by (with_reducible repeat (first | apply Kd.R_alloc | apply Kd.R_drewN | apply Kd.R_drew)); exact HO250.out) hb); have n5_ := Aside0.mk (blk_below (g := gb234) (o := .cells #[.slice A0_0 l0_0.length c0_0, .slice A0_1 l0_1.length c0_1, .slice A0_2 l0_2.length c0_2, .slice A0_3 l0_3.length c0_3, .slice A0_4 l0_4.length c0_4] 27 (0, 0)) (by (with_reducible repeat (first | refine blk_drewN ?_ _ | refine blk_drew ?_ | refine blk_alloc ?_ _)); exact BK234.out) hb); have n6_ := Aside0.mk (blk_below (g := gb235) (o := .cells #[.int .i64 a1_0, .int .i64 a1_1, .bool a1_2] 29 (0, 0)) (by (with_reducible repeat (first | refine blk_drewN ?_ _ | refine blk_drew ?_ | refine blk_alloc ?_ _)); exact BK235.out) hb); have n7_ := Aside0.mk (blk_below (g := gb252) (o := .cells #[.slice Ao13 t236.length co13, .slice Ao17 t239.length co17, .slice Ao18 t242.length co18, .slice Ao19 t245.length co19, .slice Ao20 t248.length co20] 27 (0, 0)) (by (with_reducible repeat (first | refine blk_drewN ?_ _ | refine blk_drew ?_ | refine blk_alloc ?_ _)); exact BK252.out) hb); have n8_ := Aside0.mk (below_step (by repeat (first | (with_reducible first | exact HB.out | apply below_alloc | apply pw_below_drewN | apply below_drew1 | refine below_set ?_ GE234.out | refine below_set ?_ GE235.out | refine below_set ?_ GE252.out) | exact HB.out)) hb); clear HO238; clear HO241; clear HO244; clear HO247; clear HO250; clear BK234; clear BK235; clear BK252; clear HB; have HO238 := n0_; have HO241 := n1_; have HO244 := n2_; have HO247 := n3_; have HO250 := n4_; have BK234 := n5_; have BK235 := n6_; have BK252 := n7_; have HB := n8_; clear n0_ n1_ n2_ n3_ n4_ n5_ n6_ n7_ n8_; (try clear hb); (try clear hb2); (try clear hk); (try clear hi)))
     go_meet
     case rel => exact ⟨_, (t254), (by first | rfl | (simp; done) | (simp [*]; done)), H', ⟨by first | omega | exact Nat.le_refl _⟩, ⟨by (with_reducible repeat (first | apply Kd.R_alloc | apply Kd.R_drewN | apply Kd.R_drew)); exact HO238.out⟩, ⟨by (with_reducible repeat (first | apply Kd.R_alloc | apply Kd.R_drewN | apply Kd.R_drew)); exact HO241.out⟩, ⟨by (with_reducible repeat (first | apply Kd.R_alloc | apply Kd.R_drewN | apply Kd.R_drew)); exact HO244.out⟩, ⟨by (with_reducible repeat (first | apply Kd.S_alloc | apply Kd.S_drewN | apply Kd.S_drew)); exact HO247.out⟩, ⟨by (with_reducible repeat (first | apply Kd.R_alloc | apply Kd.R_drewN | apply Kd.R_drew)); exact HO250.out⟩, ⟨by (with_reducible repeat (first | refine blk_drewN ?_ _ | refine blk_drew ?_ | refine blk_alloc ?_ _)); exact BK234.out⟩, ⟨by (with_reducible repeat (first | refine blk_drewN ?_ _ | refine blk_drew ?_ | refine blk_alloc ?_ _)); exact BK235.out⟩, ⟨by (with_reducible repeat (first | refine blk_drewN ?_ _ | refine blk_drew ?_ | refine blk_alloc ?_ _)); exact BK252.out⟩, ⟨by repeat (first | (with_reducible first | exact HB.out | apply below_alloc | apply pw_below_drewN | apply below_drew1 | refine below_set ?_ GE234.out | refine below_set ?_ GE235.out | refine below_set ?_ GE252.out) | exact HB.out)⟩⟩
   · rw [if_neg c23] at H
     have c23b0 : (t253 == 0) = false := beq_eq_false_iff_ne.mpr c23
     have c23b1 : (t253 != 0) = true := bne_iff_ne.mpr c23
     (first | rw [c23b0] | (simp only [i64_w, i32_w]; rw [c23b0]) | skip)
     have H' := Aside0.mk H
     clear H
     go_wp2
     go_meet
     case rel => exact ⟨_, (t253), (by first | rfl | (simp; done) | (simp [*]; done)), H', ⟨by first | omega | exact Nat.le_refl _⟩, ⟨by (with_reducible repeat (first | apply Kd.R_alloc | apply Kd.R_drewN | apply Kd.R_drew)); exact HO238.out⟩, ⟨by (with_reducible repeat (first | apply Kd.R_alloc | apply Kd.R_drewN | apply Kd.R_drew)); exact HO241.out⟩, ⟨by (with_reducible repeat (first | apply Kd.R_alloc | apply Kd.R_drewN | apply Kd.R_drew)); exact HO244.out⟩, ⟨by (with_reducible repeat (first | apply Kd.S_alloc | apply Kd.S_drewN | apply Kd.S_drew)); exact HO247.out⟩, ⟨by (with_reducible repeat (first | apply Kd.R_alloc | apply Kd.R_drewN | apply Kd.R_drew)); exact HO250.out⟩, ⟨by (with_reducible repeat (first | refine blk_drewN ?_ _ | refine blk_drew ?_ | refine blk_alloc ?_ _)); exact BK234.out⟩, ⟨by (with_reducible repeat (first | refine blk_drewN ?_ _ | refine blk_drew ?_ | refine blk_alloc ?_ _)); exact BK235.out⟩, ⟨by (with_reducible repeat (first | refine blk_drewN ?_ _ | refine blk_drew ?_ | refine blk_alloc ?_ _)); exact BK252.out⟩, ⟨by repeat (first | (with_reducible first | exact HB.out | apply below_alloc | apply pw_below_drewN | apply below_drew1 | refine below_set ?_ GE234.out | refine below_set ?_ GE235.out | refine below_set ?_ GE252.out) | exact HB.out)⟩⟩
 case rest =>
   clear HC5
   try clear c1
   try clear c2
   try clear p2
   try clear c3
   try clear c8
   try clear c9
   try clear c10
   try clear c14
   try clear c15
   try clear c23
   try clear c23b0
   try clear c23b1
   try clear c25
   try clear c26
   try clear c28
   try clear hcz10_0
   try clear hcz10_1
   try clear hcz10_2
   try clear hcz16_0
   try clear hcz16_1
   try clear hcz16_2
   try clear hcz16_3
   try clear hcz16_4
   try clear hcz21_0
   try clear hcz21_1
   try clear hcz21_2
   try clear hcz21_3
   try clear hcz21_4
   try clear hcz27_0
   try clear hcz27_1
   try clear hcz27_2
   try clear hcz27_3
   try clear hcz27_4
   try clear hcz29_0
   try clear hcz29_1
   try clear hcz29_2
   try clear hcz9_0
   try clear hcz9_1
   try clear hcz9_2
   try clear hcz9_3
   try clear hcz9_4
   try clear hfz10_0
   try clear hfz10_1
   try clear hfz10_2
   try clear hfz16_0
   try clear hfz16_1
   try clear hfz16_2
   try clear hfz16_3
   try clear hfz16_4
   try clear hfz21_0
   try clear hfz21_1
   try clear hfz21_2
   try clear hfz21_3
   try clear hfz21_4
   try clear hfz27_0
   try clear hfz27_1
   try clear hfz27_2
   try clear hfz27_3
   try clear hfz27_4
   try clear hfz29_0
   try clear hfz29_1
   try clear hfz29_2
   try clear hfz9_0
   try clear hfz9_1
   try clear hfz9_2
   try clear hfz9_3
   try clear hfz9_4
   obtain ⟨kq, x7_4, rfl, HA, HJ4, HO_253000, HO_253001, HO_253002, HO_253003, HO_253004, BK234, BK235, BK252, HB⟩ := hcut
   cases kq with
   | zero => exact absurd HA.out (by simp [masklaw2_FaultInjects.j0])
   | succ kj4 =>
     have H := HA.out
     clear HA
     simp only [masklaw2_FaultInjects.j0] at H
     by_cases c31 : x7_4 = 0
     · rw [if_pos c31] at H
       have c31b0 : (x7_4 == 0) = true := beq_iff_eq.mpr c31
       have c31b1 : (x7_4 != 0) = false := bne_eq_false_iff_eq.mpr c31
       clear c31
       replace H := Option.bind_eq_some_iff.mp H
       obtain ⟨t255, A320, H⟩ := H
       replace H : (if t255 = true then (if t251 = 0 then ((maskref2_Broken.f kj4 l0_0 l0_1 l0_2 l0_3 l0_4 a1_0 a1_1 a1_2).bind fun bt256 => ((netlist_Same.f t236 t239 t242 t245 t248 bt256.1 bt256.2.1 bt256.2.2.1 bt256.2.2.2.1 bt256.2.2.2.2).bind fun t271 => (some t271))) else (none)) else (none)) = some r := H
       have A32 := Aside0.mk A320
       clear A320
       by_cases c33 : t255 = true
       · subst c33
         have H1 : (if t251 = 0 then ((maskref2_Broken.f kj4 l0_0 l0_1 l0_2 l0_3 l0_4 a1_0 a1_1 a1_2).bind fun bt256 => ((netlist_Same.f t236 t239 t242 t245 t248 bt256.1 bt256.2.1 bt256.2.2.1 bt256.2.2.2.1 bt256.2.2.2.2).bind fun t271 => (some t271))) else (none)) = some r := by rw [if_pos rfl] at H; exact H
         clear H
         have H := H1
         clear H1
         by_cases c34 : t251 = 0
         · rw [if_pos c34] at H
           have c34b0 : (t251 == 0) = true := beq_iff_eq.mpr c34
           have c34b1 : (t251 != 0) = false := bne_eq_false_iff_eq.mpr c34
           clear c34
           replace H := Option.bind_eq_some_iff.mp H
           obtain ⟨⟨t256, t259, t262, t265, t268⟩, A350, H⟩ := H
           replace H : ((netlist_Same.f t236 t239 t242 t245 t248 t256 t259 t262 t265 t268).bind fun t271 => (some t271)) = some r := H
           have A35 := Aside0.mk A350
           clear A350
           replace H := Option.bind_eq_some_iff.mp H
           obtain ⟨t271, A360, H⟩ := H
           replace H : (some t271) = some r := H
           have A36 := Aside0.mk A360
           clear A360
           obtain rfl := Option.some.inj H
           try go_wp2
           have n0_ := Aside0.mk (Kd.R_drew HO_253000.out)
           have n1_ := Aside0.mk (Kd.R_drew HO_253001.out)
           have n2_ := Aside0.mk (Kd.R_drew HO_253002.out)
           have n3_ := Aside0.mk (Kd.S_drew HO_253003.out)
           have n4_ := Aside0.mk (Kd.R_drew HO_253004.out)
           have n5_ := Aside0.mk (blk_drew BK234.out)
           have n6_ := Aside0.mk (blk_drew BK235.out)
           have n7_ := Aside0.mk (blk_drew BK252.out)
           have n8_ := Aside0.mk (below_drew1 HB.out)
           clear HO_253000
           clear HO_253001
           clear HO_253002
           clear HO_253003
           clear HO_253004
           clear BK234
           clear BK235
           clear BK252
           clear HB
           have HO_253000 := n0_
           have HO_253001 := n1_
           have HO_253002 := n2_
           have HO_253003 := n3_
           have HO_253004 := n4_
           have BK234 := n5_
           have BK235 := n6_
           have BK252 := n7_
           have HB := n8_
           clear n0_ n1_ n2_ n3_ n4_ n5_ n6_ n7_ n8_
           refine start_ (n := 13) (S := fun w' => w'.cell? ⟨gb252, 0, none⟩ = some (.slice Ao13 t236.length co13) ∧ w'.cell? ⟨gb252, 1, none⟩ = some (.slice Ao17 t239.length co17) ∧ w'.cell? ⟨gb252, 2, none⟩ = some (.slice Ao18 t242.length co18) ∧ w'.cell? ⟨gb252, 3, none⟩ = some (.slice Ao19 t245.length co19) ∧ w'.cell? ⟨gb252, 4, none⟩ = some (.slice Ao20 t248.length co20) ∧ w'.cell? ⟨gb234, 0, none⟩ = some (.slice A0_0 l0_0.length c0_0) ∧ w'.cell? ⟨gb234, 1, none⟩ = some (.slice A0_1 l0_1.length c0_1) ∧ w'.cell? ⟨gb234, 2, none⟩ = some (.slice A0_2 l0_2.length c0_2) ∧ w'.cell? ⟨gb234, 3, none⟩ = some (.slice A0_3 l0_3.length c0_3) ∧ w'.cell? ⟨gb234, 4, none⟩ = some (.slice A0_4 l0_4.length c0_4) ∧ w'.cell? ⟨gb235, 0, none⟩ = some (.int .i64 a1_0) ∧ w'.cell? ⟨gb235, 1, none⟩ = some (.int .i64 a1_1) ∧ w'.cell? ⟨gb235, 2, none⟩ = some (.bool a1_2)) (ds := []) #[false, false, false, false, false, false, false, false, false, false, false, false, false] (by kernel_rfl) rfl rfl ⟨(blk_cell BK252.out 0).trans rfl, (blk_cell BK252.out 1).trans rfl, (blk_cell BK252.out 2).trans rfl, (blk_cell BK252.out 3).trans rfl, (blk_cell BK252.out 4).trans rfl, (blk_cell BK234.out 0).trans rfl, (blk_cell BK234.out 1).trans rfl, (blk_cell BK234.out 2).trans rfl, (blk_cell BK234.out 3).trans rfl, (blk_cell BK234.out 4).trans rfl, (blk_cell BK235.out 0).trans rfl, (blk_cell BK235.out 1).trans rfl, (blk_cell BK235.out 2).trans rfl⟩ (fun hHeld => ?_); refine with_tabW masklaw2_FaultInjects.tab7 masklaw2_FaultInjects.bits7 (fun HT_ HW_ => ?_)
           generalize wc.drew = w37 at HO_253000 HO_253001 HO_253002 HO_253003 HO_253004 BK234 BK235 BK252 HB hHeld ⊢
           refine one_ (i := 0) (N := some 34) #[true, false, false, false, false, false, false, false, false, false, false, false, false] rfl rfl (one_of HT_.out (by kernel_rfl)) (by decide) (fun K hK => ?_)
           refine goes_ Try.func11 (by kernel_rfl) rfl #[] (by rfl) rfl rfl (by (try simp only [List.map_toArray, List.map_cons, List.map_nil]); first | done | rfl | (simp only [List.length_drop, List.length_take]; rfl)) ?_
           with_reducible refine (masklaw2_faulty.calls kj4  true _ A32.out).mono ?_
           rintro e w38 ⟨rfl, hb⟩
           refine ⟨_, rfl, ?_⟩
           have n0_ := Aside0.mk (Kd.R_below (by (with_reducible repeat (first | apply Kd.R_alloc | apply Kd.R_drewN | apply Kd.R_drew)); exact HO_253000.out) hb)
           have n1_ := Aside0.mk (Kd.R_below (by (with_reducible repeat (first | apply Kd.R_alloc | apply Kd.R_drewN | apply Kd.R_drew)); exact HO_253001.out) hb)
           have n2_ := Aside0.mk (Kd.R_below (by (with_reducible repeat (first | apply Kd.R_alloc | apply Kd.R_drewN | apply Kd.R_drew)); exact HO_253002.out) hb)
           have n3_ := Aside0.mk (Kd.S_below (by (with_reducible repeat (first | apply Kd.S_alloc | apply Kd.S_drewN | apply Kd.S_drew)); exact HO_253003.out) hb)
           have n4_ := Aside0.mk (Kd.R_below (by (with_reducible repeat (first | apply Kd.R_alloc | apply Kd.R_drewN | apply Kd.R_drew)); exact HO_253004.out) hb)
           have n5_ := Aside0.mk (blk_below (g := gb234) (o := .cells #[.slice A0_0 l0_0.length c0_0, .slice A0_1 l0_1.length c0_1, .slice A0_2 l0_2.length c0_2, .slice A0_3 l0_3.length c0_3, .slice A0_4 l0_4.length c0_4] 27 (0, 0)) (by (with_reducible repeat (first | refine blk_drewN ?_ _ | refine blk_drew ?_ | refine blk_alloc ?_ _)); exact BK234.out) hb)
           have n6_ := Aside0.mk (blk_below (g := gb235) (o := .cells #[.int .i64 a1_0, .int .i64 a1_1, .bool a1_2] 29 (0, 0)) (by (with_reducible repeat (first | refine blk_drewN ?_ _ | refine blk_drew ?_ | refine blk_alloc ?_ _)); exact BK235.out) hb)
           have n7_ := Aside0.mk (blk_below (g := gb252) (o := .cells #[.slice Ao13 t236.length co13, .slice Ao17 t239.length co17, .slice Ao18 t242.length co18, .slice Ao19 t245.length co19, .slice Ao20 t248.length co20] 27 (0, 0)) (by (with_reducible repeat (first | refine blk_drewN ?_ _ | refine blk_drew ?_ | refine blk_alloc ?_ _)); exact BK252.out) hb)
           have n8_ := Aside0.mk (below_step (by repeat (first | (with_reducible first | exact HB.out | apply below_alloc | apply pw_below_drewN | apply below_drew1 | refine below_set ?_ GE234.out | refine below_set ?_ GE235.out | refine below_set ?_ GE252.out) | exact HB.out)) hb)
           clear HO_253000
           clear HO_253001
           clear HO_253002
           clear HO_253003
           clear HO_253004
           clear BK234
           clear BK235
           clear BK252
           clear HB
           have HO_253000 := n0_
           have HO_253001 := n1_
           have HO_253002 := n2_
           have HO_253003 := n3_
           have HO_253004 := n4_
           have BK234 := n5_
           have BK235 := n6_
           have BK252 := n7_
           have HB := n8_
           clear n0_ n1_ n2_ n3_ n4_ n5_ n6_ n7_ n8_
           (try clear hb)
           (try clear hb2)
           (try clear hk)
           (try clear hi)
           refine hK.out _ _ ⟨(blk_cell BK252.out 0).trans rfl, (blk_cell BK252.out 1).trans rfl, (blk_cell BK252.out 2).trans rfl, (blk_cell BK252.out 3).trans rfl, (blk_cell BK252.out 4).trans rfl, (blk_cell BK234.out 0).trans rfl, (blk_cell BK234.out 1).trans rfl, (blk_cell BK234.out 2).trans rfl, (blk_cell BK234.out 3).trans rfl, (blk_cell BK234.out 4).trans rfl, (blk_cell BK235.out 0).trans rfl, (blk_cell BK235.out 1).trans rfl, (blk_cell BK235.out 2).trans rfl⟩ (fun hHeld => ?_)
           clear hK K
           refine norm_ (a' := ?_) ?_ ?_
           rotate_left
           · show Act.put _ (some 34) _ = _
             simp only [Act.put, List.setIfInBounds_toArray, List.set_cons_zero, List.set_cons_succ, i64_w, i32_w]
             rfl
           refine pure_ (i := 1) (N := some 35) (v := ?_) (a' := ?_) #[true, true, false, false, false, false, false, false, false, false, false, false, false] rfl rfl (any_of HT_.out (by kernel_rfl)) (fun _ _ _ h => h) (Or.inl ⟨by rfl, ?_⟩) ?_ ?_
           rotate_left
           · intro w'
             go_simp
             with_reducible rfl
           rotate_left
           · simp only [Act.put, List.setIfInBounds_toArray, List.set_cons_zero, List.set_cons_succ, i64_w, i32_w]
             rfl
           refine pure_ (i := 2) (N := some 36) (v := ?_) (a' := ?_) #[true, true, true, false, false, false, false, false, false, false, false, false, false] rfl rfl (any_of HT_.out (by kernel_rfl)) (fun _ _ _ h => h) (Or.inl ⟨by rfl, ?_⟩) ?_ ?_
           rotate_left
           · intro w'
             go_simp
             with_reducible rfl
           rotate_left
           · simp only [Act.put, List.setIfInBounds_toArray, List.set_cons_zero, List.set_cons_succ, i64_w, i32_w]
             rfl
           refine pure_ (i := 3) (N := some 37) (v := ?_) (a' := ?_) #[true, true, true, true, false, false, false, false, false, false, false, false, false] rfl rfl (any_of HT_.out (by kernel_rfl)) (fun _ _ _ h => h) (Or.inl ⟨by rfl, ?_⟩) ?_ ?_
           rotate_left
           · intro w'
             go_simp
             with_reducible rfl
           rotate_left
           · simp only [Act.put, List.setIfInBounds_toArray, List.set_cons_zero, List.set_cons_succ, i64_w, i32_w]
             rfl
           refine pure_ (i := 4) (N := some 38) (v := ?_) (a' := ?_) #[true, true, true, true, true, false, false, false, false, false, false, false, false] rfl rfl (any_of HT_.out (by kernel_rfl)) (fun _ _ _ h => h) (Or.inl ⟨by rfl, ?_⟩) ?_ ?_
           rotate_left
           · intro w'
             go_simp
             with_reducible rfl
           rotate_left
           · simp only [Act.put, List.setIfInBounds_toArray, List.set_cons_zero, List.set_cons_succ, i64_w, i32_w]
             rfl
           refine pure_ (i := 5) (N := some 39) (v := ?_) (a' := ?_) #[true, true, true, true, true, true, false, false, false, false, false, false, false] rfl rfl (any_of HT_.out (by kernel_rfl)) (fun _ _ _ h => h) (Or.inl ⟨by rfl, ?_⟩) ?_ ?_
           rotate_left
           · intro w'
             go_simp
             with_reducible rfl
           rotate_left
           · simp only [Act.put, List.setIfInBounds_toArray, List.set_cons_zero, List.set_cons_succ, i64_w, i32_w]
             rfl
           refine take_ (i := 6) (N := some 40) (v := ?_) (a' := ?_) #[true, true, true, true, true, true, true, false, false, false, false, false, false] rfl rfl (take_ofW HT_.out HW_.out (by kernel_rfl)) (fun _ _ _ h => h) (Or.inl ⟨by rfl, ?_⟩) hHeld ?_ ?_
           rotate_left
           · rintro w' ⟨s0, s1, s2, s3, s4, s5, s6, s7, s8, s9, s10, s11, s12⟩
             go_simp
             with_reducible rfl
           rotate_left
           · simp only [Act.put, List.setIfInBounds_toArray, List.set_cons_zero, List.set_cons_succ, i64_w, i32_w]
             rfl
           refine take_ (i := 7) (N := some 41) (v := ?_) (a' := ?_) #[true, true, true, true, true, true, true, true, false, false, false, false, false] rfl rfl (take_ofW HT_.out HW_.out (by kernel_rfl)) (fun _ _ _ h => h) (Or.inl ⟨by rfl, ?_⟩) hHeld ?_ ?_
           rotate_left
           · rintro w' ⟨s0, s1, s2, s3, s4, s5, s6, s7, s8, s9, s10, s11, s12⟩
             go_simp
             with_reducible rfl
           rotate_left
           · simp only [Act.put, List.setIfInBounds_toArray, List.set_cons_zero, List.set_cons_succ, i64_w, i32_w]
             rfl
           refine take_ (i := 8) (N := some 42) (v := ?_) (a' := ?_) #[true, true, true, true, true, true, true, true, true, false, false, false, false] rfl rfl (take_ofW HT_.out HW_.out (by kernel_rfl)) (fun _ _ _ h => h) (Or.inl ⟨by rfl, ?_⟩) hHeld ?_ ?_
           rotate_left
           · rintro w' ⟨s0, s1, s2, s3, s4, s5, s6, s7, s8, s9, s10, s11, s12⟩
             go_simp
             with_reducible rfl
           rotate_left
           · simp only [Act.put, List.setIfInBounds_toArray, List.set_cons_zero, List.set_cons_succ, i64_w, i32_w]
             rfl
           refine one_ (i := 9) (N := some 43) #[true, true, true, true, true, true, true, true, true, true, false, false, false] rfl rfl (one_of HT_.out (by kernel_rfl)) (by decide) (fun K hK => ?_)
           refine goes_ Try.func13 (by kernel_rfl) rfl #[.agg #[.slice A0_0 l0_0.length c0_0, .slice A0_1 l0_1.length c0_1, .slice A0_2 l0_2.length c0_2, .slice A0_3 l0_3.length c0_3, .slice A0_4 l0_4.length c0_4], .agg #[.int .i64 a1_0, .int .i64 a1_1, .bool a1_2]] (by rfl) rfl rfl (by (try simp only [List.map_toArray, List.map_cons, List.map_nil]); first | done | rfl | (simp only [List.length_drop, List.length_take]; rfl)) ?_
           with_reducible refine (maskref2_Broken.calls kj4 _ _ l0_0 _ _ l0_1 _ _ l0_2 _ _ l0_3 _ _ l0_4 a1_0 a1_1 a1_2 t256 t259 t262 t265 t268 _ ?side1 ?side2 ?side3 ?side4 ?side5 ?side6 ?side7 ?side8 ?side9 ?side10 A35.out).mono ?_
           (case side1 => repeat (first | exact (Kd.C_below HR0_0.out HB.out) | (with_reducible refine Kd.C_alloc ?_ _) | (with_reducible refine Kd.C_drewN ?_ _) | (with_reducible refine Kd.C_drew ?_)))
           (case side2 => exact HC0_0.out)
           (case side3 => repeat (first | exact (Kd.C_below HR0_1.out HB.out) | (with_reducible refine Kd.C_alloc ?_ _) | (with_reducible refine Kd.C_drewN ?_ _) | (with_reducible refine Kd.C_drew ?_)))
           (case side4 => exact HC0_1.out)
           (case side5 => repeat (first | exact (Kd.C_below HR0_2.out HB.out) | (with_reducible refine Kd.C_alloc ?_ _) | (with_reducible refine Kd.C_drewN ?_ _) | (with_reducible refine Kd.C_drew ?_)))
           (case side6 => exact HC0_2.out)
           (case side7 => repeat (first | exact (Kd.C_below HR0_3.out HB.out) | (with_reducible refine Kd.C_alloc ?_ _) | (with_reducible refine Kd.C_drewN ?_ _) | (with_reducible refine Kd.C_drew ?_)))
           (case side8 => exact HC0_3.out)
           (case side9 => repeat (first | exact (Kd.C_below HR0_4.out HB.out) | (with_reducible refine Kd.C_alloc ?_ _) | (with_reducible refine Kd.C_drewN ?_ _) | (with_reducible refine Kd.C_drew ?_)))
           (case side10 => exact HC0_4.out)
           rintro e w39 ⟨v257, v260, v263, v266, v269, rfl, ho0, ho1, ho2, ho3, ho4, hb⟩
           refine ⟨_, rfl, ?_⟩
           have n0_ := Aside0.mk (Kd.R_mono (Kd.R_told (Kd.R_told (Kd.R_old (by (with_reducible repeat (first | apply Kd.R_alloc | apply Kd.R_drewN | apply Kd.R_drew)); exact HO_253000.out) hb) (Kd.R_base ho0)) (Kd.R_base ho1)) (fun _ h_ => h_.1))
           have n1_ := Aside0.mk (Kd.R_mono (Kd.R_told (Kd.R_told (Kd.R_old (by (with_reducible repeat (first | apply Kd.R_alloc | apply Kd.R_drewN | apply Kd.R_drew)); exact HO_253001.out) hb) (Kd.R_base ho0)) (Kd.R_base ho1)) (fun _ h_ => h_.1))
           have n2_ := Aside0.mk (Kd.R_elder' (by (with_reducible repeat (first | apply Kd.R_alloc | apply Kd.R_drewN | apply Kd.R_drew)); exact HO_253002.out) (Kd.R_base ho2) hb)
           have n3_ := Aside0.mk (Kd.S_mono (Kd.S_told (Kd.S_told (Kd.S_old (by (with_reducible repeat (first | apply Kd.S_alloc | apply Kd.S_drewN | apply Kd.S_drew)); exact HO_253003.out) hb) (Kd.S_base ho3)) (Kd.R_base ho4)) (fun _ h_ => h_.1))
           have n4_ := Aside0.mk (Kd.R_elder' (by (with_reducible repeat (first | apply Kd.R_alloc | apply Kd.R_drewN | apply Kd.R_drew)); exact HO_253004.out) (Kd.R_base ho4) hb)
           have n5_ := Aside0.mk (Kd.R_lower (Kd.R_new' (Kd.R_new' ho0 (Kd.R_lt (by (with_reducible repeat (first | apply Kd.R_alloc | apply Kd.R_drewN | apply Kd.R_drew)); exact HO_253000.out))) (Kd.R_lt (by (with_reducible repeat (first | apply Kd.R_alloc | apply Kd.R_drewN | apply Kd.R_drew)); exact HO_253001.out))) (below_size (by repeat (first | (with_reducible first | exact HB.out | apply below_alloc | apply pw_below_drewN | apply below_drew1 | refine below_set ?_ GE234.out | refine below_set ?_ GE235.out | refine below_set ?_ GE252.out) | exact HB.out))))
           have n6_ := Aside0.mk (Kd.R_lower (Kd.R_new' (Kd.R_new' ho1 (Kd.R_lt (by (with_reducible repeat (first | apply Kd.R_alloc | apply Kd.R_drewN | apply Kd.R_drew)); exact HO_253000.out))) (Kd.R_lt (by (with_reducible repeat (first | apply Kd.R_alloc | apply Kd.R_drewN | apply Kd.R_drew)); exact HO_253001.out))) (below_size (by repeat (first | (with_reducible first | exact HB.out | apply below_alloc | apply pw_below_drewN | apply below_drew1 | refine below_set ?_ GE234.out | refine below_set ?_ GE235.out | refine below_set ?_ GE252.out) | exact HB.out))))
           have n7_ := Aside0.mk (Kd.R_lower (Kd.R_new' ho2 (Kd.R_lt (by (with_reducible repeat (first | apply Kd.R_alloc | apply Kd.R_drewN | apply Kd.R_drew)); exact HO_253002.out))) (below_size (by repeat (first | (with_reducible first | exact HB.out | apply below_alloc | apply pw_below_drewN | apply below_drew1 | refine below_set ?_ GE234.out | refine below_set ?_ GE235.out | refine below_set ?_ GE252.out) | exact HB.out))))
           have n8_ := Aside0.mk (Kd.S_lower (Kd.S_new' (Kd.S_new' ho3 (Kd.S_lt (by (with_reducible repeat (first | apply Kd.S_alloc | apply Kd.S_drewN | apply Kd.S_drew)); exact HO_253003.out))) (Kd.R_lt (by (with_reducible repeat (first | apply Kd.R_alloc | apply Kd.R_drewN | apply Kd.R_drew)); exact HO_253004.out))) (below_size (by repeat (first | (with_reducible first | exact HB.out | apply below_alloc | apply pw_below_drewN | apply below_drew1 | refine below_set ?_ GE234.out | refine below_set ?_ GE235.out | refine below_set ?_ GE252.out) | exact HB.out))))
           have n9_ := Aside0.mk (Kd.R_lower (Kd.R_new' ho4 (Kd.R_lt (by (with_reducible repeat (first | apply Kd.R_alloc | apply Kd.R_drewN | apply Kd.R_drew)); exact HO_253004.out))) (below_size (by repeat (first | (with_reducible first | exact HB.out | apply below_alloc | apply pw_below_drewN | apply below_drew1 | refine below_set ?_ GE234.out | refine below_set ?_ GE235.out | refine below_set ?_ GE252.out) | exact HB.out))))
           have n10_ := Aside0.mk (blk_below (g := gb234) (o := .cells #[.slice A0_0 l0_0.length c0_0, .slice A0_1 l0_1.length c0_1, .slice A0_2 l0_2.length c0_2, .slice A0_3 l0_3.length c0_3, .slice A0_4 l0_4.length c0_4] 27 (0, 0)) (by (with_reducible repeat (first | refine blk_drewN ?_ _ | refine blk_drew ?_ | refine blk_alloc ?_ _)); exact BK234.out) hb)
           have n11_ := Aside0.mk (blk_below (g := gb235) (o := .cells #[.int .i64 a1_0, .int .i64 a1_1, .bool a1_2] 29 (0, 0)) (by (with_reducible repeat (first | refine blk_drewN ?_ _ | refine blk_drew ?_ | refine blk_alloc ?_ _)); exact BK235.out) hb)
           have n12_ := Aside0.mk (blk_below (g := gb252) (o := .cells #[.slice Ao13 t236.length co13, .slice Ao17 t239.length co17, .slice Ao18 t242.length co18, .slice Ao19 t245.length co19, .slice Ao20 t248.length co20] 27 (0, 0)) (by (with_reducible repeat (first | refine blk_drewN ?_ _ | refine blk_drew ?_ | refine blk_alloc ?_ _)); exact BK252.out) hb)
           have n13_ := Aside0.mk (below_step (by repeat (first | (with_reducible first | exact HB.out | apply below_alloc | apply pw_below_drewN | apply below_drew1 | refine below_set ?_ GE234.out | refine below_set ?_ GE235.out | refine below_set ?_ GE252.out) | exact HB.out)) hb)
           clear HO_253000
           clear HO_253001
           clear HO_253002
           clear HO_253003
           clear HO_253004
           clear BK234
           clear BK235
           clear BK252
           clear HB
           have HO_253000 := n0_
           have HO_253001 := n1_
           have HO_253002 := n2_
           have HO_253003 := n3_
           have HO_253004 := n4_
           have HO258 := n5_
           have HO261 := n6_
           have HO264 := n7_
           have HO267 := n8_
           have HO270 := n9_
           have BK234 := n10_
           have BK235 := n11_
           have BK252 := n12_
           have HB := n13_
           clear n0_ n1_ n2_ n3_ n4_ n5_ n6_ n7_ n8_ n9_ n10_ n11_ n12_ n13_
           (try clear hb)
           (try clear hb2)
           (try clear hk)
           (try clear hi)
           (try clear ho0)
           (try clear ho1)
           (try clear ho2)
           (try clear ho3)
           (try clear ho4)
           obtain ⟨Ao40, co40, eo40⟩ := Kd.R_slice HO258.out
           (first | subst eo40 | (injection eo40 with f1_ f2_ f3_; have f4_ := f1_.symm; have f5_ := f3_.symm; clear f1_ f2_ f3_; subst f4_; subst f5_))
           obtain ⟨Ao41, co41, eo41⟩ := Kd.R_slice HO261.out
           (first | subst eo41 | (injection eo41 with f1_ f2_ f3_; have f4_ := f1_.symm; have f5_ := f3_.symm; clear f1_ f2_ f3_; subst f4_; subst f5_))
           obtain ⟨Ao42, co42, eo42⟩ := Kd.R_slice HO264.out
           (first | subst eo42 | (injection eo42 with f1_ f2_ f3_; have f4_ := f1_.symm; have f5_ := f3_.symm; clear f1_ f2_ f3_; subst f4_; subst f5_))
           obtain ⟨Ao43, co43, eo43⟩ := Kd.S_slice HO267.out
           (first | subst eo43 | (injection eo43 with f1_ f2_ f3_; have f4_ := f1_.symm; have f5_ := f3_.symm; clear f1_ f2_ f3_; subst f4_; subst f5_))
           obtain ⟨Ao44, co44, eo44⟩ := Kd.R_slice HO270.out
           (first | subst eo44 | (injection eo44 with f1_ f2_ f3_; have f4_ := f1_.symm; have f5_ := f3_.symm; clear f1_ f2_ f3_; subst f4_; subst f5_))
           refine hK.out _ _ ⟨(blk_cell BK252.out 0).trans rfl, (blk_cell BK252.out 1).trans rfl, (blk_cell BK252.out 2).trans rfl, (blk_cell BK252.out 3).trans rfl, (blk_cell BK252.out 4).trans rfl, (blk_cell BK234.out 0).trans rfl, (blk_cell BK234.out 1).trans rfl, (blk_cell BK234.out 2).trans rfl, (blk_cell BK234.out 3).trans rfl, (blk_cell BK234.out 4).trans rfl, (blk_cell BK235.out 0).trans rfl, (blk_cell BK235.out 1).trans rfl, (blk_cell BK235.out 2).trans rfl⟩ (fun hHeld => ?_)
           clear hK K
           refine norm_ (a' := ?_) ?_ ?_
           rotate_left
           · show Act.put _ (some 43) _ = _
             simp only [Act.put, List.setIfInBounds_toArray, List.set_cons_zero, List.set_cons_succ, i64_w, i32_w]
             rfl
           refine one_ (i := 10) (N := some 44) #[true, true, true, true, true, true, true, true, true, true, true, false, false] rfl rfl (one_of HT_.out (by kernel_rfl)) (by decide) (fun K hK => ?_)
           refine goes_ Try.func12 (by kernel_rfl) rfl #[.agg #[.slice Ao13 t236.length co13, .slice Ao17 t239.length co17, .slice Ao18 t242.length co18, .slice Ao19 t245.length co19, .slice Ao20 t248.length co20], .agg #[.slice Ao40 t256.length co40, .slice Ao41 t259.length co41, .slice Ao42 t262.length co42, .slice Ao43 t265.length co43, .slice Ao44 t268.length co44]] (by rfl) rfl rfl (by (try simp only [List.map_toArray, List.map_cons, List.map_nil]); first | done | rfl | (simp only [List.length_drop, List.length_take]; rfl)) ?_
           with_reducible refine (netlist_Same.calls _ _ t236 _ _ t239 _ _ t242 _ _ t245 _ _ t248 _ _ t256 _ _ t259 _ _ t262 _ _ t265 _ _ t268 t271 _ ?side1 ?side2 ?side3 ?side4 ?side5 ?side6 ?side7 ?side8 ?side9 ?side10 ?side11 ?side12 ?side13 ?side14 ?side15 ?side16 ?side17 ?side18 ?side19 ?side20 A36.out).mono ?_
           (case side1 => repeat (first | exact (Kd.R_reads' HO_253000.out).2.2 | (with_reducible refine Kd.C_alloc ?_ _) | (with_reducible refine Kd.C_drewN ?_ _) | (with_reducible refine Kd.C_drew ?_)))
           (case side2 => exact (Kd.R_reads' HO_253000.out).2.1)
           (case side3 => repeat (first | exact (Kd.R_reads' HO_253001.out).2.2 | (with_reducible refine Kd.C_alloc ?_ _) | (with_reducible refine Kd.C_drewN ?_ _) | (with_reducible refine Kd.C_drew ?_)))
           (case side4 => exact (Kd.R_reads' HO_253001.out).2.1)
           (case side5 => repeat (first | exact (Kd.R_reads' HO_253002.out).2.2 | (with_reducible refine Kd.C_alloc ?_ _) | (with_reducible refine Kd.C_drewN ?_ _) | (with_reducible refine Kd.C_drew ?_)))
           (case side6 => exact (Kd.R_reads' HO_253002.out).2.1)
           (case side7 => repeat (first | exact (Kd.S_reads' HO_253003.out).2.2 | (with_reducible refine Kd.C_alloc ?_ _) | (with_reducible refine Kd.C_drewN ?_ _) | (with_reducible refine Kd.C_drew ?_)))
           (case side8 => exact (Kd.S_reads' HO_253003.out).2.1)
           (case side9 => repeat (first | exact (Kd.R_reads' HO_253004.out).2.2 | (with_reducible refine Kd.C_alloc ?_ _) | (with_reducible refine Kd.C_drewN ?_ _) | (with_reducible refine Kd.C_drew ?_)))
           (case side10 => exact (Kd.R_reads' HO_253004.out).2.1)
           (case side11 => repeat (first | exact (Kd.R_reads' HO258.out).2.2 | (with_reducible refine Kd.C_alloc ?_ _) | (with_reducible refine Kd.C_drewN ?_ _) | (with_reducible refine Kd.C_drew ?_)))
           (case side12 => exact (Kd.R_reads' HO258.out).2.1)
           (case side13 => repeat (first | exact (Kd.R_reads' HO261.out).2.2 | (with_reducible refine Kd.C_alloc ?_ _) | (with_reducible refine Kd.C_drewN ?_ _) | (with_reducible refine Kd.C_drew ?_)))
           (case side14 => exact (Kd.R_reads' HO261.out).2.1)
           (case side15 => repeat (first | exact (Kd.R_reads' HO264.out).2.2 | (with_reducible refine Kd.C_alloc ?_ _) | (with_reducible refine Kd.C_drewN ?_ _) | (with_reducible refine Kd.C_drew ?_)))
           (case side16 => exact (Kd.R_reads' HO264.out).2.1)
           (case side17 => repeat (first | exact (Kd.S_reads' HO267.out).2.2 | (with_reducible refine Kd.C_alloc ?_ _) | (with_reducible refine Kd.C_drewN ?_ _) | (with_reducible refine Kd.C_drew ?_)))
           (case side18 => exact (Kd.S_reads' HO267.out).2.1)
           (case side19 => repeat (first | exact (Kd.R_reads' HO270.out).2.2 | (with_reducible refine Kd.C_alloc ?_ _) | (with_reducible refine Kd.C_drewN ?_ _) | (with_reducible refine Kd.C_drew ?_)))
           (case side20 => exact (Kd.R_reads' HO270.out).2.1)
           rintro e w45 ⟨rfl, hb⟩
           refine ⟨_, rfl, ?_⟩
           have n0_ := Aside0.mk (Kd.R_below (by (with_reducible repeat (first | apply Kd.R_alloc | apply Kd.R_drewN | apply Kd.R_drew)); exact HO_253000.out) hb)
           have n1_ := Aside0.mk (Kd.R_below (by (with_reducible repeat (first | apply Kd.R_alloc | apply Kd.R_drewN | apply Kd.R_drew)); exact HO_253001.out) hb)
           have n2_ := Aside0.mk (Kd.R_below (by (with_reducible repeat (first | apply Kd.R_alloc | apply Kd.R_drewN | apply Kd.R_drew)); exact HO_253002.out) hb)
           have n3_ := Aside0.mk (Kd.S_below (by (with_reducible repeat (first | apply Kd.S_alloc | apply Kd.S_drewN | apply Kd.S_drew)); exact HO_253003.out) hb)
           have n4_ := Aside0.mk (Kd.R_below (by (with_reducible repeat (first | apply Kd.R_alloc | apply Kd.R_drewN | apply Kd.R_drew)); exact HO_253004.out) hb)
           have n5_ := Aside0.mk (Kd.R_below (by (with_reducible repeat (first | apply Kd.R_alloc | apply Kd.R_drewN | apply Kd.R_drew)); exact HO258.out) hb)
           have n6_ := Aside0.mk (Kd.R_below (by (with_reducible repeat (first | apply Kd.R_alloc | apply Kd.R_drewN | apply Kd.R_drew)); exact HO261.out) hb)
           have n7_ := Aside0.mk (Kd.R_below (by (with_reducible repeat (first | apply Kd.R_alloc | apply Kd.R_drewN | apply Kd.R_drew)); exact HO264.out) hb)
           have n8_ := Aside0.mk (Kd.S_below (by (with_reducible repeat (first | apply Kd.S_alloc | apply Kd.S_drewN | apply Kd.S_drew)); exact HO267.out) hb)
           have n9_ := Aside0.mk (Kd.R_below (by (with_reducible repeat (first | apply Kd.R_alloc | apply Kd.R_drewN | apply Kd.R_drew)); exact HO270.out) hb)
           have n10_ := Aside0.mk (blk_below (g := gb234) (o := .cells #[.slice A0_0 l0_0.length c0_0, .slice A0_1 l0_1.length c0_1, .slice A0_2 l0_2.length c0_2, .slice A0_3 l0_3.length c0_3, .slice A0_4 l0_4.length c0_4] 27 (0, 0)) (by (with_reducible repeat (first | refine blk_drewN ?_ _ | refine blk_drew ?_ | refine blk_alloc ?_ _)); exact BK234.out) hb)
           have n11_ := Aside0.mk (blk_below (g := gb235) (o := .cells #[.int .i64 a1_0, .int .i64 a1_1, .bool a1_2] 29 (0, 0)) (by (with_reducible repeat (first | refine blk_drewN ?_ _ | refine blk_drew ?_ | refine blk_alloc ?_ _)); exact BK235.out) hb)
           have n12_ := Aside0.mk (blk_below (g := gb252) (o := .cells #[.slice Ao13 t236.length co13, .slice Ao17 t239.length co17, .slice Ao18 t242.length co18, .slice Ao19 t245.length co19, .slice Ao20 t248.length co20] 27 (0, 0)) (by (with_reducible repeat (first | refine blk_drewN ?_ _ | refine blk_drew ?_ | refine blk_alloc ?_ _)); exact BK252.out) hb)
           have n13_ := Aside0.mk (below_step (by repeat (first | (with_reducible first | exact HB.out | apply below_alloc | apply pw_below_drewN | apply below_drew1 | refine below_set ?_ GE234.out | refine below_set ?_ GE235.out | refine below_set ?_ GE252.out) | exact HB.out)) hb)
           clear HO_253000
           clear HO_253001
           clear HO_253002
           clear HO_253003
           clear HO_253004
           clear HO258
           clear HO261
           clear HO264
           clear HO267
           clear HO270
           clear BK234
           clear BK235
           clear BK252
           clear HB
           have HO_253000 := n0_
           have HO_253001 := n1_
           have HO_253002 := n2_
           have HO_253003 := n3_
           have HO_253004 := n4_
           have HO258 := n5_
           have HO261 := n6_
           have HO264 := n7_
           have HO267 := n8_
           have HO270 := n9_
           have BK234 := n10_
           have BK235 := n11_
           have BK252 := n12_
           have HB := n13_
           clear n0_ n1_ n2_ n3_ n4_ n5_ n6_ n7_ n8_ n9_ n10_ n11_ n12_ n13_
           (try clear hb)
           (try clear hb2)
           (try clear hk)
           (try clear hi)
           refine hK.out _ _ ⟨(blk_cell BK252.out 0).trans rfl, (blk_cell BK252.out 1).trans rfl, (blk_cell BK252.out 2).trans rfl, (blk_cell BK252.out 3).trans rfl, (blk_cell BK252.out 4).trans rfl, (blk_cell BK234.out 0).trans rfl, (blk_cell BK234.out 1).trans rfl, (blk_cell BK234.out 2).trans rfl, (blk_cell BK234.out 3).trans rfl, (blk_cell BK234.out 4).trans rfl, (blk_cell BK235.out 0).trans rfl, (blk_cell BK235.out 1).trans rfl, (blk_cell BK235.out 2).trans rfl⟩ (fun hHeld => ?_)
           clear hK K
           refine norm_ (a' := ?_) ?_ ?_
           rotate_left
           · show Act.put _ (some 44) _ = _
             simp only [Act.put, List.setIfInBounds_toArray, List.set_cons_zero, List.set_cons_succ, i64_w, i32_w]
             rfl
           refine pure_ (i := 11) (N := some 45) (v := ?_) (a' := ?_) #[true, true, true, true, true, true, true, true, true, true, true, true, false] rfl rfl (any_of HT_.out (by kernel_rfl)) (fun _ _ _ h => h) (Or.inl ⟨by rfl, ?_⟩) ?_ ?_
           rotate_left
           · intro w'
             go_simp
             with_reducible rfl
           rotate_left
           · simp only [Act.put, List.setIfInBounds_toArray, List.set_cons_zero, List.set_cons_succ, i64_w, i32_w]
             rfl
           refine pure_ (i := 12) (N := some 4) (v := ?_) (a' := ?_) #[true, true, true, true, true, true, true, true, true, true, true, true, true] rfl rfl (any_of HT_.out (by kernel_rfl)) (fun _ _ _ h => h) (Or.inl ⟨by rfl, ?_⟩) ?_ ?_
           rotate_left
           · intro w'
             go_simp
             with_reducible rfl
           rotate_left
           · simp only [Act.put, List.setIfInBounds_toArray, List.set_cons_zero, List.set_cons_succ, i64_w, i32_w]
             rfl
           refine done_ (done_of HT_.out (by kernel_rfl)) ?_
           try go_wp2
           go_ret
           exact ⟨by first | rfl | (simp [errW_none, errW_some] <;> rfl) | (simp [*, errW_none, errW_some] <;> rfl), by repeat (first | (with_reducible first | exact HB.out | apply below_alloc | apply pw_below_drewN | apply below_drew1 | refine below_set ?_ GE234.out | refine below_set ?_ GE235.out | refine below_set ?_ GE252.out) | exact HB.out)⟩
         · rw [if_neg c34] at H
           exact absurd H (by simp)
       · replace c33 := Bool.eq_false_iff.mpr c33
         subst c33
         have H1 : (none) = some r := by rw [if_neg (show ¬ (false = true) by decide)] at H; exact H
         exact absurd H1 (by simp)
     · rw [if_neg c31] at H
       have c31b0 : (x7_4 == 0) = false := beq_eq_false_iff_ne.mpr c31
       have c31b1 : (x7_4 != 0) = true := bne_iff_ne.mpr c31
       replace H := Option.bind_eq_some_iff.mp H
       obtain ⟨t272, A500, H⟩ := H
       replace H : (if t272 = true then (if t251 = x7_4 then ((netlist_Same.f t236 t239 t242 t245 t248 ([] : List ByteArray) ([] : List ByteArray) ([] : List (S82)) ([] : List (S80)) ([] : List Int)).bind fun t273 => (some t273)) else (none)) else (none)) = some r := H
       have A50 := Aside0.mk A500
       clear A500
       by_cases c51 : t272 = true
       · subst c51
         have H1 : (if t251 = x7_4 then ((netlist_Same.f t236 t239 t242 t245 t248 ([] : List ByteArray) ([] : List ByteArray) ([] : List (S82)) ([] : List (S80)) ([] : List Int)).bind fun t273 => (some t273)) else (none)) = some r := by rw [if_pos rfl] at H; exact H
         clear H
         have H := H1
         clear H1
         by_cases c52 : t251 = x7_4
         · rw [if_pos c52] at H
           have c52b0 : (t251 == x7_4) = true := beq_iff_eq.mpr c52
           have c52b1 : (t251 != x7_4) = false := bne_eq_false_iff_eq.mpr c52
           clear c52
           replace H := Option.bind_eq_some_iff.mp H
           obtain ⟨t273, A530, H⟩ := H
           replace H : (some t273) = some r := H
           have A53 := Aside0.mk A530
           clear A530
           obtain rfl := Option.some.inj H
           go_wp2_with (first | ((with_reducible refine gate_callee (f := 11) rfl ?_); refine goesL_ (some 23) rfl rfl Try.func11 (by kernel_rfl) rfl #[] rfl (by (try simp only [List.map_toArray, List.map_cons, List.map_nil]); first | done | rfl | (simp only [List.length_drop, List.length_take]; rfl)) ?_; (with_reducible refine (masklaw2_faulty.calls kj4  true _ A50.out).mono ?_); rintro e w54 ⟨rfl, hb⟩; refine ⟨_, rfl, ?_⟩; have n0_ := Aside0.mk (Kd.R_below (by (with_reducible repeat (first | apply Kd.R_alloc | apply Kd.R_drewN | apply Kd.R_drew)); exact HO_253000.out) hb); have n1_ := Aside0.mk (Kd.R_below (by (with_reducible repeat (first | apply Kd.R_alloc | apply Kd.R_drewN | apply Kd.R_drew)); exact HO_253001.out) hb); have n2_ := Aside0.mk (Kd.R_below (by (with_reducible repeat (first | apply Kd.R_alloc | apply Kd.R_drewN | apply Kd.R_drew)); exact HO_253002.out) hb); have n3_ := Aside0.mk (Kd.S_below (by (with_reducible repeat (first | apply Kd.S_alloc | apply Kd.S_drewN | apply Kd.S_drew)); exact HO_253003.out) hb); have n4_ := Aside0.mk (Kd.R_below (by (with_reducible repeat (first | apply Kd.R_alloc | apply Kd.R_drewN | apply Kd.R_drew)); exact HO_253004.out) hb); have n5_ := Aside0.mk (blk_below (g := gb234) (o := .cells #[.slice A0_0 l0_0.length c0_0, .slice A0_1 l0_1.length c0_1, .slice A0_2 l0_2.length c0_2, .slice A0_3 l0_3.length c0_3, .slice A0_4 l0_4.length c0_4] 27 (0, 0)) (by (with_reducible repeat (first | refine blk_drewN ?_ _ | refine blk_drew ?_ | refine blk_alloc ?_ _)); exact BK234.out) hb); have n6_ := Aside0.mk (blk_below (g := gb235) (o := .cells #[.int .i64 a1_0, .int .i64 a1_1, .bool a1_2] 29 (0, 0)) (by (with_reducible repeat (first | refine blk_drewN ?_ _ | refine blk_drew ?_ | refine blk_alloc ?_ _)); exact BK235.out) hb); have n7_ := Aside0.mk (blk_below (g := gb252) (o := .cells #[.slice Ao13 t236.length co13, .slice Ao17 t239.length co17, .slice Ao18 t242.length co18, .slice Ao19 t245.length co19, .slice Ao20 t248.length co20] 27 (0, 0)) (by (with_reducible repeat (first | refine blk_drewN ?_ _ | refine blk_drew ?_ | refine blk_alloc ?_ _)); exact BK252.out) hb); have n8_ := Aside0.mk (below_step (by repeat (first | (with_reducible first | exact HB.out | apply below_alloc | apply pw_below_drewN | apply below_drew1 | refine below_set ?_ GE234.out | refine below_set ?_ GE235.out | refine below_set ?_ GE252.out) | exact HB.out)) hb); clear HO_253000; clear HO_253001; clear HO_253002; clear HO_253003; clear HO_253004; clear BK234; clear BK235; clear BK252; clear HB; have HO_253000 := n0_; have HO_253001 := n1_; have HO_253002 := n2_; have HO_253003 := n3_; have HO_253004 := n4_; have BK234 := n5_; have BK235 := n6_; have BK252 := n7_; have HB := n8_; clear n0_ n1_ n2_ n3_ n4_ n5_ n6_ n7_ n8_; (try clear hb); (try clear hb2); (try clear hk); (try clear hi); have hnb55 := NB252_234.out; have hnc55 := NB234_252.out; have hnb56 := NB252_235.out; have hnc56 := NB235_252.out; have hcz57_0 : w54.cell? ⟨gb252, 0, none⟩ = some (.slice Ao13 t236.length co13) := (blk_cell BK252.out 0).trans rfl; have hcz57_1 : w54.cell? ⟨gb252, 1, none⟩ = some (.slice Ao17 t239.length co17) := (blk_cell BK252.out 1).trans rfl; have hcz57_2 : w54.cell? ⟨gb252, 2, none⟩ = some (.slice Ao18 t242.length co18) := (blk_cell BK252.out 2).trans rfl; have hcz57_3 : w54.cell? ⟨gb252, 3, none⟩ = some (.slice Ao19 t245.length co19) := (blk_cell BK252.out 3).trans rfl; have hcz57_4 : w54.cell? ⟨gb252, 4, none⟩ = some (.slice Ao20 t248.length co20) := (blk_cell BK252.out 4).trans rfl; have hfz57_0 := blk_frozen BK252.out 0; have hfz57_1 := blk_frozen BK252.out 1; have hfz57_2 := blk_frozen BK252.out 2; have hfz57_3 := blk_frozen BK252.out 3; have hfz57_4 := blk_frozen BK252.out 4) | (go_at_call 12; (refine (netlist_Same.calls _ _ t236 _ _ t239 _ _ t242 _ _ t245 _ _ t248 _ _ ([] : List ByteArray) _ _ ([] : List ByteArray) _ _ ([] : List (S82)) _ _ ([] : List (S80)) _ _ ([] : List Int) t273 _ ?side1 ?side2 ?side3 ?side4 ?side5 ?side6 ?side7 ?side8 ?side9 ?side10 ?side11 ?side12 ?side13 ?side14 ?side15 ?side16 ?side17 ?side18 ?side19 ?side20 A53.out).mono ?_); (case side1 => repeat (first | exact (Kd.R_reads' HO_253000.out).2.2 | (with_reducible refine Kd.C_alloc ?_ _) | (with_reducible refine Kd.C_drewN ?_ _) | (with_reducible refine Kd.C_drew ?_))); (case side2 => exact (Kd.R_reads' HO_253000.out).2.1); (case side3 => repeat (first | exact (Kd.R_reads' HO_253001.out).2.2 | (with_reducible refine Kd.C_alloc ?_ _) | (with_reducible refine Kd.C_drewN ?_ _) | (with_reducible refine Kd.C_drew ?_))); (case side4 => exact (Kd.R_reads' HO_253001.out).2.1); (case side5 => repeat (first | exact (Kd.R_reads' HO_253002.out).2.2 | (with_reducible refine Kd.C_alloc ?_ _) | (with_reducible refine Kd.C_drewN ?_ _) | (with_reducible refine Kd.C_drew ?_))); (case side6 => exact (Kd.R_reads' HO_253002.out).2.1); (case side7 => repeat (first | exact (Kd.S_reads' HO_253003.out).2.2 | (with_reducible refine Kd.C_alloc ?_ _) | (with_reducible refine Kd.C_drewN ?_ _) | (with_reducible refine Kd.C_drew ?_))); (case side8 => exact (Kd.S_reads' HO_253003.out).2.1); (case side9 => repeat (first | exact (Kd.R_reads' HO_253004.out).2.2 | (with_reducible refine Kd.C_alloc ?_ _) | (with_reducible refine Kd.C_drewN ?_ _) | (with_reducible refine Kd.C_drew ?_))); (case side10 => exact (Kd.R_reads' HO_253004.out).2.1); (case side11 => exact Kd.C_nil _ _); (case side12 => exact Nat.le_refl _); (case side13 => exact Kd.C_nil _ _); (case side14 => exact Nat.le_refl _); (case side15 => exact Kd.C_nil _ _); (case side16 => exact Nat.le_refl _); (case side17 => exact Kd.C_nil _ _); (case side18 => exact Nat.le_refl _); (case side19 => exact Kd.C_nil _ _); (case side20 => exact Nat.le_refl _); rintro e w58 ⟨rfl, hb⟩; have n0_ := Aside0.mk (Kd.R_below (by (with_reducible repeat (first | apply Kd.R_alloc | apply Kd.R_drewN | apply Kd.R_drew)); exact HO_253000.out) hb); have n1_ := Aside0.mk (Kd.R_below (by (with_reducible repeat (first | apply Kd.R_alloc | apply Kd.R_drewN | apply Kd.R_drew)); exact HO_253001.out) hb); have n2_ := Aside0.mk (Kd.R_below (by (with_reducible repeat (first | apply Kd.R_alloc | apply Kd.R_drewN | apply Kd.R_drew)); exact HO_253002.out) hb); have n3_ := Aside0.mk (Kd.S_below (by (with_reducible repeat (first | apply Kd.S_alloc | apply Kd.S_drewN | apply Kd.S_drew)); exact HO_253003.out) hb); have n4_ := Aside0.mk (Kd.R_below (by (with_reducible repeat (first | apply Kd.R_alloc | apply Kd.R_drewN | apply Kd.R_drew)); exact HO_253004.out) hb); have n5_ := Aside0.mk (blk_below (g := gb234) (o := .cells #[.slice A0_0 l0_0.length c0_0, .slice A0_1 l0_1.length c0_1, .slice A0_2 l0_2.length c0_2, .slice A0_3 l0_3.length c0_3, .slice A0_4 l0_4.length c0_4] 27 (0, 0)) (by (with_reducible repeat (first | refine blk_drewN ?_ _ | refine blk_drew ?_ | refine blk_alloc ?_ _)); exact BK234.out) hb); have n6_ := Aside0.mk (blk_below (g := gb235) (o := .cells #[.int .i64 a1_0, .int .i64 a1_1, .bool a1_2] 29 (0, 0)) (by (with_reducible repeat (first | refine blk_drewN ?_ _ | refine blk_drew ?_ | refine blk_alloc ?_ _)); exact BK235.out) hb); have n7_ := Aside0.mk (blk_below (g := gb252) (o := .cells #[.slice Ao13 t236.length co13, .slice Ao17 t239.length co17, .slice Ao18 t242.length co18, .slice Ao19 t245.length co19, .slice Ao20 t248.length co20] 27 (0, 0)) (by (with_reducible repeat (first | refine blk_drewN ?_ _ | refine blk_drew ?_ | refine blk_alloc ?_ _)); exact BK252.out) hb); have n8_ := Aside0.mk (below_step (by repeat (first | (with_reducible first | exact HB.out | apply below_alloc | apply pw_below_drewN | apply below_drew1 | refine below_set ?_ GE234.out | refine below_set ?_ GE235.out | refine below_set ?_ GE252.out) | exact HB.out)) hb); clear HO_253000; clear HO_253001; clear HO_253002; clear HO_253003; clear HO_253004; clear BK234; clear BK235; clear BK252; clear HB; have HO_253000 := n0_; have HO_253001 := n1_; have HO_253002 := n2_; have HO_253003 := n3_; have HO_253004 := n4_; have BK234 := n5_; have BK235 := n6_; have BK252 := n7_; have HB := n8_; clear n0_ n1_ n2_ n3_ n4_ n5_ n6_ n7_ n8_; (try clear hb); (try clear hb2); (try clear hk); (try clear hi)))
           go_ret
           exact ⟨by first | rfl | (simp [errW_none, errW_some] <;> rfl) | (simp [*, errW_none, errW_some] <;> rfl), by repeat (first | (with_reducible first | exact HB.out | apply below_alloc | apply pw_below_drewN | apply below_drew1 | refine below_set ?_ GE234.out | refine below_set ?_ GE235.out | refine below_set ?_ GE252.out) | exact HB.out)⟩
         · rw [if_neg c52] at H
           exact absurd H (by simp)
       · replace c51 := Bool.eq_false_iff.mpr c51
         subst c51
         have H1 : (none) = some r := by rw [if_neg (show ¬ (false = true) by decide)] at H; exact H
         exact absurd H1 (by simp)
end Go.Proofs.Ytimjccfpobhpeaa.PF
/- Plain: masklaw2.FaultInjects' contract answers true at every netlist and fault. -/
namespace Go.Proofs.Ytimjccfpobhpeaa
open Go.RowKit Go.Proofs.YtimjccfpobhpeaaW.PrintWords Go.Proofs.Ytimjccfpobhpeaa.PF
set_option linter.unusedVariables false
set_option maxRecDepth 100000
theorem faulty_true : masklaw2_faulty.f 60 = some true := by kernel_rfl
theorem gatePlaces_len : ∀ (xs : List GateS) (i : Nat), (∀ x ∈ xs, x.f2.length ≤ 6) → (gatePlaces xs i).length ≤ 6 * xs.length
 | [], i, h => Nat.zero_le _
 | x :: r, i, h => by
   have h1 := gatePlaces_len r (i + 1) (fun y hy => h y (List.mem_cons_of_mem _ hy))
   have h2 := h x List.mem_cons_self
   have h3 : ∀ (ys : List Int) (k : Nat), (pinPlaces i ys k).length = ys.length := by
     intro ys
     induction ys with
     | nil => intro k; rfl
     | cons y ys ih => intro k; rw [pinPlaces, List.length_cons, ih, List.length_cons]
   rw [gatePlaces, List.length_append, h3, List.length_cons]
   omega
theorem flopPlaces_len : ∀ (xs : List FlopS) (i : Nat), (flopPlaces xs i).length = 2 * xs.length
 | [], i => rfl
 | x :: r, i => by
   rw [flopPlaces, List.length_cons, List.length_cons, flopPlaces_len r (i + 1), List.length_cons]
   omega
theorem outPlaces_len : ∀ (xs : List Int) (i : Nat), (outPlaces xs i).length = xs.length
 | [], i => rfl
 | x :: r, i => by rw [outPlaces, List.length_cons, outPlaces_len r (i + 1), List.length_cons]
section
variable {l0 l1 : List ByteArray} {l2 : List FlopS} {l3 : List GateS} {l4 : List Int}
theorem FormOk.fit (h : FormOk l0 l1 l2 l3 l4) : loadsFit l0 l2 l3 l4 = true := by
 have hc0 := h.c0
 have hc1 := h.c1
 have hc2 := h.c2
 have hc3 := h.c3
 have hc4 := h.c4
 have hg := gatePlaces_len l3 0 (fun x hx => by
   obtain ⟨i, hi⟩ := List.getElem?_of_mem hx
   exact (h.pins i x hi).1)
 unfold loadsFit
 simp only [Bool.and_eq_true, decide_eq_true_eq, List.all_eq_true]
 refine ⟨⟨by unfold netsOf; omega, ?_⟩, fun p hp => ?_⟩
 · unfold placesOf
   rw [List.length_append, List.length_append, flopPlaces_len, outPlaces_len]
   omega
 · have hn : (netsOf l0 l2 l3 : Int) = 2 + (l0.length : Int) + l2.length + l3.length := by unfold netsOf; omega
   rw [hn]
   obtain ⟨q, _, hq⟩ := places_to hp
   cases q with
   | pin i k =>
     obtain ⟨g, h1, h2⟩ := Option.bind_eq_some_iff.1 hq
     have hi := (List.getElem?_eq_some_iff.1 h1).1
     simp only at hi
     have := (h.pins i g h1).2 _ (List.mem_of_getElem? h2)
     omega
   | d i =>
     obtain ⟨g, h1, h2⟩ := Option.map_eq_some_iff.1 hq
     have := h.flops g (List.mem_of_getElem? h1)
     omega
   | en i =>
     obtain ⟨g, h1, h2⟩ := Option.map_eq_some_iff.1 hq
     have := h.flops g (List.mem_of_getElem? h1)
     omega
   | out i =>
     have := h.outs _ (List.mem_of_getElem? hq)
     omega
theorem FormOk.copy (h : FormOk l0 l1 l2 l3 l4) : copyFits l0 l1 l2 l3 l4 = true := by
 have hc0 := h.c0
 have hc1 := h.c1
 have hc2 := h.c2
 have hc3 := h.c3
 have hc4 := h.c4
 unfold copyFits
 simp only [Bool.and_eq_true, decide_eq_true_eq, List.all_eq_true]
 refine ⟨⟨⟨⟨⟨by omega, by omega⟩, by omega⟩, by omega⟩, by omega⟩, fun x hx => ?_⟩
 obtain ⟨i, hi⟩ := List.getElem?_of_mem hx
 have := (h.pins i x hi).1
 omega
end
theorem check_ex (rows : List (List S77)) (a b : Int) (c : Bool) : ∃ e, ∀ k, fault_check.f (k + 1) rows a b c = some e ∧
   (if a < 2 then maskref2_FaultFault.j0 (k + 1) rows true a b c else maskref2_FaultFault.j0 (k + 1) rows (decide (a ≥ (rows.length : Int))) a b c) = some e := by
 by_cases h1 : a < 2
 · exact ⟨7, fun k => by rw [fault_check.f, if_pos h1, if_pos h1, fault_check.j0, maskref2_FaultFault.j0, if_pos rfl]; exact ⟨rfl, rfl⟩⟩
 by_cases h2 : a ≥ (rows.length : Int)
 · exact ⟨7, fun k => by rw [fault_check.f, if_neg h1, if_neg h1, decide_eq_true h2, fault_check.j0, maskref2_FaultFault.j0, if_pos rfl]; exact ⟨rfl, rfl⟩⟩
 by_cases h3 : b < -1
 · exact ⟨2, fun k => by rw [fault_check.f, if_neg h1, if_neg h1, decide_eq_false h2, fault_check.j0, maskref2_FaultFault.j0, if_neg (show ¬ (false = true) by decide), if_pos h3]; exact ⟨rfl, rfl⟩⟩
 by_cases h4 : b ≥ ((rd_L12 rows a).length : Int)
 · exact ⟨2, fun k => by rw [fault_check.f, if_neg h1, if_neg h1, decide_eq_false h2, fault_check.j0, maskref2_FaultFault.j0, if_neg (show ¬ (false = true) by decide), if_neg h3, if_pos (show 0 ≤ a by omega), if_pos (show a < (rows.length : Int) by omega), if_pos h4]; exact ⟨rfl, rfl⟩⟩
 · exact ⟨0, fun k => by rw [fault_check.f, if_neg h1, if_neg h1, decide_eq_false h2, fault_check.j0, maskref2_FaultFault.j0, if_neg (show ¬ (false = true) by decide), if_neg h3, if_pos (show 0 ≤ a by omega), if_pos (show a < (rows.length : Int) by omega), if_neg h4]; exact ⟨rfl, rfl⟩⟩
section
variable (l0 l1 : List ByteArray) (l2 : List FlopS) (l3 : List GateS) (l4 : List Int) (a b : Int) (c : Bool)
theorem same_self : netlist_Same.f l0 l1 l2 l3 l4 l0 l1 l2 l3 l4 = some true := by
 unfold netlist_Same.f
 rw [if_pos ⟨rfl, rfl, rfl, rfl, rfl⟩]
theorem j0_err {k : Nat} (hf : masklaw2_faulty.f k = some true) {e : Int} (he : ¬ e = 0) : masklaw2_FaultInjects.j0 (k + 1) e e l0 l1 l2 l3 l4 a b c [] [] [] [] [] = some true := by
 rw [masklaw2_FaultInjects.j0, if_neg he, hf, Option.bind_some, if_pos rfl, if_pos rfl, same_self, Option.bind_some]
theorem injects_true : ∃ k, masklaw2_FaultInjects.f k l0 l1 l2 l3 l4 a b c = some true := by
 obtain ⟨kF, e, hF, hok⟩ := form_ex l0 l1 l2 l3 l4
 have hform : ∀ k, kF ≤ k → netlist_Form.f k l0 l1 l2 l3 l4 = some e := fun k hk => upK (netlist_Form.mono l0 l1 l2 l3 l4) hk hF
 have hf : ∀ k, 60 ≤ k → masklaw2_faulty.f k = some true := fun k hk => upK masklaw2_faulty.mono hk faulty_true
 refine ⟨kF + 60 + 1, ?_⟩
 by_cases he : e = 0
 · subst he
   have ok := hok rfl
   have hL : ∀ k, kF ≤ k → netlist_Loads.f k l0 l1 l2 l3 l4 = some (loadsOf l0 l2 l3 l4, 0) := fun k hk => by
     rw [netlist_Loads.f, hform k hk, Option.bind_some, if_pos rfl, if_pos ok.fit]
   obtain ⟨e2, hc⟩ := check_ex (loadsOf l0 l2 l3 l4) a b c
   have hFF : maskref2_FaultFault.f (kF + 60 + 1) l0 l1 l2 l3 l4 a b c = some e2 := by
     rw [maskref2_FaultFault.f, hL _ (by omega), Option.bind_some]
     exact (hc (kF + 60)).2
   by_cases h2 : e2 = 0
   · subst h2
     obtain ⟨k1, k2, k3, k4⟩ := fault_check.ok (hc (kF + 60)).1
     rw [loadsOf_len] at k2
     obtain ⟨n, rfl⟩ := Int.eq_ofNat_of_zero_le (show 0 ≤ a by omega)
     have hib := inj_br ok.fit n b c (by omega)
     have hI : fault_Inject.f (kF + 60 + 1) l0 l1 l2 l3 l4 n b c = some (l0, l1, brFlops (nvOf l0 l2 l3 l4 n b c) l2 0, brGates (nvOf l0 l2 l3 l4 n b c) l3 0, brOuts (nvOf l0 l2 l3 l4 n b c) l4 0, 0) := by
       rw [fault_Inject.f, hL _ (by omega), Option.bind_some, if_pos rfl]
       show ((fault_check.f (kF + 60 + 1) (loadsOf l0 l2 l3 l4) n b c).bind _) = _
       rw [(hc (kF + 60)).1, Option.bind_some, if_pos rfl, if_pos ok.copy]
       show some (l0, l1, (injRes (loadsOf l0 l2 l3 l4) n b c l2 l3 l4).fl, (injRes (loadsOf l0 l2 l3 l4) n b c l2 l3 l4).ga, (injRes (loadsOf l0 l2 l3 l4) n b c l2 l3 l4).ou, 0) = _
       rw [hib]
       rfl
     have hB : maskref2_Broken.f (kF + 60) l0 l1 l2 l3 l4 n b c = some (l0, l1, brFlops (nvOf l0 l2 l3 l4 n b c) l2 0, brGates (nvOf l0 l2 l3 l4 n b c) l3 0, brOuts (nvOf l0 l2 l3 l4 n b c) l4 0) := by
       rw [maskref2_Broken.f, hL _ (by omega), Option.bind_some, if_pos ⟨rfl, ok.copy⟩]
     rw [masklaw2_FaultInjects.f, hI, Option.bind_some, hform _ (by omega), Option.bind_some, if_pos rfl, hFF, Option.bind_some]
     show masklaw2_FaultInjects.j0 (kF + 60 + 1) 0 0 l0 l1 l2 l3 l4 n b c l0 l1 (brFlops (nvOf l0 l2 l3 l4 n b c) l2 0) (brGates (nvOf l0 l2 l3 l4 n b c) l3 0) (brOuts (nvOf l0 l2 l3 l4 n b c) l4 0) = some true
     rw [masklaw2_FaultInjects.j0, if_pos rfl, hf _ (by omega), Option.bind_some, if_pos rfl, if_pos rfl, hB, Option.bind_some]
     show (netlist_Same.f l0 l1 (brFlops (nvOf l0 l2 l3 l4 n b c) l2 0) (brGates (nvOf l0 l2 l3 l4 n b c) l3 0) (brOuts (nvOf l0 l2 l3 l4 n b c) l4 0) l0 l1 (brFlops (nvOf l0 l2 l3 l4 n b c) l2 0) (brGates (nvOf l0 l2 l3 l4 n b c) l3 0) (brOuts (nvOf l0 l2 l3 l4 n b c) l4 0)).bind _ = some true
     rw [same_self, Option.bind_some]
   · have hI : fault_Inject.f (kF + 60 + 1) l0 l1 l2 l3 l4 a b c = some ([], [], [], [], [], e2) := by
       rw [fault_Inject.f, hL _ (by omega), Option.bind_some, if_pos rfl]
       show ((fault_check.f (kF + 60 + 1) (loadsOf l0 l2 l3 l4) a b c).bind _) = _
       rw [(hc (kF + 60)).1, Option.bind_some, if_neg h2]
     rw [masklaw2_FaultInjects.f, hI, Option.bind_some, hform _ (by omega), Option.bind_some, if_pos rfl, hFF, Option.bind_some]
     exact j0_err l0 l1 l2 l3 l4 a b c (hf _ (by omega)) h2
 · have hI : fault_Inject.f (kF + 60 + 1) l0 l1 l2 l3 l4 a b c = some ([], [], [], [], [], e) := by
     rw [fault_Inject.f, netlist_Loads.f, hform _ (by omega), Option.bind_some, if_neg he, Option.bind_some, if_neg he]
   rw [masklaw2_FaultInjects.f, hI, Option.bind_some, hform _ (by omega), Option.bind_some, if_neg he]
   exact j0_err l0 l1 l2 l3 l4 a b c (hf _ (by omega)) he
end
end Go.Proofs.Ytimjccfpobhpeaa
/- Arguments that read as plain data lie as Rep tells: from the row's reading to the predicates of this library. -/
namespace Go.Proofs.Ytimjccfpobhpeaa
open Go.RowKit Go.ChangeShapes Go.WideShapes Go.ChangeAt
def Light {H : Type} (P : Program) (t : TypeId) (d : DataW H) : Prop := ∀ n ∈ d.weights P t, n ≤ reachBytes
theorem light_each {H : Type} {P : Program} : ∀ {ts : List TypeId} {ds : List (DataW H)}, (∀ n ∈ DataW.weightsEach P ts ds, n ≤ reachBytes) → ∀ {j : Nat} {t : TypeId} {d : DataW H}, ts[j]? = some t → ds[j]? = some d → Light P t d :=
 fun h _ _ _ ht hd n hn => h n (DataW.weights_mem_each ht hd n hn)
theorem light_all {H : Type} {P : Program} {e : TypeId} : ∀ {ds : List (DataW H)}, (∀ n ∈ DataW.weightsAll P e ds, n ≤ reachBytes) → ∀ d ∈ ds, Light P e d
 | [], _, d, hd => by simp at hd
 | d0 :: ds, h, d, hd => by
   simp only [DataW.weightsAll, List.mem_append] at h
   rcases List.mem_cons.1 hd with rfl | hd
   · exact fun n hn => h n (.inl hn)
   · exact light_all (fun n hn => h n (.inr hn)) d hd
structure Opens {α : Type} (P : Program) (d : Rep α) (t : TypeId) (W : α → Prop) : Prop where
 cells : P.cellsOf t = d.sz
 opens : ∀ {H : Type} (enc : TypeId × Value → H) (w : World) (n : Nat) (cs : List Value) (y : DataW H × List MemPlace),
   DataW.trod enc P w 0 (fun _ => true) true n t cs = some y → Light P t y.1 → ∃ x, d.rel w (fun k => k < w.heap.size) x cs ∧ W x
theorem Opens.int {P : Program} {t : TypeId} {k : IntKind} (u : P.underlying t = some (.int k)) (hc : P.cellsOf t = 1) : Opens P (Rep.int k) t (fun _ => True) :=
 ⟨hc, fun enc w n cs y h _ => by
   obtain ⟨m, rfl, rfl, hw⟩ := DataW.trod_int u h
   refine ⟨m, ⟨rfl, ?_⟩, trivial⟩
   simpa [Lit.wf, InK] using hw⟩
theorem Opens.bool {P : Program} {t : TypeId} (u : P.underlying t = some .bool) (hc : P.cellsOf t = 1) : Opens P Rep.bool t (fun _ => True) :=
 ⟨hc, fun enc w n cs y h _ => by
   cases n with
   | zero => simp [DataW.trod] at h
   | succ m =>
     unfold DataW.trod at h
     rw [u] at h
     split at h <;> try (simp at *; done)
     rename_i b _
     exact ⟨b, ⟨rfl, trivial⟩, trivial⟩⟩
theorem Opens.str {P : Program} {t : TypeId} (u : P.underlying t = some .string) (hc : P.cellsOf t = 1) : Opens P Rep.str t (fun x => x.size ≤ reachBytes) :=
 ⟨hc, fun enc w n cs y h hl => by
   cases n with
   | zero => simp [DataW.trod] at h
   | succ m =>
     unfold DataW.trod at h
     rw [u] at h
     split at h <;> try (simp at *; done)
     rename_i s _
     simp only [Option.ite_none_right_eq_some, Option.some.injEq] at h
     obtain ⟨hm, rfl⟩ := h
     refine ⟨s, ⟨rfl, by simpa [maxLen] using hm⟩, ?_⟩
     have := hl s.data.toList.length (by simp [DataW.weights])
     simpa using this⟩
theorem Opens.iso {α β : Type} {P : Program} {d : Rep α} {f : β → α} {t : TypeId} {W : α → Prop} (h : Opens P d t W) (hf : ∀ x, ∃ y, f y = x) : Opens P (Rep.iso d f) t (fun y => W (f y)) :=
 ⟨h.cells, fun enc w n cs y ht hl => by
   obtain ⟨x, hr, hW⟩ := h.opens enc w n cs y ht hl
   obtain ⟨z, rfl⟩ := hf x
   exact ⟨z, hr, hW⟩⟩
def OpensF {α : Type} (P : Program) (d : Rep α) (fs : List Field) (o : Nat) (W : α → Prop) : Prop :=
 ∀ {H : Type} (enc : TypeId × Value → H) (w : World) (n : Nat) (cs : List Value) (ys : List (DataW H × List MemPlace)), ys.length = fs.length →
   (∀ (i : Nat) (f : Field), fs[i]? = some f → DataW.trod enc P w 0 (fun _ => true) true n f.type ((cs.drop f.offset).take (P.cellsOf f.type)) = ys[i]?) →
   (∀ m ∈ DataW.weightsEach P (fs.map (·.type)) (ys.map (·.1)), m ≤ reachBytes) → ∃ x, d.rel w (fun k => k < w.heap.size) x ((cs.drop o).take d.sz) ∧ W x
theorem OpensF.one {α : Type} {P : Program} {d : Rep α} {f : Field} {o : Nat} {W : α → Prop} (h : Opens P d f.type W) (ho : f.offset = o) : OpensF P d [f] o W := by
 intro H enc w n cs ys hl ht hw
 subst ho
 have h0 := ht 0 f rfl
 rw [h.cells] at h0
 have hl0 : 0 < ys.length := by simp [hl]
 have hy : ys[0]? = some ys[0] := List.getElem?_eq_getElem hl0
 rw [hy] at h0
 exact h.opens enc w n _ _ h0 (light_each hw (j := 0) (t := f.type) (d := ys[0].1) rfl (by rw [List.getElem?_map, hy]; rfl))
theorem OpensF.pair {α β : Type} {P : Program} {a : Rep α} {b : Rep β} {f : Field} {fs : List Field} {o : Nat} {W : α → Prop} {V : β → Prop} (h : Opens P a f.type W) (ho : f.offset = o) (hs : OpensF P b fs (o + a.sz) V) :
   OpensF P (Rep.pair a b) (f :: fs) o (fun x => W x.1 ∧ V x.2) := by
 intro H enc w n cs ys hl ht hw
 subst ho
 match ys, hl with
 | y :: ys, hl =>
   have h0 := ht 0 f rfl
   rw [h.cells] at h0
   obtain ⟨x, hx, hW⟩ := h.opens enc w n _ y h0 (light_each hw (j := 0) rfl rfl)
   simp only [List.map_cons, DataW.weightsEach, List.mem_append] at hw
   obtain ⟨z, hz, hV⟩ := hs enc w n cs ys (by simpa using hl) (fun i g hg => by simpa using ht (i + 1) g (by simpa using hg)) (fun m hm => hw m (.inr hm))
   refine ⟨(x, z), ⟨_, _, ?_, hx, hz⟩, hW, hV⟩
   show (cs.drop f.offset).take (a.sz + b.sz) = _
   rw [List.take_add, List.drop_drop]
theorem Opens.struct {α : Type} {P : Program} {d : Rep α} {t : TypeId} {fs : Array Field} {W : α → Prop} (u : P.underlying t = some (.struct fs)) (hc : P.cellsOf t = d.sz) (h : OpensF P d fs.toList 0 W) : Opens P d t W :=
 ⟨hc, fun enc w n cs y ht hl => by
   obtain ⟨xs, m, rfl, rfl, hcl, hxl, hf⟩ := DataW.trod_struct u ht
   obtain ⟨x, hx, hW⟩ := h enc w m cs xs (by simpa using hxl) (fun i f hi => hf i f (by simpa using hi)) (by
     intro k hk
     refine hl k ?_
     simp only [DataW.weights, u]
     exact hk)
   refine ⟨x, ?_, hW⟩
   rw [List.drop_zero, List.take_of_length_le (by omega)] at hx
   exact hx⟩
theorem choose_list {α : Type} (n : Nat) (Q : Nat → α → Prop) (h : ∀ i, i < n → ∃ x, Q i x) : ∃ xs : List α, xs.length = n ∧ ∀ i x, xs[i]? = some x → Q i x := by
 induction n with
 | zero => exact ⟨[], rfl, fun i x h => by simp at h⟩
 | succ n ih =>
   obtain ⟨xs, hl, hq⟩ := ih (fun i hi => h i (by omega))
   obtain ⟨x, hx⟩ := h n (by omega)
   refine ⟨xs ++ [x], by simp [hl], fun i y hy => ?_⟩
   rcases Nat.lt_trichotomy i xs.length with hi | rfl | hi
   · rw [List.getElem?_append_left hi] at hy; exact hq i y hy
   · simp at hy; subst hy; rw [hl]; exact hx
   · rw [List.getElem?_eq_none (by simp; omega)] at hy; simp at hy
theorem Opens.slice {α : Type} {P : Program} {d : Rep α} {t e : TypeId} {W : α → Prop} (h : Opens P d e W) (u : P.underlying t = some (.slice e)) (hc : P.cellsOf t = 1) (hz : 0 < d.sz) (B : Nat) (hB : P.bytesOf e = B) :
   Opens P (Rep.slice d) t (fun xs => xs.length * B ≤ reachBytes ∧ ∀ x ∈ xs, W x) :=
 ⟨hc, fun enc w n cs y ht hl => by
   rcases DataW.trod_slice u ht with ⟨rfl, rfl⟩ | ⟨a, len, cap, elems, rest, m, rfl, rfl, rfl, hb, hlc, hm, hlen, hel, hsp, hns⟩
   · exact ⟨[], ⟨none, 0, rfl, Rep.Sl.empty d w _⟩, by simp, by simp⟩
   have hl2 : ∀ n ∈ DataW.weightsAll P e (elems.map (·.1)), n ≤ reachBytes := fun n hn => hl n (by
     simp only [DataW.weights, u, List.mem_cons, List.mem_append]
     exact .inr (.inl hn))
   have hplain : 0 < len → ∃ b o, a = ⟨b, o, none⟩ := by
     intro h0
     have h1 := hel 0 h0
     have hy : elems[0]? = some (elems[0]'(by omega)) := List.getElem?_eq_getElem (by omega)
     rw [hy, h.cells, Option.bind_eq_some_iff] at h1
     obtain ⟨cs, hcs, h2⟩ := h1
     obtain ⟨_, hcl, hce⟩ := World.cells?_some hcs
     have hc0 := hce 0 hz
     obtain ⟨v, hv⟩ : ∃ v, cs[0]? = some v := ⟨cs[0]'(by omega), List.getElem?_eq_getElem (by omega)⟩
     rw [hv] at hc0
     obtain ⟨b, o, spot⟩ := a
     have h9 := World.cell?_spot hc0
     have hspot : spot = none := by simpa [Addr.add] using h9
     exact ⟨b, o, by rw [hspot]⟩
   have key : ∀ i, i < len → ∃ x, (∃ b o, a = ⟨b, o, none⟩ ∧ b < w.heap.size ∧ ∃ cs, d.rel w (fun k => k < w.heap.size) x cs ∧ CellsAt w b (o + i * d.sz) cs) ∧ W x := by
     intro i hi
     have h1 := hel i hi
     have hy : elems[i]? = some elems[i] := List.getElem?_eq_getElem (by omega)
     rw [hy, h.cells, Option.bind_eq_some_iff] at h1
     obtain ⟨cs, hcs, h2⟩ := h1
     obtain ⟨x, hx, hW⟩ := h.opens enc w m cs _ h2 (light_all hl2 _ (List.mem_map.2 ⟨_, List.mem_of_getElem? hy, rfl⟩))
     obtain ⟨_, hcl, hce⟩ := World.cells?_some hcs
     have hc0 := hce 0 hz
     obtain ⟨b, o, rfl⟩ := hplain (by omega)
     obtain ⟨v, hv⟩ : ∃ v, cs[0]? = some v := ⟨cs[0]'(by omega), List.getElem?_eq_getElem (by omega)⟩
     rw [hv] at hc0
     rw [add_plain] at hc0 hce
     refine ⟨x, ⟨b, o, rfl, ?_, cs, hx, ?_⟩, hW⟩
     · have := block_lt_of_cell hc0
       rw [add_plain] at this
       exact this
     · intro j v hv
       have hj : j < d.sz := by rw [← hcl]; exact (List.getElem?_eq_some_iff.1 hv).1
       rw [← hv, ← hce j hj, add_plain]
   obtain ⟨xs, hxl, hq⟩ := choose_list len _ key
   refine ⟨xs, ⟨some a, cap, by rw [hxl], ⟨by omega, by simpa [maxLen] using hm, by simp, ?_⟩⟩, ?_, ?_⟩
   · intro i x hx
     obtain ⟨⟨b, o, rfl, hbl, cs, hr, hca⟩, _⟩ := hq i x hx
     exact ⟨b, o, cs, rfl, hbl, hbl, hr, hca⟩
   · have := hl ((elems.length + rest.length) * P.bytesOf e) (by simp [DataW.weights, u])
     rw [hB] at this
     rw [hxl, ← hlen]
     exact Nat.le_trans (Nat.mul_le_mul_right _ (by omega)) this
   · intro x hx
     obtain ⟨i, hi⟩ := List.getElem?_of_mem hx
     exact (hq i x hi).2⟩
end Go.Proofs.Ytimjccfpobhpeaa
/- Netlists and faults that come in as arguments lie as the print's own words tell. -/
namespace Go.Proofs.Ytimjccfpobhpeaa
open Go.RowKit Go.ChangeShapes Go.WideShapes Go.ChangeAt
open Go.Proofs.YtimjccfpobhpeaaW.PrintWords (Kd)
open Go.Proofs.Ytimjccfpobhpeaa.PF
set_option maxRecDepth 100000
structure KR {α : Type} (d : Rep α) (k : Kd α) : Prop where
 sz : d.sz = k.sz
 tok : ∀ {w : World} {F : Nat → Prop} {x : α} {cs : List Value}, d.rel w F x cs → k.K w x cs
theorem KR.C {α : Type} {d : Rep α} {k : Kd α} (h : KR d k) {w : World} {F : Nat → Prop} {A : Option Addr} {c : Nat} {xs : List α} (hs : Rep.Sl d w F A c xs) : Kd.C k w A xs.length xs ∧ xs.length ≤ c := by
 refine ⟨⟨rfl, by have := hs.len; omega, fun hn => ?_⟩, hs.le⟩
 obtain ⟨b, o, rfl, _⟩ := hs.row.head hn
 refine ⟨⟨b, o, none⟩, rfl, fun j p hp => ?_⟩
 obtain ⟨b', o', cs, hA, _, _, hr, hc⟩ := hs.row j p hp
 simp only [Option.some.injEq, Addr.mk.injEq, and_true] at hA
 obtain ⟨rfl, rfl⟩ := hA
 refine ⟨cs, by rw [d.len hr, h.sz], h.tok hr, fun i u hu => ?_⟩
 rw [Addr.add_lit, ← h.sz, show o + (j * d.sz + i) = o + j * d.sz + i by omega]
 exact hc i u hu
theorem KR.int (k : IntKind) : KR (Rep.int k) (Kd.int k) := ⟨rfl, fun h => h.1⟩
theorem KR.bool : KR Rep.bool Kd.bool := ⟨rfl, fun h => h.1⟩
theorem KR.str : KR Rep.str Kd.string := ⟨rfl, fun h => h.1⟩
theorem KR.slice {α : Type} {d : Rep α} {k : Kd α} (h : KR d k) (e : Nat) : KR (Rep.slice d) (Kd.slice e k) := ⟨rfl, by
 rintro w F x cs ⟨A, c, rfl, hs⟩
 exact ⟨A, c, rfl, (h.C hs).2, (h.C hs).1⟩⟩
theorem KR.pair {α β : Type} {a : Rep α} {b : Rep β} {ka : Kd α} {kb : Kd β} (h : KR a ka) (h2 : KR b kb) : KR (Rep.pair a b) (Kd.pair ka kb) := ⟨by show a.sz + b.sz = ka.sz + kb.sz; rw [h.sz, h2.sz], by
 rintro w F x cs ⟨c0, c1, rfl, h0, h1⟩
 exact ⟨c0, c1, rfl, h.tok h0, h2.tok h1⟩⟩
theorem KR.iso {α β : Type} {d : Rep α} {k : Kd α} (h : KR d k) (f : β → α) : KR (Rep.iso d f) (Kd.iso k f) := ⟨h.sz, fun hr => h.tok hr⟩
theorem opens_int : Opens Try.prog (Rep.int .i64) 3 (fun _ => True) := Opens.int Try.underlying3 (by kernel_rfl)
theorem opens_u64 : Opens Try.prog (Rep.int .u64) 78 (fun _ => True) := Opens.int Try.underlying78 (by kernel_rfl)
theorem opens_bool : Opens Try.prog Rep.bool 4 (fun _ => True) := Opens.bool Try.underlying4 (by kernel_rfl)
theorem opens_str : Opens Try.prog Rep.str 9 (fun x => x.size ≤ reachBytes) := Opens.str Try.underlying9 (by kernel_rfl)
theorem opens_ints : Opens Try.prog (Rep.slice (Rep.int .i64)) 25 (fun xs => xs.length * 8 ≤ reachBytes ∧ ∀ x ∈ xs, True) := opens_int.slice Try.underlying25 (by kernel_rfl) (by decide) 8 (by kernel_rfl)
theorem opens_strs : Opens Try.prog (Rep.slice Rep.str) 22 (fun xs => xs.length * 16 ≤ reachBytes ∧ ∀ x ∈ xs, x.size ≤ reachBytes) := opens_str.slice Try.underlying22 (by kernel_rfl) (by decide) 16 (by kernel_rfl)
def rFlop : Rep S82 := Rep.iso (Rep.pair Rep.str (Rep.pair (Rep.int .i64) (Rep.pair (Rep.int .i64) (Rep.pair (Rep.int .i64) Rep.bool)))) (fun x : S82 => (x.f0, x.f1, x.f2, x.f3, x.f4))
def rGate : Rep S80 := Rep.iso (Rep.pair (Rep.int .i64) (Rep.pair (Rep.int .u64) (Rep.slice (Rep.int .i64)))) (fun x : S80 => (x.f0, x.f1, x.f2))
theorem kr_flop : KR rFlop k82 := KR.iso (KR.pair KR.str (KR.pair (KR.int .i64) (KR.pair (KR.int .i64) (KR.pair (KR.int .i64) KR.bool)))) _
theorem kr_gate : KR rGate k80 := KR.iso (KR.pair (KR.int .i64) (KR.pair (KR.int .u64) (KR.slice (KR.int .i64) 3))) _
theorem opens_flop : ∃ W, Opens Try.prog rFlop 82 W :=
 ⟨_, (Opens.struct (d := Rep.pair Rep.str (Rep.pair (Rep.int .i64) (Rep.pair (Rep.int .i64) (Rep.pair (Rep.int .i64) Rep.bool)))) Try.underlying82 (by kernel_rfl) (OpensF.pair opens_str rfl (OpensF.pair opens_int rfl (OpensF.pair opens_int rfl (OpensF.pair opens_int rfl (OpensF.one opens_bool rfl)))))).iso (fun x => ⟨⟨x.1, x.2.1, x.2.2.1, x.2.2.2.1, x.2.2.2.2⟩, rfl⟩)⟩
theorem opens_gate : ∃ W, Opens Try.prog rGate 80 W :=
 ⟨_, (Opens.struct (d := Rep.pair (Rep.int .i64) (Rep.pair (Rep.int .u64) (Rep.slice (Rep.int .i64)))) Try.underlying80 (by kernel_rfl) (OpensF.pair opens_int rfl (OpensF.pair opens_u64 rfl (OpensF.one opens_ints rfl)))).iso (fun x => ⟨⟨x.1, x.2.1, x.2.2⟩, rfl⟩)⟩
theorem opens_net : ∃ W, Opens Try.prog (Rep.pair (Rep.slice Rep.str) (Rep.pair (Rep.slice Rep.str) (Rep.pair (Rep.slice rFlop) (Rep.pair (Rep.slice rGate) (Rep.slice (Rep.int .i64)))))) 27 W := by
 obtain ⟨W1, h1⟩ := opens_flop
 obtain ⟨W2, h2⟩ := opens_gate
 have h3 := h1.slice Try.underlying23 (by kernel_rfl) (by decide) 48 (by kernel_rfl)
 have h4 := h2.slice Try.underlying24 (by kernel_rfl) (by decide) 40 (by kernel_rfl)
 exact ⟨_, Opens.struct Try.underlying27 (by kernel_rfl) (OpensF.pair opens_strs rfl (OpensF.pair opens_strs rfl (OpensF.pair h3 rfl (OpensF.pair h4 rfl (OpensF.one opens_ints rfl)))))⟩
theorem opens_fault : ∃ W, Opens Try.prog (Rep.pair (Rep.int .i64) (Rep.pair (Rep.int .i64) Rep.bool)) 29 W :=
 ⟨_, Opens.struct Try.underlying29 (by kernel_rfl) (OpensF.pair opens_int rfl (OpensF.pair opens_int rfl (OpensF.one opens_bool rfl)))⟩
theorem arg_net {H : Type} {enc : TypeId × Value → H} {w : World} {r : Reach} {b : Nat} {v : Value} {d : DataW H} {p : List MemPlace} (hv : Value.okWide Try.prog w r b 27 v)
   (h : DataW.Trod enc Try.prog w 0 (fun _ => true) true 27 v d p) (hl : Light Try.prog 27 d) :
   ∃ (A0 A1 A2 A3 A4 : Option Addr) (c0 c1 c2 c3 c4 : Nat) (l0 l1 : List ByteArray) (l2 : List S82) (l3 : List S80) (l4 : List Int), v = .agg #[.slice A0 l0.length c0, .slice A1 l1.length c1, .slice A2 l2.length c2, .slice A3 l3.length c3, .slice A4 l4.length c4] ∧
     (Kd.C Kd.string w A0 l0.length l0 ∧ l0.length ≤ c0) ∧ (Kd.C Kd.string w A1 l1.length l1 ∧ l1.length ≤ c1) ∧ (Kd.C k82 w A2 l2.length l2 ∧ l2.length ≤ c2) ∧ (Kd.C k80 w A3 l3.length l3 ∧ l3.length ≤ c3) ∧ Kd.C (Kd.int .i64) w A4 l4.length l4 ∧ l4.length ≤ c4 := by
 obtain ⟨cs, rfl, _⟩ := okWide_struct Try.underlying27 hv
 obtain ⟨n, hf⟩ := h
 obtain ⟨W, hO⟩ := opens_net
 obtain ⟨x, hx, _⟩ := hO.opens enc w n _ _ hf hl
 obtain ⟨_, _, hc, ⟨A0, c0, rfl, s0⟩, _, _, rfl, ⟨A1, c1, rfl, s1⟩, _, _, rfl, ⟨A2, c2, rfl, s2⟩, _, _, rfl, ⟨A3, c3, rfl, s3⟩, ⟨A4, c4, rfl, s4⟩⟩ := hx
 refine ⟨A0, A1, A2, A3, A4, c0, c1, c2, c3, c4, _, _, _, _, _, ?_, KR.str.C s0, KR.str.C s1, kr_flop.C s2, kr_gate.C s3, (KR.int .i64).C s4⟩
 obtain ⟨cs⟩ := cs
 simp only [Value.cells] at hc
 rw [hc]
 rfl
theorem arg_fault {H : Type} {enc : TypeId × Value → H} {w : World} {r : Reach} {b : Nat} {v : Value} {d : DataW H} {p : List MemPlace} (hv : Value.okWide Try.prog w r b 29 v)
   (h : DataW.Trod enc Try.prog w 0 (fun _ => true) true 29 v d p) (hl : Light Try.prog 29 d) :
   ∃ (x y : Int) (z : Bool), v = .agg #[.int .i64 x, .int .i64 y, .bool z] := by
 obtain ⟨cs, rfl, _⟩ := okWide_struct Try.underlying29 hv
 obtain ⟨n, hf⟩ := h
 obtain ⟨W, hO⟩ := opens_fault
 obtain ⟨x, hx, _⟩ := hO.opens enc w n _ _ hf hl
 obtain ⟨_, _, hc, ⟨rfl, _⟩, _, _, rfl, ⟨rfl, _⟩, ⟨rfl, _⟩⟩ := hx
 refine ⟨x.1, x.2.1, x.2.2, ?_⟩
 obtain ⟨cs⟩ := cs
 simp only [Value.cells] at hc
 rw [hc]
 rfl
end Go.Proofs.Ytimjccfpobhpeaa
/- FaultInjects answers true at every input, and the arguments read behind the call as before. No condition. -/
namespace Go.Proofs.Ytimjccfpobhpeaa.FaultInjects
open Go.ChangeShapes Go.WideShapes Go.ChangeAt Go.RowKit
open Go.Proofs.Ytimjccfpobhpeaa.PF
set_option linter.unusedVariables false
theorem own : ownKnob Try.prog.godebug = none := by kernel_rfl
theorem laidOut : laidOutB Try.prog = true := by kernel_rfl
set_option maxRecDepth 100000 in
theorem lifted (os : Os) (started : os.Started) (H : Type) (enc : TypeId × Value → H) :
   ReturnsInHanded {} Try.checked os 3 .any (Rows.faultInjectsSpec.pre6 enc Try.prog Try.f3 Rows.faultInjectsRow.domain false) (Rows.faultInjectsSpec.post enc Try.prog Try.f3 false true false false) := by
 refine returnsInHanded_of_change_sized (C := Try.checked) own started (by kernel_rfl) Try.func3
   (ChangeSpec.witness6 (enc := enc) (C := Try.checked) false ⟨#[], #[.agg #[.slice none 0 0, .slice none 0 0, .slice none 0 0, .slice none 0 0, .slice none 0 0], .agg #[.int .i64 0, .int .i64 0, .bool false]], []⟩ 8 (by kernel_rfl) (by kernel_rfl) (by kernel_rfl) (by kernel_rfl)) ?_
 intro W base args ds gs before hval0 hW hcnd hsz0 _
 have hsz : (DataW.weightsEach Try.prog (Try.f3.params.toList ++ Rows.faultInjectsSpec.plain.varTypes Try.prog) (ds ++ gs)).all (· ≤ reachBytes) = true := hsz0
 have hval : ∀ (j : Nat) t v, Try.f3.params[j]? = some t → args[j]? = some v → Value.okWide Try.prog W .any base t v := hval0
 have hW' := hW
 obtain ⟨p, q, hA0, hV, rfl, hfz, hnd⟩ := hW
 have hA : DataW.TrodAll enc Try.prog W 0 (fun _ => true) true Try.f3.params.toList args.toList ds p := hA0
 rw [Try.params3] at hA hval hsz
 obtain ⟨v0, vs0, d0, ds0, p0, q0, hargs, rfl, rfl, h0, r0⟩ := trodAll_cons hA
 obtain ⟨v1, vs1, d1, ds1, p1, q1, rfl, rfl, rfl, h1, r1⟩ := trodAll_cons r0
 obtain ⟨rfl, rfl, rfl⟩ := trodAll_nil r1
 obtain rfl : args = #[v0, v1] := by cases args; simp_all
 obtain ⟨rfl, rfl⟩ := trodVars_none hV
 have hall : ∀ n ∈ DataW.weightsEach Try.prog (#[27, 29].toList ++ Rows.faultInjectsSpec.plain.varTypes Try.prog) ([d0, d1] ++ []), n ≤ reachBytes := by
   intro n hn
   simpa using List.all_eq_true.1 hsz n hn
 obtain ⟨A0_0, A0_1, A0_2, A0_3, A0_4, c0_0, c0_1, c0_2, c0_3, c0_4, l0_0, l0_1, l0_2, l0_3, l0_4, rfl, hr0_0, hr0_1, hr0_2, hr0_3, hr0_4a, hr0_4b⟩ := arg_net (hval 0 27 v0 rfl rfl) h0 (light_each hall (j := 0) rfl rfl)
 obtain ⟨a1_0, a1_1, a1_2, rfl⟩ := arg_fault (hval 1 29 v1 rfl rfl) h1 (light_each hall (j := 1) rfl rfl)
 have l0 : ∀ x ∈ p0, x.block < W.heap.size := by obtain ⟨m, hm⟩ := h0; exact DataW.trod_lt m _ _ _ hm
 have l1 : ∀ x ∈ p1, x.block < W.heap.size := by obtain ⟨m, hm⟩ := h1; exact DataW.trod_lt m _ _ _ hm
 clear hA0 hval0 hsz0 hsz hall
 refine Calls.mono (Exists.elim (injects_true l0_0 l0_1 l0_2 l0_3 l0_4 a1_0 a1_1 a1_2) fun k hk => masklaw2_FaultInjects.calls k A0_0 c0_0 l0_0 A0_1 c0_1 l0_1 A0_2 c0_2 l0_2 A0_3 c0_3 l0_3 A0_4 c0_4 l0_4 a1_0 a1_1 a1_2 true W hr0_0.1 hr0_0.2 hr0_1.1 hr0_1.2 hr0_2.1 hr0_2.2 hr0_3.1 hr0_3.2 hr0_4a hr0_4b hk) fun e W' ⟨he, bel⟩ => ?_
 subst he
 exact ⟨_, rfl, _, _, _, [], _, [], hW', trodAll_mk1 (shut_bool Try.underlying4 _),
   (trodAll_cons_mk (Below.trod laidOut (by kernel_rfl) (of_decide_eq_true (by kernel_rfl)) h0 bel l0) (trodAll_cons_mk (Below.trod laidOut (by kernel_rfl) (of_decide_eq_true (by kernel_rfl)) h1 bel l1) trodAll_mk0)), rfl, bel.frame _, fun h => by cases h⟩
theorem over : Rows.faultInjectsRow.holds Try.pinned (OpenSpec.ofChange Rows.faultInjectsSpec) :=
 OpenClaim.holds_of_wide 3 Try.f3 rfl rfl rfl rfl rfl rfl rfl ⟨rfl, rfl, rfl, rfl, rfl⟩ rfl rfl rfl rfl rfl (by kernel_rfl) Try.func3 (by kernel_rfl)
   (of_decide_eq_true (by kernel_rfl)) (by unfold Func.isWrapper; first | (rw [if_pos (by decide +kernel)]; kernel_rfl) | (rw [if_neg (by decide +kernel)]; exact ⟨rfl, rfl⟩))
   (fun os started H enc _ => lifted os started H enc)
end Go.Proofs.Ytimjccfpobhpeaa.FaultInjects
namespace Go.Proofs.Ytimjccfpobhpeaa
theorem faultInjects_holds : Rows.FaultInjectsSaid := FaultInjects.over
#print axioms faultInjects_holds
end Go.Proofs.Ytimjccfpobhpeaa
