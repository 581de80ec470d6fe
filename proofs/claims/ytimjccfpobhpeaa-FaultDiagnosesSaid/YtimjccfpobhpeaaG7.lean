/- Joined by this session's own program out of its texts: PFx44 PFx38 ErrP Lanes Read Shown2 ShownW PFx39 ShowP DetP PFx19. -/
import Derived.Test.YtimjccfpobhpeaaG1
import Derived.Test.YtimjccfpobhpeaaG6
import Derived.Test.YtimjccfpobhpeaaG4
import Derived.Test.YtimjccfpobhpeaaG2
import Derived.Test.YtimjccfpobhpeaaG5
namespace Go.Proofs.Ytimjccfpobhpeaa.PF
open Go.RowKit Go.Proofs.YtimjccfpobhpeaaW.PrintWords Go.Proofs.YtimjccfpobhpeaaW.PrintLast Go.Proofs.YtimjccfpobhpeaaW.PrintMore
set_option linter.unusedVariables false
set_option linter.unusedSimpArgs false
def detWords (k : Nat) (l0 l1 : List ByteArray) (l2 : List S82) (l3 : List Ky) (l4 : List Int) (b0 b1 : List ByteArray) (b2 : List S82) (b3 : List Ky) (b4 : List Int) (xs : List S55) : Option (Int × Int) :=
  (Xn.f k l0 l1 l2 l3 l4 xs).bind fun p => (Qg.f k l0 l1 l2 l3 l4 p.1 p.2).bind fun a => if a.2.2 = 0 then (Qg.f k b0 b1 b2 b3 b4 p.1 p.2).bind fun c => if c.2.2 = 0 then (Qj.f k a.1 c.1).bind fun m1 => (Qj.f k a.2.1 c.2.1).bind fun m2 => some (m1, m2) else none else none
def detBits (m : Int × Int) (n : Nat) : List Bool := (List.range n).map fun j => Go.bits .and .u64 (Go.bits .or .u64 m.1 m.2 / 2 ^ j) 1 == 1
def chunkOf (l : List S55) (j : Nat) : List S55 := (l.drop (j * 64)).take 64
def detRows (g : List S55 → Option (Int × Int)) (l : List S55) : Nat → Nat → Option (List Bool)
  | 0, _ => some []
  | d + 1, j => (g (chunkOf l j)).bind fun m => (detRows g l d (j + 1)).bind fun r => some (detBits m (chunkOf l j).length ++ r)
theorem detRows_le {g g' : List S55 → Option (Int × Int)} (h : ∀ xs, Xz (g xs) (g' xs)) (l : List S55) : ∀ d j, Xz (detRows g l d j) (detRows g' l d j)
  | 0, _ => Xz.refl _
  | d + 1, j => Xz.bind (h _) fun _ => Xz.bind (detRows_le h l d (j + 1)) fun _ => Xz.refl _
theorem detWords_le (k : Nat) (l0 l1 : List ByteArray) (l2 : List S82) (l3 : List Ky) (l4 : List Int) (b0 b1 : List ByteArray) (b2 : List S82) (b3 : List Ky) (b4 : List Int) (xs : List S55) : Xz (detWords k l0 l1 l2 l3 l4 b0 b1 b2 b3 b4 xs) (detWords (k + 1) l0 l1 l2 l3 l4 b0 b1 b2 b3 b4 xs) :=
  Xz.bind (Xn.mono _ _ _ _ _ _ k) fun _ => Xz.bind (Qg.mono _ _ _ _ _ _ _ k) fun _ => Xz.ite (Xz.bind (Qg.mono _ _ _ _ _ _ _ k) fun _ => Xz.ite (Xz.bind (Qj.mono _ _ k) fun _ => Xz.bind (Qj.mono _ _ k) fun _ => Xz.refl _) (Xz.refl _)) (Xz.refl _)
def fault_Detects.f (k : Nat) (l0_0 : List ByteArray) (l0_1 : List ByteArray) (l0_2 : List (S82)) (l0_3 : List (Ky)) (l0_4 : List Int) (a1_0 : Int) (a1_1 : Int) (a1_2 : Bool) (l2 : List (S55)) : Option (List Bool × Int) := (Qk.f k l0_0 l0_1 l0_2 l0_3 l0_4 a1_0 a1_1 a1_2).bind fun r => if r.2.2.2.2.2 = 0 then ((Xw.f k l0_0 l0_1 l0_2 l0_3 l0_4 l2).bind fun e => if e = 0 then ((detRows (detWords k l0_0 l0_1 l0_2 l0_3 l0_4 r.1 r.2.1 r.2.2.1 r.2.2.2.1 r.2.2.2.2.1) l2 (chunksN l2.length) 0).bind fun out => some (out, 0)) else some ([], e)) else some ([], r.2.2.2.2.2)
theorem chunkOf_len {l : List S55} {j : Nat} : (chunkOf l j).length = min 64 (l.length - j * 64) := by
  unfold chunkOf
  rw [List.length_take, List.length_drop]
end Go.Proofs.Ytimjccfpobhpeaa.PF
namespace Go.Proofs.Ytimjccfpobhpeaa.PF
open Go.RowKit Go.Proofs.YtimjccfpobhpeaaW.PrintWords Go.Proofs.YtimjccfpobhpeaaW.PrintLast Go.Proofs.YtimjccfpobhpeaaW.PrintMore
set_option linter.unusedVariables false
set_option linter.unusedSimpArgs false
def Xt.l0 : Nat → List (S55) → Int → Int → List ByteArray → List ByteArray → List (S82) → List (Ky) → List Int → Option (Int)
  | 0, _, _, _, _, _, _, _, _ => none
  | k + 1, x10, x11, x12, x434000, x434001, x434002, x434003, x434004 => if x12 < x11 then (if 0 ≤ x12 then (if x12 < (x10.length : Int) then (if (((Zx x10 x12).f0).length : Int) = (x434000.length : Int) then (if (((Zx x10 x12).f1).length : Int) = (x434002.length : Int) then (Xt.l0 k x10 x11 (wrap64 (x12 + 1)) x434000 x434001 x434002 x434003 x434004) else (some 4)) else (some 4)) else (none)) else (none)) else (some 0)
def Xt.f (k : Nat) (l0_0 : List ByteArray) (l0_1 : List ByteArray) (l0_2 : List (S82)) (l0_3 : List (Ky)) (l0_4 : List Int) (l1 : List (S55)) : Option (Int) := if (l1.length : Int) > 256 then (some 3) else (Xt.l0 k l1 (l1.length : Int) 0 l0_0 l0_1 l0_2 l0_3 l0_4)
set_option maxHeartbeats 8000000 in
set_option maxRecDepth 100000 in
theorem Xt.calls (k : Nat) (A0_0 : Option Addr) (c0_0 : Nat) (l0_0 : List ByteArray) (A0_1 : Option Addr) (c0_1 : Nat) (l0_1 : List ByteArray) (A0_2 : Option Addr) (c0_2 : Nat) (l0_2 : List (S82)) (A0_3 : Option Addr) (c0_3 : Nat) (l0_3 : List (Ky)) (A0_4 : Option Addr) (c0_4 : Nat) (l0_4 : List Int) (A1 : Option Addr) (c1 : Nat) (l1 : List (S55)) (r : Int) (w : World) (hr0_0 : Kd.C Kd.string w A0_0 l0_0.length l0_0) (hc0_0 : l0_0.length ≤ c0_0) (hr0_1 : Kd.C Kd.string w A0_1 l0_1.length l0_1) (hc0_1 : l0_1.length ≤ c0_1) (hr0_2 : Kd.C k82 w A0_2 l0_2.length l0_2) (hc0_2 : l0_2.length ≤ c0_2) (hr0_3 : Kd.C k80 w A0_3 l0_3.length l0_3) (hc0_3 : l0_3.length ≤ c0_3) (hr0_4 : Kd.C (Kd.int .i64) w A0_4 l0_4.length l0_4) (hc0_4 : l0_4.length ≤ c0_4) (hr1 : Kd.C k55 w A1 l1.length l1) (hc1 : l1.length ≤ c1) (h : Xt.f k l0_0 l0_1 l0_2 l0_3 l0_4 l1 = some r) :
 Calls Try.prog 21 #[.agg #[.slice A0_0 l0_0.length c0_0, .slice A0_1 l0_1.length c0_1, .slice A0_2 l0_2.length c0_2, .slice A0_3 l0_3.length c0_3, .slice A0_4 l0_4.length c0_4], .slice A1 l1.length c1] w fun e w' => e = .returned (.int .i64 r) ∧ Below w.heap.size w w' := by
 have hu27 := Try.underlying27
 have hu55 := Try.underlying55
 have HR0_0 := Za.mk hr0_0
 have HC0_0 := Za.mk hc0_0
 clear hr0_0 hc0_0
 have HR0_1 := Za.mk hr0_1
 have HC0_1 := Za.mk hc0_1
 clear hr0_1 hc0_1
 have HR0_2 := Za.mk hr0_2
 have HC0_2 := Za.mk hc0_2
 clear hr0_2 hc0_2
 have HR0_3 := Za.mk hr0_3
 have HC0_3 := Za.mk hc0_3
 clear hr0_3 hc0_3
 have HR0_4 := Za.mk hr0_4
 have HC0_4 := Za.mk hc0_4
 clear hr0_4 hc0_4
 have HR1 := Za.mk hr1
 have HC1 := Za.mk hc1
 clear hr1 hc1
 have HB := Za.mk (Below.refl w.heap.size w)
 have H : (if (l1.length : Int) > 256 then (some 3) else (Xt.l0 k l1 (l1.length : Int) 0 l0_0 l0_1 l0_2 l0_3 l0_4)) = some r := h
 clear h
 by_cases c3 : (l1.length : Int) > 256
 ·rw [if_pos c3] at H
  have c3b0 : decide (256 < (l1.length : Int)) = true := decide_eq_true c3
  have c3b1 : decide (256 < l1.length) = true := decide_eq_true (by omega)
  clear c3
  obtain rfl := Option.some.inj H
  go_enter Try.func21, Try.ntmps21
  go_wp2_with (((with_reducible refine Xl (N := 2) rfl ?_); (try (refine Qd (by rfl) ?_; dsimp only)); refine Xr ?hg (N := 2) ?hd (cs := #[.slice A0_0 l0_0.length c0_0, .slice A0_1 l0_1.length c0_1, .slice A0_2 l0_2.length c0_2, .slice A0_3 l0_3.length c0_3, .slice A0_4 l0_4.length c0_4]) (t := 27) ?hr ?_; (case hd => rfl); (case hg => rfl); (case hr => first | (go_simp; done) | (go_simp; rfl)); intro gb433 hg w4 hbox hb; have n0_ := Za.mk (Zn HB.out hb); have n1_ := Za.mk (hbox); have n2_ := Za.mk ((by rw [hg]; exact (Zm HB.out) : w.heap.size ≤ gb433)); have n3_ := n2_; clear HB; have HB := n0_; have BK433 := n1_; have GW433 := n2_; have GE433 := n3_; clear n0_ n1_ n2_ n3_; clear hb hbox hg))
  go_ret
  exact ⟨by first | rfl | (simp [errW_none, errW_some] <;> rfl) | (simp [*, errW_none, errW_some] <;> rfl), HB.out⟩
 ·rw [if_neg c3] at H
  have c3b0 : decide (256 < (l1.length : Int)) = false := decide_eq_false c3
  have c3b1 : decide (256 < l1.length) = false := decide_eq_false (by omega)
  clear c3
  have H' := Za.mk H
  clear H
  go_enter Try.func21, Try.ntmps21
  go_wp2_with (((with_reducible refine Xl (N := 2) rfl ?_); (try (refine Qd (by rfl) ?_; dsimp only)); refine Xr ?hg (N := 2) ?hd (cs := #[.slice A0_0 l0_0.length c0_0, .slice A0_1 l0_1.length c0_1, .slice A0_2 l0_2.length c0_2, .slice A0_3 l0_3.length c0_3, .slice A0_4 l0_4.length c0_4]) (t := 27) ?hr ?_; (case hd => rfl); (case hg => rfl); (case hr => first | (go_simp; done) | (go_simp; rfl)); intro gb433 hg w5 hbox hb; have n0_ := Za.mk (Zn HB.out hb); have n1_ := Za.mk (hbox); have n2_ := Za.mk ((by rw [hg]; exact (Zm HB.out) : w.heap.size ≤ gb433)); have n3_ := n2_; clear HB; have HB := n0_; have BK433 := n1_; have GW433 := n2_; have GE433 := n3_; clear n0_ n1_ n2_ n3_; clear hb hbox hg))
  go_loopg [12] k (fun kq v12 w' => ∃ (x12_1 : Int), v12 = .int .i64 x12_1 ∧ Za (Xt.l0 kq l1 (l1.length : Int) x12_1 l0_0 l0_1 l0_2 l0_3 l0_4 = some r) ∧ Za (kq ≤ k) ∧ Za (w'.heap[gb433]? = some (.cells #[(.slice A0_0 l0_0.length c0_0), (.slice A0_1 l0_1.length c0_1), (.slice A0_2 l0_2.length c0_2), (.slice A0_3 l0_3.length c0_3), (.slice A0_4 l0_4.length c0_4)] 27 (0, 0))) ∧ Za (Below w.heap.size w w'))
  case atStart => exact ⟨(0), (by first | rfl | (simp; done) | (simp [*]; done)), H', ⟨Nat.le_refl _⟩, ⟨BK433.out⟩, ⟨HB.out⟩⟩
  case round =>
   clear H'
   try clear c3b0
   try clear c3b1
   obtain ⟨x12_1, rfl, HA, HK1, BK433, HB⟩ := hrel
   cases gk with
   | zero => exact absurd HA.out (by simp [Xt.l0])
   | succ k1 =>
    have H := HA.out
    clear HA
    simp only [Xt.l0] at H
    by_cases c6 : x12_1 < (l1.length : Int)
    ·rw [if_pos c6] at H
     have c6b0 : decide (x12_1 < (l1.length : Int)) = true := decide_eq_true c6
     clear c6
     by_cases c7 : 0 ≤ x12_1
     ·rw [if_pos c7] at H
      have c7b0 : decide (0 ≤ x12_1) = true := decide_eq_true c7
      clear c7
      by_cases c8 : x12_1 < (l1.length : Int)
      ·rw [if_pos c8] at H
       have c8b0 : decide (x12_1 < (l1.length : Int)) = true := decide_eq_true c8
       clear c8
       by_cases c9 : (((Zx l1 x12_1).f0).length : Int) = (l0_0.length : Int)
       ·rw [if_pos c9] at H
        have c9b0 : ((((Zx l1 x12_1).f0).length : Int) == (l0_0.length : Int)) = true := beq_iff_eq.mpr c9
        have c9b1 : ((((Zx l1 x12_1).f0).length : Int) != (l0_0.length : Int)) = false := bne_eq_false_iff_eq.mpr c9
        have c9b2 : (((Zx l1 x12_1).f0).length == l0_0.length) = true := by first | simpa using c9 | (simp at c9 ⊢; omega)
        clear c9
        by_cases c10 : (((Zx l1 x12_1).f1).length : Int) = (l0_2.length : Int)
        ·rw [if_pos c10] at H
         have c10b0 : ((((Zx l1 x12_1).f1).length : Int) == (l0_2.length : Int)) = true := beq_iff_eq.mpr c10
         have c10b1 : ((((Zx l1 x12_1).f1).length : Int) != (l0_2.length : Int)) = false := bne_eq_false_iff_eq.mpr c10
         have c10b2 : (((Zx l1 x12_1).f1).length == l0_2.length) = true := by first | simpa using c10 | (simp at c10 ⊢; omega)
         clear c10
         have H' := Za.mk H
         clear H
         have p434 : 0 ≤ (x12_1 : Int) := of_decide_eq_true (by first | (with_reducible assumption) | assumption)
         have q434 : x12_1 < (l1.length : Int) := of_decide_eq_true (by first | (with_reducible assumption) | assumption)
         obtain ⟨ad434, A434_0, c434_0, A434_1, c434_1, e434, hx434_0, hx434_1, hl434_0, hi434_0, hl434_1, hi434_1⟩ := at_T55 HR1.out x12_1 p434 q434
         cases e434
         replace hx434_0 := (HB.out.cell (World.block_lt_of_cell? w _ hx434_0)).trans hx434_0
         replace hx434_1 := (HB.out.cell (World.block_lt_of_cell? w _ hx434_1)).trans hx434_1
         have HR434_0 := Za.mk hi434_0
         have HC434_0 := Za.mk hl434_0
         clear hi434_0 hl434_0
         have HR434_1 := Za.mk hi434_1
         have HC434_1 := Za.mk hl434_1
         clear hi434_1 hl434_1
         replace p434 := eq_true p434
         replace q434 := eq_true q434
         go_wp2_with (((with_reducible refine Xl (N := 6) rfl ?_); (try (refine Qd (by rfl) ?_; dsimp only)); refine Xr ?hg (N := 6) ?hd (cs := #[.slice none 0 0, .slice none 0 0]) (t := 55) ?hr ?_; (case hd => rfl); (case hg => rfl); (case hr => first | (go_simp; done) | (go_simp; rfl)); intro gb435 hg w11 hbox hb; have n0_ := Za.mk (Zq BK433.out hb); have n1_ := Za.mk (Zn HB.out hb); have n2_ := Za.mk (hbox); have n3_ := Za.mk ((by rw [hg]; exact (Zm HB.out) : w.heap.size ≤ gb435)); have n4_ := n3_; have n5_ := Za.mk ((by rw [hg]; exact Nat.ne_of_lt (Xx BK433.out) : gb433 ≠ gb435)); have n6_ := Za.mk ((by rw [hg]; exact Nat.ne_of_gt (Xx BK433.out) : gb435 ≠ gb433)); clear BK433; clear HB; have BK433 := n0_; have HB := n1_; have BK435 := n2_; have GW435 := n3_; have GE435 := n4_; have NB433_435 := n5_; have NB435_433 := n6_; clear n0_ n1_ n2_ n3_ n4_ n5_ n6_; clear hb hbox hg; have hnb12 := NB435_433.out; have hnc12 := NB433_435.out; have hcz13_0 : w11.cell? ⟨gb435, 0, none⟩ = some (.slice none 0 0) := (Zc BK435.out 0).trans rfl; have hcz13_1 : w11.cell? ⟨gb435, 1, none⟩ = some (.slice none 0 0) := (Zc BK435.out 1).trans rfl; have hfz13_0 := Zb BK435.out 0; have hfz13_1 := Zb BK435.out 1; have hcz14_0 : w11.cell? ⟨gb433, 0, none⟩ = some (.slice A0_0 l0_0.length c0_0) := (Zc BK433.out 0).trans rfl; have hcz14_1 : w11.cell? ⟨gb433, 1, none⟩ = some (.slice A0_1 l0_1.length c0_1) := (Zc BK433.out 1).trans rfl; have hcz14_2 : w11.cell? ⟨gb433, 2, none⟩ = some (.slice A0_2 l0_2.length c0_2) := (Zc BK433.out 2).trans rfl; have hcz14_3 : w11.cell? ⟨gb433, 3, none⟩ = some (.slice A0_3 l0_3.length c0_3) := (Zc BK433.out 3).trans rfl; have hcz14_4 : w11.cell? ⟨gb433, 4, none⟩ = some (.slice A0_4 l0_4.length c0_4) := (Zc BK433.out 4).trans rfl; have hfz14_0 := Zb BK433.out 0; have hfz14_1 := Zb BK433.out 1; have hfz14_2 := Zb BK433.out 2; have hfz14_3 := Zb BK433.out 3; have hfz14_4 := Zb BK433.out 4))
         go_roundg k1
         case measure => have := HK1.out; omega
         case rel => exact ⟨(wrap64 (x12_1 + 1)), (by first | rfl | (simp; done) | (simp [*]; done)), H', ⟨by have := HK1.out; omega⟩, ⟨by (with_reducible repeat (first | refine Zg ?_ _ | refine Zi ?_ | refine Zf ?_ _)); refine Xp ?_ NB433_435.out _; (with_reducible repeat (first | refine Zg ?_ _ | refine Zi ?_ | refine Zf ?_ _)); refine Xp ?_ NB433_435.out _; (with_reducible repeat (first | refine Zg ?_ _ | refine Zi ?_ | refine Zf ?_ _)); exact BK433.out⟩, ⟨by repeat (first | (with_reducible first | exact HB.out | apply Zl | apply Zj | apply Zo | refine Zh ?_ GE433.out | refine Zh ?_ GE435.out) | exact HB.out)⟩⟩
        ·rw [if_neg c10] at H
         have c10b0 : ((((Zx l1 x12_1).f1).length : Int) == (l0_2.length : Int)) = false := beq_eq_false_iff_ne.mpr c10
         have c10b1 : ((((Zx l1 x12_1).f1).length : Int) != (l0_2.length : Int)) = true := bne_iff_ne.mpr c10
         have c10b2 : (((Zx l1 x12_1).f1).length == l0_2.length) = false := by first | simpa using c10 | (simp at c10 ⊢; omega)
         obtain rfl := Option.some.inj H
         have p434 : 0 ≤ (x12_1 : Int) := of_decide_eq_true (by first | (with_reducible assumption) | assumption)
         have q434 : x12_1 < (l1.length : Int) := of_decide_eq_true (by first | (with_reducible assumption) | assumption)
         obtain ⟨ad434, A434_0, c434_0, A434_1, c434_1, e434, hx434_0, hx434_1, hl434_0, hi434_0, hl434_1, hi434_1⟩ := at_T55 HR1.out x12_1 p434 q434
         cases e434
         replace hx434_0 := (HB.out.cell (World.block_lt_of_cell? w _ hx434_0)).trans hx434_0
         replace hx434_1 := (HB.out.cell (World.block_lt_of_cell? w _ hx434_1)).trans hx434_1
         have HR434_0 := Za.mk hi434_0
         have HC434_0 := Za.mk hl434_0
         clear hi434_0 hl434_0
         have HR434_1 := Za.mk hi434_1
         have HC434_1 := Za.mk hl434_1
         clear hi434_1 hl434_1
         replace p434 := eq_true p434
         replace q434 := eq_true q434
         go_wp2_with (((with_reducible refine Xl (N := 6) rfl ?_); (try (refine Qd (by rfl) ?_; dsimp only)); refine Xr ?hg (N := 6) ?hd (cs := #[.slice none 0 0, .slice none 0 0]) (t := 55) ?hr ?_; (case hd => rfl); (case hg => rfl); (case hr => first | (go_simp; done) | (go_simp; rfl)); intro gb435 hg w15 hbox hb; have n0_ := Za.mk (Zq BK433.out hb); have n1_ := Za.mk (Zn HB.out hb); have n2_ := Za.mk (hbox); have n3_ := Za.mk ((by rw [hg]; exact (Zm HB.out) : w.heap.size ≤ gb435)); have n4_ := n3_; have n5_ := Za.mk ((by rw [hg]; exact Nat.ne_of_lt (Xx BK433.out) : gb433 ≠ gb435)); have n6_ := Za.mk ((by rw [hg]; exact Nat.ne_of_gt (Xx BK433.out) : gb435 ≠ gb433)); clear BK433; clear HB; have BK433 := n0_; have HB := n1_; have BK435 := n2_; have GW435 := n3_; have GE435 := n4_; have NB433_435 := n5_; have NB435_433 := n6_; clear n0_ n1_ n2_ n3_ n4_ n5_ n6_; clear hb hbox hg; have hnb16 := NB435_433.out; have hnc16 := NB433_435.out; have hcz17_0 : w15.cell? ⟨gb435, 0, none⟩ = some (.slice none 0 0) := (Zc BK435.out 0).trans rfl; have hcz17_1 : w15.cell? ⟨gb435, 1, none⟩ = some (.slice none 0 0) := (Zc BK435.out 1).trans rfl; have hfz17_0 := Zb BK435.out 0; have hfz17_1 := Zb BK435.out 1; have hcz18_0 : w15.cell? ⟨gb433, 0, none⟩ = some (.slice A0_0 l0_0.length c0_0) := (Zc BK433.out 0).trans rfl; have hcz18_1 : w15.cell? ⟨gb433, 1, none⟩ = some (.slice A0_1 l0_1.length c0_1) := (Zc BK433.out 1).trans rfl; have hcz18_2 : w15.cell? ⟨gb433, 2, none⟩ = some (.slice A0_2 l0_2.length c0_2) := (Zc BK433.out 2).trans rfl; have hcz18_3 : w15.cell? ⟨gb433, 3, none⟩ = some (.slice A0_3 l0_3.length c0_3) := (Zc BK433.out 3).trans rfl; have hcz18_4 : w15.cell? ⟨gb433, 4, none⟩ = some (.slice A0_4 l0_4.length c0_4) := (Zc BK433.out 4).trans rfl; have hfz18_0 := Zb BK433.out 0; have hfz18_1 := Zb BK433.out 1; have hfz18_2 := Zb BK433.out 2; have hfz18_3 := Zb BK433.out 3; have hfz18_4 := Zb BK433.out 4))
         go_ret
         exact ⟨by first | rfl | (simp [errW_none, errW_some] <;> rfl) | (simp [*, errW_none, errW_some] <;> rfl), by repeat (first | (with_reducible first | exact HB.out | apply Zl | apply Zj | apply Zo | refine Zh ?_ GE433.out | refine Zh ?_ GE435.out) | exact HB.out)⟩
       ·rw [if_neg c9] at H
        have c9b0 : ((((Zx l1 x12_1).f0).length : Int) == (l0_0.length : Int)) = false := beq_eq_false_iff_ne.mpr c9
        have c9b1 : ((((Zx l1 x12_1).f0).length : Int) != (l0_0.length : Int)) = true := bne_iff_ne.mpr c9
        have c9b2 : (((Zx l1 x12_1).f0).length == l0_0.length) = false := by first | simpa using c9 | (simp at c9 ⊢; omega)
        obtain rfl := Option.some.inj H
        have p434 : 0 ≤ (x12_1 : Int) := of_decide_eq_true (by first | (with_reducible assumption) | assumption)
        have q434 : x12_1 < (l1.length : Int) := of_decide_eq_true (by first | (with_reducible assumption) | assumption)
        obtain ⟨ad434, A434_0, c434_0, A434_1, c434_1, e434, hx434_0, hx434_1, hl434_0, hi434_0, hl434_1, hi434_1⟩ := at_T55 HR1.out x12_1 p434 q434
        cases e434
        replace hx434_0 := (HB.out.cell (World.block_lt_of_cell? w _ hx434_0)).trans hx434_0
        replace hx434_1 := (HB.out.cell (World.block_lt_of_cell? w _ hx434_1)).trans hx434_1
        have HR434_0 := Za.mk hi434_0
        have HC434_0 := Za.mk hl434_0
        clear hi434_0 hl434_0
        have HR434_1 := Za.mk hi434_1
        have HC434_1 := Za.mk hl434_1
        clear hi434_1 hl434_1
        replace p434 := eq_true p434
        replace q434 := eq_true q434
        go_wp2_with (((with_reducible refine Xl (N := 6) rfl ?_); (try (refine Qd (by rfl) ?_; dsimp only)); refine Xr ?hg (N := 6) ?hd (cs := #[.slice none 0 0, .slice none 0 0]) (t := 55) ?hr ?_; (case hd => rfl); (case hg => rfl); (case hr => first | (go_simp; done) | (go_simp; rfl)); intro gb435 hg w19 hbox hb; have n0_ := Za.mk (Zq BK433.out hb); have n1_ := Za.mk (Zn HB.out hb); have n2_ := Za.mk (hbox); have n3_ := Za.mk ((by rw [hg]; exact (Zm HB.out) : w.heap.size ≤ gb435)); have n4_ := n3_; have n5_ := Za.mk ((by rw [hg]; exact Nat.ne_of_lt (Xx BK433.out) : gb433 ≠ gb435)); have n6_ := Za.mk ((by rw [hg]; exact Nat.ne_of_gt (Xx BK433.out) : gb435 ≠ gb433)); clear BK433; clear HB; have BK433 := n0_; have HB := n1_; have BK435 := n2_; have GW435 := n3_; have GE435 := n4_; have NB433_435 := n5_; have NB435_433 := n6_; clear n0_ n1_ n2_ n3_ n4_ n5_ n6_; clear hb hbox hg; have hnb20 := NB435_433.out; have hnc20 := NB433_435.out; have hcz21_0 : w19.cell? ⟨gb435, 0, none⟩ = some (.slice none 0 0) := (Zc BK435.out 0).trans rfl; have hcz21_1 : w19.cell? ⟨gb435, 1, none⟩ = some (.slice none 0 0) := (Zc BK435.out 1).trans rfl; have hfz21_0 := Zb BK435.out 0; have hfz21_1 := Zb BK435.out 1; have hcz22_0 : w19.cell? ⟨gb433, 0, none⟩ = some (.slice A0_0 l0_0.length c0_0) := (Zc BK433.out 0).trans rfl; have hcz22_1 : w19.cell? ⟨gb433, 1, none⟩ = some (.slice A0_1 l0_1.length c0_1) := (Zc BK433.out 1).trans rfl; have hcz22_2 : w19.cell? ⟨gb433, 2, none⟩ = some (.slice A0_2 l0_2.length c0_2) := (Zc BK433.out 2).trans rfl; have hcz22_3 : w19.cell? ⟨gb433, 3, none⟩ = some (.slice A0_3 l0_3.length c0_3) := (Zc BK433.out 3).trans rfl; have hcz22_4 : w19.cell? ⟨gb433, 4, none⟩ = some (.slice A0_4 l0_4.length c0_4) := (Zc BK433.out 4).trans rfl; have hfz22_0 := Zb BK433.out 0; have hfz22_1 := Zb BK433.out 1; have hfz22_2 := Zb BK433.out 2; have hfz22_3 := Zb BK433.out 3; have hfz22_4 := Zb BK433.out 4))
        go_ret
        exact ⟨by first | rfl | (simp [errW_none, errW_some] <;> rfl) | (simp [*, errW_none, errW_some] <;> rfl), by repeat (first | (with_reducible first | exact HB.out | apply Zl | apply Zj | apply Zo | refine Zh ?_ GE433.out | refine Zh ?_ GE435.out) | exact HB.out)⟩
      ·rw [if_neg c8] at H
       exact absurd H (by simp)
     ·rw [if_neg c7] at H
      exact absurd H (by simp)
    ·rw [if_neg c6] at H
     have c6b0 : decide (x12_1 < (l1.length : Int)) = false := decide_eq_false c6
     clear c6
     obtain rfl := Option.some.inj H
     go_wp2
     go_ret
     exact ⟨by first | rfl | (simp [errW_none, errW_some] <;> rfl) | (simp [*, errW_none, errW_some] <;> rfl), HB.out⟩
end Go.Proofs.Ytimjccfpobhpeaa.PF
namespace Go.Proofs.Ytimjccfpobhpeaa
open Go.RowKit Go.Proofs.YtimjccfpobhpeaaW.PrintWords Go.Proofs.Ytimjccfpobhpeaa.PF
set_option linter.unusedVariables false
set_option maxRecDepth 100000
abbrev PatS := S55
theorem rdP_at {xs : List PatS} {i : Nat} {x : PatS} (h : xs[i]? = some x) : Zx xs (i : Int) = x := by
  unfold Zx
  first
  | exact rdOf_at h
  | (have hi : i < xs.length := (List.getElem?_eq_some_iff.1 h).1
     simp [h])
section
variable {l0 l1 : List ByteArray} {l2 : List FlopS} {l3 : List GateS} {l4 : List Int}
def PatsOk (l0 : List ByteArray) (l2 : List FlopS) (l : List PatS) : Prop := ∀ p ∈ l, p.f0.length = l0.length ∧ p.f1.length = l2.length
theorem pats_l0 (l : List PatS) (hl : l.length ≤ 256) : ∀ (d i : Nat), i + d = l.length → ∃ e, (∀ k, d < k → Xw.l0 k l l.length i l0 l1 l2 l3 l4 = some e ∧ Xt.l0 k l l.length i l0 l1 l2 l3 l4 = some e) ∧ (e = 0 → ∀ j, i ≤ j → ∀ p, l[j]? = some p → p.f0.length = l0.length ∧ p.f1.length = l2.length)
  | 0, i, h => ⟨0, fun k hk => by
      obtain ⟨m, rfl⟩ : ∃ m, k = m + 1 := ⟨k - 1, by omega⟩
      rw [Xw.l0, Xt.l0, if_neg (by omega), if_neg (by omega)]
      exact ⟨rfl, rfl⟩, fun _ j hj p hp => by have := (List.getElem?_eq_some_iff.1 hp).1; omega⟩
  | d + 1, i, h => by
    obtain ⟨e, h1, h2⟩ := pats_l0 l hl d (i + 1) (by omega)
    obtain ⟨x, hx⟩ := at_ex (xs := l) (i := i) (by omega)
    have hw : wrap64 ((i : Int) + 1) = ((i + 1 : Nat) : Int) := by rw [Ql (by omega) (by omega)]; rfl
    by_cases c1 : (x.f0.length : Int) = (l0.length : Int)
    · by_cases c2 : (x.f1.length : Int) = (l2.length : Int)
      · refine ⟨e, fun k hk => ?_, fun he j hj p hp => ?_⟩
        · obtain ⟨m, rfl⟩ : ∃ m, k = m + 1 := ⟨k - 1, by omega⟩
          obtain ⟨g1, g2⟩ := h1 m (by omega)
          constructor
          · rw [Xw.l0, if_pos (by omega), if_pos (by omega), if_pos (by omega), rdP_at hx, if_pos c1, if_pos c2, hw]
            exact g1
          · rw [Xt.l0, if_pos (by omega), if_pos (by omega), if_pos (by omega), rdP_at hx, if_pos c1, if_pos c2, hw]
            exact g2
        · rcases Nat.lt_or_ge i j with hij | hij
          · exact h2 he j hij p hp
          · obtain rfl : i = j := by omega
            rw [hx] at hp
            cases hp
            exact ⟨by omega, by omega⟩
      · refine ⟨4, fun k hk => ?_, fun he => by cases he⟩
        obtain ⟨m, rfl⟩ : ∃ m, k = m + 1 := ⟨k - 1, by omega⟩
        constructor
        · rw [Xw.l0, if_pos (by omega), if_pos (by omega), if_pos (by omega), rdP_at hx, if_pos c1, if_neg c2]
        · rw [Xt.l0, if_pos (by omega), if_pos (by omega), if_pos (by omega), rdP_at hx, if_pos c1, if_neg c2]
    · refine ⟨4, fun k hk => ?_, fun he => by cases he⟩
      obtain ⟨m, rfl⟩ : ∃ m, k = m + 1 := ⟨k - 1, by omega⟩
      constructor
      · rw [Xw.l0, if_pos (by omega), if_pos (by omega), if_pos (by omega), rdP_at hx, if_neg c1]
      · rw [Xt.l0, if_pos (by omega), if_pos (by omega), if_pos (by omega), rdP_at hx, if_neg c1]
theorem pats_ex (l : List PatS) : ∃ e, (∀ k, 257 < k → Xw.f k l0 l1 l2 l3 l4 l = some e ∧ Xt.f k l0 l1 l2 l3 l4 l = some e) ∧ (e = 0 → l.length ≤ 256 ∧ PatsOk l0 l2 l) := by
  by_cases hl : (l.length : Int) > 256
  · exact ⟨3, fun k _ => by rw [Xw.f, Xt.f, if_pos hl, if_pos hl]; exact ⟨rfl, rfl⟩, fun h => by cases h⟩
  · obtain ⟨e, h1, h2⟩ := pats_l0 (l0 := l0) (l1 := l1) (l2 := l2) (l3 := l3) (l4 := l4) l (by omega) l.length 0 (by omega)
    refine ⟨e, fun k hk => ?_, fun he => ⟨by omega, fun p hp => ?_⟩⟩
    · rw [Xw.f, Xt.f, if_neg hl, if_neg hl]
      exact h1 k (by omega)
    · obtain ⟨j, hj⟩ := List.getElem?_of_mem hp
      exact h2 he j (Nat.zero_le _) p hj
end
end Go.Proofs.Ytimjccfpobhpeaa
namespace Go.Proofs.Ytimjccfpobhpeaa
open Go.RowKit Go.Proofs.YtimjccfpobhpeaaW.PrintWords Go.Proofs.Ytimjccfpobhpeaa.PF
set_option linter.unusedVariables false
structure LS (x : List Int) (n : Nat) (g : Nat → Nat → Bool) : Prop where
  len : x.length = n
  u : ∀ y ∈ x, U64 y
  b : ∀ t, t < n → ∀ j, j < 64 → tb (rd x t) j = g t j
theorem LS.congr {x : List Int} {n : Nat} {g g' : Nat → Nat → Bool} (h : LS x n g) (e : ∀ t, t < n → ∀ j, j < 64 → g t j = g' t j) : LS x n g' := ⟨h.len, h.u, fun t ht j hj => (h.b t ht j hj).trans (e t ht j hj)⟩
theorem LS.set {x : List Int} {n k i : Nat} {g : Nat → Nat → Bool} (h : LS x n g) (hk : k < 64) (hi : i < n) :
    LS (x.set (i : Int).toNat (Go.bits .or .u64 (rd x i) (shl .u64 1 (k : Int)))) n (fun t j => g t j || (decide (t = i) && decide (j = k))) := by
  have hri : U64 (rd x i) := rd_u h.u (by omega) (by have := h.len; omega)
  have ho := tb_or hri (tb_shl hk).1
  have hlen := h.len
  rw [Int.toNat_natCast]
  refine ⟨by rw [List.length_set]; exact h.len, fun y hy => ?_, fun t ht j hj => ?_⟩
  · rcases List.mem_or_eq_of_mem_set hy with hy | rfl
    · exact h.u y hy
    · exact ho.1
  · by_cases hti : t = i
    · subst hti
      rw [rd_at (x := Go.bits .or .u64 (rd x t) (shl .u64 1 (k : Int))) (by rw [List.getElem?_set_self (by omega)]), ho.2, h.b t ht j hj, (tb_shl hk).2]
      simp
    · have : rd (x.set i (Go.bits .or .u64 (rd x i) (shl .u64 1 (k : Int)))) t = rd x t := by
        rw [rd_at (x := x[t]'(by omega)) (by rw [List.getElem?_set_ne (Ne.symm hti)]; exact List.getElem?_eq_getElem (by omega)), rd_at (List.getElem?_eq_getElem (show t < x.length by omega))]
      rw [this, h.b t ht j hj]
      simp [hti]
theorem rdOf_get (y : List Bool) (i : Nat) (h : i < y.length) : rdOf false y (i : Int) = y.getD i false := by
  unfold rdOf
  simp [List.getD]
def orAt (g : Nat → Nat → Bool) (k : Nat) (y : List Bool) (i : Nat) : Nat → Nat → Bool := fun t j => g t j || (decide (j = k) && decide (t < i) && y.getD t false)
theorem orAt_hit {x : List Int} {n k i : Nat} {g : Nat → Nat → Bool} {y : List Bool} (h : LS x n (orAt g k y i)) (hk : k < 64) (hi : i < n) (c : y.getD i false = true) :
    LS (x.set (i : Int).toNat (Go.bits .or .u64 (rd x i) (shl .u64 1 (k : Int)))) n (orAt g k y (i + 1)) := by
  refine (h.set hk hi).congr fun t ht j hj => ?_
  unfold orAt
  by_cases h1 : t = i
  · subst h1
    rw [c]
    by_cases h2 : j = k
    · simp [h2]
    · simp [h2]
  · have : (t < i + 1) ↔ (t < i) := by omega
    simp [h1, this]
theorem orAt_miss {x : List Int} {n k i : Nat} {g : Nat → Nat → Bool} {y : List Bool} (h : LS x n (orAt g k y i)) (c : ¬ y.getD i false = true) : LS x n (orAt g k y (i + 1)) := by
  refine h.congr fun t ht j hj => ?_
  unfold orAt
  by_cases h1 : t = i
  · subst h1
    rw [Bool.eq_false_iff.2 c]
    simp
  · have : (t < i + 1) ↔ (t < i) := by omega
    simp [this]
theorem orAt_done {x : List Int} {n k i : Nat} {g : Nat → Nat → Bool} {y : List Bool} (h : LS x n (orAt g k y i)) (hi : n ≤ i) : LS x n (fun t j => g t j || (decide (j = k) && y.getD t false)) := by
  refine h.congr fun t ht j hj => ?_
  unfold orAt
  rw [decide_eq_true (show t < i by omega), Bool.and_true]
theorem orAt_zero {x : List Int} {n k : Nat} {g : Nat → Nat → Bool} {y : List Bool} (h : LS x n g) : LS x n (orAt g k y 0) := by
  refine h.congr fun t ht j hj => ?_
  unfold orAt
  simp
section
variable {l0 l1 : List ByteArray} {l2 : List FlopS} {l3 : List GateS} {l4 : List Int}
theorem slanes_l2 (R : List Int × List Int → Prop) (x4 : List Int) (kk : Nat) (hk : kk < 64) (g : Nat → Nat → Bool) (M : Nat) (x20 : List PatS) (x21 x22 : Int) (y : List Bool) (hM : y.length ≤ 1048576) (hy : y.length = M)
    (H : ∀ x5 : List Int, LS x5 M (fun t j => g t j || (decide (j = kk) && y.getD t false)) → ∃ k r, Xn.l0 k x4 x5 x20 x21 (wrap64 (x22 + 1)) = some r ∧ R r) :
    ∀ (d i : Nat) (x5 : List Int), i + d = y.length → LS x5 M (orAt g kk y i) → ∃ k r, Xn.l2 k x4 x5 kk x20 x21 x22 y y.length i = some r ∧ R r
  | 0, i, x5, h, h5 => by
    obtain ⟨k, r, h1, h2⟩ := H x5 (orAt_done h5 (by omega))
    exact ⟨k + 1, r, by rw [Xn.l2, if_neg (by omega)]; exact h1, h2⟩
  | d + 1, i, x5, h, h5 => by
    have e5 := h5.len
    have hw : wrap64 ((i : Int) + 1) = ((i + 1 : Nat) : Int) := by rw [Ql (by omega) (by omega)]; rfl
    have hr := rdOf_get y i (by omega)
    by_cases c : y.getD i false = true
    · obtain ⟨k, r, h1, h2⟩ := slanes_l2 R x4 kk hk g M x20 x21 x22 y hM hy H d (i + 1) _ (by omega) (orAt_hit h5 hk (by omega) c)
      exact ⟨k + 1, r, by rw [Xn.l2, if_pos (by omega), if_pos (by omega), if_pos (by omega), if_pos (by rw [hr]; exact c), if_pos (by omega), if_pos (by omega), hw]; exact h1, h2⟩
    · obtain ⟨k, r, h1, h2⟩ := slanes_l2 R x4 kk hk g M x20 x21 x22 y hM hy H d (i + 1) x5 (by omega) (orAt_miss h5 c)
      exact ⟨k + 1, r, by rw [Xn.l2, if_pos (by omega), if_pos (by omega), if_pos (by omega), if_neg (by rw [hr]; exact c), hw]; exact h1, h2⟩
theorem slanes_l1 (R : List Int × List Int → Prop) (kk : Nat) (hk : kk < 64) (g g2 : Nat → Nat → Bool) (N M : Nat) (x20 : List PatS) (x21 x22 : Int) (y z : List Bool) (hN : y.length ≤ 1048576) (hy : y.length = N) (hM : z.length ≤ 1048576) (hz : z.length = M)
    (H : ∀ x4 x5 : List Int, LS x4 N (fun t j => g t j || (decide (j = kk) && y.getD t false)) → LS x5 M (fun t j => g2 t j || (decide (j = kk) && z.getD t false)) → ∃ k r, Xn.l0 k x4 x5 x20 x21 (wrap64 (x22 + 1)) = some r ∧ R r) (x5 : List Int) (h5 : LS x5 M g2) :
    ∀ (d i : Nat) (x4 : List Int), i + d = y.length → LS x4 N (orAt g kk y i) → ∃ k r, Xn.l1 k x4 x5 kk x20 x21 x22 y y.length i y z = some r ∧ R r
  | 0, i, x4, h, h4 => by
    obtain ⟨k, r, h1, h2⟩ := slanes_l2 R x4 kk hk g2 M x20 x21 x22 z hM hz (fun x5' h5' => H x4 x5' (orAt_done h4 (by omega)) h5') z.length 0 x5 (by omega) (orAt_zero h5)
    exact ⟨k + 1, r, by rw [Xn.l1, if_neg (by omega)]; exact h1, h2⟩
  | d + 1, i, x4, h, h4 => by
    have e4 := h4.len
    have hw : wrap64 ((i : Int) + 1) = ((i + 1 : Nat) : Int) := by rw [Ql (by omega) (by omega)]; rfl
    have hr := rdOf_get y i (by omega)
    by_cases c : y.getD i false = true
    · obtain ⟨k, r, h1, h2⟩ := slanes_l1 R kk hk g g2 N M x20 x21 x22 y z hN hy hM hz H x5 h5 d (i + 1) _ (by omega) (orAt_hit h4 hk (by omega) c)
      exact ⟨k + 1, r, by rw [Xn.l1, if_pos (by omega), if_pos (by omega), if_pos (by omega), if_pos (by rw [hr]; exact c), if_pos (by omega), if_pos (by omega), hw]; exact h1, h2⟩
    · obtain ⟨k, r, h1, h2⟩ := slanes_l1 R kk hk g g2 N M x20 x21 x22 y z hN hy hM hz H x5 h5 d (i + 1) x4 (by omega) (orAt_miss h4 c)
      exact ⟨k + 1, r, by rw [Xn.l1, if_pos (by omega), if_pos (by omega), if_pos (by omega), if_neg (by rw [hr]; exact c), hw]; exact h1, h2⟩
def zP : PatS := ⟨[], []⟩
def gIn (l : List PatS) (k : Nat) : Nat → Nat → Bool := fun t j => decide (j < k) && (l.getD j zP).f0.getD t false
def gSt (l : List PatS) (k : Nat) : Nat → Nat → Bool := fun t j => decide (j < k) && (l.getD j zP).f1.getD t false
theorem slanes_l0 (h0 : l0.length ≤ 1048576) (h2 : l2.length ≤ 1048576) (l : List PatS) (hl : l.length ≤ 64) (hp : PatsOk l0 l2 l) : ∀ (d i : Nat) (x4 x5 : List Int), i + d = l.length → LS x4 l0.length (gIn l i) → LS x5 l2.length (gSt l i) →
    ∃ k r, Xn.l0 k x4 x5 l l.length i = some r ∧ LS r.1 l0.length (gIn l l.length) ∧ LS r.2 l2.length (gSt l l.length)
  | 0, i, x4, x5, h, h4, h5 => ⟨1, (x4, x5), by rw [Xn.l0, if_neg (by omega)], by rw [show l.length = i by omega]; exact h4, by rw [show l.length = i by omega]; exact h5⟩
  | d + 1, i, x4, x5, h, h4, h5 => by
    obtain ⟨x, hx⟩ := at_ex (xs := l) (i := i) (by omega)
    have hw : wrap64 ((i : Int) + 1) = ((i + 1 : Nat) : Int) := by rw [Ql (by omega) (by omega)]; rfl
    obtain ⟨p1, p2⟩ := hp x (List.mem_of_getElem? hx)
    have hxd : l.getD i zP = x := by rw [List.getD_eq_getElem?_getD, hx]; rfl
    obtain ⟨k, r, g1, g2⟩ := slanes_l1 (fun r => LS r.1 l0.length (gIn l l.length) ∧ LS r.2 l2.length (gSt l l.length)) i (by omega) (gIn l i) (gSt l i) l0.length l2.length l l.length i x.f0 x.f1 (by omega) p1 (by omega) p2
      (fun y4 y5 e4 e5 => by
        rw [hw]
        refine slanes_l0 h0 h2 l hl hp d (i + 1) y4 y5 (by omega) (e4.congr fun t ht j hj => ?_) (e5.congr fun t ht j hj => ?_)
        · unfold gIn
          by_cases hji : j = i
          · subst hji; rw [hxd]; simp
          · have : (j < i + 1) ↔ (j < i) := by omega
            simp [hji, this]
        · unfold gSt
          by_cases hji : j = i
          · subst hji; rw [hxd]; simp
          · have : (j < i + 1) ↔ (j < i) := by omega
            simp [hji, this]) x5 h5 x.f0.length 0 x4 (by omega) (orAt_zero h4)
    refine ⟨k + 1, r, ?_, g2⟩
    rw [Xn.l0, if_pos (by omega), if_pos (by omega), if_pos (by omega), rdP_at hx]
    exact g1
theorem LS.zero (n : Nat) : LS (List.replicate n 0) n (fun _ _ => false) := ⟨List.length_replicate, fun y hy => by rw [(List.mem_replicate.1 hy).2]; exact u64_zero, fun t ht j hj => by
  rw [rd_at (x := 0) (by rw [List.getElem?_replicate, if_pos ht])]
  exact tb_zero j⟩
theorem LS.lane {x : List Int} {n : Nat} {g : Nat → Nat → Bool} (h : LS x n g) {y : List Bool} (hy : y.length = n) {j : Nat} (hj : j < 64) (hg : ∀ t, t < n → g t j = y.getD t false) : Go.Proofs.Ytimjccfpobhpeaa.lane x j = y := by
  refine List.ext_getElem? fun t => ?_
  have e := h.len
  rcases Nat.lt_or_ge t n with ht | ht
  · have h1 := h.b t ht j hj
    rw [hg t ht, rd_at (List.getElem?_eq_getElem (show t < x.length by omega))] at h1
    unfold Go.Proofs.Ytimjccfpobhpeaa.lane
    rw [List.getElem?_map, List.getElem?_eq_getElem (show t < x.length by omega), Option.map_some, h1, List.getD_eq_getElem?_getD, List.getElem?_eq_getElem (show t < y.length by omega)]
    rfl
  · rw [List.getElem?_eq_none (by rw [lane_len]; omega), List.getElem?_eq_none (by omega)]
theorem slanes_ex (ok : FormOk l0 l1 l2 l3 l4) (l : List PatS) (hl : l.length ≤ 64) (hp : PatsOk l0 l2 l) : ∃ k a s, Xn.f k l0 l1 l2 l3 l4 l = some (a, s) ∧ a.length = l0.length ∧ s.length = l2.length ∧ (∀ y ∈ a, U64 y) ∧ (∀ y ∈ s, U64 y) ∧ ∀ j p, l[j]? = some p → lane a j = p.f0 ∧ lane s j = p.f1 := by
  have b0 := ok.c0
  have b2 := ok.c2
  obtain ⟨k, ⟨a, s⟩, h1, h4, h5⟩ := slanes_l0 (by omega) (by omega) l hl hp l.length 0 (List.replicate l0.length 0) (List.replicate l2.length 0) (by omega) ((LS.zero _).congr fun t _ j _ => by simp [gIn]) ((LS.zero _).congr fun t _ j _ => by simp [gSt])
  refine ⟨k, a, s, ?_, h4.len, h5.len, h4.u, h5.u, fun j p hj => ?_⟩
  · rw [Xn.f, if_pos (by omega), if_pos (by omega), if_pos (by omega), if_pos (by omega)]
    exact h1
  · have hjl := (List.getElem?_eq_some_iff.1 hj).1
    obtain ⟨p1, p2⟩ := hp p (List.mem_of_getElem? hj)
    have hd : l.getD j zP = p := by rw [List.getD_eq_getElem?_getD, hj]; rfl
    exact ⟨h4.lane p1 (by omega) fun t ht => by unfold gIn; rw [hd, decide_eq_true hjl, Bool.true_and], h5.lane p2 (by omega) fun t ht => by unfold gSt; rw [hd, decide_eq_true hjl, Bool.true_and]⟩
theorem sdiffer_l0 (a b : List Int) (ha : a.length ≤ 1048576) (hab : a.length = b.length) (hua : ∀ y ∈ a, U64 y) (hub : ∀ y ∈ b, U64 y) : ∀ (d i : Nat) (x5 : Int), i + d = a.length → U64 x5 → ∃ r, (∀ k, d < k → Qj.l0 k a b x5 a.length i = some r) ∧ U64 r ∧ ∀ j, j < 64 → tb r j = (tb x5 j || (lane (a.drop i) j != lane (b.drop i) j))
  | 0, i, x5, h, h5 => ⟨x5, fun k hk => by
      obtain ⟨m, rfl⟩ : ∃ m, k = m + 1 := ⟨k - 1, by omega⟩
      rw [Qj.l0, if_neg (by omega)], h5, fun j hj => by rw [List.drop_eq_nil_of_le (by omega), List.drop_eq_nil_of_le (by omega)]; simp⟩
  | d + 1, i, x5, h, h5 => by
    have hw : wrap64 ((i : Int) + 1) = ((i + 1 : Nat) : Int) := by rw [Ql (by omega) (by omega)]; rfl
    have ua := rd_u hua (show (0 : Int) ≤ i by omega) (by omega)
    have ub := rd_u hub (show (0 : Int) ≤ i by omega) (by omega)
    have hx := tb_xor ua ub
    have ho := tb_or h5 hx.1
    obtain ⟨r, h1, h2, h3⟩ := sdiffer_l0 a b ha hab hua hub d (i + 1) (Go.bits .or .u64 x5 (Go.bits .xor .u64 (rd a i) (rd b i))) (by omega) ho.1
    refine ⟨r, fun k hk => ?_, h2, fun j hj => ?_⟩
    · obtain ⟨m, rfl⟩ : ∃ m, k = m + 1 := ⟨k - 1, by omega⟩
      rw [Qj.l0, if_pos (by omega), if_pos (by omega), if_pos (by omega), if_pos (by omega), hw]
      exact h1 m (by omega)
    · rw [h3 j hj, ho.2, hx.2, List.drop_eq_getElem_cons (show i < a.length by omega), List.drop_eq_getElem_cons (show i < b.length by omega), rd_at (List.getElem?_eq_getElem (show i < a.length by omega)), rd_at (List.getElem?_eq_getElem (show i < b.length by omega))]
      show _ = (tb x5 j || ((tb a[i] j :: lane (a.drop (i + 1)) j) != (tb b[i] j :: lane (b.drop (i + 1)) j)))
      rw [Bool.or_assoc]
      congr 1
      cases h8 : tb a[i] j <;> cases h9 : tb b[i] j <;> simp [bne]
theorem sdiffer_ex (a b : List Int) (ha : a.length ≤ 1048576) (hab : a.length = b.length) (hua : ∀ y ∈ a, U64 y) (hub : ∀ y ∈ b, U64 y) : ∃ r, (∀ k, a.length < k → Qj.f k a b = some r) ∧ U64 r ∧ ∀ j, j < 64 → tb r j = (lane a j != lane b j) := by
  obtain ⟨r, h, h2, h3⟩ := sdiffer_l0 a b ha hab hua hub a.length 0 0 (by omega) u64_zero
  exact ⟨r, fun k hk => h k hk, h2, fun j hj => by rw [h3 j hj, tb_zero]; simp⟩
def showB (l2 : List FlopS) (l3 : List GateS) (l4 : List Int) (p : PatS) : List Bool × List Bool := (outB (valB l3 p.f0 p.f1) l4, nextF (valB l3 p.f0 p.f1) p.f1 l2 0)
theorem sdet_ex (ok : FormOk l0 l1 l2 l3 l4) {kF : Nat} (hF : Ze.f kF l0 l1 l2 l3 l4 = some 0) {b2 : List FlopS} {b3 : List GateS} {b4 : List Int} (okb : FormOk l0 l1 b2 b3 b4) {kB : Nat} (hB : Ze.f kB l0 l1 b2 b3 b4 = some 0) (e2 : b2.length = l2.length) (e4 : b4.length = l4.length)
    (l : List PatS) (hl : l.length ≤ 64) (hp : PatsOk l0 l2 l) : ∃ k m, detWords k l0 l1 l2 l3 l4 l0 l1 b2 b3 b4 l = some m ∧ detBits m l.length = l.map fun p => decide (showB l2 l3 l4 p ≠ showB b2 b3 b4 p) := by
  obtain ⟨k1, a, s, h1, ha, hs, ua, us, hls⟩ := slanes_ex ok l hl hp
  obtain ⟨k2, o, n, h2, ho, hn, uo, un, hw⟩ := lwords_ex ok hF a s ha hs ua us
  obtain ⟨k3, o', n', h3, ho', hn', uo', un', hw'⟩ := lwords_ex okb hB a s ha (by rw [hs, e2]) ua us
  have b2' := ok.c2
  have b4' := ok.c1
  have b5' := ok.c4
  obtain ⟨m1, h4, u1, t1⟩ := sdiffer_ex o o' (by omega) (by omega) uo uo'
  obtain ⟨m2, h5, u2, t2⟩ := sdiffer_ex n n' (by omega) (by omega) un un'
  refine ⟨k1 + k2 + k3 + o.length + n.length + 1, (m1, m2), ?_, ?_⟩
  · unfold detWords
    rw [upK (Xn.mono l0 l1 l2 l3 l4 l) (by omega) h1, Option.bind_some]
    show ((Qg.f _ l0 l1 l2 l3 l4 a s).bind _) = _
    rw [upK (Qg.mono l0 l1 l2 l3 l4 a s) (by omega) h2, Option.bind_some, if_pos rfl]
    show ((Qg.f _ l0 l1 b2 b3 b4 a s).bind _) = _
    rw [upK (Qg.mono l0 l1 b2 b3 b4 a s) (by omega) h3, Option.bind_some, if_pos rfl]
    show ((Qj.f _ o o').bind fun m1 => (Qj.f _ n n').bind fun m2 => some (m1, m2)) = _
    rw [h4 _ (by omega), Option.bind_some, h5 _ (by omega), Option.bind_some]
  · unfold detBits
    refine List.ext_getElem? fun j => ?_
    rw [List.getElem?_map, List.getElem?_map]
    rcases Nat.lt_or_ge j l.length with hj | hj
    · rw [List.getElem?_range hj, List.getElem?_eq_getElem hj, Option.map_some, Option.map_some]
      congr 1
      have hor := tb_or u1 u2
      obtain ⟨q1, q2⟩ := hls j l[j] (List.getElem?_eq_getElem hj)
      obtain ⟨w1, w2⟩ := hw j (by omega)
      obtain ⟨w3, w4⟩ := hw' j (by omega)
      rw [q1, q2] at w1 w2 w3 w4
      show (Go.bits .and .u64 (Go.bits .or .u64 m1 m2 / 2 ^ j) 1 == 1) = _
      rw [tb_test hor.1, hor.2, t1 j (by omega), t2 j (by omega), w1, w2, w3, w4]
      unfold showB
      by_cases z1 : outB (valB l3 l[j].f0 l[j].f1) l4 = outB (valB b3 l[j].f0 l[j].f1) b4
      · by_cases z2 : nextF (valB l3 l[j].f0 l[j].f1) l[j].f1 l2 0 = nextF (valB b3 l[j].f0 l[j].f1) l[j].f1 b2 0
        · simp [z1, z2]
        · simp [z1, z2]
      · simp [z1]
    · rw [List.getElem?_eq_none (by rw [List.length_range]; omega), List.getElem?_eq_none hj]
      rfl
end
end Go.Proofs.Ytimjccfpobhpeaa
namespace Go.Proofs.Ytimjccfpobhpeaa
open Go.RowKit Go.Proofs.YtimjccfpobhpeaaW.PrintWords Go.Proofs.Ytimjccfpobhpeaa.PF
open Go.ChangeMaps (setBlock)
set_option maxRecDepth 100000
abbrev Qr := S29
def hitF (x : Qr) (net pl : Int) : Bool := decide (x.f0 = net) && (decide (x.f1 = -1) || decide (x.f1 = pl))
def readF (net pl : Int) (vs : List Bool) : List Qr → Bool
  | [] => vs.getD net.toNat false
  | x :: r => if hitF x net pl then x.f2 else readF net pl vs r
theorem kd_fault {w : World} {A : Option Addr} {n : Nat} {xs : List Qr} (h : Kd.C k29 w A n xs) {i : Nat} {x : Qr} (hx : xs[i]? = some x) :
    ∃ b o, A = some ⟨b, o, none⟩ ∧ b < w.heap.size ∧ w.cell? ⟨b, o + i * 3, none⟩ = some (.int .i64 x.f0) ∧ w.cell? ⟨b, o + i * 3 + 1, none⟩ = some (.int .i64 x.f1) ∧ w.cell? ⟨b, o + i * 3 + 2, none⟩ = some (.bool x.f2) := by
  obtain ⟨b, o, cs, rfl, hb, _, hK, hc⟩ := kd_at h (by decide) hx
  have hK := k29_open hK
  subst hK
  refine ⟨b, o, rfl, hb, ?_, ?_, ?_⟩
  · have := hc 0 _ rfl
    simpa [k29, Kd.iso, Kd.pair, Kd.int, Kd.bool, Kd.scalar, Nat.add_assoc] using this
  · have := hc 1 _ rfl
    simpa [k29, Kd.iso, Kd.pair, Kd.int, Kd.bool, Kd.scalar, Nat.add_assoc] using this
  · have := hc 2 _ rfl
    simpa [k29, Kd.iso, Kd.pair, Kd.int, Kd.bool, Kd.scalar, Nat.add_assoc] using this
set_option maxHeartbeats 8000000 in
theorem read_calls (A1 : Option Addr) (c1 : Nat) (l : List Qr) (g5 g11 g10 b : Nat) (vA : Option Addr) (vc : Nat) (vs : List Bool) (net : Nat) (key : Load) (m : List ((Int × Int × Int) × Int)) (base : Nat) (w : World)
    (hl : Kd.C k29 w A1 l.length l) (h5 : VarD w g5 (.slice A1 l.length c1) 39) (h11 : VarD w g11 (.map (some b)) 92) (h10 : VarD w g10 (.slice vA vs.length vc) 53)
    (ho : Rep.Own Rep.bool 4 w base NoB (.slice vA vs.length vc) vs) (hnet : net < vs.length) (hM : MapAt key3 (Value.int .i64) w b m) (hk : key3.ok (keyL key)) :
    Calls Try.prog 47 #[.int .i64 (net : Int), .agg #[.int .i64 key.f0, .int .i64 key.f1, .int .i64 key.f2], .pointer (some ⟨g5, 0, none⟩), .pointer (some ⟨g11, 0, none⟩), .pointer (some ⟨g10, 0, none⟩)] w fun e w' => e = .returned (.bool (readF net ((mget m (keyL key)).getD 0) vs l)) ∧ Below w.heap.size w w' := by
  have huF := Try.underlying29
  have huK := Try.underlying95
  have hz : ∀ W, (zeroValue 3).run Try.prog W = .ok (.int .i64 0) W := fun W => by kernel_rfl
  obtain ⟨A', cap', e', hs⟩ := ho.sl
  simp only [Value.slice.injEq] at e'
  obtain ⟨rfl, _, rfl⟩ := e'
  obtain ⟨vb, vo, rfl, _, hvb⟩ := hs.row.head (by omega)
  have hnv : ∃ y, vs[net]? = some y := ⟨vs[net], List.getElem?_eq_getElem hnet⟩
  obtain ⟨y, hy⟩ := hnv
  have hcv : w.cell? ⟨vb, vo + net, none⟩ = some (.bool y) := by
    obtain ⟨b', o', cs, hA, _, _, hr, hc⟩ := hs.row net y hy
    simp only [Option.some.injEq, Addr.mk.injEq, and_true] at hA
    obtain ⟨rfl, rfl⟩ := hA
    have h1 : cs = [.bool y] := hr.1
    subst h1
    have := hc 0 _ rfl
    simpa [Rep.bool, Rep.cell] using this
  have hlm := (kd_len hl).2
  have c5 := h5.cell
  have c11 := h11.cell
  have c10 := h10.cell
  have l5 := h5.lt
  have l11 := h11.lt
  have l10 := h10.lt
  have hlk : ∀ v : Under (w.alloc (.cells #[.int .i64 key.f0, .int .i64 key.f1, .int .i64 key.f2] 95)), (Instr.lookup 92 (.map (some b)) (.agg #[.int .i64 key.f0, .int .i64 key.f1, .int .i64 key.f2]) false).run Try.prog v.val = .ok (.int .i64 ((mget m (keyL key)).getD 0)) v.val := fun v =>
    (run_mapLookup (hM.is (((Is.refl w).alloc _).step v)) Try.underlying92 (hz _) hk).trans (by cases mget m (keyL key) <;> rfl)
  generalize hpl : (mget m (keyL key)).getD 0 = pl at *
  have hyd : vs.getD (net : Int).toNat false = y := by rw [Int.toNat_natCast, List.getD_eq_getElem?_getD, hy]; rfl
  have hydh := Lib.hid hyd
  clear hpl hM hy hyd h5 h11 h10 ho hs
  go_enter Try.func47, Try.ntmps47
  go_wp2
  have hB0 : Below w.heap.size w (w.alloc (.cells #[.int .i64 key.f0, .int .i64 key.f1, .int .i64 key.f2] 95)) := (Below.refl _ _).alloc (Nat.le_refl _) _
  go_loopg [9, 12] l.length (fun d _ t wr => ∃ (i : Nat) (z : Under (w.alloc (.cells #[.int .i64 key.f0, .int .i64 key.f1, .int .i64 key.f2] 95))), t = .int .i64 i ∧ wr = z.val ∧ Aside (i + d = l.length) ∧ Aside (readF net pl vs l = readF net pl vs (l.drop i)))
  case atStart => exact ⟨0, Under.refl _, rfl, rfl, by show 0 + l.length = l.length; omega, by show _ = _; rfl⟩
  case round =>
    obtain ⟨i, z, rfl, rfl, hi, hI⟩ := hrel
    have hzs := z.size
    simp at hzs
    by_cases hlt : i < l.length
    · obtain ⟨x, hx⟩ := get_ex hlt
      obtain ⟨gO, rfl⟩ : ∃ m, gk = m + 1 := ⟨gk - 1, by have := hi.out; omega⟩
      obtain ⟨b1, o1, rfl, hb1, q0, q1, q2⟩ := kd_fault hl hx
      have hd : l.drop i = x :: l.drop (i + 1) := drop_cons hx
      have hI2 : readF net pl vs l = if hitF x net pl then x.f2 else readF net pl vs (l.drop (i + 1)) := by rw [hI.out, hd]; rfl
      have hIh := Lib.hid hI2
      have hih := Lib.hid hi.out
      have k1 : b1 < z.val.heap.size := by omega
      have k5 : w.heap.size < z.val.heap.size := by omega
      have k11 : g11 < z.val.heap.size := by omega
      have hlk2 : ∀ v : Under (z.val.alloc (.cells #[.int .i64 x.f0, .int .i64 x.f1, .bool x.f2] 29)), (Instr.lookup 92 (.map (some b)) (.agg #[.int .i64 key.f0, .int .i64 key.f1, .int .i64 key.f2]) false).run Try.prog v.val = .ok (.int .i64 pl) v.val := fun v => hlk ((z.alloc _).trans v)
      clear hI2 hI hi hx hd
      by_cases e1 : x.f0 = (net : Int)
      · have r1 : (x.f0 == (net : Int)) = true := by simpa using e1
        by_cases e2 : x.f1 = -1
        · have r2 : (x.f1 == -1) = true := by simpa using e2
          have hc : hitF x net pl = true := by simp [hitF, e1, e2]
          clear e1 e2
          go_wp2
          refine wp_region_under (by kernel_rfl) (by kernel_rfl) ?_
          repeat (go_big_quiet_step (fail))
          refine wpQuiet_nil ?_
          rintro _ ⟨v, rfl⟩
          have a1 : z.val.heap.size < v.val.heap.size := v.lt _ (by simp)
          go_wp2
          go_ret
          refine ⟨ret_bool ?_, (hB0.trans (z.ok.mono (by simp))).trans (((Below.refl _ _).alloc (Nat.le_refl _) _ |>.trans (v.ok.mono (by simp))).mono (by omega))⟩
          rw [hIh.out, hc]
          rfl
        · have r2 : (x.f1 == -1) = false := by simpa using e2
          by_cases e3 : x.f1 = pl
          · have r3 : (x.f1 == pl) = true := by simpa using e3
            have hc : hitF x net pl = true := by simp [hitF, e1, e3]
            clear e1 e2 e3
            go_wp2
            refine wp_region_under (by kernel_rfl) (by kernel_rfl) ?_
            repeat (go_big_quiet_step (fail))
            refine wpQuiet_nil ?_
            rintro _ ⟨v, rfl⟩
            have a1 : z.val.heap.size < v.val.heap.size := v.lt _ (by simp)
            go_wp2
            go_ret
            refine ⟨ret_bool ?_, (hB0.trans (z.ok.mono (by simp))).trans (((Below.refl _ _).alloc (Nat.le_refl _) _ |>.trans (v.ok.mono (by simp))).mono (by omega))⟩
            rw [hIh.out, hc]
            rfl
          · have r3 : (x.f1 == pl) = false := by simpa using e3
            have hc : hitF x net pl = false := by simp [hitF, e2, e3]
            clear e1 e2 e3
            go_wp2
            refine wp_region_under (by kernel_rfl) (by kernel_rfl) ?_
            repeat (go_big_quiet_step (fail))
            refine wpQuiet_nil ?_
            rintro _ ⟨v, rfl⟩
            go_wp2
            go_roundg gO
            case measure => have := hih.out; omega
            case rel =>
              refine ⟨i + 1, (z.alloc _).trans v, by go_num, rfl, by show i + 1 + gO = _; have := hih.out; omega, ?_⟩
              show _ = _
              rw [hIh.out, hc]
              rfl
      · have r1 : (x.f0 == (net : Int)) = false := by simpa using e1
        have hc : hitF x net pl = false := by simp [hitF, e1]
        clear e1
        go_wp2
        refine wp_region_under (by kernel_rfl) (by kernel_rfl) ?_
        repeat (go_big_quiet_step (fail))
        refine wpQuiet_nil ?_
        rintro _ ⟨v, rfl⟩
        go_wp2
        go_roundg gO
        case measure => have := hih.out; omega
        case rel =>
          refine ⟨i + 1, (z.alloc _).trans v, by go_num, rfl, by show i + 1 + gO = _; have := hih.out; omega, ?_⟩
          show _ = _
          rw [hIh.out, hc]
          rfl
    · have hil : i = l.length := by have := hi.out; omega
      subst hil
      have hI2 : readF net pl vs l = y := by rw [hI.out, List.drop_length]; exact hydh.out
      have hIh := Lib.hid hI2
      have k1 : vb < z.val.heap.size := by omega
      have k10 : g10 < z.val.heap.size := by omega
      clear hI2 hI hi
      go_wp2
      go_ret
      exact ⟨ret_bool hIh.out.symm, hB0.trans (z.ok.mono (by simp))⟩
end Go.Proofs.Ytimjccfpobhpeaa
namespace Go.Proofs.Ytimjccfpobhpeaa
open Go.RowKit Go.Proofs.YtimjccfpobhpeaaW.PrintWords Go.Proofs.Ytimjccfpobhpeaa.PF
set_option maxRecDepth 100000
section
variable {w : World} {base : Nat} {v : Value} {xs : List Bool}
theorem append_bools (ty : TypeId) (h : Rep.Own Rep.bool 4 w base NoB v xs) {A : Option Addr} {c : Nat} {ys : List Bool} (hy : Kd.C Kd.bool w A ys.length ys)
    (h63 : xs.length + ys.length ≤ maxLen) (hbytes : (xs.length + ys.length) * 1 ≤ 140737488355328) (hbase : base ≤ w.heap.size) :
    ∃ v' w', (Builtin.append_ #[53, 53] ty #[v, .slice A ys.length c]).run Try.prog w = .ok v' w' ∧ Rep.Own Rep.bool 4 w' base NoB v' (xs ++ ys) ∧ Grew w w' v v' := by
  obtain ⟨i, hi, hz, hs, hb⟩ := info_parts boolT.info
  obtain ⟨cs, h1, h2, h3⟩ := h
  cases A with
  | none =>
    have hy0 : ys = [] := by
      by_cases hp : 0 < ys.length
      · obtain ⟨b, o, hA, _⟩ := kd_plain hy (by decide) hp
        cases hA
      · exact List.eq_nil_of_length_eq_zero (by omega)
    subst hy0
    exact ⟨v, w, run_append_nilsrc boolT ty h1 c (by omega), by rw [List.append_nil]; exact ⟨cs, h1, h2, h3⟩, Grew.refl w v⟩
  | some ad =>
    have k2 : ∀ j u, (ys.map Value.bool)[j]? = some u → w.cell? (ad.add j) = some u := by
      intro j u hu
      rw [List.getElem?_map] at hu
      cases hj : ys[j]? with
      | none => rw [hj] at hu; cases hu
      | some y =>
        rw [hj] at hu
        cases hu
        obtain ⟨b, o, hA, _, hc⟩ := kd_bool hy hj
        simp only [Option.some.injEq] at hA
        subst hA
        rw [Addr.add_lit]
        exact hc
    have k1 : Rep.All Rep.bool w NoB ys (ys.map Value.bool) := by
      refine ⟨by simp [Rep.bool, Rep.cell], fun i x hx => ?_⟩
      have hl := (List.getElem?_eq_some_iff.1 hx).1
      refine ⟨?_, trivial⟩
      show ((ys.map Value.bool).drop (i * 1)).take 1 = _
      rw [Nat.mul_one, List.drop_eq_getElem_cons (by simpa using hl), List.take_succ_cons, List.take_zero, List.getElem_map]
      rw [(List.getElem?_eq_some_iff.1 hx).2]
    obtain ⟨v', w', hr, ho, hg, _, hat⟩ := run_append_own_at (P := Try.prog) w base 53 ty 4 i (.bool false) 1 1 boolT.ht hi hz hs hb boolT.zs boolT.pos v xs.length cs h1 ad ys.length c (ys.map Value.bool) k1.1 k2 k1.one1 h63 hbytes hbase
    exact ⟨v', w', hr, Rep.Own.appended h2 h3 k1 (fun k hk => hk.elim) hg ho hat, Grew.mk' hg hat⟩
theorem wpList_bools {ops : Array Oper} {rest : List Oper} {o : Oper} {a : Act} {Q : Exit → Act → World → Prop} (hgd : o.guard = none) (s x : Operand)
    (ho : o.op = .call { callee := .builtin .append, args := #[s, x], argTypes := #[53, 53] }) (hs : a.eval s = v) {A : Option Addr} {c : Nat} {ys : List Bool} (hx : a.eval x = .slice A ys.length c)
    (h : Rep.Own Rep.bool 4 w base NoB v xs) (hy : Kd.C Kd.bool w A ys.length ys)
    (h63 : xs.length + ys.length ≤ maxLen) (hbytes : (xs.length + ys.length) * 1 ≤ 140737488355328) (hbase : base ≤ w.heap.size)
    (k : ∀ v' w', Rep.Own Rep.bool 4 w' base NoB v' (xs ++ ys) → Grew w w' v v' → wpList Try.prog ops Q rest (a.put o.dst v') w') : wpList Try.prog ops Q (o :: rest) a w := by
  refine wpList_plain hgd fun K hK => ?_
  obtain ⟨v', w', hr, h2, h3⟩ := append_bools o.type h hy h63 hbytes hbase
  unfold Oper.wp execOp
  simp only [ho, resolve, invoke, builtin, Sem.run_bind, Sem.run_pure, Result.andThen_ok, List.map_toArray, List.map_cons, List.map_nil, hs, hx]
  erw [hr]
  exact hK _ _ (k v' w' h2 h3)
theorem own_two (w : World) (a b : Bool) (base : Nat) (hb : base ≤ w.heap.size) : Rep.Own Rep.bool 4 (w.alloc (.cells #[.bool a, .bool b] 4)) base NoB (.slice (some ⟨w.heap.size, 0, none⟩) 2 2) [a, b] := by
  refine ⟨[.bool a, .bool b], ?_, ?_, fun _ _ h => h⟩
  · exact ⟨rfl, .inr ⟨w.heap.size, 2, _, rfl, hb, heap_alloc_new w _, Nat.le_refl _, by decide, rfl, rfl⟩⟩
  · have ha : Rep.bool.rel (w.alloc (.cells #[.bool a, .bool b] 4)) NoB a [.bool a] := ⟨rfl, trivial⟩
    have hb : Rep.bool.rel (w.alloc (.cells #[.bool a, .bool b] 4)) NoB b [.bool b] := ⟨rfl, trivial⟩
    exact Rep.All.append (Rep.All.one ha) (Rep.All.one hb)
end
structure SInv (w : World) (g10 g11 b : Nat) (m : List ((Int × Int × Int) × Int)) (vs : List Bool) (W : World) : Prop where
  bel : Below w.heap.size w W
  row : ∃ v, VarD W g10 v 53 ∧ Rep.Own Rep.bool 4 W w.heap.size NoB v vs
  mp : VarD W g11 (.map (some b)) 92
  map : MapAt key3 (Value.int .i64) W b m
section
variable {w W W' : World} {g10 g11 b : Nat} {m : List ((Int × Int × Int) × Int)} {vs : List Bool}
theorem SInv.later (h : SInv w g10 g11 b m vs W) (hb : Below W.heap.size W W') : SInv w g10 g11 b m vs W' := by
  obtain ⟨v, hv, ho⟩ := h.row
  exact ⟨h.bel.trans (hb.mono h.bel.size), ⟨v, hv.step (hb.block _ hv.lt), ho.below hb⟩, h.mp.step (hb.block _ h.mp.lt), h.map.step (hb.block _ h.map.lt)⟩
theorem map_not {W : World} {base : Nat} {v : Value} {xs : List Bool} (ho : Rep.Own Rep.bool 4 W base NoB v xs) (hm : MapAt key3 (Value.int .i64) W b m) : v.ownBlock ≠ some b := by
  intro hk
  obtain ⟨o, h1, h2⟩ := own_cells ho hk
  obtain ⟨es, c, hb, _⟩ := hm
  rw [hb] at h1
  cases h1
  cases h2
theorem map_var {W : World} {g : Nat} {u : Value} {t : TypeId} (hv : VarD W g u t) (hm : MapAt key3 (Value.int .i64) W b m) : b ≠ g := by
  rintro rfl
  obtain ⟨es, c, hb, _⟩ := hm
  have := (show W.heap[b]? = _ from hv).symm.trans hb
  cases this
theorem SInv.grown (h : SInv w g10 g11 b m vs W) {u : Value} {us : List Bool} {B : Nat} (hu : Rep.Own Rep.bool 4 W B NoB u us) (hB : w.heap.size ≤ B) (hne : ∀ v, VarD W g10 v 53 → ∀ k, v.ownBlock = some k → k < B) (hg : W.grownBy W' u.ownBlock) : SInv w g10 g11 b m vs W' := by
  obtain ⟨v, hv, ho⟩ := h.row
  have n10 := own_not hu hv (by decide)
  have n11 := own_not hu h.mp (by decide)
  have nb := map_not hu h.map
  refine ⟨h.bel.grown hg h.bel.size (fun k e => Nat.le_trans hB (hu.lt k e).1), ⟨v, hv.step (hg.block _ hv.lt (Ne.symm n10)), ho.step fun k hk hl => hg.block k hl fun e => ?_⟩, h.mp.step (hg.block _ h.mp.lt (Ne.symm n11)), h.map.step (hg.block _ h.map.lt (Ne.symm nb))⟩
  rcases hk with hk | hk
  · exact hk
  · have h1 := hne v hv k hk
    have h2 := (hu.lt k e.symm).1
    omega
theorem SInv.push (h : SInv w g10 g11 b m vs W) (hgw : w.heap.size ≤ g10) {v v' : Value} {y : Bool} (hv : VarD W g10 v 53) (ho : Rep.Own Rep.bool 4 W w.heap.size NoB v vs) (hg : Grew W W' v v') (ho' : Rep.Own Rep.bool 4 W' w.heap.size NoB v' (vs ++ [y])) :
    SInv w g10 g11 b m (vs ++ [y]) (W'.setCell ⟨g10, 0, none⟩ v') := by
  have n0 : v.ownBlock ≠ some g10 := own_not ho hv (by decide)
  have n1 := own_not ho h.mp (by decide)
  have nb := map_not ho h.map
  have hne : g11 ≠ g10 := h.mp.ne hv (by decide)
  have hnb := map_var hv h.map
  have e0 : W'.heap[g10]? = W.heap[g10]? := hg.by_.block g10 hv.lt (Ne.symm n0)
  have hv1 : VarD W' g10 v 53 := hv.step e0
  have n3 : v'.ownBlock ≠ some g10 := own_not ho' hv1 (by decide)
  refine ⟨(h.bel.grown hg.by_ h.bel.size (fun k e => (ho.lt k e).1)).setCell (p := ⟨g10, 0, none⟩) hgw v', ⟨v', hv1.set v', ho'.step fun k hk _ => Below.heap_setCell _ ⟨g10, 0, none⟩ _ k ?_⟩,
    h.mp.step ((Below.heap_setCell _ ⟨g10, 0, none⟩ _ _ hne).trans (hg.by_.block _ h.mp.lt (Ne.symm n1))), h.map.step ((Below.heap_setCell _ ⟨g10, 0, none⟩ _ _ hnb).trans (hg.by_.block _ h.map.lt (Ne.symm nb)))⟩
  rcases hk with hk | hk
  · exact hk.elim
  · exact fun e => n3 (by rw [hk]; exact congrArg some e)
end
end Go.Proofs.Ytimjccfpobhpeaa
namespace Go.Proofs.Ytimjccfpobhpeaa
open Go.RowKit Go.Proofs.YtimjccfpobhpeaaW.PrintWords Go.Proofs.Ytimjccfpobhpeaa.PF
set_option maxRecDepth 100000
theorem VarD.uniq {W : World} {g : Nat} {v u : Value} {t : TypeId} (h : VarD W g v t) (k : VarD W g u t) : v = u := by
  have := (show W.heap[g]? = _ from h).symm.trans k
  simpa using this
def rdL (m : List ((Int × Int × Int) × Int)) (fs : List Qr) (vs : List Bool) (net : Int) (l : Load) : Bool := readF net ((mget m (keyL l)).getD 0) vs fs
def kF (rd : Int → Load → Bool) (i : Nat) : List Int → Nat → Nat → Nat
  | [], _, k => k
  | x :: r, j, k => kF rd i r (j + 1) (if rd x ⟨0, i, j⟩ then k ||| 2 ^ j else k)
def flX (m : List ((Int × Int × Int) × Int)) (fs : List Qr) (vs st : List Bool) (i : Nat) (f : Flop) : Bool := if rdL m fs vs f.f3 ⟨2, i, 0⟩ then rdL m fs vs f.f2 ⟨1, i, 0⟩ else st.getD i false
def shN (m : List ((Int × Int × Int) × Int)) (fs : List Qr) (vs st : List Bool) : List Flop → Nat → List Bool
  | [], _ => []
  | f :: r, i => flX m fs vs st i f :: shN m fs vs st r (i + 1)
def shO (m : List ((Int × Int × Int) × Int)) (fs : List Qr) (vs : List Bool) : List Int → Nat → List Bool
  | [], _ => []
  | x :: r, i => rdL m fs vs x ⟨3, i, 0⟩ :: shO m fs vs r (i + 1)
theorem or_bit {k j : Nat} (hk : k < 2 ^ j) (hj : j ≤ 5) : Go.bits .or .i64 (k : Int) (wrap64 (2 ^ j)) = ((k ||| 2 ^ j : Nat) : Int) ∧ k ||| 2 ^ j < 2 ^ (j + 1) := by
  have h2 : 2 ^ j < 2 ^ 63 := Nat.pow_lt_pow_right (by decide) (by omega)
  have h1 : k < 2 ^ 63 := Nat.lt_trans hk h2
  have hw : wrap64 (2 ^ j) = ((2 ^ j : Nat) : Int) := by
    have hc : j = 0 ∨ j = 1 ∨ j = 2 ∨ j = 3 ∨ j = 4 ∨ j = 5 := by omega
    rcases hc with rfl | rfl | rfl | rfl | rfl | rfl <;> (unfold wrap64; decide)
  have h3 := (bits_nat .i64 63 (by decide) (fun m h0 h1 => by rw [IntKind.wrap_i64]; omega) k (2 ^ j) h1 h2).2
  exact ⟨by rw [hw]; exact h3, Nat.or_lt_two_pow (Nat.lt_trans hk (Nat.pow_lt_pow_right (by decide) (by omega))) (Nat.pow_lt_pow_right (by decide) (by omega))⟩
def shV (m : List ((Int × Int × Int) × Int)) (fs : List Qr) : List Gate → Nat → List Bool → List Bool
  | [], _, v => v
  | g :: r, i, v => shV m fs r (i + 1) (v ++ [Go.bits .and .u64 (g.f1 / 2 ^ kF (rdL m fs v) i g.f2 0 0) 1 == 1])
theorem own_not2 {α : Type} {d : Rep α} {e : TypeId} {W : World} {base : Nat} {F : Nat → Prop} {v : Value} {xs : List α} (h : Rep.Own d e W base F v xs) {g : Nat} {cs : Array Value} {t : TypeId} (hg : W.heap[g]? = some (.cells cs t (0, 0))) (ht : t ≠ e) : v.ownBlock ≠ some g := by
  intro hk
  obtain ⟨cs, h1, _⟩ := h
  rcases h1.2 with ⟨rfl, _⟩ | ⟨g', cap, cur, rfl, _, hh, _⟩
  · simp [Value.ownBlock] at hk
  · have : g' = g := by simpa [Value.ownBlock] using hk
    subst this
    have := hg.symm.trans hh
    simp at this
    exact ht this.2
def ShownPost (m : List ((Int × Int × Int) × Int)) (fs : List Qr) (inn st : List Bool) (l2 : List Flop) (l3 : List Gate) (l4 : List Int) (w : World) (e : Ending) (w' : World) : Prop :=
  ∃ v0 v1 : Value, e = .returned (.tuple #[v0, v1]) ∧ Rep.Own Rep.bool 4 w' w.heap.size NoB v0 (shO m fs (shV m fs l3 0 ([false, true] ++ inn ++ st)) l4 0) ∧ Rep.Own Rep.bool 4 w' w.heap.size NoB v1 (shN m fs (shV m fs l3 0 ([false, true] ++ inn ++ st)) st l2 0) ∧ (∀ k, v0.ownBlock = some k → v1.ownBlock ≠ some k) ∧ Below w.heap.size w w'
set_option maxHeartbeats 16000000 in
theorem shown_calls (A0 A1 A2 A3 A4 A5 A6 A7 : Option Addr) (c0 c1 c2 c3 c4 c5 c6 c7 : Nat) (n0 n1 : Nat) (l2 : List Flop) (l3 : List Gate) (l4 : List Int) (fs : List Qr) (inn st : List Bool) (w : World)
    (h2 : Kd.C kFlop w A2 l2.length l2) (h3 : Kd.C kGate w A3 l3.length l3) (h4 : Kd.C (Kd.int .i64) w A4 l4.length l4) (h5 : Kd.C k29 w A5 fs.length fs) (h6 : Kd.C Kd.bool w A6 inn.length inn) (h7 : Kd.C Kd.bool w A7 st.length st)
    (e6 : inn.length = n0) (e7 : st.length = l2.length) (b0 : n0 ≤ 128) (b2 : l2.length ≤ 288) (b3 : l3.length ≤ 1200) (b4 : l4.length ≤ 128)
    (hp : ∀ (i : Nat) (g : Gate), l3[i]? = some g → g.f2.length ≤ 6 ∧ ∀ y ∈ g.f2, 0 ≤ y ∧ y < 2 + (n0 : Int) + l2.length + i) (hf : ∀ x ∈ l2, 0 ≤ x.f2 ∧ x.f2 < 2 + (n0 : Int) + l2.length + l3.length ∧ 0 ≤ x.f3 ∧ x.f3 < 2 + (n0 : Int) + l2.length + l3.length) (ho : ∀ x ∈ l4, 0 ≤ x ∧ x < 2 + (n0 : Int) + l2.length + l3.length)
    (m : List ((Int × Int × Int) × Int))
    (HM : ∀ W, Below w.heap.size w W → Calls Try.prog 40 #[.agg #[.slice A0 n0 c0, .slice A1 n1 c1, .slice A2 l2.length c2, .slice A3 l3.length c3, .slice A4 l4.length c4]] W fun e w' => ∃ b, e = .returned (.map (some b)) ∧ W.heap.size ≤ b ∧ MapAt key3 (Value.int .i64) w' b m ∧ Below W.heap.size W w') :
    Calls Try.prog 22 #[.agg #[.slice A0 n0 c0, .slice A1 n1 c1, .slice A2 l2.length c2, .slice A3 l3.length c3, .slice A4 l4.length c4], .slice A5 fs.length c5, .slice A6 inn.length c6, .slice A7 st.length c7] w (ShownPost m fs inn st l2 l3 l4 w) := by
  subst e6
  have E7 := Lib.hid e7
  have b7 : st.length ≤ 288 := by omega
  clear e7
  have hu := Try.underlying27
  have huG := Try.underlying80
  have huP := Try.underlying82
  have huK := Try.underlying95
  have hW0 : Below w.heap.size w ((w.alloc (.cells #[.slice A0 inn.length c0, .slice A1 n1 c1, .slice A2 l2.length c2, .slice A3 l3.length c3, .slice A4 l4.length c4] 27)).alloc (.cells #[.slice A5 fs.length c5] 39)) := ((Below.refl _ _).alloc (Nat.le_refl _) _).alloc (by simp) _
  obtain ⟨x0, hx0⟩ : ∃ x : Under w, ((w.alloc (.cells #[.slice A0 inn.length c0, .slice A1 n1 c1, .slice A2 l2.length c2, .slice A3 l3.length c3, .slice A4 l4.length c4] 27)).alloc (.cells #[.slice A5 fs.length c5] 39)) = x.val := ⟨⟨_, hW0⟩, rfl⟩
  have hnet0 : x0.val.heap[w.heap.size]? = some (.cells #[.slice A0 inn.length c0, .slice A1 n1 c1, .slice A2 l2.length c2, .slice A3 l3.length c3, .slice A4 l4.length c4] 27 (0, 0)) := by
    rw [← hx0, Below.heap_alloc _ _ _ (by simp)]
    exact heap_alloc_new w _
  have h50 : VarD x0.val (w.heap.size + 1) (.slice A5 fs.length c5) 39 := by
    show _ = _
    rw [← hx0]
    exact heap_alloc2_new w _ _
  have hs0 : x0.val.heap.size = w.heap.size + 2 := by rw [← hx0]; simp
  have q1 : w.heap.size < x0.val.heap.size := by omega
  have q2 : w.heap.size + 1 < x0.val.heap.size := by omega
  go_enter Try.func22, Try.ntmps22
  have hW0h := Lib.hid hW0
  clear hW0
  have C6 : Kd.C Kd.bool (x0.val.alloc (.cells #[.bool false, .bool true] 4)) A6 inn.length inn := Kd.Zk h6 (x0.ok.alloc x0.ok.size _)
  have hO1 := own_two x0.val false true x0.val.heap.size (Nat.le_refl _)
  rw [hs0] at hO1
  go_wp2_with (first
    | (at_builtin; refine wpList_bools (v := .slice (some ⟨w.heap.size + 2, 0, none⟩) 2 2) rfl (.tmp 23) (.tmp 24) rfl rfl rfl hO1 C6 (le_maxLen (by simp; omega)) (by simp; omega) (by simp; omega) ?_; go_loud (intro v1 w1 ho1 hg1; obtain ⟨B1, d1, hv1⟩ := ho1.val; obtain ⟨L1, rfl⟩ : ∃ L1, v1 = .slice B1 L1 d1 := ⟨_, hv1⟩; clear hv1; have hw1 : Below x0.val.heap.size x0.val w1 := (((Below.refl x0.val.heap.size x0.val).alloc (Nat.le_refl _) (.cells #[.bool false, .bool true] 4)).grown hg1.by_ (by simp) (fun k e => (Nat.le_of_eq (hs0.trans (by simpa [Value.ownBlock] using e))))); have hs1 := hw1.size; have hO2 := ho1.below (Zl (Below.refl _ _) (.cells #[.slice B1 L1 d1] 53)); have C7 := Kd.Zk h7 (x0.ok.trans ((hw1.alloc hs1 (.cells #[.slice B1 L1 d1] 53)).mono (Nat.le_of_lt q1))); have H1 := Lib.hid ho1; have H2 := Lib.hid hg1; clear ho1 hg1 hO1 C6))
    | (at_builtin; refine wpList_bools (v := .slice B1 L1 d1) rfl (.tmp 26) (.tmp 27) rfl rfl rfl hO2 C7 (le_maxLen (by simp; omega)) (by simp; omega) (by simp; omega) ?_; go_loud (intro v2 w2 ho2 hg2; obtain ⟨B2, d2, hv2⟩ := ho2.val; obtain ⟨L2, rfl⟩ : ∃ L2, v2 = .slice B2 L2 d2 := ⟨_, hv2⟩; clear hv2; have nx1 : (Value.slice B1 L1 d1).ownBlock ≠ some w1.heap.size := (fun e => Nat.lt_irrefl _ (H1.out.lt _ e).2); have k1 : w2.heap[w1.heap.size]? = some (.cells #[.slice B1 L1 d1] 53 (0, 0)) := ((hg2.by_.block _ (by simp) (Ne.symm nx1)).trans (heap_alloc_new _ _)); have hw2 : Below x0.val.heap.size x0.val w2 := ((hw1.alloc hs1 (.cells #[.slice B1 L1 d1] 53)).grown hg2.by_ (by simp; omega) (fun k e => Nat.le_trans (Nat.le_of_eq hs0) (H1.out.lt k e).1)); have hs2 := hw2.size; have hb1 : VarD w2 w1.heap.size (.slice B1 L1 d1) 53 := k1; have hc1 := hb1.cell; have hf1 := hb1.free; have hl1 := hb1.lt; have H3 := Lib.hid ho2; have H4 := Lib.hid hg2; have H5 := Lib.hid hb1; have hnb2 := ((hw2.block _ q1).trans hnet0); have e0 := ((cell_of_row _ _ 0 _ _ _ hnb2).trans rfl : w2.cell? ⟨w.heap.size, 0, none⟩ = some (.slice A0 inn.length c0)); have e1 := ((cell_of_row _ _ 1 _ _ _ hnb2).trans rfl : w2.cell? ⟨w.heap.size, 1, none⟩ = some (.slice A1 n1 c1)); have e2 := ((cell_of_row _ _ 2 _ _ _ hnb2).trans rfl : w2.cell? ⟨w.heap.size, 2, none⟩ = some (.slice A2 l2.length c2)); have e3 := ((cell_of_row _ _ 3 _ _ _ hnb2).trans rfl : w2.cell? ⟨w.heap.size, 3, none⟩ = some (.slice A3 l3.length c3)); have e4 := ((cell_of_row _ _ 4 _ _ _ hnb2).trans rfl : w2.cell? ⟨w.heap.size, 4, none⟩ = some (.slice A4 l4.length c4)); have ne1 : ¬ w1.heap.size = w.heap.size := (by omega); have ne2 : ¬ w.heap.size = w1.heap.size := (by omega); have lq : w.heap.size < w2.heap.size := (by omega); have hW3 := (x0.ok.trans ((hw2.setCell (p := ⟨w1.heap.size, 0, none⟩) hs1 (.slice B2 L2 d2)).mono (Nat.le_of_lt q1))); have H6 := Lib.hid hnb2; clear ho2 hg2 hO2 C7 k1 hb1 hnb2))
    | (go_at_call 40; refine (HM _ hW3).mono ?_; go_loud (rintro e w3 ⟨b, rfl, hbN, hM3, hb3⟩; have hs3 := hb3.size; have hz3 : w2.heap.size ≤ w3.heap.size := (by simpa using hs3); have hnb3 : w3.heap[w.heap.size]? = some (.cells #[.slice A0 inn.length c0, .slice A1 n1 c1, .slice A2 l2.length c2, .slice A3 l3.length c3, .slice A4 l4.length c4] 27 (0, 0)) := ((hb3.block _ (by simpa using lq)).trans ((Below.heap_setCell _ _ _ _ ne2).trans H6.out)); have f0 := ((cell_of_row _ _ 0 _ _ _ hnb3).trans rfl : w3.cell? ⟨w.heap.size, 0, none⟩ = some (.slice A0 inn.length c0)); have f1 := ((cell_of_row _ _ 1 _ _ _ hnb3).trans rfl : w3.cell? ⟨w.heap.size, 1, none⟩ = some (.slice A1 n1 c1)); have f2 := ((cell_of_row _ _ 2 _ _ _ hnb3).trans rfl : w3.cell? ⟨w.heap.size, 2, none⟩ = some (.slice A2 l2.length c2)); have f3 := ((cell_of_row _ _ 3 _ _ _ hnb3).trans rfl : w3.cell? ⟨w.heap.size, 3, none⟩ = some (.slice A3 l3.length c3)); have f4 := ((cell_of_row _ _ 4 _ _ _ hnb3).trans rfl : w3.cell? ⟨w.heap.size, 4, none⟩ = some (.slice A4 l4.length c4)); have lq3 : w.heap.size < w3.heap.size := (Nat.lt_of_lt_of_le lq hz3); have H7 := Lib.hid hM3; have H8 := Lib.hid hb3; have H9 := Lib.hid hnb3; have H10 := Lib.hid hbN; clear hM3 hb3 hnb3 hbN hs3 hW3 HM))
    | fail)
  have hB4 : Below x0.val.heap.size x0.val (w3.alloc (.cells #[.map (some b)] 92)) := (((hw2.setCell (p := ⟨w1.heap.size, 0, none⟩) hs1 (.slice B2 L2 d2)).trans (H8.out.mono (by simpa using hs2))).alloc (Nat.le_trans hs2 hz3) _)
  have hS0 : SInv x0.val w1.heap.size w3.heap.size b m ([false, true] ++ inn ++ st) (w3.alloc (.cells #[.map (some b)] 92)) := by
    refine ⟨hB4, ⟨.slice B2 L2 d2, ?_, ?_⟩, heap_alloc_new _ _, (H7.out.step (Below.heap_alloc _ _ _ H7.out.lt))⟩
    · exact ((H5.out.set (.slice B2 L2 d2)).step (H8.out.block _ (by simpa using hl1))).step (Below.heap_alloc _ _ _ (by omega))
    · rw [hs0]
      have n2 : (Value.slice B2 L2 d2).ownBlock ≠ some w1.heap.size := own_not H3.out H5.out (by decide)
      refine (H3.out.step fun k hk hlk => ?_)
      rcases hk with hk | hk
      · exact hk.elim
      · exact (Below.heap_alloc _ _ _ (by omega)).trans ((H8.out.block _ (by simpa using hlk)).trans (Below.heap_setCell _ ⟨w1.heap.size, 0, none⟩ _ _ (fun e => n2 (by rw [hk]; exact congrArg some e))))
  have hN0h := Lib.hid hnet0
  have h50h := Lib.hid h50
  have hkey : ∀ (a : Int) (i k : Nat), 0 ≤ a → a ≤ 3 → i ≤ 1300 → k ≤ 1300 → key3.ok (keyL ⟨a, i, k⟩) := fun a i k h1 h2 h3 h4 => ⟨InK.mk64 (by show _ ≤ a ∧ a ≤ _; omega), InK.mk64 (by show _ ≤ (i : Int) ∧ (i : Int) ≤ _; omega), InK.mk64 (by show _ ≤ (k : Int) ∧ (k : Int) ≤ _; omega)⟩
  have hg10 : x0.val.heap.size ≤ w1.heap.size := hs1
  clear hnet0 h50 hw1 hw2 hB4 H1 H2 H3 H4 H5 H6 H7 H8 H9 H10 e0 e1 e2 e3 e4 f0 f1 f2 f3 f4 ne1 ne2 hl1 hc1 hf1
  generalize w1.heap.size = g10 at *
  obtain ⟨W4, hW4⟩ : ∃ W, w3.alloc (.cells #[.map (some b)] 92) = W := ⟨_, rfl⟩
  rw [hW4] at hS0 ⊢
  clear hW4
  generalize w3.heap.size = g11 at *
  go_loopg [13, 14, 15, 16, 17, 35] l3.length (fun d _ _ _ _ _ t wr => ∃ (i : Nat) (vs : List Bool), t = .int .i64 i ∧ Aside (i + d = l3.length) ∧ SInv x0.val g10 g11 b m vs wr ∧ vs.length = 2 + inn.length + st.length + i ∧ Aside (shV m fs l3 0 ([false, true] ++ inn ++ st) = shV m fs (l3.drop i) i vs))
  case atStart => exact ⟨0, _, rfl, by show 0 + l3.length = l3.length; omega, hS0, by simp; omega, by show _ = _; rfl⟩
  case round =>
    clear hS0
    obtain ⟨i, vs, rfl, hi, hS, hvl, hI⟩ := hrel
    by_cases hlt : i < l3.length
    · obtain ⟨g, hg⟩ := get_ex hlt
      obtain ⟨gO, rfl⟩ : ∃ m, gk = m + 1 := ⟨gk - 1, by have := hi.out; omega⟩
      obtain ⟨b3', o3, A9, c9, rfl, hb3, z0, z1, z2, hC9⟩ := kd_gate h3 hg
      obtain ⟨p6, prng⟩ := hp i g hg
      have hww : Below w.heap.size w wr := x0.ok.trans (hS.bel.mono (Nat.le_of_lt q1))
      have Z0 := (hww.cell (p := ⟨b3', o3 + i * 3, none⟩) hb3).trans z0
      have Z1 := (hww.cell (p := ⟨b3', o3 + i * 3 + 1, none⟩) hb3).trans z1
      have Z2 := (hww.cell (p := ⟨b3', o3 + i * 3 + 2, none⟩) hb3).trans z2
      have hC9w := Kd.Zk hC9 hww
      have lb := Nat.lt_of_lt_of_le hb3 hww.size
      have hI2 : shV m fs l3 0 ([false, true] ++ inn ++ st) = shV m fs (l3.drop (i + 1)) (i + 1) (vs ++ [Go.bits .and .u64 (g.f1 / 2 ^ kF (rdL m fs vs) i g.f2 0 0) 1 == 1]) := by rw [hI.out, drop_cons hg]; rfl
      have hIh := Lib.hid hI2
      have hih := Lib.hid hi.out
      have hvlh := Lib.hid hvl
      have hrng : ∀ y ∈ g.f2, 0 ≤ y ∧ y < (vs.length : Int) := fun y hy => by have := prng y hy; have := E7.out; omega
      have hgb := Lib.hid hg
      clear hI2 hI hi hvl z0 z1 z2 hg prng
      go_wp2
      have hSa := hS.later (Zl (Below.refl _ _) (.cells #[.int .i64 g.f0, .int .u64 g.f1, .slice A9 g.f2.length c9] 80))
      go_loopg [15, 16, 17, 43] g.f2.length (fun d k _ _ t wq => ∃ (j : Nat) (kn : Nat) (y : Under (wr.alloc (.cells #[.int .i64 g.f0, .int .u64 g.f1, .slice A9 g.f2.length c9] 80))), t = .int .i64 j ∧ k = .int .i64 (kn : Int) ∧ wq = y.val ∧ Aside (j + d = g.f2.length) ∧ Aside (kn < 2 ^ j) ∧ Aside (kF (rdL m fs vs) i g.f2 0 0 = kF (rdL m fs vs) i (g.f2.drop j) j kn))
      case atStart => exact ⟨0, 0, Under.refl _, rfl, rfl, rfl, by show 0 + g.f2.length = g.f2.length; omega, by show 0 < 2 ^ 0; decide, by show _ = _; rfl⟩
      case round =>
        obtain ⟨j, kn, y, rfl, rfl, rfl, hj, hkn, hJ⟩ := hrel
        by_cases hlj : j < g.f2.length
        · obtain ⟨net, hnet⟩ := get_ex hlj
          obtain ⟨gI, rfl⟩ : ∃ m, gk = m + 1 := ⟨gk - 1, by have := hj.out; omega⟩
          obtain ⟨r0, r1⟩ := hrng net (List.mem_of_getElem? hnet)
          obtain ⟨nn, rfl⟩ := Int.eq_ofNat_of_zero_le r0
          have hSy := hSa.later y.ok
          obtain ⟨vv, hvv, hvo⟩ := hSy.row
          obtain ⟨vA, vc, rfl⟩ := hvo.val
          have hww2 : Below wr.heap.size wr y.val := ((Zl (Below.refl _ _) _).trans (y.ok.mono (by simp)))
          have hcall := read_calls A5 c5 fs (w.heap.size + 1) g11 g10 b vA vc vs nn ⟨0, (i : Int), (j : Int)⟩ m _ y.val (Kd.Zk h5 (hww.trans (hww2.mono hww.size))) (h50h.out.step ((hSy.bel.block _ q2))) hSy.mp hvv hvo (by omega) hSy.map (hkey 0 i j (by decide) (by decide) (by omega) (by omega))
          obtain ⟨b9, o9, rfl, hb9, hn9⟩ := kd_int hC9w hnet
          have N9 := (hww2.cell (p := ⟨b9, o9 + j, none⟩) hb9).trans hn9
          have lb9 := Nat.lt_of_lt_of_le hb9 hww2.size
          have hjb : (j : Int) ≤ 5 := by omega
          have hknh := Lib.hid hkn.out
          have hob := Lib.hid (or_bit hkn.out (by omega))
          have hJ2 : ∀ rb, readF (nn : Int) ((mget m (keyL ⟨0, (i : Int), (j : Int)⟩)).getD 0) vs fs = rb → kF (rdL m fs vs) i g.f2 0 0 = kF (rdL m fs vs) i (g.f2.drop (j + 1)) (j + 1) (if rb then kn ||| 2 ^ j else kn) := by
            rintro rb rfl
            rw [hJ.out, drop_cons hnet]
            rfl
          have hjh := Lib.hid hj.out
          have hnh := Lib.hid hnet
          clear hJ hj hkn hnet hSy hvv hvo hww2 hn9
          obtain ⟨rb, hrb⟩ : ∃ rb, readF (nn : Int) ((mget m (keyL ⟨0, (i : Int), (j : Int)⟩)).getD 0) vs fs = rb := ⟨_, rfl⟩
          rw [hrb] at hcall
          have hJ3 := Lib.hid (hJ2 rb hrb)
          clear hrb hJ2
          cases rb
          · go_wp2_with (go_at_call 47; refine hcall.mono ?_; rintro e w' ⟨rfl, hbz⟩; obtain ⟨z, rfl⟩ := Is.of hbz)
            go_roundg gI
            case measure => have := hjh.out; omega
            case rel => exact ⟨j + 1, kn, y.trans z, by go_num, rfl, rfl, by show j + 1 + gI = g.f2.length; have := hjh.out; omega, by show kn < 2 ^ (j + 1); exact Nat.lt_trans hknh.out (Nat.pow_lt_pow_right (by decide) (by omega)), hJ3.out⟩
          · go_wp2_with (go_at_call 47; refine hcall.mono ?_; rintro e w' ⟨rfl, hbz⟩; obtain ⟨z, rfl⟩ := Is.of hbz)
            go_roundg gI
            case measure => have := hjh.out; omega
            case rel => exact ⟨j + 1, kn ||| 2 ^ j, y.trans z, by go_num, by rw [hob.out.1], rfl, by show j + 1 + gI = g.f2.length; have := hjh.out; omega, hob.out.2, hJ3.out⟩
        · have hjl : j = g.f2.length := by have := hj.out; omega
          have hkn6 : kn < 64 := Nat.lt_of_lt_of_le hkn.out (by rw [hjl]; exact Nat.pow_le_pow_right (by decide) p6)
          have hkv : kF (rdL m fs vs) i g.f2 0 0 = kn := by rw [hJ.out, hjl, List.drop_length]; rfl
          have hkvh := Lib.hid hkv
          have hjlh := Lib.hid hjl
          have hSy := hSa.later y.ok
          obtain ⟨v, hvv, hvo⟩ := hSy.row
          have hcv := hvv.cell
          have hgv := hvv.lt
          have nv : ¬ v.ownBlock = some g10 := own_not hvo hvv (by decide)
          have hgy := hvv.lt
          have hgb2 : y.val.heap[wr.heap.size]? = some (.cells #[.int .i64 g.f0, .int .u64 g.f1, .slice A9 g.f2.length c9] 80 (0, 0)) := (y.ok.block _ (by simp)).trans (heap_alloc_new _ _)
          have ly : wr.heap.size < y.val.heap.size := (Array.getElem?_eq_some_iff.1 hgb2).1
          have nvg : ¬ v.ownBlock = some wr.heap.size := own_not2 hvo hgb2 (by decide)
          have hcg : y.val.cell? ⟨wr.heap.size, 1, none⟩ = some (.int .u64 g.f1) := (cell_of_row _ _ 1 _ _ _ hgb2).trans rfl
          have hod : Rep.Own Rep.bool 4 y.val.drew x0.val.heap.size NoB v vs := hvo.step (fun _ _ _ => rfl)
          have hbw : x0.val.heap.size ≤ y.val.drew.heap.size := hSy.bel.size
          have hvle : vs.length ≤ 1900 := by have := hvlh.out; omega
          have HSy := Lib.hid hSy
          have Hvv := Lib.hid hvv
          have Hvo := Lib.hid hvo
          clear hkv hJ hj hkn hjl hSy hvv hvo hgb2 hC9w hSa hS hrng
          go_wp2
          refine wp_region_splitT (fun w' => ∃ z : But y.val (fun k => v.ownBlock = some k), w' = z.val) [true, true, true, true, true, true, true, false, false, false] (by kernel_rfl) (by kernel_rfl) (by decide) ⟨(But.refl _ _).drew, rfl⟩ (fun _ _ d _ _ h => by cases d <;> exact h) ?_
          simp only [pickB, dropB]
          repeat (go_big_quiet_step (fail))
          refine wpQuiet_nil ?_
          refine wpListT_step (fun Q' hQ' => ?_)
          go_wp2_with fail
          refine ⟨⟨((But.refl _ _).alloc _).drew, rfl⟩, ?_⟩
          refine wpListT_step (fun Q' hQ' => ?_)
          go_wp2_with (at_builtin; refine wpList_one rfl (.tmp 59) (.tmp 66) rfl boolT (w0 := y.val.drew) (v := v) (c := [.bool (Go.bits .and .u64 (g.f1 / 2 ^ kn) 1 == 1)]) (te := 4) rfl rfl hod (y := (Go.bits .and .u64 (g.f1 / 2 ^ kn) 1 == 1)) ⟨rfl, trivial⟩ (fun k hk => hk.elim) (le_maxLen (by omega)) (by omega) hbw ?_; intro v' w1 ho' hg')
          obtain ⟨A8, c8, hv9⟩ := ho'.val
          obtain ⟨L8, rfl⟩ : ∃ L8, v' = .slice A8 L8 c8 := ⟨_, hv9⟩
          clear hv9
          have hgr : y.val.grownBy w1 v.ownBlock := ⟨hg'.by_.os, hg'.by_.tape, hg'.by_.output, hg'.by_.size, hg'.by_.block⟩
          have hgg : Grew y.val w1 v (.slice A8 L8 c8) := ⟨hgr, hg'.at_⟩
          obtain ⟨y9, hy9⟩ : ∃ y' : But y.val (fun k => v.ownBlock = some k), w1 = y'.val := ⟨⟨w1, hgr.os, hgr.tape, hgr.output, hgr.size, fun k hk hG => hgr.block k hk (fun e => hG e.symm)⟩, rfl⟩
          refine ⟨⟨y9, hy9⟩, ?_⟩
          refine wpListT_last (fun Q' hQ' => ?_)
          have hS9 := HSy.out.push hg10 Hvv.out Hvo.out hgg ho'
          have hc9 : w1.cell? ⟨g10, 0, none⟩ = some v := by rw [hy9, y9.cell _ _ hgv nv]; exact hcv
          have hf9 : w1.frozen? ⟨g10, 0, none⟩ = false := by rw [hy9, y9.frozen _ _ hgv nv]; exact Hvv.out.free
          have hSh := Lib.hid hS9
          clear hS9 ho' hgg hgr hg' hy9 hod hgb
          go_wp2
          go_roundg gO
          case measure => have := hih.out; omega
          case rel =>
            refine ⟨i + 1, _, by go_num, by show i + 1 + gO = l3.length; have := hih.out; omega, hSh.out, by rw [List.length_append, hvlh.out]; rfl, ?_⟩
            show _ = _
            rw [hIh.out, hkvh.out]
    · have hil : i = l3.length := by have := hi.out; omega
      subst hil
      have hV : vs = shV m fs l3 0 ([false, true] ++ inn ++ st) := by rw [hI.out, List.drop_length]; rfl
      have hVh := Lib.hid hV
      have hvlh := Lib.hid hvl
      have hnb := (hS.bel.block _ q1).trans hN0h.out
      have e0 := ((cell_of_row _ _ 2 _ _ _ hnb).trans rfl : wr.cell? ⟨w.heap.size, 2, none⟩ = some (.slice A2 l2.length c2))
      have e1 := ((cell_of_row _ _ 4 _ _ _ hnb).trans rfl : wr.cell? ⟨w.heap.size, 4, none⟩ = some (.slice A4 l4.length c4))
      have lw := Nat.lt_of_lt_of_le q1 hS.bel.size
      have hnbh := Lib.hid hnb
      obtain ⟨vv, hv0, hvo0⟩ := hS.row
      obtain ⟨vA, vc, rfl⟩ := hvo0.val
      obtain ⟨B9, hB9⟩ : ∃ B, wr.heap.size = B := ⟨_, rfl⟩
      have hvlt : ∀ W, VarD W g10 (.slice vA vs.length vc) 53 → ∀ v, VarD W g10 v 53 → ∀ k, v.ownBlock = some k → k < B9 := fun W h v hv k hk => by
        have := hv.uniq h
        subst this
        have := (hvo0.lt k hk).2
        omega
      have HR : ∀ W, SInv x0.val g10 g11 b m vs W → VarD W g10 (.slice vA vs.length vc) 53 → ∀ (nn : Nat) (key : Load), nn < vs.length → key3.ok (keyL key) → Calls Try.prog 47 #[.int .i64 (nn : Int), .agg #[.int .i64 key.f0, .int .i64 key.f1, .int .i64 key.f2], .pointer (some ⟨w.heap.size + 1, 0, none⟩), .pointer (some ⟨g11, 0, none⟩), .pointer (some ⟨g10, 0, none⟩)] W fun e w' => e = .returned (.bool (rdL m fs vs nn key)) ∧ Below W.heap.size W w' := by
        intro W hSW hvW nn key hnn hk
        obtain ⟨v, hv, ho⟩ := hSW.row
        have := hv.uniq hvW
        subst this
        exact read_calls A5 c5 fs (w.heap.size + 1) g11 g10 b vA vc vs nn key m _ W (Kd.Zk h5 (x0.ok.trans (hSW.bel.mono (Nat.le_of_lt q1)))) (h50h.out.step (hSW.bel.block _ q2)) hSW.mp hv ho hnn hSW.map hk
      have hxB : x0.val.heap.size ≤ B9 := by rw [← hB9]; exact hS.bel.size
      have hV2 := Lib.hid hv0
      have hS2 := Lib.hid hS
      have hB9h := Lib.hid hB9
      have hl4 : l4.length ≤ 128 := b4
      clear hV hI hi hvl hnb hvo0 hv0 hS hp h3 h6
      go_wp2
      go_loopg [9, 18, 19, 20, 72] l2.length (fun d uq _ _ _ t wr => ∃ (i : Nat) (ns : List Bool) (u : Value), t = .int .i64 i ∧ u = uq ∧ Aside (i + d = l2.length) ∧ SInv x0.val g10 g11 b m vs wr ∧ VarD wr g10 (.slice vA vs.length vc) 53 ∧ Rep.Own Rep.bool 4 wr B9 NoB u ns ∧ ns.length = i ∧ Aside (shN m fs vs st l2 0 = ns ++ shN m fs vs st (l2.drop i) i) ∧ B9 ≤ wr.heap.size)
      case atStart => exact ⟨0, [], _, rfl, rfl, by show 0 + l2.length = l2.length; omega, hS2.out, hV2.out, Rep.Own.nil _ _ _ _ _, rfl, by show _ = _; rfl, by have := hB9h.out; omega⟩
      case round =>
        clear hS2 hV2
        obtain ⟨i, ns, u, rfl, rfl, hi, hS, hv, hou, hnl, hI, hBw⟩ := hrel
        by_cases hlt : i < l2.length
        · obtain ⟨f, hf0⟩ := get_ex hlt
          obtain ⟨gO, rfl⟩ : ∃ m, gk = m + 1 := ⟨gk - 1, by have := hi.out; omega⟩
          obtain ⟨b3', o3, rfl, hb3, z0, z1, z2, z3, z4⟩ := kd_flop h2 hf0
          have hff := hf f (List.mem_of_getElem? hf0)
          obtain ⟨s, hs⟩ := get_ex (xs := st) (i := i) (by have := E7.out; omega)
          obtain ⟨b7', o7, rfl, hb7, z7⟩ := kd_bool h7 hs
          have hww : Below w.heap.size w wr := x0.ok.trans (hS.bel.mono (Nat.le_of_lt q1))
          have Z0 := (hww.cell (p := ⟨b3', o3 + i * 5, none⟩) hb3).trans z0
          have Z1 := (hww.cell (p := ⟨b3', o3 + i * 5 + 1, none⟩) hb3).trans z1
          have Z2 := (hww.cell (p := ⟨b3', o3 + i * 5 + 2, none⟩) hb3).trans z2
          have Z3 := (hww.cell (p := ⟨b3', o3 + i * 5 + 3, none⟩) hb3).trans z3
          have Z4 := (hww.cell (p := ⟨b3', o3 + i * 5 + 4, none⟩) hb3).trans z4
          have Z7 := (hww.cell (p := ⟨b7', o7 + i, none⟩) hb7).trans z7
          have lb3 := Nat.lt_of_lt_of_le hb3 hww.size
          have lb7 := Nat.lt_of_lt_of_le hb7 hww.size
          have hih := Lib.hid hi.out
          have hnlh := Lib.hid hnl
          have hsd : st.getD i false = s := by rw [List.getD_eq_getElem?_getD, hs]; rfl
          have hI2 : ∀ y, flX m fs vs st i f = y → shN m fs vs st l2 0 = (ns ++ [y]) ++ shN m fs vs st (l2.drop (i + 1)) (i + 1) := by
            rintro y rfl
            rw [hI.out, drop_cons hf0, List.append_assoc]
            rfl
          have hfx : flX m fs vs st i f = if rdL m fs vs f.f3 ⟨2, i, 0⟩ then rdL m fs vs f.f2 ⟨1, i, 0⟩ else s := by unfold flX; rw [hsd]
          have hvlh2 := hvlh.out
          obtain ⟨n3, hn3⟩ := Int.eq_ofNat_of_zero_le hff.2.2.1
          obtain ⟨n2, hn2⟩ := Int.eq_ofNat_of_zero_le hff.1
          have hn3l : n3 < vs.length := by have := E7.out; omega
          have hn2l : n2 < vs.length := by have := E7.out; omega
          rw [hn3, hn2] at hfx
          have hr3 := fun W h1 h2 => HR W h1 h2 n3 ⟨2, (i : Int), 0⟩ hn3l (hkey 2 i 0 (by decide) (by decide) (by omega) (by omega))
          have hr2 := fun W h1 h2 => HR W h1 h2 n2 ⟨1, (i : Int), 0⟩ hn2l (hkey 1 i 0 (by decide) (by decide) (by omega) (by omega))
          rw [hn3] at Z3
          rw [hn2] at Z2
          obtain ⟨R3, hR3⟩ : ∃ r, rdL m fs vs (n3 : Int) ⟨2, (i : Int), 0⟩ = r := ⟨_, rfl⟩
          obtain ⟨R2, hR2⟩ : ∃ r, rdL m fs vs (n2 : Int) ⟨1, (i : Int), 0⟩ = r := ⟨_, rfl⟩
          rw [hR3] at hr3 hfx
          rw [hR2] at hr2 hfx
          have hnb5 : ns.length ≤ 288 := by omega
          have his : i < st.length := by have := E7.out; omega
          have hI3 := fun y h => Lib.hid (hI2 y h)
          have hSa := hS.later (Zl (Below.refl _ _) (.cells #[.string f.f0, .int .i64 f.f1, .int .i64 n2, .int .i64 n3, .bool f.f4] 82))
          have hva := hv.step (Below.heap_alloc wr (.cells #[.string f.f0, .int .i64 f.f1, .int .i64 n2, .int .i64 n3, .bool f.f4] 82) _ hv.lt)
          have hoa := hou.below (Zl (Below.refl _ _) (.cells #[.string f.f0, .int .i64 f.f1, .int .i64 n2, .int .i64 n3, .bool f.f4] 82))
          have hww5 : Below wr.heap.size wr (wr.alloc (.cells #[.string f.f0, .int .i64 f.f1, .int .i64 n2, .int .i64 n3, .bool f.f4] 82)) := Zl (Below.refl _ _) _
          have l5 : wr.heap.size < (wr.alloc (.cells #[.string f.f0, .int .i64 f.f1, .int .i64 n2, .int .i64 n3, .bool f.f4] 82)).heap.size := by simp
          have hcf : ∀ z : Under (wr.alloc (.cells #[.string f.f0, .int .i64 f.f1, .int .i64 n2, .int .i64 n3, .bool f.f4] 82)), z.val.cell? ⟨wr.heap.size, 2, none⟩ = some (.int .i64 n2) := fun z => by rw [z.cell _ _ l5]; exact (cell_of_row _ _ 2 _ _ _ (heap_alloc_new wr _)).trans rfl
          have hlz : ∀ z : Under (wr.alloc (.cells #[.string f.f0, .int .i64 f.f1, .int .i64 n2, .int .i64 n3, .bool f.f4] 82)), B9 ≤ z.val.heap.size ∧ wr.heap.size < z.val.heap.size := fun z => by have := z.size; simp at this; omega
          have hfin : ∀ (z : Under (wr.alloc (.cells #[.string f.f0, .int .i64 f.f1, .int .i64 n2, .int .i64 n3, .bool f.f4] 82))) (y : Bool), flX m fs vs st i f = y → ∀ (A8 : Option Addr) (L8 c8 : Nat) (w1 : World), Rep.Own Rep.bool 4 w1 B9 NoB (.slice A8 L8 c8) (ns ++ [y]) → Grew z.val w1 u (.slice A8 L8 c8) →
              SInv x0.val g10 g11 b m vs w1 ∧ VarD w1 g10 (.slice vA vs.length vc) 53 ∧ Aside (shN m fs vs st l2 0 = (ns ++ [y]) ++ shN m fs vs st (l2.drop (i + 1)) (i + 1)) ∧ B9 ≤ w1.heap.size := by
            intro z y hy A8 L8 c8 w1 ho1 hg1
            have hSz := hSa.later z.ok
            have hvz := hva.step (z.ok.block _ hva.lt)
            have hoz := hoa.below z.ok
            have hl := (hlz z).1
            exact ⟨hSz.grown hoz hxB (hvlt _ hvz) hg1.by_, hvz.step (hg1.by_.block _ hvz.lt (Ne.symm (own_not hoz hvz (by decide)))), hI2 y hy, Nat.le_trans hl hg1.by_.size⟩
          have hoz : ∀ z : Under (wr.alloc (.cells #[.string f.f0, .int .i64 f.f1, .int .i64 n2, .int .i64 n3, .bool f.f4] 82)), Rep.Own Rep.bool 4 z.val B9 NoB u ns := fun z => hoa.below z.ok
          have hcall3 := hr3 _ hSa hva
          have hcall2 := fun z : Under (wr.alloc (.cells #[.string f.f0, .int .i64 f.f1, .int .i64 n2, .int .i64 n3, .bool f.f4] 82)) => hr2 z.val (hSa.later z.ok) (hva.step (z.ok.block _ hva.lt))
          clear hSa hva hoa hww5 hS hv hou hI hI2 hI3 hr3 hr2 z0 z1 z2 z3 z4 z7 hf0 hs hff hi hnl hn3 hn2 hsd hvlh2 hR3 hR2 hn3l hn2l
          cases R3
          · have hy : flX m fs vs st i f = s := by rw [hfx]; rfl
            have hyh := Lib.hid hy
            clear hfx hy
            go_wp2_with (first
              | (go_at_call 47; refine hcall3.mono ?_; rintro e w' ⟨rfl, hbz⟩; obtain ⟨z, rfl⟩ := Is.of hbz; have hoz1 := hoz z; have hlz1 := (hlz z).1)
              | (at_builtin; refine wpList_one rfl (.tmp 93) (.tmp 95) rfl boolT (w0 := z.val) (v := u) (c := [.bool s]) (te := 4) rfl rfl hoz1 (y := s) ⟨rfl, trivial⟩ (fun k hk => hk.elim) (le_maxLen (by omega)) (by omega) hlz1 ?_; intro v' w1 ho' hg'; obtain ⟨A8, c8, hv9⟩ := ho'.val; obtain ⟨L8, rfl⟩ : ∃ L8, v' = .slice A8 L8 c8 := ⟨_, hv9⟩; clear hv9; have hF := hfin z s hyh.out A8 L8 c8 w1 ho' hg'; have hoh := Lib.hid ho'; clear ho' hg')
              | fail)
            go_roundg gO
            case measure => have := hih.out; omega
            case rel => exact ⟨i + 1, ns ++ [s], _, by go_num, rfl, by show i + 1 + gO = l2.length; have := hih.out; omega, hF.1, hF.2.1, hoh.out, by rw [List.length_append, hnlh.out]; rfl, hF.2.2.1, hF.2.2.2⟩
          · have hy : flX m fs vs st i f = R2 := by rw [hfx]; rfl
            have hyh := Lib.hid hy
            clear hfx hy
            go_wp2_with (first
              | (go_at_call 47; refine (hcall2 z).mono ?_; rintro e w' ⟨rfl, hbz⟩; obtain ⟨z2, rfl⟩ := Is.of hbz; have hoz1 := hoz (z.trans z2); have hlz1 := (hlz (z.trans z2)).1)
              | (go_at_call 47; refine hcall3.mono ?_; rintro e w' ⟨rfl, hbz⟩; obtain ⟨z, rfl⟩ := Is.of hbz; have hcf1 := hcf z; have hlf1 := (hlz z).2)
              | (at_builtin; refine wpList_one rfl (.tmp 93) (.tmp 95) rfl boolT (w0 := z2.val) (v := u) (c := [.bool R2]) (te := 4) rfl rfl hoz1 (y := R2) ⟨rfl, trivial⟩ (fun k hk => hk.elim) (le_maxLen (by omega)) (by omega) hlz1 ?_; intro v' w1 ho' hg'; obtain ⟨A8, c8, hv9⟩ := ho'.val; obtain ⟨L8, rfl⟩ : ∃ L8, v' = .slice A8 L8 c8 := ⟨_, hv9⟩; clear hv9; have hF := hfin (z.trans z2) R2 hyh.out A8 L8 c8 w1 ho' hg'; have hoh := Lib.hid ho'; clear ho' hg')
              | fail)
            go_roundg gO
            case measure => have := hih.out; omega
            case rel => exact ⟨i + 1, ns ++ [R2], _, by go_num, rfl, by show i + 1 + gO = l2.length; have := hih.out; omega, hF.1, hF.2.1, hoh.out, by rw [List.length_append, hnlh.out]; rfl, hF.2.2.1, hF.2.2.2⟩
        · have hil : i = l2.length := by have := hi.out; omega
          subst hil
          have hNx : ns = shN m fs vs st l2 0 := by rw [hI.out, List.drop_length]; simp [shN]
          have hNh := Lib.hid hNx
          obtain ⟨B10, hB10⟩ : ∃ B, wr.heap.size = B := ⟨_, rfl⟩
          have hult : ∀ k, u.ownBlock = some k → k < B10 := fun k hk => by have := (hou.lt k hk).2; omega
          have hvlt2 : ∀ W, VarD W g10 (.slice vA vs.length vc) 53 → ∀ v, VarD W g10 v 53 → ∀ k, v.ownBlock = some k → k < B10 := fun W h v hv k hk => Nat.lt_of_lt_of_le (hvlt W h v hv k hk) (by omega)
          have hnb2 := (hS.bel.block _ q1).trans hN0h.out
          have e2 := ((cell_of_row _ _ 4 _ _ _ hnb2).trans rfl : wr.cell? ⟨w.heap.size, 4, none⟩ = some (.slice A4 l4.length c4))
          have lw2 := Nat.lt_of_lt_of_le q1 hS.bel.size
          have hB10h := Lib.hid hB10
          have hB9x : B9 ≤ B10 := by omega
          have hS3 := Lib.hid hS
          have hV3 := Lib.hid hv
          have hO3 := Lib.hid hou
          clear hNx hI hi hnl hB10 hnb2 hS hv hou e1 lw e0 hvlt h2 h7 hf
          go_wp2
          go_loopg [8, 21, 22, 101] l4.length (fun d uq _ _ t wr => ∃ (i : Nat) (os : List Bool) (u8 : Value), t = .int .i64 i ∧ u8 = uq ∧ Aside (i + d = l4.length) ∧ SInv x0.val g10 g11 b m vs wr ∧ VarD wr g10 (.slice vA vs.length vc) 53 ∧ Rep.Own Rep.bool 4 wr B9 NoB u ns ∧ Rep.Own Rep.bool 4 wr B10 NoB u8 os ∧ os.length = i ∧ Aside (shO m fs vs l4 0 = os ++ shO m fs vs (l4.drop i) i) ∧ B10 ≤ wr.heap.size)
          case atStart => exact ⟨0, [], _, rfl, rfl, by show 0 + l4.length = l4.length; omega, hS3.out, hV3.out, hO3.out, Rep.Own.nil _ _ _ _ _, rfl, by show _ = _; rfl, by have := hB10h.out; omega⟩
          case round =>
            clear hS3 hV3 hO3
            obtain ⟨i, os, u8, rfl, rfl, hi, hS, hv, hou, hou8, hnl, hI, hBw⟩ := hrel
            by_cases hlt : i < l4.length
            · obtain ⟨f, hf0⟩ := get_ex hlt
              obtain ⟨gO, rfl⟩ : ∃ m, gk = m + 1 := ⟨gk - 1, by have := hi.out; omega⟩
              obtain ⟨b3', o3, rfl, hb3, z0⟩ := kd_int h4 hf0
              have hff := ho f (List.mem_of_getElem? hf0)
              have hww : Below w.heap.size w wr := x0.ok.trans (hS.bel.mono (Nat.le_of_lt q1))
              have Z0 := (hww.cell (p := ⟨b3', o3 + i, none⟩) hb3).trans z0
              have lb3 := Nat.lt_of_lt_of_le hb3 hww.size
              have hih := Lib.hid hi.out
              have hnlh := Lib.hid hnl
              have hI2 : ∀ y, rdL m fs vs f ⟨3, (i : Int), 0⟩ = y → shO m fs vs l4 0 = (os ++ [y]) ++ shO m fs vs (l4.drop (i + 1)) (i + 1) := by
                rintro y rfl
                rw [hI.out, drop_cons hf0, List.append_assoc]
                rfl
              have hvlh2 := hvlh.out
              obtain ⟨n3, rfl⟩ := Int.eq_ofNat_of_zero_le hff.1
              have hn3l : n3 < vs.length := by have := E7.out; omega
              have hr3 := HR wr hS hv n3 ⟨3, (i : Int), 0⟩ hn3l (hkey 3 i 0 (by decide) (by decide) (by omega) (by omega))
              obtain ⟨R3, hR3⟩ : ∃ r, rdL m fs vs (n3 : Int) ⟨3, (i : Int), 0⟩ = r := ⟨_, rfl⟩
              rw [hR3] at hr3
              have hI3 := Lib.hid (hI2 R3 hR3)
              have hnb5 : os.length ≤ 288 := by omega
              have hoz : ∀ z : Under wr, Rep.Own Rep.bool 4 z.val B10 NoB u8 os := fun z => hou8.below z.ok
              have hlz : ∀ z : Under wr, B10 ≤ z.val.heap.size := fun z => Nat.le_trans hBw z.size
              have hfin : ∀ (z : Under wr) (A8 : Option Addr) (L8 c8 : Nat) (w1 : World), Rep.Own Rep.bool 4 w1 B10 NoB (.slice A8 L8 c8) (os ++ [R3]) → Grew z.val w1 u8 (.slice A8 L8 c8) →
                  SInv x0.val g10 g11 b m vs w1 ∧ VarD w1 g10 (.slice vA vs.length vc) 53 ∧ Rep.Own Rep.bool 4 w1 B9 NoB u ns ∧ B10 ≤ w1.heap.size := by
                intro z A8 L8 c8 w1 ho1 hg1
                have hSz := hS.later z.ok
                have hvz := hv.step (z.ok.block _ hv.lt)
                have hz8 := hoz z
                refine ⟨hSz.grown hz8 (Nat.le_trans hxB hB9x) (hvlt2 _ hvz) hg1.by_, hvz.step (hg1.by_.block _ hvz.lt (Ne.symm (own_not hz8 hvz (by decide)))), (hou.below z.ok).step fun k hk hl => hg1.by_.block k hl fun e => ?_, Nat.le_trans (hlz z) hg1.by_.size⟩
                rcases hk with hk | hk
                · exact hk
                · have h1 := hult k hk
                  have h2 := (hz8.lt k e.symm).1
                  omega
              clear hS hv hou hou8 hI hI2 hi hnl hf0 hff z0 hvlh2 hR3 hn3l
              go_wp2_with (first
                | (go_at_call 47; refine hr3.mono ?_; rintro e w' ⟨rfl, hbz⟩; obtain ⟨z, rfl⟩ := Is.of hbz; have hoz1 := hoz z; have hlz1 := hlz z)
                | (at_builtin; refine wpList_one rfl (.tmp 106) (.tmp 112) rfl boolT (w0 := z.val) (v := u8) (c := [.bool R3]) (te := 4) rfl rfl hoz1 (y := R3) ⟨rfl, trivial⟩ (fun k hk => hk.elim) (le_maxLen (by omega)) (by omega) hlz1 ?_; intro v' w1 ho' hg'; obtain ⟨A8, c8, hv9⟩ := ho'.val; obtain ⟨L8, rfl⟩ : ∃ L8, v' = .slice A8 L8 c8 := ⟨_, hv9⟩; clear hv9; have hF := hfin z A8 L8 c8 w1 ho' hg'; have hoh := Lib.hid ho'; clear ho' hg')
                | fail)
              go_roundg gO
              case measure => have := hih.out; omega
              case rel => exact ⟨i + 1, os ++ [R3], _, by go_num, rfl, by show i + 1 + gO = l4.length; have := hih.out; omega, hF.1, hF.2.1, hF.2.2.1, hoh.out, by rw [List.length_append, hnlh.out]; rfl, hI3.out, hF.2.2.2⟩
            · have hil : i = l4.length := by have := hi.out; omega
              subst hil
              have hOx : os = shO m fs vs l4 0 := by rw [hI.out, List.drop_length]; simp [shO]
              have hOh := Lib.hid hOx
              have hne : ∀ k, u8.ownBlock = some k → u.ownBlock ≠ some k := fun k h1 h2 => by have := hult k h2; have := (hou8.lt k h1).1; omega
              have hfin : Below w.heap.size w wr := x0.ok.trans (hS.bel.mono (Nat.le_of_lt q1))
              clear hI hi hOx hnl
              go_wp2
              go_ret2
              exact ⟨_, _, rfl, by rw [← hVh.out, ← hOh.out]; exact hou8.lower (by omega), by rw [← hVh.out, ← hNh.out]; exact hou.lower (by omega), hne, hfin⟩
end Go.Proofs.Ytimjccfpobhpeaa
namespace Go.Proofs.Ytimjccfpobhpeaa.PF
open Go.RowKit Go.Proofs.YtimjccfpobhpeaaW.PrintWords Go.Proofs.YtimjccfpobhpeaaW.PrintLast Go.Proofs.YtimjccfpobhpeaaW.PrintMore
set_option linter.unusedVariables false
set_option linter.unusedSimpArgs false
def shownFits (l0 : List ByteArray) (l2 : List S82) (l3 : List Ky) (l4 : List Int) (inn st : List Bool) : Bool :=
  decide (inn.length = l0.length) && decide (st.length = l2.length) && decide (l0.length ≤ 128) && decide (l2.length ≤ 288) && decide (l3.length ≤ 1200) && decide (l4.length ≤ 128) &&
    (l3.zipIdx.all fun p => decide (p.1.f2.length ≤ 6) && p.1.f2.all fun y => decide (0 ≤ y) && decide (y < 2 + (l0.length : Int) + l2.length + p.2)) &&
    (l2.all fun x => decide (0 ≤ x.f2) && decide (x.f2 < 2 + (l0.length : Int) + l2.length + l3.length) && decide (0 ≤ x.f3) && decide (x.f3 < 2 + (l0.length : Int) + l2.length + l3.length)) &&
    (l4.all fun x => decide (0 ≤ x) && decide (x < 2 + (l0.length : Int) + l2.length + l3.length))
theorem own_boolsT {w : World} {base : Nat} {v : Value} {xs : List Bool} {ok : Nat → Prop} (h : Rep.Own Rep.bool 4 w base NoB v xs) (hok : ∀ k, v.ownBlock = some k → ok k) : Kd.R Kd.bool 4 w base ok v xs := by
  obtain ⟨cs, h1, h2, _⟩ := h
  have : cs = xs.map Value.bool := by
    refine List.ext_getElem? fun j => ?_
    have hl : cs.length = xs.length := by simpa [Rep.bool, Rep.cell] using h2.1
    rcases Nat.lt_or_ge j xs.length with hj | hj
    · have := h2.2 j xs[j] (List.getElem?_eq_getElem hj)
      have h3 : (cs.drop (j * 1)).take 1 = [.bool xs[j]] := this.1
      rw [List.getElem?_map, List.getElem?_eq_getElem hj]
      have h4 : ((cs.drop (j * 1)).take 1)[0]? = some (.bool xs[j]) := by rw [h3]; rfl
      rw [List.getElem?_take, if_pos (by decide), List.getElem?_drop] at h4
      simpa using h4
    · rw [List.getElem?_eq_none (by omega), List.getElem?_eq_none (by simp; omega)]
  subst this
  exact Kd.R_of_own h1 hok
def Ku.f (k : Nat) (l0_0 : List ByteArray) (l0_1 : List ByteArray) (l0_2 : List (S82)) (l0_3 : List (Ky)) (l0_4 : List Int) (l1 : List (S29)) (l2 : List Bool) (l3 : List Bool) : Option (List Bool × List Bool) := (Xj.f k l0_0 l0_1 l0_2 l0_3 l0_4).bind fun r => if r.2 = 0 ∧ shownFits l0_0 l0_2 l0_3 l0_4 l2 l3 = true then some (shO (numsOf l0_0 l0_2 l0_3 l0_4) l1 (shV (numsOf l0_0 l0_2 l0_3 l0_4) l1 l0_3 0 ([false, true] ++ l2 ++ l3)) l0_4 0, shN (numsOf l0_0 l0_2 l0_3 l0_4) l1 (shV (numsOf l0_0 l0_2 l0_3 l0_4) l1 l0_3 0 ([false, true] ++ l2 ++ l3)) l3 l0_2 0) else none
set_option maxHeartbeats 2000000 in
theorem Ku.calls (k : Nat) (A0_0 : Option Addr) (c0_0 : Nat) (l0_0 : List ByteArray) (A0_1 : Option Addr) (c0_1 : Nat) (l0_1 : List ByteArray) (A0_2 : Option Addr) (c0_2 : Nat) (l0_2 : List (S82)) (A0_3 : Option Addr) (c0_3 : Nat) (l0_3 : List (Ky)) (A0_4 : Option Addr) (c0_4 : Nat) (l0_4 : List Int) (A1 : Option Addr) (c1 : Nat) (l1 : List (S29)) (A2 : Option Addr) (c2 : Nat) (l2 : List Bool) (A3 : Option Addr) (c3 : Nat) (l3 : List Bool) (r1 : List Bool) (r2 : List Bool) (w : World) (hr0_0 : Kd.C Kd.string w A0_0 l0_0.length l0_0) (hc0_0 : l0_0.length ≤ c0_0) (hr0_1 : Kd.C Kd.string w A0_1 l0_1.length l0_1) (hc0_1 : l0_1.length ≤ c0_1) (hr0_2 : Kd.C k82 w A0_2 l0_2.length l0_2) (hc0_2 : l0_2.length ≤ c0_2) (hr0_3 : Kd.C k80 w A0_3 l0_3.length l0_3) (hc0_3 : l0_3.length ≤ c0_3) (hr0_4 : Kd.C (Kd.int .i64) w A0_4 l0_4.length l0_4) (hc0_4 : l0_4.length ≤ c0_4) (hr1 : Kd.C k29 w A1 l1.length l1) (hc1 : l1.length ≤ c1) (hr2 : Kd.C Kd.bool w A2 l2.length l2) (hc2 : l2.length ≤ c2) (hr3 : Kd.C Kd.bool w A3 l3.length l3) (hc3 : l3.length ≤ c3) (h : Ku.f k l0_0 l0_1 l0_2 l0_3 l0_4 l1 l2 l3 = some (r1, r2)) :
 Calls Try.prog 22 #[.agg #[.slice A0_0 l0_0.length c0_0, .slice A0_1 l0_1.length c0_1, .slice A0_2 l0_2.length c0_2, .slice A0_3 l0_3.length c0_3, .slice A0_4 l0_4.length c0_4], .slice A1 l1.length c1, .slice A2 l2.length c2, .slice A3 l3.length c3] w fun e w' => ∃ v0_ v1_ : Value, e = .returned (.tuple #[v0_, v1_]) ∧ Kd.R Kd.bool 4 w' w.heap.size (fun k_ => some k_ ≠ (v1_ : Value).ownBlock) v0_ r1 ∧ Kd.R Kd.bool 4 w' w.heap.size (fun k_ => some k_ ≠ (v0_ : Value).ownBlock) v1_ r2 ∧ Below w.heap.size w w' := by
 unfold Ku.f at h
 obtain ⟨⟨rows, e1⟩, hL, h9⟩ := Option.bind_eq_some_iff.1 h
 by_cases h0 : e1 = 0 ∧ shownFits l0_0 l0_2 l0_3 l0_4 l2 l3 = true
 ·obtain ⟨rfl, hf⟩ := h0
  rw [if_pos ⟨rfl, hf⟩] at h9
  simp only [Option.some.injEq, Prod.mk.injEq] at h9
  obtain ⟨rfl, rfl⟩ := h9
  obtain ⟨hF, hfit, rfl⟩ := Xj.ok hL
  simp only [shownFits, Bool.and_eq_true, decide_eq_true_eq, List.all_eq_true] at hf
  obtain ⟨⟨⟨⟨⟨⟨⟨⟨m6, m7⟩, m0⟩, m2⟩, m3⟩, m4⟩, p3⟩, p2⟩, p4⟩ := hf
  have p3' : ∀ (i : Nat) (g : Ky), l0_3[i]? = some g → g.f2.length ≤ 6 ∧ ∀ y ∈ g.f2, 0 ≤ y ∧ y < 2 + (l0_0.length : Int) + l0_2.length + i := fun i g hg => by
   have := p3 (g, i) (List.mem_zipIdx_iff_getElem?.2 hg)
   exact ⟨this.1, fun y hy => this.2 y hy⟩
  have HL := fun (W : World) (hW : Below w.heap.size w W) => Xj.calls k A0_0 c0_0 l0_0 A0_1 c0_1 l0_1 A0_2 c0_2 l0_2 A0_3 c0_3 l0_3 A0_4 c0_4 l0_4 _ 0 W (Kd.Zk hr0_0 hW) hc0_0 (Kd.Zk hr0_1 hW) hc0_1 (Kd.Zk hr0_2 hW) hc0_2 (Kd.Zk hr0_3 hW) hc0_3 (Kd.Zk hr0_4 hW) hc0_4 hL
  have HM := fun (W : World) (hW : Below w.heap.size w W) => nums_calls A0_0 A0_1 A0_2 A0_3 A0_4 l0_0.length l0_1.length l0_2.length l0_3.length l0_4.length c0_0 c0_1 c0_2 c0_3 c0_4 W _ (loadsOf_key hfit (by omega) (by omega) (by omega) (fun x hx => by
   obtain ⟨i, hi⟩ := List.getElem?_of_mem hx
   have := (p3' i x hi).1
   omega)) (fun W' hW' => HL W' (hW.trans (hW'.mono hW.size)))
  refine (shown_calls A0_0 A0_1 A0_2 A0_3 A0_4 A1 A2 A3 c0_0 c0_1 c0_2 c0_3 c0_4 c1 c2 c3 l0_0.length l0_1.length l0_2 l0_3 l0_4 l1 l2 l3 w hr0_2 hr0_3 hr0_4 hr1 hr2 hr3 m6 m7 m0 m2 m3 m4 p3' (fun x hx => by have := p2 x hx; omega) (fun x hx => by have := p4 x hx; omega) _ HM).mono ?_
  rintro e w' ⟨v0, v1, he, o0, o1, hne, hb⟩
  refine ⟨v0, v1, he, own_boolsT o0 fun k hk => ?_, own_boolsT o1 fun k hk => ?_, hb⟩
  ·exact fun e => hne k hk e.symm
  ·exact fun e => hne k e.symm hk
 ·rw [if_neg h0] at h9
  cases h9
end Go.Proofs.Ytimjccfpobhpeaa.PF
namespace Go.Proofs.Ytimjccfpobhpeaa
open Go.RowKit Go.Proofs.YtimjccfpobhpeaaW.PrintWords Go.Proofs.Ytimjccfpobhpeaa.PF
set_option linter.unusedVariables false
theorem bits_one (x : Int) : Go.bits .and .u64 x 1 = 0 ∨ Go.bits .and .u64 x 1 = 1 := by
  have h : Go.bits .and .u64 x 1 = IntKind.u64.wrap ((BitVec.ofInt 64 x &&& BitVec.ofInt 64 1).toNat : Int) := rfl
  have h2 : (BitVec.ofInt 64 x &&& BitVec.ofInt 64 1).toNat = (BitVec.ofInt 64 x).toNat % 2 := by
    rw [BitVec.toNat_and, show (BitVec.ofInt 64 1).toNat = 1 from rfl, Nat.and_one_is_mod]
  rw [h, h2, wrap_u64 (by omega)]
  omega
theorem tT_eq (a : Int) (i : Nat) (hi : i ≤ 64) : (Go.bits .and .u64 (a / 2 ^ i) 1 == 1) = tT a i := by
  have e : shr .u64 a (i : Int) = a / 2 ^ i := by
    unfold shr
    rw [Int.toNat_natCast, show IntKind.u64.bits = 64 from rfl, Nat.min_eq_left hi]
  unfold tT
  rw [e]
  rcases bits_one (a / 2 ^ i) with h | h <;> rw [h] <;> rfl
def pinB (rd : Int → Load → Bool) (i : Nat) : List Int → Nat → List Bool
  | [], _ => []
  | x :: r, j => rd x ⟨0, i, j⟩ :: pinB rd i r (j + 1)
theorem pinB_len (rd : Int → Load → Bool) (i : Nat) : ∀ (xs : List Int) (j : Nat), (pinB rd i xs j).length = xs.length
  | [], _ => rfl
  | x :: r, j => by rw [pinB, List.length_cons, pinB_len rd i r, List.length_cons]
theorem kF_eq (rd : Int → Load → Bool) (i : Nat) : ∀ (xs : List Int) (j k : Nat), k < 2 ^ j → kF rd i xs j k = k + 2 ^ j * idxB (pinB rd i xs j)
  | [], j, k, h => by simp [kF, pinB, idxB]
  | x :: r, j, k, h => by
    rw [kF, pinB, idxB]
    have hp : 2 ^ (j + 1) = 2 ^ j + 2 ^ j := by rw [Nat.pow_succ]; omega
    have e : 2 ^ j * (2 * idxB (pinB rd i r (j + 1))) = 2 ^ j * idxB (pinB rd i r (j + 1)) + 2 ^ j * idxB (pinB rd i r (j + 1)) := by rw [Nat.mul_left_comm, Nat.two_mul]
    cases hb : rd x ⟨0, i, j⟩
    · rw [if_neg (by decide), kF_eq rd i r (j + 1) k (by omega), hp]
      simp only [Bool.toNat_false, Nat.zero_add]
      rw [Nat.add_mul, e]
    · have ho : k ||| 2 ^ j = k + 2 ^ j := by
        have := Nat.two_pow_add_eq_or_of_lt h 1
        rw [Nat.mul_one] at this
        rw [Nat.or_comm, ← this, Nat.add_comm]
      rw [if_pos rfl, ho, kF_eq rd i r (j + 1) (k + 2 ^ j) (by omega), hp]
      simp only [Bool.toNat_true]
      rw [Nat.mul_add, Nat.add_mul, e, Nat.mul_one]
      omega
def GoodV (vs : List Bool) : Prop := vs.getD 0 false = false ∧ vs.getD 1 false = true ∧ 2 ≤ vs.length
theorem GoodV.snoc {vs : List Bool} (h : GoodV vs) (b : Bool) : GoodV (vs ++ [b]) := by
  obtain ⟨h0, h1, h2⟩ := h
  refine ⟨?_, ?_, by rw [List.length_append]; omega⟩
  · have e : (vs ++ [b]).getD 0 false = vs.getD 0 false := by simp only [List.getD]; rw [List.getElem?_append_left (by omega)]
    exact e.trans h0
  · have e : (vs ++ [b]).getD 1 false = vs.getD 1 false := by simp only [List.getD]; rw [List.getElem?_append_left (by omega)]
    exact e.trans h1
theorem goodV_init (a b : List Bool) : GoodV ([false, true] ++ a ++ b) := ⟨rfl, rfl, by simp only [List.length_append, List.length_cons]; omega⟩
section
variable {m : List ((Int × Int × Int) × Int)} {fs : List Qr} {nv : Load → Int → Int}
def ReadsNv (m : List ((Int × Int × Int) × Int)) (fs : List Qr) (nv : Load → Int → Int) : Prop := ∀ vs, GoodV vs → ∀ (x : Int) (l : Load), rdL m fs vs x l = rdB vs (nv l x)
theorem pinB_nv (h : ReadsNv m fs nv) {vs : List Bool} (hv : GoodV vs) (i : Nat) : ∀ (xs : List Int) (j : Nat), pinB (rdL m fs vs) i xs j = (brPins nv i xs j).map (rdB vs)
  | [], _ => rfl
  | x :: r, j => by rw [pinB, brPins, List.map_cons, pinB_nv h hv i r (j + 1), h vs hv]
theorem shV_eq (h : ReadsNv m fs nv) : ∀ (gs : List Gate) (i : Nat) (vs : List Bool), GoodV vs → (∀ g ∈ gs, g.f2.length ≤ 6) → shV m fs gs i vs = gatesB (Kv nv gs i) vs ∧ GoodV (shV m fs gs i vs)
  | [], _, vs, hv, _ => ⟨rfl, hv⟩
  | g :: r, i, vs, hv, hl => by
    have h6 := hl g List.mem_cons_self
    have hk : kF (rdL m fs vs) i g.f2 0 0 = idxB ((brPins nv i g.f2 0).map (rdB vs)) := by
      rw [kF_eq _ _ _ _ _ (by decide), pinB_nv h hv]
      simp
    have hlt : idxB ((brPins nv i g.f2 0).map (rdB vs)) ≤ 64 := by
      have h1 := idxB_lt ((brPins nv i g.f2 0).map (rdB vs))
      rw [List.length_map, brPins_len] at h1
      have h2 : 2 ^ g.f2.length ≤ 2 ^ 6 := Nat.pow_le_pow_right (by decide) h6
      omega
    have hb : (Go.bits .and .u64 (g.f1 / 2 ^ kF (rdL m fs vs) i g.f2 0 0) 1 == 1) = gateB vs ⟨g.f0, g.f1, brPins nv i g.f2 0⟩ := by
      rw [hk, tT_eq _ _ hlt]
      rfl
    rw [shV, Kv, gatesB, hb]
    exact shV_eq h r (i + 1) _ (hv.snoc _) fun g hg => hl g (List.mem_cons_of_mem _ hg)
theorem shO_eq (h : ReadsNv m fs nv) {vs : List Bool} (hv : GoodV vs) : ∀ (xs : List Int) (i : Nat), shO m fs vs xs i = outB vs (brOuts nv xs i)
  | [], _ => rfl
  | x :: r, i => by rw [shO, brOuts, outB, List.map_cons, h vs hv, shO_eq h hv r (i + 1)]; rfl
theorem shN_eq (h : ReadsNv m fs nv) {vs st : List Bool} (hv : GoodV vs) : ∀ (xs : List Flop) (i : Nat), shN m fs vs st xs i = nextF vs st (Ko nv xs i) i
  | [], _ => rfl
  | x :: r, i => by
    rw [shN, Ko, nextF, shN_eq h hv r (i + 1)]
    unfold flX flopB
    rw [h vs hv, h vs hv]
theorem reads_one (a b : Int) (c : Bool) (hb : -1 ≤ b) : ReadsNv m [⟨a, b, c⟩] (newv a b (if c = true then 1 else 0) m) := by
  intro vs hv x l
  unfold rdL readF newv putC
  by_cases h : hitF ⟨a, b, c⟩ x ((mget m (keyL l)).getD 0) = true
  · rw [if_pos h]
    unfold hitF at h
    simp only [Bool.and_eq_true, Bool.or_eq_true, decide_eq_true_eq] at h
    rw [if_pos (by simp only [Bool.and_eq_true, Bool.or_eq_true, decide_eq_true_eq]; exact ⟨h.1.symm, h.2.imp (fun e => by omega) (fun e => e.symm)⟩)]
    cases c
    · exact hv.1.symm
    · exact hv.2.1.symm
  · rw [if_neg h]
    unfold hitF at h
    simp only [Bool.and_eq_true, Bool.or_eq_true, decide_eq_true_eq] at h
    rw [if_neg (by simp only [Bool.and_eq_true, Bool.or_eq_true, decide_eq_true_eq]; exact fun e => h ⟨e.1.symm, e.2.imp (fun e => by omega) (fun e => e.symm)⟩)]
    rfl
end
section
variable {l0 l1 : List ByteArray} {l2 : List FlopS} {l3 : List GateS} {l4 : List Int}
theorem FormOk.shown (ok : FormOk l0 l1 l2 l3 l4) {inn st : List Bool} (h0 : inn.length = l0.length) (h2 : st.length = l2.length) : shownFits l0 l2 l3 l4 inn st = true := by
  have b0 := ok.c0
  have b2 := ok.c2
  have b3 := ok.c3
  have b1 := ok.c1
  have b4 := ok.c4
  simp only [shownFits, Bool.and_eq_true, decide_eq_true_eq, List.all_eq_true]
  refine ⟨⟨⟨⟨⟨⟨⟨⟨h0, h2⟩, b0⟩, b2⟩, b3⟩, by omega⟩, ?_⟩, ?_⟩, ?_⟩
  · rintro ⟨g, i⟩ hg
    obtain ⟨p1, p2⟩ := ok.pins i g (List.mem_zipIdx_iff_getElem?.1 hg)
    exact ⟨p1, fun y hy => p2 y hy⟩
  · intro x hx
    obtain ⟨q1, q2, q3, q4⟩ := ok.flops x hx
    exact ⟨⟨⟨q1, q2⟩, q3⟩, q4⟩
  · intro x hx
    exact ok.outs x hx
theorem shown_eq (ok : FormOk l0 l1 l2 l3 l4) {nv : Load → Int → Int} {fs : List Qr} (h : ReadsNv (numsOf l0 l2 l3 l4) fs nv) {k : Nat} (hL : Xj.f k l0 l1 l2 l3 l4 = some (Qy l0 l2 l3 l4, 0)) (p : PatS) (h0 : p.f0.length = l0.length) (h2 : p.f1.length = l2.length) :
    Ku.f k l0 l1 l2 l3 l4 fs p.f0 p.f1 = some (showB (Ko nv l2 0) (Kv nv l3 0) (brOuts nv l4 0) p) := by
  unfold Ku.f
  rw [hL, Option.bind_some, if_pos ⟨rfl, ok.shown h0 h2⟩]
  obtain ⟨e, hg⟩ := shV_eq h l3 0 ([false, true] ++ p.f0 ++ p.f1) (goodV_init _ _) (fun g hg => by
    obtain ⟨i, hi⟩ := List.getElem?_of_mem hg
    exact (ok.pins i g hi).1)
  rw [shO_eq h hg, shN_eq h hg, e]
  rfl
theorem shown_one (ok : FormOk l0 l1 l2 l3 l4) {k : Nat} (hL : Xj.f k l0 l1 l2 l3 l4 = some (Qy l0 l2 l3 l4, 0)) (p : PatS) (h0 : p.f0.length = l0.length) (h2 : p.f1.length = l2.length) (a b : Int) (c : Bool) (hb : -1 ≤ b) :
    Ku.f k l0 l1 l2 l3 l4 [⟨a, b, c⟩] p.f0 p.f1 = some (showB (Ko (nvOf l0 l2 l3 l4 a b c) l2 0) (Kv (nvOf l0 l2 l3 l4 a b c) l3 0) (brOuts (nvOf l0 l2 l3 l4 a b c) l4 0) p) :=
  shown_eq ok (reads_one a b c hb) hL p h0 h2
theorem equalB_l0 (x y : List Bool) (hl : x.length = y.length) (hx : x.length ≤ 1048576) : ∀ (d i : Nat), i + d = x.length → ∀ k, d < k → Zt.l0 k x y x.length i = some (decide (x.drop i = y.drop i))
  | 0, i, h, k, hk => by
    obtain ⟨n, rfl⟩ : ∃ n, k = n + 1 := ⟨k - 1, by omega⟩
    rw [Zt.l0, if_neg (by omega), List.drop_eq_nil_of_le (by omega), List.drop_eq_nil_of_le (by omega)]
    rfl
  | d + 1, i, h, k, hk => by
    obtain ⟨n, rfl⟩ : ∃ n, k = n + 1 := ⟨k - 1, by omega⟩
    have hw : wrap64 ((i : Int) + 1) = ((i + 1 : Nat) : Int) := by rw [Ql (by omega) (by omega)]; rfl
    have e1 := rdOf_get x i (by omega)
    have e2 := rdOf_get y i (by omega)
    have g1 : x.getD i false = x[i]'(by omega) := by rw [List.getD_eq_getElem?_getD, List.getElem?_eq_getElem (by omega)]; rfl
    have g2 : y.getD i false = y[i]'(by omega) := by rw [List.getD_eq_getElem?_getD, List.getElem?_eq_getElem (by omega)]; rfl
    rw [Zt.l0, if_pos (by omega), if_pos (by omega), if_pos (by omega), if_pos (by omega), e1, e2, g1, g2, hw, equalB_l0 x y hl hx d (i + 1) (by omega) n (by omega), List.drop_eq_getElem_cons (show i < x.length by omega), List.drop_eq_getElem_cons (show i < y.length by omega)]
    by_cases c : x[i]'(by omega) = y[i]'(by omega)
    · rw [if_neg (by simp [c])]
      exact congrArg some (decide_eq_decide.2 ⟨fun h => by rw [c, h], fun h => by injection h⟩)
    · rw [if_pos (by simpa using c)]
      exact congrArg some (decide_eq_false (fun h => c (by injection h))).symm
theorem equalB (x y : List Bool) (hx : x.length ≤ 1048576) : ∀ k, x.length < k → Zt.f k x y = some (decide (x = y)) := by
  intro k hk
  rw [Zt.f]
  by_cases hl : x.length = y.length
  · rw [if_pos (by omega)]
    exact equalB_l0 x y hl hx x.length 0 (by omega) k hk
  · rw [if_neg (by omega), decide_eq_false (fun e => hl (by rw [e]))]
theorem showB_len (p : PatS) : (showB l2 l3 l4 p).1.length = l4.length ∧ (showB l2 l3 l4 p).2.length = l2.length := ⟨List.length_map _, nextF_len _ _ _ _⟩
end
end Go.Proofs.Ytimjccfpobhpeaa
namespace Go.Proofs.Ytimjccfpobhpeaa
open Go.RowKit Go.Proofs.YtimjccfpobhpeaaW.PrintWords Go.Proofs.Ytimjccfpobhpeaa.PF
set_option linter.unusedVariables false
theorem sdetRows_ex {g : Nat → List PatS → Option (Int × Int)} (hg : ∀ k xs, Xz (g k xs) (g (k + 1) xs)) {l : List PatS} (f : PatS → Bool) (h : ∀ j, ∃ k m, g k (chunkOf l j) = some m ∧ detBits m (chunkOf l j).length = (chunkOf l j).map f) : ∀ (d j : Nat), j + d = chunksN l.length → ∃ k, detRows (g k) l d j = some ((l.drop (j * 64)).map f)
  | 0, j, hj => ⟨0, by rw [List.drop_eq_nil_of_le (by unfold chunksN at hj; omega)]; rfl⟩
  | d + 1, j, hj => by
    obtain ⟨k1, m, h1, hb⟩ := h j
    obtain ⟨k2, h2⟩ := sdetRows_ex hg f h d (j + 1) (by omega)
    refine ⟨k1 + k2, ?_⟩
    unfold detRows
    rw [upK (fun k => hg k _) (show k1 ≤ k1 + k2 by omega) h1, Option.bind_some, upK (f := fun k => detRows (g k) l d (j + 1)) (fun k => detRows_le (hg k) l d (j + 1)) (show k2 ≤ k1 + k2 by omega) h2, Option.bind_some, hb]
    have e : l.drop ((j + 1) * 64) = (l.drop (j * 64)).drop 64 := by rw [List.drop_drop]; congr 1; omega
    rw [e, ← List.map_append]
    congr 2
    exact List.take_append_drop 64 _
section
variable (l0 l1 : List ByteArray) (l2 : List FlopS) (l3 : List GateS) (l4 : List Int)
def hitB (a b : Int) (c : Bool) (p : PatS) : Bool := decide (showB l2 l3 l4 p ≠ showB (Ko (nvOf l0 l2 l3 l4 a b c) l2 0) (Kv (nvOf l0 l2 l3 l4 a b c) l3 0) (brOuts (nvOf l0 l2 l3 l4 a b c) l4 0) p)
structure FaultSem (l : List PatS) (f : Qr) (K : Nat) (e : Int) : Prop where
  ff : ∀ k, K ≤ k → Xq.f k l0 l1 l2 l3 l4 f.f0 f.f1 f.f2 = some e
  ck : ∀ k, K ≤ k → Xk.f k (Qy l0 l2 l3 l4) f.f0 f.f1 f.f2 = some e
  er : e ≠ 0 → ∀ k, K ≤ k → fault_Detects.f k l0 l1 l2 l3 l4 f.f0 f.f1 f.f2 l = some ([], e)
  ok : e = 0 → ∀ k, K ≤ k → fault_Detects.f k l0 l1 l2 l3 l4 f.f0 f.f1 f.f2 l = some (l.map (hitB l0 l2 l3 l4 f.f0 f.f1 f.f2), 0)
  inj : e = 0 → ∀ k, K ≤ k → Qk.f k l0 l1 l2 l3 l4 f.f0 f.f1 f.f2 = some (l0, l1, Ko (nvOf l0 l2 l3 l4 f.f0 f.f1 f.f2) l2 0, Kv (nvOf l0 l2 l3 l4 f.f0 f.f1 f.f2) l3 0, brOuts (nvOf l0 l2 l3 l4 f.f0 f.f1 f.f2) l4 0, 0)
  lo : e = 0 → -1 ≤ f.f1
theorem fault_sem {kF : Nat} (hF : Ze.f kF l0 l1 l2 l3 l4 = some 0) (l : List PatS) (hl : l.length ≤ 256) (hp : PatsOk l0 l2 l) (f : Qr) : ∃ K e, FaultSem l0 l1 l2 l3 l4 l f K e := by
  obtain ⟨a, b, c⟩ := f
  obtain ⟨K, e, hFe, hI, h0⟩ := inject_cases l0 l1 l2 l3 l4 a b c
  have he : e = 0 := by
    have h1 := upK (Ze.mono l0 l1 l2 l3 l4) (show kF ≤ kF + K by omega) hF
    rw [hFe (kF + K) (by omega)] at h1
    injection h1
  subst he
  obtain ⟨ok, hL, e2, hFF, hC, hI2, hI0⟩ := h0 rfl
  obtain ⟨e3, hP, hP0⟩ := pats_ex (l0 := l0) (l1 := l1) (l2 := l2) (l3 := l3) (l4 := l4) l
  have he3 : e3 = 0 := by
    obtain ⟨e3', h1, h2⟩ := pats_l0 (l0 := l0) (l1 := l1) (l2 := l2) (l3 := l3) (l4 := l4) l hl l.length 0 (by omega)
    have h3 := (hP 258 (by omega)).1
    have hz : ∀ (d i : Nat), i + d = l.length → ∀ k, d < k → Xw.l0 k l l.length i l0 l1 l2 l3 l4 = some 0 := by
      intro d
      induction d with
      | zero =>
        intro i hi k hk
        obtain ⟨m, rfl⟩ : ∃ m, k = m + 1 := ⟨k - 1, by omega⟩
        rw [Xw.l0, if_neg (by omega)]
      | succ d ih =>
        intro i hi k hk
        obtain ⟨m, rfl⟩ : ∃ m, k = m + 1 := ⟨k - 1, by omega⟩
        obtain ⟨x, hx⟩ := at_ex (xs := l) (i := i) (by omega)
        obtain ⟨p1, p2⟩ := hp x (List.mem_of_getElem? hx)
        have hw : wrap64 ((i : Int) + 1) = ((i + 1 : Nat) : Int) := by rw [Ql (by omega) (by omega)]; rfl
        rw [Xw.l0, if_pos (by omega), if_pos (by omega), if_pos (by omega), rdP_at hx, if_pos (by omega), if_pos (by omega), hw]
        exact ih (i + 1) (by omega) m (by omega)
    rw [Xw.f, if_neg (by omega)] at h3
    have h4 := hz l.length 0 (by omega) 258 (by omega)
    rw [show ((0 : Nat) : Int) = 0 from rfl, h3] at h4
    injection h4
  subst he3
  by_cases h2 : e2 = 0
  · subst h2
    obtain ⟨a0, a1, hI0⟩ := hI0 rfl
    have nm := (form_nm hF).2
    obtain ⟨okb, nmb⟩ := br_form (newv_ok a b c (numsOf l0 l2 l3 l4)) ok nm
    obtain ⟨kB, hB⟩ := form_zero _ _ _ _ _ okb nmb
    obtain ⟨kD, hD⟩ := sdetRows_ex (g := fun k => detWords k l0 l1 l2 l3 l4 l0 l1 (Ko (nvOf l0 l2 l3 l4 a b c) l2 0) (Kv (nvOf l0 l2 l3 l4 a b c) l3 0) (brOuts (nvOf l0 l2 l3 l4 a b c) l4 0)) (fun k xs => detWords_le k _ _ _ _ _ _ _ _ _ _ xs) (l := l) (hitB l0 l2 l3 l4 a b c)
      (fun j => sdet_ex ok hF okb hB (brFlops_len _ _ _) (brOuts_len _ _ _) (chunkOf l j) (by rw [chunkOf_len]; omega) (fun p hp' => hp p (List.mem_of_mem_drop (List.mem_of_mem_take hp')))) (chunksN l.length) 0 (by omega)
    rw [Nat.zero_mul, List.drop_zero] at hD
    have hck := Xk.ok (hC K (Nat.le_refl K))
    refine ⟨K + 258 + kD, 0, ⟨fun k hk => hFF k (by omega), fun k hk => hC k (by omega), fun h => absurd rfl h, fun _ k hk => ?_, fun _ k hk => hI0 k (by omega), fun _ => hck.2.2.1⟩⟩
    unfold fault_Detects.f
    rw [hI0 k (by omega), Option.bind_some, if_pos rfl, (hP k (by omega)).1, Option.bind_some, if_pos rfl]
    have h9 := upK (f := fun k => detRows (detWords k l0 l1 l2 l3 l4 l0 l1 (Ko (nvOf l0 l2 l3 l4 a b c) l2 0) (Kv (nvOf l0 l2 l3 l4 a b c) l3 0) (brOuts (nvOf l0 l2 l3 l4 a b c) l4 0)) l (chunksN l.length) 0) (fun k => detRows_le (fun xs => detWords_le k _ _ _ _ _ _ _ _ _ _ xs) _ _ _) (show kD ≤ k by omega) hD
    show ((detRows (detWords k l0 l1 l2 l3 l4 l0 l1 (Ko (nvOf l0 l2 l3 l4 a b c) l2 0) (Kv (nvOf l0 l2 l3 l4 a b c) l3 0) (brOuts (nvOf l0 l2 l3 l4 a b c) l4 0)) l (chunksN l.length) 0).bind _) = _
    rw [h9, Option.bind_some]
  · refine ⟨K, e2, ⟨hFF, hC, fun _ k hk => ?_, fun h => absurd h h2, fun h => absurd h h2, fun h => absurd h h2⟩⟩
    unfold fault_Detects.f
    rw [hI2 h2 k hk, Option.bind_some, if_neg h2]
end
end Go.Proofs.Ytimjccfpobhpeaa
namespace Go.Proofs.Ytimjccfpobhpeaa.PF
open Go.RowKit Go.Proofs.YtimjccfpobhpeaaW.PrintWords Go.Proofs.YtimjccfpobhpeaaW.PrintLast Go.Proofs.YtimjccfpobhpeaaW.PrintMore
set_option linter.unusedVariables false
set_option linter.unusedSimpArgs false
mutual
def Xu.l0 : Nat → List (List (S77)) → List (S29) → Int → Option ((List (S29)) × Int)
  | 0, _, _, _ => none
  | k + 1, x4, x6, x7 => if x7 < (x4.length : Int) then (if 0 ≤ x7 then (Xu.l1 k x4 x6 x7 ((Kr x4 x7).length : Int) (-1)) else (none)) else (some (x6, 0))
def Xu.l1 : Nat → List (List (S77)) → List (S29) → Int → Int → Int → Option ((List (S29)) × Int)
  | 0, _, _, _, _, _ => none
  | k + 1, x4, x6, x7, x8, x9 => if x9 < x8 then (if x8 > 0 then (if x9 < 0 then ((some (([(⟨x7, x9, false⟩ : S29), (⟨x7, x9, true⟩ : S29)] : List (S29)) : List (S29))).bind fun y141 => (if x6.length + y141.length < 5864062014805 then (Xu.l1 k x4 (x6 ++ y141) x7 x8 (wrap64 (x9 + 1))) else (none))) else (if x8 > 1 then ((some (([(⟨x7, x9, false⟩ : S29), (⟨x7, x9, true⟩ : S29)] : List (S29)) : List (S29))).bind fun y147 => (if x6.length + y147.length < 5864062014805 then (Xu.l1 k x4 (x6 ++ y147) x7 x8 (wrap64 (x9 + 1))) else (none))) else (Xu.l1 k x4 x6 x7 x8 (wrap64 (x9 + 1))))) else (Xu.l1 k x4 x6 x7 x8 (wrap64 (x9 + 1)))) else (Xu.l0 k x4 x6 (wrap64 (x7 + 1)))
end
def Xu.f (k : Nat) (l0_0 : List ByteArray) (l0_1 : List ByteArray) (l0_2 : List (S82)) (l0_3 : List (Ky)) (l0_4 : List Int) : Option ((List (S29)) × Int) := (Xj.f k l0_0 l0_1 l0_2 l0_3 l0_4).bind fun bt136 => (if bt136.2 = 0 then (Xu.l0 k bt136.1 ([] : List (S29)) 2) else (some (([] : List (S29)), bt136.2)))
theorem Xu.mono_l : ∀ k, (∀ y0 y1 y2, Xz (Xu.l0 k y0 y1 y2) (Xu.l0 (k + 1) y0 y1 y2)) ∧ (∀ y0 y1 y2 y3 y4, Xz (Xu.l1 k y0 y1 y2 y3 y4) (Xu.l1 (k + 1) y0 y1 y2 y3 y4))
  | 0 => ⟨fun _ _ _ r h => by simp [Xu.l0] at h, fun _ _ _ _ _ r h => by simp [Xu.l1] at h⟩
  | k + 1 => by
    obtain ⟨ih0, ih1⟩ := Xu.mono_l k
    refine ⟨?_, ?_⟩
    · intro y0 y1 y2
      unfold Xu.l0
      repeat' first
      | (with_reducible exact ih0 _ _ _)
      | (with_reducible exact ih1 _ _ _ _ _)
      | (with_reducible exact Xj.mono _ _ _ _ _ _)
      | (with_reducible exact Xz.refl _)
      | (with_reducible exact Xz.none _)
      | (with_reducible refine Xz.ite ?_ ?_)
      | (with_reducible refine Xz.bind ?_ (fun _ => ?_))
      | exact ih0 _ _ _
      | exact ih1 _ _ _ _ _
      | exact Xj.mono _ _ _ _ _ _
      | exact Xz.none _
      | refine Xz.ite ?_ ?_
      | refine Xz.bind ?_ (fun _ => ?_)
    · intro y0 y1 y2 y3 y4
      unfold Xu.l1
      repeat' first
      | (with_reducible exact ih0 _ _ _)
      | (with_reducible exact ih1 _ _ _ _ _)
      | (with_reducible exact Xj.mono _ _ _ _ _ _)
      | (with_reducible exact Xz.refl _)
      | (with_reducible exact Xz.none _)
      | (with_reducible refine Xz.ite ?_ ?_)
      | (with_reducible refine Xz.bind ?_ (fun _ => ?_))
      | exact ih0 _ _ _
      | exact ih1 _ _ _ _ _
      | exact Xj.mono _ _ _ _ _ _
      | exact Xz.none _
      | refine Xz.ite ?_ ?_
      | refine Xz.bind ?_ (fun _ => ?_)
theorem Xu.mono : ∀ a0 a1 a2 a3 a4 k, Xz (Xu.f k a0 a1 a2 a3 a4) (Xu.f (k + 1) a0 a1 a2 a3 a4) := by
  intro a0 a1 a2 a3 a4 k
  obtain ⟨ih0, ih1⟩ := Xu.mono_l k
  unfold Xu.f
  repeat' first
      | (with_reducible exact ih0 _ _ _)
      | (with_reducible exact ih1 _ _ _ _ _)
      | (with_reducible exact Xj.mono _ _ _ _ _ _)
      | (with_reducible exact Xz.refl _)
      | (with_reducible exact Xz.none _)
      | (with_reducible refine Xz.ite ?_ ?_)
      | (with_reducible refine Xz.bind ?_ (fun _ => ?_))
      | exact ih0 _ _ _
      | exact ih1 _ _ _ _ _
      | exact Xj.mono _ _ _ _ _ _
      | exact Xz.none _
      | refine Xz.ite ?_ ?_
      | refine Xz.bind ?_ (fun _ => ?_)
set_option maxHeartbeats 8000000 in
set_option maxRecDepth 100000 in
theorem Xu.calls (k : Nat) (A0_0 : Option Addr) (c0_0 : Nat) (l0_0 : List ByteArray) (A0_1 : Option Addr) (c0_1 : Nat) (l0_1 : List ByteArray) (A0_2 : Option Addr) (c0_2 : Nat) (l0_2 : List (S82)) (A0_3 : Option Addr) (c0_3 : Nat) (l0_3 : List (Ky)) (A0_4 : Option Addr) (c0_4 : Nat) (l0_4 : List Int) (r1 : List (S29)) (r2 : Int) (w : World) (hr0_0 : Kd.C Kd.string w A0_0 l0_0.length l0_0) (hc0_0 : l0_0.length ≤ c0_0) (hr0_1 : Kd.C Kd.string w A0_1 l0_1.length l0_1) (hc0_1 : l0_1.length ≤ c0_1) (hr0_2 : Kd.C k82 w A0_2 l0_2.length l0_2) (hc0_2 : l0_2.length ≤ c0_2) (hr0_3 : Kd.C k80 w A0_3 l0_3.length l0_3) (hc0_3 : l0_3.length ≤ c0_3) (hr0_4 : Kd.C (Kd.int .i64) w A0_4 l0_4.length l0_4) (hc0_4 : l0_4.length ≤ c0_4) (h : Xu.f k l0_0 l0_1 l0_2 l0_3 l0_4 = some (r1, r2)) :
 Calls Try.prog 14 #[.agg #[.slice A0_0 l0_0.length c0_0, .slice A0_1 l0_1.length c0_1, .slice A0_2 l0_2.length c0_2, .slice A0_3 l0_3.length c0_3, .slice A0_4 l0_4.length c0_4]] w fun e w' => ∃ v0_ : Value, e = .returned (.tuple #[v0_, .int .i64 r2]) ∧ Kd.R k29 29 w' w.heap.size (fun _ => True) v0_ r1 ∧ Below w.heap.size w w' := by
 have hu27 := Try.underlying27
 have hu29 := Try.underlying29
 have HR0_0 := Za.mk hr0_0
 have HC0_0 := Za.mk hc0_0
 clear hr0_0 hc0_0
 have HR0_1 := Za.mk hr0_1
 have HC0_1 := Za.mk hc0_1
 clear hr0_1 hc0_1
 have HR0_2 := Za.mk hr0_2
 have HC0_2 := Za.mk hc0_2
 clear hr0_2 hc0_2
 have HR0_3 := Za.mk hr0_3
 have HC0_3 := Za.mk hc0_3
 clear hr0_3 hc0_3
 have HR0_4 := Za.mk hr0_4
 have HC0_4 := Za.mk hc0_4
 clear hr0_4 hc0_4
 have HB := Za.mk (Below.refl w.heap.size w)
 have H : ((Xj.f k l0_0 l0_1 l0_2 l0_3 l0_4).bind fun bt136 => (if bt136.2 = 0 then (Xu.l0 k bt136.1 ([] : List (S29)) 2) else (some (([] : List (S29)), bt136.2)))) = some (r1, r2) := h
 clear h
 replace H := Option.bind_eq_some_iff.mp H
 obtain ⟨⟨t136, t139⟩, A20, H⟩ := H
 replace H : (if t139 = 0 then (Xu.l0 k t136 ([] : List (S29)) 2) else (some (([] : List (S29)), t139))) = some (r1, r2) := H
 have A2 := Za.mk A20
 clear A20
 by_cases c3 : t139 = 0
 ·rw [if_pos c3] at H
  have c3b0 : (t139 == 0) = true := beq_iff_eq.mpr c3
  have c3b1 : (t139 != 0) = false := bne_eq_false_iff_eq.mpr c3
  clear c3
  have H' := Za.mk H
  clear H
  go_enter Try.func14, Try.ntmps14
  go_wp2_with (first | ((with_reducible refine Xl (N := 1) rfl ?_); refine Xr ?hg (N := 1) ?hd (cs := #[.slice A0_0 l0_0.length c0_0, .slice A0_1 l0_1.length c0_1, .slice A0_2 l0_2.length c0_2, .slice A0_3 l0_3.length c0_3, .slice A0_4 l0_4.length c0_4]) (t := 27) ?hr ?_; (case hd => rfl); (case hg => rfl); (case hr => first | (go_simp; done) | (go_simp; rfl)); intro gb135 hg w4 hbox hb; have n0_ := Za.mk (Zn HB.out hb); have n1_ := Za.mk (hbox); have n2_ := Za.mk ((by rw [hg]; exact (Zm HB.out) : w.heap.size ≤ gb135)); have n3_ := n2_; clear HB; have HB := n0_; have BK135 := n1_; have GW135 := n2_; have GE135 := n3_; clear n0_ n1_ n2_ n3_; clear hb hbox hg; have hcz5_0 : w4.cell? ⟨gb135, 0, none⟩ = some (.slice A0_0 l0_0.length c0_0) := (Zc BK135.out 0).trans rfl; have hcz5_1 : w4.cell? ⟨gb135, 1, none⟩ = some (.slice A0_1 l0_1.length c0_1) := (Zc BK135.out 1).trans rfl; have hcz5_2 : w4.cell? ⟨gb135, 2, none⟩ = some (.slice A0_2 l0_2.length c0_2) := (Zc BK135.out 2).trans rfl; have hcz5_3 : w4.cell? ⟨gb135, 3, none⟩ = some (.slice A0_3 l0_3.length c0_3) := (Zc BK135.out 3).trans rfl; have hcz5_4 : w4.cell? ⟨gb135, 4, none⟩ = some (.slice A0_4 l0_4.length c0_4) := (Zc BK135.out 4).trans rfl; have hfz5_0 := Zb BK135.out 0; have hfz5_1 := Zb BK135.out 1; have hfz5_2 := Zb BK135.out 2; have hfz5_3 := Zb BK135.out 3; have hfz5_4 := Zb BK135.out 4) | ((with_reducible refine Xo (f := 27) rfl ?_); refine Qp (some 12) rfl rfl Try.func27 (by kernel_rfl) rfl #[.agg #[.slice A0_0 l0_0.length c0_0, .slice A0_1 l0_1.length c0_1, .slice A0_2 l0_2.length c0_2, .slice A0_3 l0_3.length c0_3, .slice A0_4 l0_4.length c0_4]] rfl (by (try simp only [List.map_toArray, List.map_cons, List.map_nil]); first | done | rfl | (simp only [List.length_drop, List.length_take]; rfl)) ?_; (with_reducible refine (Xj.calls k _ _ l0_0 _ _ l0_1 _ _ l0_2 _ _ l0_3 _ _ l0_4 t136 t139 _ ?side1 ?side2 ?side3 ?side4 ?side5 ?side6 ?side7 ?side8 ?side9 ?side10 A2.out).mono ?_); (case side1 => exact (Kd.Zk HR0_0.out HB.out)); (case side2 => exact HC0_0.out); (case side3 => exact (Kd.Zk HR0_1.out HB.out)); (case side4 => exact HC0_1.out); (case side5 => exact (Kd.Zk HR0_2.out HB.out)); (case side6 => exact HC0_2.out); (case side7 => exact (Kd.Zk HR0_3.out HB.out)); (case side8 => exact HC0_3.out); (case side9 => exact (Kd.Zk HR0_4.out HB.out)); (case side10 => exact HC0_4.out); rintro e w6 ⟨v137, rfl, ho0, hb⟩; refine ⟨_, rfl, ?_⟩; have n0_ := Za.mk (Kd.S_lower ho0 (Zm HB.out)); have n1_ := Za.mk (Zq BK135.out hb); have n2_ := Za.mk (Zn HB.out hb); clear BK135; clear HB; have HO138 := n0_; have BK135 := n1_; have HB := n2_; clear n0_ n1_ n2_; (try clear hb); (try clear hb2); (try clear hk); (try clear hi); (try clear ho0)))
  go_loopg [6, 7] k (fun kq v6 v7 w' => ∃ (x6_1 : List (S29)) (x7_1 : Int), v7 = .int .i64 x7_1 ∧ Za (Xu.l0 kq t136 x6_1 x7_1 = some (r1, r2)) ∧ Za (kq ≤ k) ∧ Za (Kd.S (Kd.slice 77 k77) 75 w' w.heap.size (fun _ => True) v137 t136) ∧ Za (Kd.R k29 29 w' w.heap.size (fun _ => True) v6 x6_1) ∧ Za (w'.heap[gb135]? = some (.cells #[(.slice A0_0 l0_0.length c0_0), (.slice A0_1 l0_1.length c0_1), (.slice A0_2 l0_2.length c0_2), (.slice A0_3 l0_3.length c0_3), (.slice A0_4 l0_4.length c0_4)] 27 (0, 0))) ∧ Za (Below w.heap.size w w'))
  case atStart => exact ⟨(([] : List (S29))), (2), (by first | rfl | (simp; done) | (simp [*]; done)), H', ⟨Nat.le_refl _⟩, ⟨HO138.out⟩, ⟨by first | exact Kd.R_nil _ _ _ _ _ | exact Kd.N_nil _ _ _ _ _ | exact Kd.V_nil _ _ _ _ _ | exact Kd.Q_nil _ _ _ _ _ | exact Kd.S_nil _ _ _ _ _⟩, ⟨BK135.out⟩, ⟨HB.out⟩⟩
  case round =>
   clear H'
   try clear c3b0
   try clear c3b1
   try clear hcz5_0
   try clear hcz5_1
   try clear hcz5_2
   try clear hcz5_3
   try clear hcz5_4
   try clear hfz5_0
   try clear hfz5_1
   try clear hfz5_2
   try clear hfz5_3
   try clear hfz5_4
   obtain ⟨x6_1, x7_1, rfl, HA, HK1, HO_4, HO_6, BK135, HB⟩ := hrel
   cases gk with
   | zero => exact absurd HA.out (by simp [Xu.l0])
   | succ k1 =>
    have H := HA.out
    clear HA
    simp only [Xu.l0] at H
    by_cases c7 : x7_1 < (t136.length : Int)
    ·rw [if_pos c7] at H
     have c7b0 : decide (x7_1 < (t136.length : Int)) = true := decide_eq_true c7
     clear c7
     by_cases c8 : 0 ≤ x7_1
     ·rw [if_pos c8] at H
      have c8b0 : decide (0 ≤ x7_1) = true := decide_eq_true c8
      clear c8
      have H' := Za.mk H
      clear H
      obtain ⟨Ao9, co9, eo9⟩ := Kd.S_slice HO_4.out
      subst eo9
      have p140 : 0 ≤ (x7_1 : Int) := of_decide_eq_true (by first | (with_reducible assumption) | assumption)
      have q140 : x7_1 < (t136.length : Int) := of_decide_eq_true (by first | (with_reducible assumption) | assumption)
      obtain ⟨ad140, A140_0, c140_0, e140, hx140_0, hl140_0, hi140_0⟩ := at_L12 (Kd.S_reads' HO_4.out).2.2 x7_1 p140 q140
      cases e140
      obtain ⟨ce140, hce140, hMe140, hcc140⟩ := Kd.S_get HO_4.out [] x7_1 p140 (by first | exact q140 | exact of_decide_eq_true (by first | (with_reducible assumption) | assumption) | (have e_ := (Kd.S_reads' HO_4.out).1; omega))
      obtain ⟨ve140_0, rfl, ge140_0⟩ := hMe140
      have hv140_0 := hcc140 0 _ rfl
      rw [Nat.add_zero, show ((Kd.slice 77 k77)).sz = 1 from rfl, Nat.mul_one] at hv140_0
      replace hv140_0 := Option.some.inj (hv140_0.symm.trans hx140_0)
      rw [hv140_0] at ge140_0
      have HL140_0 := Za.mk (show Kd.R k77 77 _ _ _ _ (Kr t136 x7_1) from ge140_0)
      clear hv140_0 ge140_0
      clear hcc140 hce140
      have HR140_0 := Za.mk hi140_0
      have HC140_0 := Za.mk hl140_0
      clear hi140_0 hl140_0
      replace p140 := eq_true p140
      replace q140 := eq_true q140
      go_wp2
      go_loopg [6, 9] k1 (fun kq v6 v9 w' => ∃ (x6_2 : List (S29)) (x9_2 : Int), v9 = .int .i64 x9_2 ∧ Za (Xu.l1 kq t136 x6_2 x7_1 ((Kr t136 x7_1).length : Int) x9_2 = some (r1, r2)) ∧ Za (kq ≤ k1) ∧ Za (Kd.S (Kd.slice 77 k77) 75 w' w.heap.size (fun _ => True) (.slice (some ad140) t136.length co9) t136) ∧ Za (Kd.R k29 29 w' w.heap.size (fun _ => True) v6 x6_2) ∧ Za (w'.heap[gb135]? = some (.cells #[(.slice A0_0 l0_0.length c0_0), (.slice A0_1 l0_1.length c0_1), (.slice A0_2 l0_2.length c0_2), (.slice A0_3 l0_3.length c0_3), (.slice A0_4 l0_4.length c0_4)] 27 (0, 0))) ∧ Za (Below w.heap.size w w'))
      case atStart => exact ⟨(x6_1), ((-1)), (by first | rfl | (simp; done) | (simp [*]; done)), H', ⟨Nat.le_refl _⟩, ⟨HO_4.out⟩, ⟨HO_6.out⟩, ⟨BK135.out⟩, ⟨HB.out⟩⟩
      case round =>
       clear H'
       try clear c7b0
       try clear c8b0
       try clear hx140_0
       try clear p140
       try clear q140
       obtain ⟨x6_2, x9_2, rfl, HA, HK2, HO_4, HO_6, BK135, HB⟩ := hrel
       cases gk with
       | zero => exact absurd HA.out (by simp [Xu.l1])
       | succ k2 =>
        have H := HA.out
        clear HA
        simp only [Xu.l1] at H
        by_cases c10 : x9_2 < ((Kr t136 x7_1).length : Int)
        ·rw [if_pos c10] at H
         have c10b0 : decide (x9_2 < ((Kr t136 x7_1).length : Int)) = true := decide_eq_true c10
         clear c10
         by_cases c11 : ((Kr t136 x7_1).length : Int) > 0
         ·rw [if_pos c11] at H
          have c11b0 : decide (0 < ((Kr t136 x7_1).length : Int)) = true := decide_eq_true c11
          have c11b1 : decide (0 < (Kr t136 x7_1).length) = true := decide_eq_true (by omega)
          clear c11
          by_cases c12 : x9_2 < 0
          ·rw [if_pos c12] at H
           have c12b0 : decide (x9_2 < 0) = true := decide_eq_true c12
           clear c12
           obtain ⟨y141, hy141⟩ : ∃ y_ : List (S29), y_ = (([(⟨x7_1, x9_2, false⟩ : S29), (⟨x7_1, x9_2, true⟩ : S29)] : List (S29))) := ⟨_, rfl⟩
           replace H : (if x6_2.length + y141.length < 5864062014805 then (Xu.l1 k2 t136 (x6_2 ++ y141) x7_1 ((Kr t136 x7_1).length : Int) (wrap64 (x9_2 + 1))) else (none)) = some (r1, r2) := by first | (rw [hy141]; with_reducible exact H) | (have H2_ := (Option.bind_some _ _).symm.trans H; rw [hy141]; with_reducible exact H2_) | (have H2_ := (Option.bind_some _ _).symm.trans H; with_reducible exact H2_) | with_reducible exact H | (rw [hy141]; exact H) | exact H
           have Ny141 := Za.mk hy141
           clear hy141
           by_cases c13 : x6_2.length + y141.length < 5864062014805
           ·rw [if_pos c13] at H
            have LMc13 := Za.mk c13
            clear c13
            obtain ⟨y144, hy144⟩ : ∃ y_ : List (S29), y_ = (x6_2 ++ y141) := ⟨_, rfl⟩
            replace H : (Xu.l1 k2 t136 y144 x7_1 ((Kr t136 x7_1).length : Int) (wrap64 (x9_2 + 1))) = some (r1, r2) := by first | (rw [hy144]; with_reducible exact H) | (have H2_ := (Option.bind_some _ _).symm.trans H; rw [hy144]; with_reducible exact H2_) | (have H2_ := (Option.bind_some _ _).symm.trans H; with_reducible exact H2_) | with_reducible exact H | (rw [hy144]; exact H) | exact H
            have Ny144 := Za.mk hy144
            clear hy144
            have H' := Za.mk H
            clear H
            go_wp2_with (first | ((with_reducible refine Xl (N := 51) rfl ?_); refine Kd.R_lit k29 _ 29 ?hg (N := 51) ?hd (xs := ([(⟨x7_1, x9_2, false⟩ : S29), (⟨x7_1, x9_2, true⟩ : S29)] : List (S29))) (inner := [.int .i64 x7_1, .int .i64 x9_2, .bool false, .int .i64 x7_1, .int .i64 x9_2, .bool true]) (ok := fun _ => True) (okp := fun _ => True) ?hr ?hp (fun _ hk => hk) trivial (Below.refl _ _) (Nat.le_refl _) (by simp) ?_; (case hd => rfl); (case hg => rfl); (case hr => first | (go_simp; done) | (go_simp; rfl)); (case hp => exact (Reps.c3 (show Kd.M k29 _ _ _ (⟨x7_1, x9_2, false⟩ : S29) [.int .i64 x7_1, .int .i64 x9_2, .bool false] from (k29_mkM _ _ _ (⟨x7_1, x9_2, false⟩ : S29) )) (Reps.c3 (show Kd.M k29 _ _ _ (⟨x7_1, x9_2, true⟩ : S29) [.int .i64 x7_1, .int .i64 x9_2, .bool true] from (k29_mkM _ _ _ (⟨x7_1, x9_2, true⟩ : S29) )) (Reps.none _ _)))); intro v142 w14 ho15 hb hg_ hnew_; clear hg_ hnew_; (first | rw [← Ny141.out] at ho15 | (simp only [Int.reduceToNat] at ho15; rw [← Ny141.out] at ho15)); have n0_ := Za.mk (Kd.S_below HO_4.out hb); have n1_ := Za.mk (Kd.R_elder' HO_6.out (Kd.Xy ho15) hb); have n2_ := Za.mk (Kd.Xm (Kd.Qz ho15 (Kd.R_lt HO_6.out)) (Zm HB.out)); have n3_ := Za.mk (Zq BK135.out hb); have n4_ := Za.mk (Zn HB.out hb); clear HO_4; clear HO_6; clear BK135; clear HB; have HO_4 := n0_; have HO_6 := n1_; have HO143 := n2_; have BK135 := n3_; have HB := n4_; clear n0_ n1_ n2_ n3_ n4_; clear hb ho15; obtain ⟨Ao17, co17, eo17⟩ := Kd.Xi HO143.out; subst eo17) | ((with_reducible refine gate_builtin (b := .append) (xs := #[.tmp 44, .tmp 51]) rfl ?_); at_builtin; refine Kd.R_append_rows k29 (w0 := w) w.heap.size rfl (.tmp 44) (.tmp 51) 39 29 (.agg #[(.int .i64 0), (.int .i64 0), (.bool false)]) 24 rfl Try.underlying39 info29 rfl (by decide) (by omega) u6 x6_2 y141 _ _ _ (fun k_ => some k_ ≠ (.slice Ao17 y141.length co17 : Value).ownBlock) (fun _ => False) rfl rfl ?aO ?aR (fun _ _ h => h) (fun _ h => h.elim) ?aF ?aB ?aS ?aL ?_; (case aR => repeat (first | exact (Kd.Xd HO143.out).2.2 | (with_reducible refine Kd.C_alloc ?_ _) | (with_reducible refine Kd.C_drewN ?_ _) | (with_reducible refine Kd.C_drew ?_))); (case aB => exact HB.out); (case aF => exact (fun k_ hk => Kd.fresh' (Kd.R_lt HO143.out) k_ hk)); (case aO => exact (by (with_reducible repeat (first | apply Kd.R_alloc | apply Kd.Zy | apply Kd.Xg)); exact Kd.Xh HO_6.out (fun _ hk => hk.2))); (case aS => exact (Zm HB.out)); (case aL => have := LMc13.out; omega); intro v145 w16 ho hb hg hat; rw [← Ny144.out] at ho; have n0_ := Za.mk (Kd.S_over' HO_4.out (Kd.R_typed HO_6.out) (by decide) hg); have n1_ := Za.mk (blk_grown BK135.out hg (Kd.R_ne HO_6.out BK135.out (by decide))); have n2_ := Za.mk (Kd.R_after (ok := (fun _ => True)) HO143.out hg hat); have n3_ := Za.mk (hb); have n4_ := Za.mk (ho); clear HO_4; clear BK135; clear HO143; clear HB; clear HO_6; have HO_4 := n0_; have BK135 := n1_; have HO143 := n2_; have HB := n3_; have HO146 := n4_; clear n0_ n1_ n2_ n3_ n4_; clear ho hb hg hat))
            go_roundg k2
            case measure => have := HK1.out; have := HK2.out; omega
            case rel => exact ⟨(y144), (wrap64 (x9_2 + 1)), (by first | rfl | (simp; done) | (simp [*]; done)), H', ⟨by have := HK1.out; have := HK2.out; omega⟩, ⟨HO_4.out⟩, ⟨by (with_reducible repeat (first | apply Kd.R_alloc | apply Kd.Zy | apply Kd.Xg)); exact Kd.Xh HO146.out (fun _ hk => trivial)⟩, ⟨BK135.out⟩, ⟨HB.out⟩⟩
           ·rw [if_neg c13] at H
            exact absurd H (by simp)
          ·rw [if_neg c12] at H
           have c12b0 : decide (x9_2 < 0) = false := decide_eq_false c12
           clear c12
           by_cases c18 : ((Kr t136 x7_1).length : Int) > 1
           ·rw [if_pos c18] at H
            have c18b0 : decide (1 < ((Kr t136 x7_1).length : Int)) = true := decide_eq_true c18
            have c18b1 : decide (1 < (Kr t136 x7_1).length) = true := decide_eq_true (by omega)
            clear c18
            obtain ⟨y147, hy147⟩ : ∃ y_ : List (S29), y_ = (([(⟨x7_1, x9_2, false⟩ : S29), (⟨x7_1, x9_2, true⟩ : S29)] : List (S29))) := ⟨_, rfl⟩
            replace H : (if x6_2.length + y147.length < 5864062014805 then (Xu.l1 k2 t136 (x6_2 ++ y147) x7_1 ((Kr t136 x7_1).length : Int) (wrap64 (x9_2 + 1))) else (none)) = some (r1, r2) := by first | (rw [hy147]; with_reducible exact H) | (have H2_ := (Option.bind_some _ _).symm.trans H; rw [hy147]; with_reducible exact H2_) | (have H2_ := (Option.bind_some _ _).symm.trans H; with_reducible exact H2_) | with_reducible exact H | (rw [hy147]; exact H) | exact H
            have Ny147 := Za.mk hy147
            clear hy147
            by_cases c19 : x6_2.length + y147.length < 5864062014805
            ·rw [if_pos c19] at H
             have LMc19 := Za.mk c19
             clear c19
             obtain ⟨y150, hy150⟩ : ∃ y_ : List (S29), y_ = (x6_2 ++ y147) := ⟨_, rfl⟩
             replace H : (Xu.l1 k2 t136 y150 x7_1 ((Kr t136 x7_1).length : Int) (wrap64 (x9_2 + 1))) = some (r1, r2) := by first | (rw [hy150]; with_reducible exact H) | (have H2_ := (Option.bind_some _ _).symm.trans H; rw [hy150]; with_reducible exact H2_) | (have H2_ := (Option.bind_some _ _).symm.trans H; with_reducible exact H2_) | with_reducible exact H | (rw [hy150]; exact H) | exact H
             have Ny150 := Za.mk hy150
             clear hy150
             have H' := Za.mk H
             clear H
             go_wp2_with (first | ((with_reducible refine Xl (N := 51) rfl ?_); refine Kd.R_lit k29 _ 29 ?hg (N := 51) ?hd (xs := ([(⟨x7_1, x9_2, false⟩ : S29), (⟨x7_1, x9_2, true⟩ : S29)] : List (S29))) (inner := [.int .i64 x7_1, .int .i64 x9_2, .bool false, .int .i64 x7_1, .int .i64 x9_2, .bool true]) (ok := fun _ => True) (okp := fun _ => True) ?hr ?hp (fun _ hk => hk) trivial (Below.refl _ _) (Nat.le_refl _) (by simp) ?_; (case hd => rfl); (case hg => rfl); (case hr => first | (go_simp; done) | (go_simp; rfl)); (case hp => exact (Reps.c3 (show Kd.M k29 _ _ _ (⟨x7_1, x9_2, false⟩ : S29) [.int .i64 x7_1, .int .i64 x9_2, .bool false] from (k29_mkM _ _ _ (⟨x7_1, x9_2, false⟩ : S29) )) (Reps.c3 (show Kd.M k29 _ _ _ (⟨x7_1, x9_2, true⟩ : S29) [.int .i64 x7_1, .int .i64 x9_2, .bool true] from (k29_mkM _ _ _ (⟨x7_1, x9_2, true⟩ : S29) )) (Reps.none _ _)))); intro v148 w20 ho21 hb hg_ hnew_; clear hg_ hnew_; (first | rw [← Ny147.out] at ho21 | (simp only [Int.reduceToNat] at ho21; rw [← Ny147.out] at ho21)); have n0_ := Za.mk (Kd.S_below HO_4.out hb); have n1_ := Za.mk (Kd.R_elder' HO_6.out (Kd.Xy ho21) hb); have n2_ := Za.mk (Kd.Xm (Kd.Qz ho21 (Kd.R_lt HO_6.out)) (Zm HB.out)); have n3_ := Za.mk (Zq BK135.out hb); have n4_ := Za.mk (Zn HB.out hb); clear HO_4; clear HO_6; clear BK135; clear HB; have HO_4 := n0_; have HO_6 := n1_; have HO149 := n2_; have BK135 := n3_; have HB := n4_; clear n0_ n1_ n2_ n3_ n4_; clear hb ho21; obtain ⟨Ao23, co23, eo23⟩ := Kd.Xi HO149.out; subst eo23) | ((with_reducible refine gate_builtin (b := .append) (xs := #[.tmp 44, .tmp 51]) rfl ?_); at_builtin; refine Kd.R_append_rows k29 (w0 := w) w.heap.size rfl (.tmp 44) (.tmp 51) 39 29 (.agg #[(.int .i64 0), (.int .i64 0), (.bool false)]) 24 rfl Try.underlying39 info29 rfl (by decide) (by omega) u6 x6_2 y147 _ _ _ (fun k_ => some k_ ≠ (.slice Ao23 y147.length co23 : Value).ownBlock) (fun _ => False) rfl rfl ?aO ?aR (fun _ _ h => h) (fun _ h => h.elim) ?aF ?aB ?aS ?aL ?_; (case aR => repeat (first | exact (Kd.Xd HO149.out).2.2 | (with_reducible refine Kd.C_alloc ?_ _) | (with_reducible refine Kd.C_drewN ?_ _) | (with_reducible refine Kd.C_drew ?_))); (case aB => exact HB.out); (case aF => exact (fun k_ hk => Kd.fresh' (Kd.R_lt HO149.out) k_ hk)); (case aO => exact (by (with_reducible repeat (first | apply Kd.R_alloc | apply Kd.Zy | apply Kd.Xg)); exact Kd.Xh HO_6.out (fun _ hk => hk.2))); (case aS => exact (Zm HB.out)); (case aL => have := LMc19.out; omega); intro v151 w22 ho hb hg hat; rw [← Ny150.out] at ho; have n0_ := Za.mk (Kd.S_over' HO_4.out (Kd.R_typed HO_6.out) (by decide) hg); have n1_ := Za.mk (blk_grown BK135.out hg (Kd.R_ne HO_6.out BK135.out (by decide))); have n2_ := Za.mk (Kd.R_after (ok := (fun _ => True)) HO149.out hg hat); have n3_ := Za.mk (hb); have n4_ := Za.mk (ho); clear HO_4; clear BK135; clear HO149; clear HB; clear HO_6; have HO_4 := n0_; have BK135 := n1_; have HO149 := n2_; have HB := n3_; have HO152 := n4_; clear n0_ n1_ n2_ n3_ n4_; clear ho hb hg hat))
             go_roundg k2
             case measure => have := HK1.out; have := HK2.out; omega
             case rel => exact ⟨(y150), (wrap64 (x9_2 + 1)), (by first | rfl | (simp; done) | (simp [*]; done)), H', ⟨by have := HK1.out; have := HK2.out; omega⟩, ⟨HO_4.out⟩, ⟨by (with_reducible repeat (first | apply Kd.R_alloc | apply Kd.Zy | apply Kd.Xg)); exact Kd.Xh HO152.out (fun _ hk => trivial)⟩, ⟨BK135.out⟩, ⟨HB.out⟩⟩
            ·rw [if_neg c19] at H
             exact absurd H (by simp)
           ·rw [if_neg c18] at H
            have c18b0 : decide (1 < ((Kr t136 x7_1).length : Int)) = false := decide_eq_false c18
            have c18b1 : decide (1 < (Kr t136 x7_1).length) = false := decide_eq_false (by omega)
            clear c18
            have H' := Za.mk H
            clear H
            go_wp2
            go_roundg k2
            case measure => have := HK1.out; have := HK2.out; omega
            case rel => exact ⟨(x6_2), (wrap64 (x9_2 + 1)), (by first | rfl | (simp; done) | (simp [*]; done)), H', ⟨by have := HK1.out; have := HK2.out; omega⟩, ⟨HO_4.out⟩, ⟨HO_6.out⟩, ⟨BK135.out⟩, ⟨HB.out⟩⟩
         ·rw [if_neg c11] at H
          have c11b0 : decide (0 < ((Kr t136 x7_1).length : Int)) = false := decide_eq_false c11
          have c11b1 : decide (0 < (Kr t136 x7_1).length) = false := decide_eq_false (by omega)
          clear c11
          have H' := Za.mk H
          clear H
          go_wp2
          go_roundg k2
          case measure => have := HK1.out; have := HK2.out; omega
          case rel => exact ⟨(x6_2), (wrap64 (x9_2 + 1)), (by first | rfl | (simp; done) | (simp [*]; done)), H', ⟨by have := HK1.out; have := HK2.out; omega⟩, ⟨HO_4.out⟩, ⟨HO_6.out⟩, ⟨BK135.out⟩, ⟨HB.out⟩⟩
        ·rw [if_neg c10] at H
         have c10b0 : decide (x9_2 < ((Kr t136 x7_1).length : Int)) = false := decide_eq_false c10
         clear c10
         have H' := Za.mk H
         clear H
         go_wp2
         go_roundg k2
         case measure => have := HK1.out; have := HK2.out; omega
         case rel => exact ⟨(x6_2), (wrap64 (x7_1 + 1)), (by first | rfl | (simp; done) | (simp [*]; done)), H', ⟨by have := HK1.out; have := HK2.out; omega⟩, ⟨HO_4.out⟩, ⟨HO_6.out⟩, ⟨BK135.out⟩, ⟨HB.out⟩⟩
     ·rw [if_neg c8] at H
      exact absurd H (by simp)
    ·rw [if_neg c7] at H
     have c7b0 : decide (x7_1 < (t136.length : Int)) = false := decide_eq_false c7
     clear c7
     simp only [Option.some.injEq, Prod.mk.injEq] at H
     obtain ⟨rfl, rfl⟩ := H
     obtain ⟨Ao24, co24, eo24⟩ := Kd.S_slice HO_4.out
     subst eo24
     go_wp2
     go_ret2
     exact ⟨_, by first | rfl | (simp [errW_none, errW_some] <;> rfl) | (simp [*, errW_none, errW_some] <;> rfl), by (with_reducible repeat (first | apply Kd.R_alloc | apply Kd.Zy | apply Kd.Xg)); exact HO_6.out, HB.out⟩
 ·rw [if_neg c3] at H
  have c3b0 : (t139 == 0) = false := beq_eq_false_iff_ne.mpr c3
  have c3b1 : (t139 != 0) = true := bne_iff_ne.mpr c3
  simp only [Option.some.injEq, Prod.mk.injEq] at H
  obtain ⟨rfl, rfl⟩ := H
  go_enter Try.func14, Try.ntmps14
  go_wp2_with (first | ((with_reducible refine Xl (N := 1) rfl ?_); refine Xr ?hg (N := 1) ?hd (cs := #[.slice A0_0 l0_0.length c0_0, .slice A0_1 l0_1.length c0_1, .slice A0_2 l0_2.length c0_2, .slice A0_3 l0_3.length c0_3, .slice A0_4 l0_4.length c0_4]) (t := 27) ?hr ?_; (case hd => rfl); (case hg => rfl); (case hr => first | (go_simp; done) | (go_simp; rfl)); intro gb135 hg w25 hbox hb; have n0_ := Za.mk (Zn HB.out hb); have n1_ := Za.mk (hbox); have n2_ := Za.mk ((by rw [hg]; exact (Zm HB.out) : w.heap.size ≤ gb135)); have n3_ := n2_; clear HB; have HB := n0_; have BK135 := n1_; have GW135 := n2_; have GE135 := n3_; clear n0_ n1_ n2_ n3_; clear hb hbox hg; have hcz26_0 : w25.cell? ⟨gb135, 0, none⟩ = some (.slice A0_0 l0_0.length c0_0) := (Zc BK135.out 0).trans rfl; have hcz26_1 : w25.cell? ⟨gb135, 1, none⟩ = some (.slice A0_1 l0_1.length c0_1) := (Zc BK135.out 1).trans rfl; have hcz26_2 : w25.cell? ⟨gb135, 2, none⟩ = some (.slice A0_2 l0_2.length c0_2) := (Zc BK135.out 2).trans rfl; have hcz26_3 : w25.cell? ⟨gb135, 3, none⟩ = some (.slice A0_3 l0_3.length c0_3) := (Zc BK135.out 3).trans rfl; have hcz26_4 : w25.cell? ⟨gb135, 4, none⟩ = some (.slice A0_4 l0_4.length c0_4) := (Zc BK135.out 4).trans rfl; have hfz26_0 := Zb BK135.out 0; have hfz26_1 := Zb BK135.out 1; have hfz26_2 := Zb BK135.out 2; have hfz26_3 := Zb BK135.out 3; have hfz26_4 := Zb BK135.out 4) | ((with_reducible refine Xo (f := 27) rfl ?_); refine Qp (some 12) rfl rfl Try.func27 (by kernel_rfl) rfl #[.agg #[.slice A0_0 l0_0.length c0_0, .slice A0_1 l0_1.length c0_1, .slice A0_2 l0_2.length c0_2, .slice A0_3 l0_3.length c0_3, .slice A0_4 l0_4.length c0_4]] rfl (by (try simp only [List.map_toArray, List.map_cons, List.map_nil]); first | done | rfl | (simp only [List.length_drop, List.length_take]; rfl)) ?_; (with_reducible refine (Xj.calls k _ _ l0_0 _ _ l0_1 _ _ l0_2 _ _ l0_3 _ _ l0_4 t136 t139 _ ?side1 ?side2 ?side3 ?side4 ?side5 ?side6 ?side7 ?side8 ?side9 ?side10 A2.out).mono ?_); (case side1 => exact (Kd.Zk HR0_0.out HB.out)); (case side2 => exact HC0_0.out); (case side3 => exact (Kd.Zk HR0_1.out HB.out)); (case side4 => exact HC0_1.out); (case side5 => exact (Kd.Zk HR0_2.out HB.out)); (case side6 => exact HC0_2.out); (case side7 => exact (Kd.Zk HR0_3.out HB.out)); (case side8 => exact HC0_3.out); (case side9 => exact (Kd.Zk HR0_4.out HB.out)); (case side10 => exact HC0_4.out); rintro e w27 ⟨v137, rfl, ho0, hb⟩; refine ⟨_, rfl, ?_⟩; have n0_ := Za.mk (Kd.S_lower ho0 (Zm HB.out)); have n1_ := Za.mk (Zq BK135.out hb); have n2_ := Za.mk (Zn HB.out hb); clear BK135; clear HB; have HO138 := n0_; have BK135 := n1_; have HB := n2_; clear n0_ n1_ n2_; (try clear hb); (try clear hb2); (try clear hk); (try clear hi); (try clear ho0)))
  go_ret2
  exact ⟨_, by first | rfl | (simp [errW_none, errW_some] <;> rfl) | (simp [*, errW_none, errW_some] <;> rfl), by first | exact Kd.R_nil _ _ _ _ _ | exact Kd.N_nil _ _ _ _ _ | exact Kd.V_nil _ _ _ _ _ | exact Kd.Q_nil _ _ _ _ _ | exact Kd.S_nil _ _ _ _ _, HB.out⟩
end Go.Proofs.Ytimjccfpobhpeaa.PF
