/- wave.Append where it comes to the lines. -/
import Derived.Test.YtabhafllkhoefaaAppend
namespace Go.Proofs.Ytabhafllkhoefaa
open Go.RowKit
set_option maxRecDepth 100000

def totN (ls : List Line) : Nat := (ls.map (fun l => l.At.length)).sum
theorem totN_snoc (ls : List Line) (l : Line) : totN (ls ++ [l]) = totN ls + l.At.length := by simp [totN]
theorem wrap64_nat (a b : Nat) (h : a + b ≤ 10000000) : wrap64 ((a : Int) + (b : Int)) = (a : Int) + (b : Int) := by unfold wrap64; omega
theorem behOf_len {x y : Wave} (h : x.Lines.length = y.Lines.length) : (behOf x y).Lines.length = x.Lines.length := by unfold behOf; simp; omega
structure AppLn (l : Line) : Prop where
  len : l.Val.length = l.At.length
  pos : 0 < l.At.length
  few : l.At.length ≤ 20000
  ok : LineOk l
  range : ∀ t ∈ l.At, 0 ≤ t ∧ t ≤ 1099511627776
  vals : ∀ v ∈ l.Val, BitsOk v

set_option maxHeartbeats 2000000 in
theorem append_ok (x y : Wave) (A B : Option Addr) (c d : Nat) (w : World) (F G : Nat → Prop) (he : InK .i64 x.End) (hey : InK .i64 y.End) (h : Rep.Sl kLine w F A c x.Lines) (k : Rep.Sl kLine w G B d y.Lines) (hx : waveFault x = 0) (hy : waveFault y = 0) (hf : all2 lineFits x.Lines y.Lines = true) (hE : ¬ 1099511627776 < x.End + 1 + y.End)
    (hex : 0 ≤ x.End ∧ x.End ≤ 1099511627776) (hye : 0 ≤ y.End ∧ y.End ≤ 1099511627776) (hn : x.Lines.length ≤ 160) (hlx : ∀ l ∈ x.Lines, AppLn l) (hly : ∀ l ∈ y.Lines, AppLn l) :
    Calls Try.prog 26 #[.agg #[.int .i64 x.End, .slice A x.Lines.length c], .agg #[.int .i64 y.End, .slice B y.Lines.length d]] w fun e w' =>
      ((20000 < totN (behOf x y).Lines ∧ e = .returned (.tuple #[.agg #[.int .i64 0, .slice none 0 0], .int .i64 3])) ∨ (¬ 20000 < totN (behOf x y).Lines ∧ ∃ A' c', e = .returned (.tuple #[.agg #[.int .i64 (x.End + 1 + y.End), .slice A' (behOf x y).Lines.length c'], .int .i64 0]) ∧ Rep.Sl kLine w' (fun k => k < w'.heap.size) A' c' (behOf x y).Lines)) ∧ Is w w' := by
  have hu := Try.underlying50
  have hu2 := Try.underlying24
  have hu3 := Try.underlying41
  have hm := h.len
  have hmk := k.len
  have hE0 := hex.1
  have hE1 := hex.2
  have hE2 := hye.1
  have hE3 := hye.2
  have hfh := Lib.hid hf
  have hlen : Hid (x.Lines.length = y.Lines.length) := Lib.hid (all2_len hf)
  clear hf
  have hW : Is w (((w.alloc (.cells #[.int .i64 x.End, .slice A x.Lines.length c] 24)).alloc (.cells #[.int .i64 y.End, .slice B y.Lines.length d] 24)).alloc (.cells #[.int .i64 0, .slice none 0 0] 24)) := (((Is.refl w).alloc _).alloc _).alloc _
  have hB : ∀ z : Under (((w.alloc (.cells #[.int .i64 x.End, .slice A x.Lines.length c] 24)).alloc (.cells #[.int .i64 y.End, .slice B y.Lines.length d] 24)).alloc (.cells #[.int .i64 0, .slice none 0 0] 24)), w.heap.size < z.val.heap.size ∧ w.heap.size + 1 < z.val.heap.size ∧ w.heap.size + 1 + 1 < z.val.heap.size ∧ z.val.heap[w.heap.size + 1 + 1]? = some (.cells #[.int .i64 0, .slice none 0 0] 24 (0, 0)) ∧
      z.val.heap[w.heap.size + 1]? = some (.cells #[.int .i64 y.End, .slice B y.Lines.length d] 24 (0, 0)) ∧ z.val.heap[w.heap.size]? = some (.cells #[.int .i64 x.End, .slice A x.Lines.length c] 24 (0, 0)) := fun z => ⟨z.lt _ (by simp; omega), z.lt _ (by simp), z.lt _ (by simp), (z.ok.block _ (by simp)).trans (heap_alloc3_new w _ _ _), (z.ok.block _ (by simp)).trans (heap_alloc3_at1 w _ _ _), (z.ok.block _ (by simp; omega)).trans ((Below.heap_alloc ((w.alloc _).alloc _) _ _ (by simp; omega)).trans ((Below.heap_alloc (w.alloc _) _ _ (by simp)).trans (heap_alloc_new w _)))⟩
  have hx0 : ∀ W, Is w W → Calls Try.prog 17 #[.agg #[.int .i64 x.End, .slice A x.Lines.length c]] W fun e w' => e = .returned (.int .i64 0) ∧ Is W w' := fun W hW => by
    have := check_calls x A c W F he (h.is hW)
    rw [hx] at this
    exact this
  have hy0 : ∀ W, Is w W → Calls Try.prog 17 #[.agg #[.int .i64 y.End, .slice B y.Lines.length d]] W fun e w' => e = .returned (.int .i64 0) ∧ Is W w' := fun W hW => by
    have := check_calls y B d W G hey (k.is hW)
    rw [hy] at this
    exact this
  clear hx hy
  go_enter Try.func26, Try.ntmps26
  go_wp2_with (first
    | (go_at_call 53; refine (fits_calls x y A B c d _ _ _ (h.is hW2) (k.is hW2)).mono ?_; rw [hfh.out]; rintro e w3 ⟨rfl, ⟨x3, rfl⟩⟩; have hW3 := hW2.step x3; have p7 := x3.lt _ p4; have p8 := x3.lt _ p5; have p9 := x3.lt _ p6)
    | (go_at_call 17; refine (hy0 _ hW1).mono ?_; rintro e w2 ⟨rfl, ⟨x2, rfl⟩⟩; have hW2 := hW1.step x2; have p4 := x2.lt _ p1; have p5 := x2.lt _ p2; have p6 := x2.lt _ p3)
    | (go_at_call 17; refine (hx0 _ hW).mono ?_; rintro e w1 ⟨rfl, ⟨x1, rfl⟩⟩; have hW1 := hW.step x1; obtain ⟨p1, p2, p3, _⟩ := hB x1))
  obtain ⟨g, hg⟩ : ∃ g, x3.val.heap.size = g := ⟨_, rfl⟩
  go_loopg [9, 10, 11, 12, 13, 14, 50] x.Lines.length (fun d' tn _ _ _ _ _ n wr => ∃ (i : Nat) (vL : Value) (z : Under x3.val),
    tn = .int .i64 (totN ((behOf x y).Lines.take i)) ∧ n = .int .i64 i ∧ wr = z.val ∧ WBox z.val g g (x.End + 1 + y.End) ((behOf x y).Lines.take i) vL ∧ Aside (i + d' = x.Lines.length ∧ totN ((behOf x y).Lines.take i) ≤ i * 40000))
  case atStart =>
    refine ⟨0, .slice none 0 0, ⟨_, (Below.refl _ _).alloc (Nat.le_refl _) _⟩, rfl, rfl, rfl, ⟨?_, ⟨fun _ => False, Rep.Own.nil _ _ _ _ _, fun k hk => hk.elim⟩, by simp [Value.ownBlock], Nat.le_refl _⟩, by omega, by simp [totN]⟩
    rw [← hg]
    exact heap_alloc_new _ _
  case round =>
    obtain ⟨i, vL, z, rfl, rfl, rfl, hb, hA⟩ := hrel
    have hWz : Is w z.val := hW3.step z
    obtain ⟨r1, r2, r3, r4, r5, r6⟩ := hB (((x1.trans x2).trans x3).trans z)
    replace r1 : w.heap.size < z.val.heap.size := r1
    replace r2 : w.heap.size + 1 < z.val.heap.size := r2
    replace r3 : w.heap.size + 1 + 1 < z.val.heap.size := r3
    replace r4 : z.val.heap[w.heap.size + 1 + 1]? = _ := r4
    replace r5 : z.val.heap[w.heap.size + 1]? = _ := r5
    replace r6 : z.val.heap[w.heap.size]? = _ := r6
    have hz2 : g < z.val.heap.size := (Array.getElem?_eq_some_iff.1 hb.blk).1
    have y0 := cell_of_row z.val (w.heap.size + 1) 0 _ _ _ r5
    have y1 := cell_of_row z.val (w.heap.size + 1) 1 _ _ _ r5
    have v0 := cell_of_row z.val w.heap.size 0 _ _ _ r6
    have v1 := cell_of_row z.val w.heap.size 1 _ _ _ r6
    simp at y0 y1 v0 v1
    have hr4 := Lib.hid r4
    clear r4 r5 r6
    by_cases hlt : i < x.Lines.length
    · obtain ⟨l, hxl⟩ := get_ex hlt
      obtain ⟨m, hyl⟩ := get_ex (xs := y.Lines) (i := i) (by have := hlen.out; omega)
      obtain ⟨b, o, A2, c2, A3, c3, rfl, hbb, hc0, hc1, hc2, hc3, hk, h2, h3⟩ := Rep.rowLine h.row hxl
      obtain ⟨b', o', B2, d2, B3, d3, rfl, hbb', hd0, hd1, hd2, hd3, hk', k2, k3⟩ := Rep.rowLine k.row hyl
      obtain ⟨gi, rfl⟩ : ∃ m, gk = m + 1 := ⟨gk - 1, by have := hA.out.1; omega⟩
      have hal := hlx l (List.mem_of_getElem? hxl)
      have ham := hly m (List.mem_of_getElem? hyl)
      have hst := Lib.hid hA.out
      have hBL : Hid ((behOf x y).Lines[i]? = some (behLine x.End l m)) := Lib.hid (by unfold behOf; simp [List.getElem?_zipWith, hxl, hyl])
      have hilt : (i : Int) < (y.Lines.length : Int) := by have := hlen.out; omega
      have hm2 := h2.len
      have hm3 := h3.len
      have hmk2 := k2.len
      have hmk3 := k3.len
      clear hA hxl hyl
      replace hc0 := (hWz.below.cell (p := ⟨b, o + i * 4, none⟩) hbb).trans hc0
      replace hc1 := (hWz.below.cell (p := ⟨b, o + i * 4 + 1, none⟩) hbb).trans hc1
      replace hc2 := (hWz.below.cell (p := ⟨b, o + i * 4 + 2, none⟩) hbb).trans hc2
      replace hc3 := (hWz.below.cell (p := ⟨b, o + i * 4 + 3, none⟩) hbb).trans hc3
      have hbz : b < z.val.heap.size := by omega
      have hbzn : b ≠ z.val.heap.size := by omega
      have hWL : ∀ o', Is w (z.val.alloc o') := fun o' => hWz.alloc o'
      have n1 : w.heap.size ≠ z.val.heap.size := by omega
      have n2 : w.heap.size + 1 ≠ z.val.heap.size := by omega
      rw [hg]
      go_upto_region 16 with (fail)
      go_cut [12] (fun s wc => ∃ (gm : Nat) (vA vV : Value) (q : Under (z.val.alloc (.cells #[.string l.Name, .int .i64 l.W, .slice A2 l.At.length c2, .slice A3 l.Val.length c3] 50))), s = .pointer (some ⟨gm, 0, none⟩) ∧ wc = q.val ∧ LBox q.val (z.val.heap.size + 1) gm l.Name l.W l.At l.Val vA vV)
      case first =>
        refine wp_region_splitL (fun w' => ∃ z' : Under (z.val.alloc (.cells #[.string l.Name, .int .i64 l.W, .slice A2 l.At.length c2, .slice A3 l.Val.length c3] 50)), w' = z'.val) [false, false, false, false, false, false, false, false, false, false, false, false, false] [true, true, true, true, true, true, false, true, true, false, false, false, false] [] 5 #[true, true, true, true, true, true, false, true, true, false, false, false, false] (by kernel_rfl) (by kernel_rfl) (by decide) ⟨(Under.refl _).drew, rfl⟩ (fun _ _ d _ _ h => by cases d <;> exact h) ?_
        simp only [pickB]
        refine wpQuiet_nil ?_
        repeat (go_big_quiet_step (fail))
        refine wpQuiet_nil ?_
--LEAVES
        refine anyL_two (i := 6) (j := 11) #[true, true, true, true, true, true, true, true, true, false, false, false, false] #[true, true, true, true, true, true, false, true, true, false, false, true, false] (by kernel_rfl) rfl rfl (by decide) (by decide) (fun Q' hQ' => ?_) (fun Q' hQ' => ?_)
        · go_wp2_with (go_at_call 61; refine (cloneInts_calls A2 c2 l.At _ F (h2.is ((hWL _).drew)) hal.pos (by have := hal.few; omega)).mono ?_; rintro e w6 ⟨vA, rfl, hoA, ⟨x6, rfl⟩⟩)
          refine ⟨(by first | exact .inr ⟨(Under.refl _).drew.trans x6, rfl⟩ | exact ⟨(Under.refl _).drew.trans x6, rfl⟩), ?_⟩
          refine anyL_two (i := 9) (j := 11) #[true, true, true, true, true, true, true, true, true, true, false, false, false] #[true, true, true, true, true, true, true, true, true, false, false, true, false] (by kernel_rfl) rfl rfl (by decide) (by decide) (fun Q' hQ' => ?_) (fun Q' hQ' => ?_)
          · go_wp2_with (go_at_call 62; refine (cloneBits_calls A3 c3 l.Val _ F (h3.is (((hWL _).drew).step x6)) (by rw [hal.len]; exact hal.pos) (by have := hal.few; have := hal.len; omega)).mono ?_; rintro e w9 ⟨vV, rfl, hoV, ⟨x9, rfl⟩⟩)
            refine ⟨(by first | exact .inr ⟨((Under.refl _).drew.trans x6).trans x9, rfl⟩ | exact ⟨((Under.refl _).drew.trans x6).trans x9, rfl⟩), ?_⟩
            have sV : z.val.heap.size + 1 ≤ x6.val.heap.size := by have := x6.size; simp at this; omega
            have s9 := x9.size
            have la := fun k hk => (hoA.lt k hk)
            have lv := fun k hk => (hoV.lt k hk)
            have a1 : vA.ownBlock ≠ some x9.val.heap.size := fun e => by have := (la _ e).2; omega
            have a2 : vV.ownBlock ≠ some x9.val.heap.size := fun e => by have := (lv _ e).2; omega
            have a3 : ∀ k, vA.ownBlock = some k → vV.ownBlock ≠ some k := fun k h1 h2 => by have := (la k h1).2; have := (lv k h2).1; omega
            replace hoA : Rep.Own (Rep.int .i64) 3 (x9.val) (z.val.heap.size + 1) NoB vA l.At := ((hoA.lower (by simp)).below x9.ok)
            replace hoV : Rep.Own kBits 41 (x9.val) (z.val.heap.size + 1) NoB vV l.Val := (hoV.lower sV)
            clear la lv
            obtain ⟨A7, e7, rfl, hs7⟩ := hoA.sl
            obtain ⟨A8, e8, rfl, hs8⟩ := hoV.sl
            refine anyL_take (i := 10) #[true, true, true, true, true, true, true, true, true, true, true, false, false] (by kernel_rfl) rfl (by decide) ⟨((Under.refl _).drew.trans x6).trans x9, rfl⟩ (fun _ _ d _ _ h => by cases d <;> exact h) ?_
            repeat (go_big_quiet_step (fail))
            refine wpQuiet_nil ?_
            refine anyL_one (i := 11) #[true, true, true, true, true, true, true, true, true, true, true, true, false] (by kernel_rfl) rfl (by decide) (fun Q' hQ' => ?_)
            go_wp2_with fail
            refine ⟨(by first | exact .inr ⟨(((Under.refl _).drew.trans x6).trans x9).alloc _, rfl⟩ | exact ⟨(((Under.refl _).drew.trans x6).trans x9).alloc _, rfl⟩), ?_⟩
            refine anyL_one (i := 12) #[true, true, true, true, true, true, true, true, true, true, true, true, true] (by kernel_rfl) rfl (by decide) (fun Q' hQ' => ?_)
            go_wp2
            have hI2 : Is (z.val.alloc (.cells #[.string l.Name, .int .i64 l.W, .slice A2 l.At.length c2, .slice A3 l.Val.length c3] 50)) (x9.val.alloc (.cells #[.string l.Name, .int .i64 l.W, .slice A7 l.At.length e7, .slice A8 l.Val.length e8] 50)) := ⟨(((Under.refl _).drew.trans x6).trans x9).alloc _, rfl⟩
            obtain ⟨q, hq⟩ := hI2
            have hbox : LBox q.val (z.val.heap.size + 1) x9.val.heap.size l.Name l.W l.At l.Val (.slice A7 l.At.length e7) (.slice A8 l.Val.length e8) := by
              rw [← hq]
              exact ⟨heap_alloc_new _ _, hoA.step (fun k _ hl => Below.heap_alloc x9.val _ k hl), hoV.step (fun k _ hl => Below.heap_alloc x9.val _ k hl), a1, a2, a3, by omega⟩
            refine ⟨(by first | exact .inr ⟨q, hq⟩ | exact ⟨q, hq⟩), ?_⟩
            refine anyL_end (by kernel_rfl) ?_
            rw [hq]
            go_wp2
            go_meet
            case rel => exact ⟨x9.val.heap.size, _, _, q, rfl, rfl, hbox⟩
          · go_wp2_with fail
            refine ⟨(by first | exact .inr ⟨((Under.refl _).drew.trans x6).alloc _, rfl⟩ | exact ⟨((Under.refl _).drew.trans x6).alloc _, rfl⟩), ?_⟩
            refine anyL_one (i := 9) #[true, true, true, true, true, true, true, true, true, true, false, true, false] (by kernel_rfl) rfl (by decide) (fun Q' hQ' => ?_)
            go_wp2_with (go_at_call 62; refine (cloneBits_calls A3 c3 l.Val _ F (h3.is ((((hWL _).drew).step x6).alloc _)) (by rw [hal.len]; exact hal.pos) (by have := hal.few; have := hal.len; omega)).mono ?_; rintro e w9 ⟨vV, rfl, hoV, ⟨x9, rfl⟩⟩)
            refine ⟨(by first | exact .inr ⟨(((Under.refl _).drew.trans x6).alloc _).trans x9, rfl⟩ | exact ⟨(((Under.refl _).drew.trans x6).alloc _).trans x9, rfl⟩), ?_⟩
            have hIsV : Is (z.val.alloc (.cells #[.string l.Name, .int .i64 l.W, .slice A2 l.At.length c2, .slice A3 l.Val.length c3] 50)) (x9.val) := ⟨(((Under.refl _).drew.trans x6).alloc _).trans x9, rfl⟩
            have sV : z.val.heap.size + 1 ≤ x6.val.heap.size := by have := x6.size; simp at this; omega
            have s9 : x6.val.heap.size + 1 ≤ x9.val.heap.size := by have := x9.size; simp at this; omega
            have hgm : x9.val.heap[x6.val.heap.size]? = some (.cells #[.string ⟨#[]⟩, .int .i64 0, .slice none 0 0, .slice none 0 0] 50 (0, 0)) := (x9.ok.block _ (by simp)).trans (heap_alloc_new _ _)
            have la := fun k hk => (hoA.lt k hk)
            have lv : ∀ k, vV.ownBlock = some k → x6.val.heap.size + 1 ≤ k := fun k hk => by have := (hoV.lt k hk).1; simp at this; omega
            have a1 : vA.ownBlock ≠ some x6.val.heap.size := fun e => by have := (la _ e).2; omega
            have a2 : vV.ownBlock ≠ some x6.val.heap.size := fun e => by have := lv _ e; omega
            have a3 : ∀ k, vA.ownBlock = some k → vV.ownBlock ≠ some k := fun k h1 h2 => by have := (la k h1).2; have := lv k h2; omega
            replace hoA : Rep.Own (Rep.int .i64) 3 x9.val (z.val.heap.size + 1) NoB vA l.At := ((hoA.lower (by simp)).below ((Is.refl _).alloc _).below).below x9.ok
            replace hoV : Rep.Own kBits 41 x9.val (z.val.heap.size + 1) NoB vV l.Val := hoV.lower (by simp; omega)
            clear la lv
            obtain ⟨A7, e7, rfl, hs7⟩ := hoA.sl
            obtain ⟨A8, e8, rfl, hs8⟩ := hoV.sl
            have hfz : ∀ j, (x9.val).frozen? ⟨x6.val.heap.size, j, none⟩ = false := fun j => frozen_of_row _ _ _ _ _ hgm
            have m0 := cell_of_row (x9.val) x6.val.heap.size 0 _ _ _ hgm
            have m1 := cell_of_row (x9.val) x6.val.heap.size 1 _ _ _ hgm
            have m2 := cell_of_row (x9.val) x6.val.heap.size 2 _ _ _ hgm
            have m3 := cell_of_row (x9.val) x6.val.heap.size 3 _ _ _ hgm
            simp at m0 m1 m2 m3
            have hgl : x6.val.heap.size < (x9.val).heap.size := (Array.getElem?_eq_some_iff.1 hgm).1
            have hgmh := Lib.hid hgm
            clear hgm
            refine anyL_take (i := 10) #[true, true, true, true, true, true, true, true, true, true, true, true, false] (by kernel_rfl) rfl (by decide) ⟨(((Under.refl _).drew.trans x6).alloc _).trans x9, rfl⟩ (fun _ _ d _ _ h => by cases d <;> exact h) ?_
            repeat (go_big_quiet_step (fail))
            refine wpQuiet_nil ?_
            refine anyL_one (i := 12) #[true, true, true, true, true, true, true, true, true, true, true, true, true] (by kernel_rfl) rfl (by decide) (fun Q' hQ' => ?_)
            go_wp2
            have hI2 : Is (z.val.alloc (.cells #[.string l.Name, .int .i64 l.W, .slice A2 l.At.length c2, .slice A3 l.Val.length c3] 50)) ((((x9.val).setCell ⟨x6.val.heap.size, 0, none⟩ (.string l.Name)).setCell ⟨x6.val.heap.size, 1, none⟩ (.int .i64 l.W)).setCell ⟨x6.val.heap.size, 2, none⟩ (.slice A7 l.At.length e7) |>.setCell ⟨x6.val.heap.size, 3, none⟩ (.slice A8 l.Val.length e8)) := (((hIsV.setCell (by show _ ≤ x6.val.heap.size; simp <;> omega) _).setCell (by show _ ≤ x6.val.heap.size; simp <;> omega) _).setCell (by show _ ≤ x6.val.heap.size; simp <;> omega) _).setCell (by show _ ≤ x6.val.heap.size; simp <;> omega) _
            obtain ⟨q, hq⟩ := hI2
            have hrow := setCell4_heap (x9.val) x6.val.heap.size _ _ _ _ (.string l.Name) (.int .i64 l.W) (.slice A7 l.At.length e7) (.slice A8 l.Val.length e8) hgmh.out
            have ro : ∀ k, k ≠ x6.val.heap.size → ((((x9.val).setCell ⟨x6.val.heap.size, 0, none⟩ (.string l.Name)).setCell ⟨x6.val.heap.size, 1, none⟩ (.int .i64 l.W)).setCell ⟨x6.val.heap.size, 2, none⟩ (.slice A7 l.At.length e7) |>.setCell ⟨x6.val.heap.size, 3, none⟩ (.slice A8 l.Val.length e8)).heap[k]? = (x9.val).heap[k]? := fun k hk => (Below.heap_setCell _ ⟨x6.val.heap.size, 3, none⟩ _ k hk).trans ((Below.heap_setCell _ ⟨x6.val.heap.size, 2, none⟩ _ k hk).trans ((Below.heap_setCell _ ⟨x6.val.heap.size, 1, none⟩ _ k hk).trans (Below.heap_setCell _ ⟨x6.val.heap.size, 0, none⟩ _ k hk)))
            have hbox : LBox q.val (z.val.heap.size + 1) x6.val.heap.size l.Name l.W l.At l.Val (.slice A7 l.At.length e7) (.slice A8 l.Val.length e8) := by
              rw [← hq]
              exact ⟨hrow, hoA.step (fun k hk _ => ro k (fun e => a1 (e ▸ hk.elim (fun h => h.elim) id))), hoV.step (fun k hk _ => ro k (fun e => a2 (e ▸ hk.elim (fun h => h.elim) id))), a1, a2, a3, by omega⟩
            refine ⟨(by first | exact .inr ⟨q, hq⟩ | exact ⟨q, hq⟩), ?_⟩
            refine anyL_end (by kernel_rfl) ?_
            rw [hq]
            go_wp2
            go_meet
            case rel => exact ⟨x6.val.heap.size, _, _, q, rfl, rfl, hbox⟩
        · go_wp2_with fail
          refine ⟨(by first | exact .inr ⟨((Under.refl _).alloc _).drew, rfl⟩ | exact ⟨((Under.refl _).alloc _).drew, rfl⟩), ?_⟩
          refine anyL_one (i := 6) #[true, true, true, true, true, true, true, true, true, false, false, true, false] (by kernel_rfl) rfl (by decide) (fun Q' hQ' => ?_)
          go_wp2_with (go_at_call 61; refine (cloneInts_calls A2 c2 l.At _ F (h2.is (((hWL _).alloc _).drew)) hal.pos (by have := hal.few; omega)).mono ?_; rintro e w6 ⟨vA, rfl, hoA, ⟨x6, rfl⟩⟩)
          refine ⟨(by first | exact .inr ⟨((Under.refl _).alloc _).drew.trans x6, rfl⟩ | exact ⟨((Under.refl _).alloc _).drew.trans x6, rfl⟩), ?_⟩
          refine anyL_one (i := 9) #[true, true, true, true, true, true, true, true, true, true, false, true, false] (by kernel_rfl) rfl (by decide) (fun Q' hQ' => ?_)
          go_wp2_with (go_at_call 62; refine (cloneBits_calls A3 c3 l.Val _ F (h3.is ((((hWL _).alloc _).drew).step x6)) (by rw [hal.len]; exact hal.pos) (by have := hal.few; have := hal.len; omega)).mono ?_; rintro e w9 ⟨vV, rfl, hoV, ⟨x9, rfl⟩⟩)
          refine ⟨(by first | exact .inr ⟨(((Under.refl _).alloc _).drew.trans x6).trans x9, rfl⟩ | exact ⟨(((Under.refl _).alloc _).drew.trans x6).trans x9, rfl⟩), ?_⟩
          have hIsV : Is (z.val.alloc (.cells #[.string l.Name, .int .i64 l.W, .slice A2 l.At.length c2, .slice A3 l.Val.length c3] 50)) (x9.val) := ⟨(((Under.refl _).alloc _).drew.trans x6).trans x9, rfl⟩
          have sV : z.val.heap.size + 1 + 1 ≤ x6.val.heap.size := by have := x6.size; simp at this; omega
          have s9 := x9.size
          have hgm : x9.val.heap[z.val.heap.size + 1]? = some (.cells #[.string ⟨#[]⟩, .int .i64 0, .slice none 0 0, .slice none 0 0] 50 (0, 0)) := (x9.ok.block _ (by omega)).trans ((x6.ok.block _ (by simp)).trans (heap_alloc2_new _ _ _))
          have la : ∀ k, vA.ownBlock = some k → z.val.heap.size + 1 + 1 ≤ k ∧ k < x6.val.heap.size := fun k hk => by have h9 := hoA.lt k hk; simp at h9; omega
          have lv := fun k hk => (hoV.lt k hk)
          have a1 : vA.ownBlock ≠ some (z.val.heap.size + 1) := fun e => by have := (la _ e).1; omega
          have a2 : vV.ownBlock ≠ some (z.val.heap.size + 1) := fun e => by have := (lv _ e).1; omega
          have a3 : ∀ k, vA.ownBlock = some k → vV.ownBlock ≠ some k := fun k h1 h2 => by have := (la k h1).2; have := (lv k h2).1; omega
          replace hoA : Rep.Own (Rep.int .i64) 3 x9.val (z.val.heap.size + 1) NoB vA l.At := (hoA.lower (by simp)).below x9.ok
          replace hoV : Rep.Own kBits 41 x9.val (z.val.heap.size + 1) NoB vV l.Val := hoV.lower (by omega)
          clear la lv
          obtain ⟨A7, e7, rfl, hs7⟩ := hoA.sl
          obtain ⟨A8, e8, rfl, hs8⟩ := hoV.sl
          have hfz : ∀ j, (x9.val).frozen? ⟨(z.val.heap.size + 1), j, none⟩ = false := fun j => frozen_of_row _ _ _ _ _ hgm
          have m0 := cell_of_row (x9.val) (z.val.heap.size + 1) 0 _ _ _ hgm
          have m1 := cell_of_row (x9.val) (z.val.heap.size + 1) 1 _ _ _ hgm
          have m2 := cell_of_row (x9.val) (z.val.heap.size + 1) 2 _ _ _ hgm
          have m3 := cell_of_row (x9.val) (z.val.heap.size + 1) 3 _ _ _ hgm
          simp at m0 m1 m2 m3
          have hgl : (z.val.heap.size + 1) < (x9.val).heap.size := (Array.getElem?_eq_some_iff.1 hgm).1
          have hgmh := Lib.hid hgm
          clear hgm
          refine anyL_take (i := 10) #[true, true, true, true, true, true, true, true, true, true, true, true, false] (by kernel_rfl) rfl (by decide) ⟨(((Under.refl _).alloc _).drew.trans x6).trans x9, rfl⟩ (fun _ _ d _ _ h => by cases d <;> exact h) ?_
          repeat (go_big_quiet_step (fail))
          refine wpQuiet_nil ?_
          refine anyL_one (i := 12) #[true, true, true, true, true, true, true, true, true, true, true, true, true] (by kernel_rfl) rfl (by decide) (fun Q' hQ' => ?_)
          go_wp2
          have hI2 : Is (z.val.alloc (.cells #[.string l.Name, .int .i64 l.W, .slice A2 l.At.length c2, .slice A3 l.Val.length c3] 50)) ((((x9.val).setCell ⟨(z.val.heap.size + 1), 0, none⟩ (.string l.Name)).setCell ⟨(z.val.heap.size + 1), 1, none⟩ (.int .i64 l.W)).setCell ⟨(z.val.heap.size + 1), 2, none⟩ (.slice A7 l.At.length e7) |>.setCell ⟨(z.val.heap.size + 1), 3, none⟩ (.slice A8 l.Val.length e8)) := (((hIsV.setCell (by show _ ≤ (z.val.heap.size + 1); simp <;> omega) _).setCell (by show _ ≤ (z.val.heap.size + 1); simp <;> omega) _).setCell (by show _ ≤ (z.val.heap.size + 1); simp <;> omega) _).setCell (by show _ ≤ (z.val.heap.size + 1); simp <;> omega) _
          obtain ⟨q, hq⟩ := hI2
          have hrow := setCell4_heap (x9.val) (z.val.heap.size + 1) _ _ _ _ (.string l.Name) (.int .i64 l.W) (.slice A7 l.At.length e7) (.slice A8 l.Val.length e8) hgmh.out
          have ro : ∀ k, k ≠ (z.val.heap.size + 1) → ((((x9.val).setCell ⟨(z.val.heap.size + 1), 0, none⟩ (.string l.Name)).setCell ⟨(z.val.heap.size + 1), 1, none⟩ (.int .i64 l.W)).setCell ⟨(z.val.heap.size + 1), 2, none⟩ (.slice A7 l.At.length e7) |>.setCell ⟨(z.val.heap.size + 1), 3, none⟩ (.slice A8 l.Val.length e8)).heap[k]? = (x9.val).heap[k]? := fun k hk => (Below.heap_setCell _ ⟨(z.val.heap.size + 1), 3, none⟩ _ k hk).trans ((Below.heap_setCell _ ⟨(z.val.heap.size + 1), 2, none⟩ _ k hk).trans ((Below.heap_setCell _ ⟨(z.val.heap.size + 1), 1, none⟩ _ k hk).trans (Below.heap_setCell _ ⟨(z.val.heap.size + 1), 0, none⟩ _ k hk)))
          have hbox : LBox q.val (z.val.heap.size + 1) (z.val.heap.size + 1) l.Name l.W l.At l.Val (.slice A7 l.At.length e7) (.slice A8 l.Val.length e8) := by
            rw [← hq]
            exact ⟨hrow, hoA.step (fun k hk _ => ro k (fun e => a1 (e ▸ hk.elim (fun h => h.elim) id))), hoV.step (fun k hk _ => ro k (fun e => a2 (e ▸ hk.elim (fun h => h.elim) id))), a1, a2, a3, by omega⟩
          refine ⟨(by first | exact .inr ⟨q, hq⟩ | exact ⟨q, hq⟩), ?_⟩
          refine anyL_end (by kernel_rfl) ?_
          rw [hq]
          go_wp2
          go_meet
          case rel => exact ⟨(z.val.heap.size + 1), _, _, q, rfl, rfl, hbox⟩
--END
      case rest =>
        obtain ⟨gm, vA0, vV0, q, rfl, rfl, hL0⟩ := hcut
        have hWq : Is w q.val := (hWL _).step q
        have hzq : Is z.val q.val := ((Is.refl z.val).alloc _).step q
        have u1 := (hzq.below.cell (p := ⟨w.heap.size + 1, 1, none⟩) r2).trans y1
        have u2 := (hWq.below.cell (p := ⟨b', o' + i * 4 + 2, none⟩) hbb').trans hd2
        have hq1 : w.heap.size + 1 < q.val.heap.size := by have := q.size; simp at this; omega
        have hbq : b' < q.val.heap.size := by omega
        go_wp2
        go_loopg [13, 14, 73] m.At.length (fun d' _ _ n wr => ∃ (j : Nat) (ats : List Int) (vals : List Bits) (vA vV : Value) (v : Under (z.val.alloc (.cells #[.string l.Name, .int .i64 l.W, .slice A2 l.At.length c2, .slice A3 l.Val.length c3] 50))),
          n = .int .i64 j ∧ wr = v.val ∧ LBox v.val (z.val.heap.size + 1) gm l.Name l.W ats vals vA vV ∧
          Aside (j + d' = m.At.length ∧ merge ats vals (backT x.End (m.At.drop j)) (m.Val.drop j) = merge l.At l.Val (backT x.End m.At) m.Val ∧ ats.length ≤ 20000 + j ∧ vals.length ≤ 20000 + j))
        case atStart => exact ⟨0, l.At, l.Val, vA0, vV0, q, rfl, rfl, hL0, by omega, rfl, by have := hal.few; omega, by have := hal.few; have := hal.len; omega⟩
        case round =>
          obtain ⟨j, ats, vals, vA, vV, v, rfl, rfl, hL, hA⟩ := hrel
          clear u1 u2 hL0
          have hWv : Is w v.val := (hWL _).step v
          have hzv : Is z.val v.val := ((Is.refl z.val).alloc _).step v
          have sv : z.val.heap.size < v.val.heap.size := v.lt _ (by simp)
          have e0 := (hzv.below.cell (p := ⟨w.heap.size, 0, none⟩) r1).trans v0
          have e1 := (hzv.below.cell (p := ⟨w.heap.size + 1, 1, none⟩) r2).trans y1
          have e3 := (hWv.below.cell (p := ⟨b', o' + i * 4 + 3, none⟩) hbb').trans hd3
          have hv0 : w.heap.size < v.val.heap.size := by omega
          have hv1 : w.heap.size + 1 < v.val.heap.size := by omega
          have hbv : b' < v.val.heap.size := by omega
          have hgv : gm < v.val.heap.size := (Array.getElem?_eq_some_iff.1 hL.blk).1
          by_cases hlj : j < m.At.length
          · obtain ⟨t, hta⟩ := get_ex hlj
            obtain ⟨u, hua⟩ := get_ex (xs := m.Val) (i := j) (by have := ham.len; omega)
            have hr := ham.range t (List.mem_of_getElem? hta)
            have hr0 := hr.1
            have hr1' := hr.2
            obtain ⟨b2, o2, rfl, hb2, hct, hkt⟩ := Rep.rowInt k2.row hta
            obtain ⟨b3, o3, rfl, hb3, hu0, hu1, hu2, hku⟩ := Rep.rowBits k3.row hua
            replace hct := (hWv.below.cell (p := ⟨b2, o2 + j, none⟩) hb2).trans hct
            replace hu0 := (hWv.below.cell (p := ⟨b3, o3 + j * 3, none⟩) hb3).trans hu0
            replace hu1 := (hWv.below.cell (p := ⟨b3, o3 + j * 3 + 1, none⟩) hb3).trans hu1
            replace hu2 := (hWv.below.cell (p := ⟨b3, o3 + j * 3 + 2, none⟩) hb3).trans hu2
            have hb2v : b2 < v.val.heap.size := by omega
            have hb3v : b3 < v.val.heap.size := by omega
            have hjv : (j : Int) < (m.Val.length : Int) := by have := ham.len; omega
            obtain ⟨gk, rfl⟩ : ∃ m, gk = m + 1 := ⟨gk - 1, by have := hA.out.1; omega⟩
            have hstj := Lib.hid hA.out
            have hta2 := Lib.hid hta
            have hua2 := Lib.hid hua
            have hlA : ats.length ≤ 1000000 := by have := hA.out.2.2.1; have := ham.few; omega
            have hlV : vals.length ≤ 1000000 := by have := hA.out.2.2.2; have := ham.few; omega
            clear hA hta hua hr
            go_wp2
            refine wp_region_splitL (fun w' => ∃ z' : Under v.val, w' = z'.val) [false, false, false, false, false, false, false, false, false, false, false, false, false, false, false] [true, true, true, true, true, true, true, true, true, true, true, true, true, true, false] [14] 1 #[true, true, true, true, true, true, true, true, true, true, true, true, true, true, false] (by kernel_rfl) (by kernel_rfl) (by decide) ⟨(Under.refl _).drew, rfl⟩ (fun _ _ d _ _ h => by cases d <;> exact h) ?_
            simp only [pickB]
            refine wpQuiet_nil ?_
            repeat (go_big_quiet_step (fail))
            refine wpQuiet_nil ?_
            refine anyL_one (i := 14) #[true, true, true, true, true, true, true, true, true, true, true, true, true, true, true] (by kernel_rfl) rfl (by decide) (fun Q' hQ' => ?_)
            have hLd := hL.step (Is.refl v.val).drew.below
            go_wp2_with (go_at_call 59; refine (add_calls (z.val.heap.size + 1) gm l.Name l.W ats vals vA vV (x.End + 1 + t) u _ hLd (InK.mk64 (by omega)) hku hlA hlV (by simp; omega)).mono ?_; rintro e w8 ⟨rfl, vA8, vV8, hL8, ⟨z8, rfl⟩⟩)
            have hzL8 := z8.is ((Is.val v).drew) (fun k hk => by simp; omega)
            refine ⟨.inl (by decide), ?_⟩
            refine anyL_end (by kernel_rfl) ?_
            go_wp2
            go_roundg gk
            case measure => omega
            case rel =>
              obtain ⟨q', hq'⟩ := hzL8
              refine ⟨j + 1, _, _, _, _, q', by go_num, hq', hq' ▸ hL8, ?_⟩
              have h0 := hstj.out
              have l1 := addAt_len ats vals (x.End + 1 + t) u
              have l2 := addVal_len vals u
              refine ⟨by omega, ?_, by omega, by omega⟩
              rw [← h0.2.1, drop_cons hta2.out, drop_cons hua2.out]
              rfl
          · obtain rfl : j = m.At.length := by have := hA.out.1; omega
            have e9 : (ats, vals) = merge l.At l.Val (backT x.End m.At) m.Val := by
              have h9 := hA.out.2.1
              rw [drop_end, show backT x.End [] = [] from rfl, merge] at h9
              exact h9
            have hatsE : ats = (behLine x.End l m).At := congrArg Prod.fst e9
            have hvalsE : vals = (behLine x.End l m).Val := congrArg Prod.snd e9
            have hlA : (behLine x.End l m).At.length ≤ 40000 := by rw [← hatsE]; have := hA.out.2.2.1; have := ham.few; omega
            clear hA e9
            obtain ⟨oL, hoL⟩ : ∃ oL, vL.ownBlock = oL := ⟨_, rfl⟩
            obtain ⟨FL, hOwn, hFL⟩ := hb.own
            have ll : ∀ k, oL = some k → g ≤ k ∧ k < z.val.heap.size := fun k hk => hOwn.lt k (hoL.trans hk)
            have hby := hb.step hzv.below
            have b0 := cell_of_row v.val g 0 _ _ _ hby.blk
            have b1 := cell_of_row v.val g 1 _ _ _ hby.blk
            simp at b0 b1
            have hgy : g < v.val.heap.size := by omega
            have hA8 : Rep.Own (Rep.int .i64) 3 v.val (z.val.heap.size + 1) NoB vA (behLine x.End l m).At := hatsE ▸ hL.own1
            have hV8 : Rep.Own kBits 41 v.val (z.val.heap.size + 1) NoB vV (behLine x.End l m).Val := hvalsE ▸ hL.own2
            obtain ⟨FN, A2', c2', A3', c3', rfl, rfl, hOwnF, hrel, hFN⟩ := hby.push hA8 hV8 hk (fun k hk => by have := ll k (hoL ▸ hk); omega) (by omega)
            have f0 := cell_of_row v.val gm 0 _ _ _ hL.blk
            have f1 := cell_of_row v.val gm 1 _ _ _ hL.blk
            have f2 := cell_of_row v.val gm 2 _ _ _ hL.blk
            have f3 := cell_of_row v.val gm 3 _ _ _ hL.blk
            simp at f0 f1 f2 f3
            have hbll := behOf_len hlen.out
            have hlenL : ((behOf x y).Lines.take i).length = i := by rw [List.length_take, hbll, Nat.min_eq_left (Nat.le_of_lt hlt)]
            have htot := hst.out.2
            have hin : i < 160 := by omega
            have hwt := wrap64_nat (totN ((behOf x y).Lines.take i)) (behLine x.End l m).At.length (by omega)
            have hbyh := Lib.hid hby
            have hinh := Lib.hid hin
            have htoth := Lib.hid htot
            have hbllh := Lib.hid hbll
            clear hby hatsE hvalsE htot hin hbll
            go_wp2_with (at_builtin; refine wpList_one rfl (.tmp 100) (.tmp 102) rfl linesT (w0 := v.val) (c := [.string l.Name, .int .i64 l.W, .slice A2' (behLine x.End l m).At.length c2', .slice A3' (behLine x.End l m).Val.length c3']) (te := 50) rfl rfl hOwnF (y := behLine x.End l m) hrel (fun k hk => (hFN k hk).2.1) (le_maxLen (by rw [hlenL]; have := hinh.out; omega)) (by rw [hlenL]; have := hinh.out; omega) (by omega) ?_; intro v' w10 ho10 hg10; obtain ⟨hblk10, hW10⟩ := hbyh.out.done ho10 hg10 hFN; have hIs : Is x3.val (w10.setCell ⟨g, 1, none⟩ v') := (((Is.val z).trans hzv).grown hg10.by_ (fun k hk => by have := ll k (hoL ▸ hk); omega)).setCell (by show _ ≤ g; omega) _; obtain ⟨A10, c10, rfl, hs10⟩ := ho10.sl; have k1 := cell_of_row w10 g 1 _ _ _ hblk10; simp at k1; have hfz : ∀ j, w10.frozen? ⟨g, j, none⟩ = false := fun j => frozen_of_row _ _ _ _ _ hblk10; have hg10l : g < w10.heap.size := (Array.getElem?_eq_some_iff.1 hblk10).1)
            clear hwt
            have hlist : (behOf x y).Lines.take i ++ [behLine x.End l m] = (behOf x y).Lines.take (i + 1) := by rw [List.take_add_one, hBL.out]; rfl
            have hlen10 : ((behOf x y).Lines.take i ++ [behLine x.End l m]).length = i + 1 := by rw [List.length_append, hlenL]; rfl
            have htotE : totN ((behOf x y).Lines.take (i + 1)) = totN ((behOf x y).Lines.take i) + (behLine x.End l m).At.length := by rw [← hlist, totN_snoc]
            rw [hlen10] at hW10 hIs
            rw [hlist] at hW10
            rw [← hg]
            go_roundg gi
            case measure => omega
            case rel =>
              obtain ⟨q', hq'⟩ := hIs
              have hW11 : WBox q'.val g g (x.End + 1 + y.End) ((behOf x y).Lines.take (i + 1)) (.slice A10 (i + 1) c10) := by rw [← hq']; exact hW10
              refine ⟨i + 1, .slice A10 (i + 1) c10, q', ?_, by go_num, ?_, hW11, ?_⟩
              · rw [htotE, Int.natCast_add]
              · rw [← hq', hg]
              · have h0 := hst.out
                have h1 := htoth.out
                refine ⟨by omega, by rw [htotE]; omega⟩
    · obtain rfl : i = x.Lines.length := by have := hA.out.1; omega
      have hbll := behOf_len hlen.out
      have hA2 := hA.out.2
      have hT : (behOf x y).Lines.take x.Lines.length = (behOf x y).Lines := List.take_of_length_le (by rw [hbll]; exact Nat.le_refl _)
      rw [hT] at hb hA2
      rw [hT]
      have hrr := hr4.out
      have hfz : ∀ j, z.val.frozen? ⟨w.heap.size + 1 + 1, j, none⟩ = false := fun j => frozen_of_row _ _ _ _ _ hrr
      have w0 := cell_of_row z.val (w.heap.size + 1 + 1) 0 _ _ _ hrr
      have w1 := cell_of_row z.val (w.heap.size + 1 + 1) 1 _ _ _ hrr
      have b0 := cell_of_row z.val g 0 _ _ _ hb.blk
      have b1 := cell_of_row z.val g 1 _ _ _ hb.blk
      simp at w0 w1 b0 b1
      obtain ⟨FL, hOwn, hFL⟩ := hb.own
      obtain ⟨AL, cL, rfl, hsL⟩ := hOwn.sl
      have hbl := fun k hk => (hOwn.lt k hk).1
      clear hA hrr hb
      rw [hg]
      by_cases hbig : 20000 < totN (behOf x y).Lines
      · have hbz : 20000 < (totN (behOf x y).Lines : Int) := by omega
        have hbh := Lib.hid hbig
        clear hbig
        go_wp2
        have hrow := heap_setCell_same _ (w.heap.size + 1 + 1) 1 _ _ (.slice none 0 0) (heap_setCell_same z.val (w.heap.size + 1 + 1) 0 _ _ (.int .i64 0) hr4.out)
        ((try simp only [Exit.inBlock, Exit.then]); refine bodyPost_ret (results_cell_tmp_row rfl _ _ (w.heap.size + 1 + 1) _ _ _ _ rfl hrow Try.underlying24 rfl (by kernel_rfl)) rfl ?_)
        exact ⟨.inl ⟨hbh.out, rfl⟩, (hWz.setCell (by simp; omega) _).setCell (by simp; omega) _⟩
      · have hbz : ¬ 20000 < (totN (behOf x y).Lines : Int) := by omega
        have hbh := Lib.hid hbig
        clear hbig
        go_wp2
        have hrow := heap_setCell_same _ (w.heap.size + 1 + 1) 1 _ _ (.slice AL x.Lines.length cL) (heap_setCell_same z.val (w.heap.size + 1 + 1) 0 _ _ (.int .i64 (x.End + 1 + y.End)) hr4.out)
        ((try simp only [Exit.inBlock, Exit.then]); refine bodyPost_ret (results_cell_tmp_row rfl _ _ (w.heap.size + 1 + 1) _ _ _ _ rfl hrow Try.underlying24 rfl (by kernel_rfl)) rfl ?_)
        refine ⟨.inr ⟨by have := hbh.out; omega, AL, cL, by first | rfl | rw [hbll], ?_⟩, (hWz.setCell (by simp; omega) _).setCell (by simp; omega) _⟩
        refine hsL.step (fun k hk hl => ⟨by simp; exact hl, (Below.heap_setCell _ ⟨w.heap.size + 1 + 1, 1, none⟩ _ k (fun e => ?_)).trans (Below.heap_setCell _ ⟨w.heap.size + 1 + 1, 0, none⟩ _ k (fun e => ?_))⟩)
        · rcases hk with hk | hk
          · have := (hFL k hk).1; have e' : k = w.heap.size + 1 + 1 := e; omega
          · have := hbl k hk; have e' : k = w.heap.size + 1 + 1 := e; omega
        · rcases hk with hk | hk
          · have := (hFL k hk).1; have e' : k = w.heap.size + 1 + 1 := e; omega
          · have := hbl k hk; have e' : k = w.heap.size + 1 + 1 := e; omega
end Go.Proofs.Ytabhafllkhoefaa
