/- wave.Cut where it makes a wave. -/
import Derived.Test.YtabhafllkhoefaaCut
namespace Go.Proofs.Ytabhafllkhoefaa
open Go.RowKit
set_option maxRecDepth 100000

set_option maxHeartbeats 16000000 in
theorem cut_ok (x : Wave) (f tq : Int) (A : Option Addr) (c : Nat) (w : World) (F : Nat → Prop) (he : InK .i64 x.End) (h : Rep.Sl kLine w F A c x.Lines) (hwf : waveFault x = 0) (hf : 0 ≤ f ∧ f ≤ x.End) (hto : f ≤ tq ∧ tq ≤ x.End) (hE : x.End ≤ 1099511627776) (hn : x.Lines.length ≤ 160) (hl : ∀ l ∈ x.Lines, CutLn l f) :
    Calls Try.prog 24 #[.agg #[.int .i64 x.End, .slice A x.Lines.length c], .int .i64 f, .int .i64 tq] w fun e w' =>
      ∃ A' c', e = .returned (.tuple #[.agg #[.int .i64 (tq - f), .slice A' (cutOf x f tq).Lines.length c'], .int .i64 0]) ∧ Rep.Sl kLine w' (fun k => k < w'.heap.size) A' c' (cutOf x f tq).Lines ∧ Is w w' := by
  have hu := Try.underlying50
  have hu2 := Try.underlying24
  have hu3 := Try.underlying41
  have hm := h.len
  have hf0 := hf.1
  have hf1 := hf.2
  have ht0 := hto.1
  have ht1 := hto.2
  have q3 : 0 ≤ tq := by omega
  have q4 : f ≤ x.End := by omega
  have hck : ∀ W, Is w W → Calls Try.prog 17 #[.agg #[.int .i64 x.End, .slice A x.Lines.length c]] W fun e w' => e = .returned (.int .i64 0) ∧ Is W w' := fun W hW => by
    have := check_calls x A c W F he (h.is hW)
    rw [hwf] at this
    exact this
  clear hwf
  go_enter Try.func24, Try.ntmps24
  go_wp2_with (go_at_call 17; refine (hck _ (((Is.refl w).alloc _).alloc _)).mono ?_; rintro e w1 ⟨rfl, ⟨x1, rfl⟩⟩; have hx0 : w.heap.size < x1.val.heap.size := x1.lt _ (by simp; omega); have hx1 : w.heap.size + 1 < x1.val.heap.size := x1.lt _ (by simp); have hr1 : x1.val.heap[w.heap.size + 1]? = some (.cells #[.int .i64 0, .slice none 0 0] 24 (0, 0)) := (x1.ok.block _ (by simp)).trans (heap_alloc2_new w _ _))
  have hW1 : Is w x1.val := (((Is.refl w).alloc _).alloc _).step x1
  obtain ⟨g, hg⟩ : ∃ g, x1.val.heap.size = g := ⟨_, rfl⟩
  go_loopg [11, 12, 13, 14, 53] x.Lines.length (fun d' _ _ _ _ n wr => ∃ (i : Nat) (vL : Value) (z : Under x1.val),
    n = .int .i64 i ∧ wr = z.val ∧ WBox z.val g g (tq - f) ((x.Lines.take i).map (fun l => cutLine l f tq)) vL ∧ Aside (i + d' = x.Lines.length))
  case atStart =>
    refine ⟨0, .slice none 0 0, ⟨_, (Below.refl _ _).alloc (Nat.le_refl _) _⟩, rfl, rfl, ⟨?_, ⟨fun _ => False, Rep.Own.nil _ _ _ _ _, fun k hk => hk.elim⟩, by simp [Value.ownBlock], Nat.le_refl _⟩, Nat.zero_add _⟩
    rw [← hg]
    exact heap_alloc_new _ _
  case round =>
    obtain ⟨i, vL, z, rfl, rfl, hb, hA⟩ := hrel
    have hWz : Is w z.val := hW1.step z
    have hz0 : w.heap.size < z.val.heap.size := z.lt _ hx0
    have hz1 : w.heap.size + 1 < z.val.heap.size := z.lt _ hx1
    have hz2 : g < z.val.heap.size := (Array.getElem?_eq_some_iff.1 hb.blk).1
    by_cases hlt : i < x.Lines.length
    · obtain ⟨l, hx⟩ := get_ex hlt
      obtain ⟨b, o, A2, c2, A3, c3, rfl, hbb, hc0, hc1, hc2, hc3, hk, h2, h3⟩ := Rep.rowLine h.row hx
      obtain ⟨gi, rfl⟩ : ∃ m, gk = m + 1 := ⟨gk - 1, by have := hA.out; omega⟩
      have hcl := hl l (List.mem_of_getElem? hx)
      obtain ⟨kx, hkx1, hkx2, hkx3⟩ := hcl.idx
      obtain ⟨b3, o3, rfl, hb3, hv0, hv1, hv2, hkv⟩ := Rep.rowBits h3.row hkx3
      have hst := Lib.hid hA.out
      have hxh := Lib.hid hx
      have hbh := Lib.hid hb
      have hm2 := h2.len
      have hm3 := h3.len
      have hle := Lib.hid hcl.ok.le
      have hfew := Lib.hid hcl.ok.few
      have hrange := Lib.hid hcl.ok.range
      have hvals := Lib.hid hcl.vals
      have hkx := Lib.hid hkx1
      have hkxl : (kx : Int) < (l.Val.length : Int) := by omega
      clear hA hx hcl hkx1 hkx3
      replace hc0 := (hWz.below.cell (p := ⟨b, o + i * 4, none⟩) hbb).trans hc0
      replace hc1 := (hWz.below.cell (p := ⟨b, o + i * 4 + 1, none⟩) hbb).trans hc1
      replace hc2 := (hWz.below.cell (p := ⟨b, o + i * 4 + 2, none⟩) hbb).trans hc2
      replace hc3 := (hWz.below.cell (p := ⟨b, o + i * 4 + 3, none⟩) hbb).trans hc3
      replace hv0 := (hWz.below.cell (p := ⟨b3, o3 + kx * 3, none⟩) hb3).trans hv0
      replace hv1 := (hWz.below.cell (p := ⟨b3, o3 + kx * 3 + 1, none⟩) hb3).trans hv1
      replace hv2 := (hWz.below.cell (p := ⟨b3, o3 + kx * 3 + 2, none⟩) hb3).trans hv2
      have hbz : b < z.val.heap.size := by omega
      have hbzn : b ≠ z.val.heap.size := by omega
      have hb3z : b3 < z.val.heap.size := by omega
      have hb3n : b3 ≠ z.val.heap.size := by omega
      have hb3z1 : b3 < z.val.heap.size + 1 := by omega
      have hb3z2 : b3 < z.val.heap.size + 1 + 1 := by omega
      have hb3n1 : b3 ≠ z.val.heap.size + 1 := by omega
      have hWL : ∀ o', Is w (z.val.alloc o') := fun o' => hWz.alloc o'
      rw [hg]
      go_wp2
      refine wp_region_splitL (fun w' => ∃ z' : Under ((z.val.alloc (.cells #[.string l.Name, .int .i64 l.W, .slice A2 l.At.length c2, .slice (some ⟨b3, o3, none⟩) l.Val.length c3] 50)).alloc (.cells #[.string l.Name, .int .i64 l.W, .slice none 0 0, .slice none 0 0] 50)), w' = z'.val) [false, false, false, false, false, false, false, false] [true, true, true, true, false, false, false, false] [7] 4 #[true, true, true, true, false, false, false, false] (by kernel_rfl) (by kernel_rfl) (by decide) ⟨(Under.refl _).drew, rfl⟩ (fun _ _ d _ _ h => by cases d <;> exact h) ?_
      simp only [pickB]
      repeat (go_big_quiet_step (fail))
      refine wpQuiet_nil ?_
      repeat (go_big_quiet_step (fail))
      refine wpQuiet_nil ?_
      refine anyL_one (i := 4) #[true, true, true, true, true, false, false, false] (by kernel_rfl) rfl (by decide) (fun Q' hQ' => ?_)
      go_wp2_with (go_at_call 58; refine (index_calls l A2 (some ⟨b3, o3, none⟩) c2 c3 f _ F (h2.is (((hWL _).alloc _).drew))).mono ?_; rw [hkx.out]; rintro e w2 ⟨rfl, ⟨x2, rfl⟩⟩)
      have hL0 : LBox x2.val (z.val.heap.size + 1) (z.val.heap.size + 1) l.Name l.W [] [] (.slice none 0 0) (.slice none 0 0) := by
        refine LBox.step (w := (z.val.alloc (.cells #[.string l.Name, .int .i64 l.W, .slice A2 l.At.length c2, .slice (some ⟨b3, o3, none⟩) l.Val.length c3] 50)).alloc (.cells #[.string l.Name, .int .i64 l.W, .slice none 0 0, .slice none 0 0] 50)) ?_ (((Is.refl _).drew).step x2).below
        exact ⟨heap_alloc2_new _ _ _, Rep.Own.nil _ _ _ _ _, Rep.Own.nil _ _ _ _ _, by simp [Value.ownBlock], by simp [Value.ownBlock], by simp [Value.ownBlock], Nat.le_refl _⟩
      have s2 : z.val.heap.size + 1 < x2.val.heap.size := x2.lt _ (by simp)
      have hzL : Is (z.val.alloc (.cells #[.string l.Name, .int .i64 l.W, .slice A2 l.At.length c2, .slice (some ⟨b3, o3, none⟩) l.Val.length c3] 50)) x2.val := (((Is.refl _).alloc _).drew).step x2
      refine ⟨.inr ⟨(Under.refl _).drew.trans x2, rfl⟩, ?_⟩
      refine anyL_one (i := 5) #[true, true, true, true, true, true, false, false] (by kernel_rfl) rfl (by decide) (fun Q' hQ' => ?_)
      go_wp2
      refine ⟨(by first | exact .inr ⟨(Under.refl _).drew.trans x2, rfl⟩ | exact ⟨(Under.refl _).drew.trans x2, rfl⟩), ?_⟩
      refine anyL_one (i := 6) #[true, true, true, true, true, true, true, false] (by kernel_rfl) rfl (by decide) (fun Q' hQ' => ?_)
      go_wp2
      refine ⟨(by first | exact .inr ⟨(Under.refl _).drew.trans x2, rfl⟩ | exact ⟨(Under.refl _).drew.trans x2, rfl⟩), ?_⟩
      refine anyL_one (i := 7) #[true, true, true, true, true, true, true, true] (by kernel_rfl) rfl (by decide) (fun Q' hQ' => ?_)
      go_wp2_with (go_at_call 59; refine (add_calls (z.val.heap.size + 1) (z.val.heap.size + 1) l.Name l.W [] [] _ _ 0 (had l f) _ hL0 (InK.mk64 (by omega)) hkv (by simp) (by simp) (by omega)).mono ?_; rintro e w7 ⟨rfl, vA7, vV7, hL7, ⟨z7, rfl⟩⟩)
      have hzL7 := z7.is hzL (fun k hk => by simp; omega)
      refine ⟨.inl (by decide), ?_⟩
      refine anyL_end (by kernel_rfl) ?_
      have hyL7 : z7.val.heap[z.val.heap.size]? = some (.cells #[.string l.Name, .int .i64 l.W, .slice A2 l.At.length c2, .slice (some ⟨b3, o3, none⟩) l.Val.length c3] 50 (0, 0)) := (hzL7.below.block _ (by simp)).trans (heap_alloc_new _ _)
      have m2 := cell_of_row z7.val z.val.heap.size 2 _ _ _ hyL7
      simp at m2
      go_wp2
      go_loopg [13, 14, 73] l.At.length (fun d' _ _ n wr => ∃ (j : Nat) (ats : List Int) (vals : List Bits) (vA vV : Value) (y : Under (z.val.alloc (.cells #[.string l.Name, .int .i64 l.W, .slice A2 l.At.length c2, .slice (some ⟨b3, o3, none⟩) l.Val.length c3] 50))),
        n = .int .i64 j ∧ wr = y.val ∧ LBox y.val (z.val.heap.size + 1) (z.val.heap.size + 1) l.Name l.W ats vals vA vV ∧
        Aside (j + d' = l.At.length ∧ merge ats vals (cutT f tq (l.At.drop j)) (cutV l f tq (l.At.drop j)) = merge [] [] (0 :: cutT f tq l.At) (had l f :: cutV l f tq l.At) ∧ ats.length ≤ j + 1 ∧ vals.length ≤ j + 1))
      case atStart =>
        obtain ⟨y, hy⟩ := hzL7
        exact ⟨0, _, _, _, _, y, rfl, hy, hy ▸ hL7, by omega, rfl, by simp [addAt], by simp [addVal]⟩
      case round =>
        obtain ⟨j, ats, vals, vA, vV, y, rfl, rfl, hL, hA⟩ := hrel
        clear hL7 hL0 m2
        have hyL : y.val.heap[z.val.heap.size]? = some (.cells #[.string l.Name, .int .i64 l.W, .slice A2 l.At.length c2, .slice (some ⟨b3, o3, none⟩) l.Val.length c3] 50 (0, 0)) := (y.ok.block _ (by simp)).trans (heap_alloc_new _ _)
        have g0 := cell_of_row y.val z.val.heap.size 0 _ _ _ hyL
        have g1 := cell_of_row y.val z.val.heap.size 1 _ _ _ hyL
        have g2 := cell_of_row y.val z.val.heap.size 2 _ _ _ hyL
        have g3 := cell_of_row y.val z.val.heap.size 3 _ _ _ hyL
        simp at g0 g1 g2 g3
        have hyz : z.val.heap.size < y.val.heap.size := y.lt _ (by simp)
        have hyz1 : z.val.heap.size + 1 < y.val.heap.size := (Array.getElem?_eq_some_iff.1 hL.blk).1
        have hWy : Is w y.val := (hWL _).step y
        by_cases hlj : j < l.At.length
        · obtain ⟨t, hta⟩ := get_ex hlj
          have hr := hrange.out t (List.mem_of_getElem? hta)
          have hr0 := hr.1
          have hr1' := hr.2
          obtain ⟨b2, o2, rfl, hb2, hct, hkt⟩ := Rep.rowInt h2.row hta
          obtain ⟨_, u0, u1, u2, hku⟩ := Rep.rowBitsAt h3.row (hvals.out j t hta)
          replace hct := (hWy.below.cell (p := ⟨b2, o2 + j, none⟩) hb2).trans hct
          replace u0 := (hWy.below.cell (p := ⟨b3, o3 + j * 3, none⟩) hb3).trans u0
          replace u1 := (hWy.below.cell (p := ⟨b3, o3 + j * 3 + 1, none⟩) hb3).trans u1
          replace u2 := (hWy.below.cell (p := ⟨b3, o3 + j * 3 + 2, none⟩) hb3).trans u2
          have hb2y : b2 < y.val.heap.size := by omega
          have hb3y : b3 < y.val.heap.size := by omega
          have hjv : (j : Int) < (l.Val.length : Int) := by have := hle.out; omega
          obtain ⟨gk, rfl⟩ : ∃ m, gk = m + 1 := ⟨gk - 1, by have := hA.out.1; omega⟩
          have hstj := Lib.hid hA.out
          have hta2 := Lib.hid hta
          have hlenA : ats.length ≤ 20001 := by have := hA.out.2.2.1; have := hfew.out; omega
          have hlenV : vals.length ≤ 20001 := by have := hA.out.2.2.2; have := hfew.out; omega
          clear hA hta hr
          by_cases hc : inCut f tq t = true
          · have hc' := hc
            simp only [inCut, Bool.and_eq_true, decide_eq_true_eq] at hc'
            have q1 := hc'.1
            have q2 := hc'.2
            have hch := Lib.hid hc
            clear hc hc'
            have w1 : wrap64 (t - f) = t - f := by unfold wrap64; omega
            go_wp2_with (go_at_call 59; refine (add_calls (z.val.heap.size + 1) (z.val.heap.size + 1) l.Name l.W ats vals vA vV (t - f) (had l t) _ hL (InK.mk64 (by omega)) hku (by omega) (by omega) (by omega)).mono ?_; rintro e w8 ⟨rfl, vA8, vV8, hL8, ⟨z8, rfl⟩⟩)
            have hzL8 := z8.is (Is.val y) (fun k hk => by simp; omega)
            go_roundg gk
            case measure => omega
            case rel =>
              obtain ⟨q, hq⟩ := hzL8
              refine ⟨j + 1, _, _, _, _, q, by go_num, hq, hq ▸ hL8, ?_⟩
              have h0 := hstj.out
              have l1 := addAt_len ats vals (t - f) (had l t)
              have l2 := addVal_len vals (had l t)
              refine ⟨by omega, ?_, by omega, by omega⟩
              rw [← h0.2.1, drop_cons hta2.out, cutT, cutV, if_pos hch.out, if_pos hch.out, merge]
          · have hc' : inCut f tq t = false := by simpa using hc
            have hch := Lib.hid hc'
            have hor : ¬ f < t ∨ (f < t ∧ ¬ t ≤ tq) := by
              by_cases q : f < t
              · exact .inr ⟨q, fun q2 => hc (by simp [inCut, q, q2])⟩
              · exact .inl q
            clear hc hc'
            have hfin : j + 1 + gk = l.At.length ∧ merge ats vals (cutT f tq (l.At.drop (j + 1))) (cutV l f tq (l.At.drop (j + 1))) = merge [] [] (0 :: cutT f tq l.At) (had l f :: cutV l f tq l.At) ∧ ats.length ≤ j + 1 + 1 ∧ vals.length ≤ j + 1 + 1 := by
              have h0 := hstj.out
              refine ⟨by omega, ?_, by omega, by omega⟩
              rw [← h0.2.1, drop_cons hta2.out, cutT, cutV, if_neg (by rw [hch.out]; decide), if_neg (by rw [hch.out]; decide)]
            have hfinh := Lib.hid hfin
            clear hfin
            rcases hor with hor | hor
            · go_wp2
              go_roundg gk
              case measure => omega
              case rel => exact ⟨j + 1, ats, vals, vA, vV, y, by go_num, rfl, hL, hfinh.out⟩
            · have p1 := hor.1
              have p2 := hor.2
              go_wp2
              go_roundg gk
              case measure => omega
              case rel => exact ⟨j + 1, ats, vals, vA, vV, y, by go_num, rfl, hL, hfinh.out⟩
        · obtain rfl : j = l.At.length := by have := hA.out.1; omega
          have e9 : (ats, vals) = merge [] [] (0 :: cutT f tq l.At) (had l f :: cutV l f tq l.At) := by
            have h9 := hA.out.2.1
            rw [drop_end] at h9
            exact h9
          have hatsE : ats = (cutLine l f tq).At := congrArg Prod.fst e9
          have hvalsE : vals = (cutLine l f tq).Val := congrArg Prod.snd e9
          clear hA e9
          obtain ⟨oL, hoL⟩ : ∃ oL, vL.ownBlock = oL := ⟨_, rfl⟩
          obtain ⟨FL, hOwn, hFL⟩ := hb.own
          have ll : ∀ k, oL = some k → g ≤ k ∧ k < z.val.heap.size := fun k hk => hOwn.lt k (hoL.trans hk)
          have hzy : Is z.val y.val := ((Is.refl z.val).alloc _).step y
          have hby := hb.step hzy.below
          have b0 := cell_of_row y.val g 0 _ _ _ hby.blk
          have b1 := cell_of_row y.val g 1 _ _ _ hby.blk
          simp at b0 b1
          have f0 := cell_of_row y.val (z.val.heap.size + 1) 0 _ _ _ hL.blk
          have f1 := cell_of_row y.val (z.val.heap.size + 1) 1 _ _ _ hL.blk
          have f2 := cell_of_row y.val (z.val.heap.size + 1) 2 _ _ _ hL.blk
          have f3 := cell_of_row y.val (z.val.heap.size + 1) 3 _ _ _ hL.blk
          simp at f0 f1 f2 f3
          have hgy : g < y.val.heap.size := by omega
          have hA8 : Rep.Own (Rep.int .i64) 3 y.val (z.val.heap.size + 1) NoB vA (cutLine l f tq).At := hatsE ▸ hL.own1
          have hV8 : Rep.Own kBits 41 y.val (z.val.heap.size + 1) NoB vV (cutLine l f tq).Val := hvalsE ▸ hL.own2
          obtain ⟨FN, A2', c2', A3', c3', rfl, rfl, hOwnF, hrel, hFN⟩ := hby.push hA8 hV8 hk (fun k hk => by have := ll k (hoL ▸ hk); omega) (by omega)
          have hlenL : ((x.Lines.take i).map (fun l => cutLine l f tq)).length = i := by simp; omega
          have hbyh := Lib.hid hby
          clear hby hatsE hvalsE
          go_wp2_with (at_builtin; refine wpList_one rfl (.tmp 97) (.tmp 99) rfl linesT (w0 := y.val) (c := [.string l.Name, .int .i64 l.W, .slice A2' (cutLine l f tq).At.length c2', .slice A3' (cutLine l f tq).Val.length c3']) (te := 50) rfl rfl hOwnF (y := cutLine l f tq) hrel (fun k hk => (hFN k hk).2.1) (le_maxLen (by rw [hlenL]; omega)) (by rw [hlenL]; omega) (by omega) ?_; intro v' w10 ho10 hg10; obtain ⟨hblk10, hW10⟩ := hbyh.out.done ho10 hg10 hFN; have hIs : Is x1.val (w10.setCell ⟨g, 1, none⟩ v') := (((Is.val z).trans hzy).grown hg10.by_ (fun k hk => by have := ll k (hoL ▸ hk); omega)).setCell (by show _ ≤ g; omega) _; obtain ⟨A10, c10, rfl, hs10⟩ := ho10.sl; have k1 := cell_of_row w10 g 1 _ _ _ hblk10; simp at k1; have hfz : ∀ j, w10.frozen? ⟨g, j, none⟩ = false := fun j => frozen_of_row _ _ _ _ _ hblk10; have hg10l : g < w10.heap.size := (Array.getElem?_eq_some_iff.1 hblk10).1)
          have hlist : (x.Lines.take i).map (fun l => cutLine l f tq) ++ [cutLine l f tq] = (x.Lines.take (i + 1)).map (fun l => cutLine l f tq) := by rw [List.take_add_one, hxh.out]; simp
          have hlen10 : ((x.Lines.take i).map (fun l => cutLine l f tq) ++ [cutLine l f tq]).length = i + 1 := by rw [List.length_append, hlenL]; rfl
          rw [hlen10] at hW10 hIs
          rw [hlist] at hW10
          rw [← hg]
          go_roundg gi
          case measure => omega
          case rel =>
            obtain ⟨q, hq⟩ := hIs
            refine ⟨i + 1, _, q, by go_num, ?_, hq ▸ hW10, by have := hst.out; unfold Aside; omega⟩
            rw [← hq, hg, show min i x.Lines.length = i by omega]
    · obtain rfl : i = x.Lines.length := by have := hA.out; omega
      rw [List.take_length] at hb
      have hrr : z.val.heap[w.heap.size + 1]? = some (.cells #[.int .i64 0, .slice none 0 0] 24 (0, 0)) := (z.ok.block _ hx1).trans hr1
      have hfz : ∀ j, z.val.frozen? ⟨w.heap.size + 1, j, none⟩ = false := fun j => frozen_of_row _ _ _ _ _ hrr
      have w0 := cell_of_row z.val (w.heap.size + 1) 0 _ _ _ hrr
      have w1 := cell_of_row z.val (w.heap.size + 1) 1 _ _ _ hrr
      have b0 := cell_of_row z.val g 0 _ _ _ hb.blk
      have b1 := cell_of_row z.val g 1 _ _ _ hb.blk
      simp at w0 w1 b0 b1
      obtain ⟨FL, hOwn, hFL⟩ := hb.own
      obtain ⟨AL, cL, rfl, hsL⟩ := hOwn.sl
      have hrh := Lib.hid hrr
      have hbl := fun k hk => (hOwn.lt k hk).1
      clear hA hrr hb
      rw [hg]
      go_wp2
      have hrow := heap_setCell_same _ (w.heap.size + 1) 1 _ _ (.slice AL x.Lines.length cL) (heap_setCell_same z.val (w.heap.size + 1) 0 _ _ (.int .i64 (tq - f)) hrh.out)
      ((try simp only [Exit.inBlock, Exit.then]); refine bodyPost_ret (results_cell_tmp_row rfl _ _ (w.heap.size + 1) _ _ _ _ rfl hrow Try.underlying24 rfl (by kernel_rfl)) rfl ?_)
      refine ⟨AL, cL, ?_, ?_, (hWz.setCell (by simp) _).setCell (by simp) _⟩
      · unfold cutOf
        simp
      · refine hsL.step (fun k hk hl => ⟨by simp; exact hl, (Below.heap_setCell _ ⟨w.heap.size + 1, 1, none⟩ _ k (fun e => ?_)).trans (Below.heap_setCell _ ⟨w.heap.size + 1, 0, none⟩ _ k (fun e => ?_))⟩)
        · rcases hk with hk | hk
          · have := (hFL k hk).1; have e' : k = w.heap.size + 1 := e; omega
          · have := hbl k hk; have e' : k = w.heap.size + 1 := e; omega
        · rcases hk with hk | hk
          · have := (hFL k hk).1; have e' : k = w.heap.size + 1 := e; omega
          · have := hbl k hk; have e' : k = w.heap.size + 1 := e; omega
end Go.Proofs.Ytabhafllkhoefaa
