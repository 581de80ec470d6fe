/- The reference's waves in packed form. -/
import Derived.Test.YtabhafllkhoefaaBox
import Derived.Test.YtabhafllkhoefaaBare2
import Derived.Test.YtabhafllkhoefaaOwn3
namespace Go.Proofs.Ytabhafllkhoefaa
open Go.RowKit
set_option maxRecDepth 100000

set_option maxHeartbeats 8000000 in
theorem boxed_calls (x : Wave) (A : Option Addr) (c : Nat) (w : World) (F : Nat → Prop) (h : Rep.Sl kLine w F A c x.Lines) (hpk : WavePk x) :
    Calls Try.prog 16 #[.agg #[.int .i64 x.End, .slice A x.Lines.length c]] w fun e w' => (∃ v, e = .returned v ∧ Rep.Own kByte 5 w' w.heap.size NoB v (boxedOf x)) ∧ Is w w' := by
  have hu := Try.underlying50
  have hu2 := Try.underlying24
  have hm := h.len
  have hB : ∀ y : Under (w.alloc (.cells #[.int .i64 x.End, .slice A x.Lines.length c] 24)), w.heap.size < y.val.heap.size := fun y => y.lt _ (by simp)
  have e0 := hpk.e0
  have e1 := hpk.e1
  have hfew := hpk.few
  have hhl := headOf_len x
  have hb2 : ∀ q ∈ [(119 : Int), 1], InK .u8 q := by
    intro q hq
    simp only [List.mem_cons, List.not_mem_nil, or_false] at hq
    rcases hq with rfl | rfl <;> exact InK.mku8 (by omega)
  have hw0s : w.heap.size + 1 ≤ (w.alloc (.cells #[.int .i64 x.End, .slice A x.Lines.length c] 24)).heap.size := by simp
  go_enter Try.func16, Try.ntmps16
  go_upto_region 1 with (fail)
  go_cut [3] (fun s wc => ∃ (z : Under (w.alloc (.cells #[.int .i64 x.End, .slice A x.Lines.length c] 24))), wc = z.val ∧ Rep.Own kByte 5 z.val (w.heap.size + 1) NoB s (headOf x))
  case first =>
    refine wp_region_splitA (fun w' => ∃ y : Under (w.alloc (.cells #[.int .i64 x.End, .slice A x.Lines.length c] 24)), w' = y.val) [false, false, true, true, true, false, false, true, true, true, true, false, false, false] 7 #[false, false, true, true, true, false, false, true, true, true, true, false, false, false] (by kernel_rfl) (by kernel_rfl) (by decide) (by decide) ⟨(Under.refl _).drew, rfl⟩ (fun _ _ d _ _ h => by cases d <;> exact h) ?_
    simp only [pickB]
    repeat (go_big_quiet_step (fail))
    refine wpQuiet_nil ?_
    refine anyT_two (i := 0) (j := 5) #[true, false, true, true, true, false, false, true, true, true, true, false, false, false] #[false, false, true, true, true, true, false, true, true, true, true, false, false, false] (by kernel_rfl) rfl rfl (by decide) (by decide) (fun Q' hQ' => ?_) (fun Q' hQ' => ?_)
    · go_wp2
      refine ⟨(by first | exact .inr ⟨((Under.refl _).alloc _).drew, rfl⟩ | exact ⟨((Under.refl _).alloc _).drew, rfl⟩ | exact .inr (by first | exact ⟨((Under.refl _).alloc _).drew, rfl⟩) ), ?_⟩
      refine anyT_two (i := 1) (j := 5) #[true, true, true, true, true, false, false, true, true, true, true, false, false, false] #[true, false, true, true, true, true, false, true, true, true, true, false, false, false] (by kernel_rfl) rfl rfl (by decide) (by decide) (fun Q' hQ' => ?_) (fun Q' hQ' => ?_)
      · obtain ⟨zc, hkc', hHc, hcs, hoth⟩ := const_under ((((Under.refl (w.alloc (.cells #[.int .i64 x.End, .slice A x.Lines.length c] 24))).alloc (.cells #[.int .u8 119, .int .u8 1] 5)).drew)) #[.int .u8 119, .int .u8 1] 2 2 (w.heap.size + 1) (heap_alloc2_new w _ _) (by simp)
        have hkc : (convert 25 25 (.slice (some ⟨w.heap.size + 1, 0, none⟩) 2 2)).run Try.prog (((w.alloc (.cells #[.int .i64 x.End, .slice A x.Lines.length c] 24)).alloc (.cells #[.int .u8 119, .int .u8 1] 5)).drew) = .ok (.slice (some ⟨w.heap.size + 1, 0, none⟩) 2 2) zc.val := hkc'
        clear hkc'
        go_wp2
        refine ⟨(by first | exact .inr ⟨zc, rfl⟩ | exact ⟨zc, rfl⟩ | exact .inr (by first | exact ⟨zc, rfl⟩) ), ?_⟩
        refine anyT_one (i := 5) #[true, true, true, true, true, true, false, true, true, true, true, false, false, false] (by kernel_rfl) rfl (by decide) (fun Q' hQ' => ?_)
        go_wp2_with (go_at_call 48; refine (seven_calls _ _ (InK.mku64 (by omega))).mono ?_; rintro e wq ⟨_, rfl, hoq, ⟨xq, rfl⟩⟩; obtain ⟨Aq, cq, rfl, hsq⟩ := hoq.sl)
        refine ⟨(by first | exact .inr ⟨zc.trans xq, rfl⟩ | exact ⟨zc.trans xq, rfl⟩ | exact .inr (by first | exact ⟨zc.trans xq, rfl⟩) ), ?_⟩
        have hH := hdr_sl (InK.mku8 (by omega)) (InK.mku8 (by omega)) ((xq.ok.block (w.heap.size + 1) (Array.getElem?_eq_some_iff.1 hHc).1).trans hHc)
        have hS := hsq
        have hl2 := seven_len x.End
        refine anyT_one (i := 6) #[true, true, true, true, true, true, true, true, true, true, true, false, false, false] (by kernel_rfl) rfl (by decide) (fun Q' hQ' => ?_)
        go_wp2_with (at_builtin; refine wpList_slN (Rep.Flat.int _) rfl (.tmp 8) (.tmp 12) rfl byteT (xs := [(119 : Int), 1]) rfl rfl hH hS (by simp) (seven_pos _) (le_maxLen (by simp; omega)) (by simp; omega) ?_; intro v3 w3 ho3' hw3)
        have ho3 : Rep.Own kByte 5 w3 (w.heap.size + 1) NoB v3 ([119, 1] ++ seven x.End) := ho3'.lower (Nat.le_trans hw0s (zc.trans xq).size)
        clear ho3'
        obtain ⟨y3, hy3⟩ := (Is.val (zc.trans xq)).trans hw3
        subst hy3
        refine ⟨(by first | exact .inr ⟨y3, rfl⟩ | exact ⟨y3, rfl⟩ | exact .inr (by first | exact ⟨y3, rfl⟩) ), ?_⟩
        refine anyT_one (i := 11) #[true, true, true, true, true, true, true, true, true, true, true, true, false, false] (by kernel_rfl) rfl (by decide) (fun Q' hQ' => ?_)
        go_wp2_with (go_at_call 48; refine (seven_calls _ _ (InK.mku64 (by omega))).mono ?_; rintro e wr ⟨_, rfl, hor, ⟨xr, rfl⟩⟩; obtain ⟨Ar, cr, rfl, hsr⟩ := hor.sl)
        have hl3 := seven_len (x.Lines.length : Int)
        refine ⟨(by first | exact .inr ⟨y3.trans xr, rfl⟩ | exact ⟨y3.trans xr, rfl⟩ | exact .inr (by first | exact ⟨y3.trans xr, rfl⟩) ), ?_⟩
        refine anyT_one (i := 12) #[true, true, true, true, true, true, true, true, true, true, true, true, true, false] (by kernel_rfl) rfl (by decide) (fun Q' hQ' => ?_)
        have ho3r : Rep.Own kByte 5 xr.val (w.heap.size + 1) NoB v3 _ := ho3.step (fun k _ hl => xr.ok.block k hl)
        go_wp2_with (at_builtin; refine wpList_slF (Rep.Flat.int _) rfl (.tmp 13) (.tmp 18) rfl byteT rfl rfl ho3r hsr (le_maxLen (by simp only [List.length_append, List.length_cons, List.length_nil]; omega)) (by simp only [List.length_append, List.length_cons, List.length_nil]; omega) (Nat.le_trans hw0s (y3.trans xr).size) ?_; intro v4 w4 ho4 hg4')
        have hg4 : Grew xr.val w4 v3 v4 := hg4'
        clear hg4'
        obtain ⟨y4, hy4⟩ := (Is.val (y3.trans xr)).grew hg4 (fun k hk => by have := (ho3.lt k hk).1; simpa using this)
        subst hy4
        refine ⟨(by first | exact .inr ⟨y4, rfl⟩ | exact ⟨y4, rfl⟩ | exact .inr (by first | exact ⟨y4, rfl⟩) ), ?_⟩
        refine anyT_one (i := 13) #[true, true, true, true, true, true, true, true, true, true, true, true, true, true] (by kernel_rfl) rfl (by decide) (fun Q' hQ' => ?_)
        go_wp2
        refine ⟨by kernel_rfl, ?_⟩
        go_wp2
        go_meet
        case rel => exact ⟨y4, rfl, ho4⟩
      · go_wp2_with (go_at_call 48; refine (seven_calls _ _ (InK.mku64 (by omega))).mono ?_; rintro e wq ⟨_, rfl, hoq, ⟨xq, rfl⟩⟩; obtain ⟨Aq, cq, rfl, hsq⟩ := hoq.sl)
        refine ⟨(by first | exact .inr ⟨(((Under.refl (w.alloc (.cells #[.int .i64 x.End, .slice A x.Lines.length c] 24))).alloc (.cells #[.int .u8 119, .int .u8 1] 5)).drew).trans xq, rfl⟩ | exact ⟨(((Under.refl (w.alloc (.cells #[.int .i64 x.End, .slice A x.Lines.length c] 24))).alloc (.cells #[.int .u8 119, .int .u8 1] 5)).drew).trans xq, rfl⟩ | exact .inr (by first | exact ⟨(((Under.refl (w.alloc (.cells #[.int .i64 x.End, .slice A x.Lines.length c] 24))).alloc (.cells #[.int .u8 119, .int .u8 1] 5)).drew).trans xq, rfl⟩) ), ?_⟩
        refine anyT_one (i := 1) #[true, true, true, true, true, true, false, true, true, true, true, false, false, false] (by kernel_rfl) rfl (by decide) (fun Q' hQ' => ?_)
        obtain ⟨zc, hkc', hHc, hcs, hoth⟩ := const_under ((((Under.refl (w.alloc (.cells #[.int .i64 x.End, .slice A x.Lines.length c] 24))).alloc (.cells #[.int .u8 119, .int .u8 1] 5)).drew).trans xq) #[.int .u8 119, .int .u8 1] 2 2 (w.heap.size + 1) ((xq.ok.block _ (by simp)).trans (heap_alloc2_new w _ _)) (by simp)
        have hkc : (convert 25 25 (.slice (some ⟨w.heap.size + 1, 0, none⟩) 2 2)).run Try.prog xq.val = .ok (.slice (some ⟨w.heap.size + 1, 0, none⟩) 2 2) zc.val := hkc'
        clear hkc'
        go_wp2
        refine ⟨(by first | exact .inr ⟨zc, rfl⟩ | exact ⟨zc, rfl⟩ | exact .inr (by first | exact ⟨zc, rfl⟩) ), ?_⟩
        have hH := hdr_sl (InK.mku8 (by omega)) (InK.mku8 (by omega)) hHc
        have hS := hsq.step (w1 := zc.val) (G := fun _ => True) (fun k hk hl => ⟨trivial, hoth k (fun e => by
          rcases hk with hk | hk
          · exact hk.elim
          · have := (hoq.lt k hk).1; simp at this; omega)⟩)
        have hl2 := seven_len x.End
        refine anyT_one (i := 6) #[true, true, true, true, true, true, true, true, true, true, true, false, false, false] (by kernel_rfl) rfl (by decide) (fun Q' hQ' => ?_)
        go_wp2_with (at_builtin; refine wpList_slN (Rep.Flat.int _) rfl (.tmp 8) (.tmp 12) rfl byteT (xs := [(119 : Int), 1]) rfl rfl hH hS (by simp) (seven_pos _) (le_maxLen (by simp; omega)) (by simp; omega) ?_; intro v3 w3 ho3' hw3)
        have ho3 : Rep.Own kByte 5 w3 (w.heap.size + 1) NoB v3 ([119, 1] ++ seven x.End) := ho3'.lower (Nat.le_trans hw0s (zc).size)
        clear ho3'
        obtain ⟨y3, hy3⟩ := (Is.val (zc)).trans hw3
        subst hy3
        refine ⟨(by first | exact .inr ⟨y3, rfl⟩ | exact ⟨y3, rfl⟩ | exact .inr (by first | exact ⟨y3, rfl⟩) ), ?_⟩
        refine anyT_one (i := 11) #[true, true, true, true, true, true, true, true, true, true, true, true, false, false] (by kernel_rfl) rfl (by decide) (fun Q' hQ' => ?_)
        go_wp2_with (go_at_call 48; refine (seven_calls _ _ (InK.mku64 (by omega))).mono ?_; rintro e wr ⟨_, rfl, hor, ⟨xr, rfl⟩⟩; obtain ⟨Ar, cr, rfl, hsr⟩ := hor.sl)
        have hl3 := seven_len (x.Lines.length : Int)
        refine ⟨(by first | exact .inr ⟨y3.trans xr, rfl⟩ | exact ⟨y3.trans xr, rfl⟩ | exact .inr (by first | exact ⟨y3.trans xr, rfl⟩) ), ?_⟩
        refine anyT_one (i := 12) #[true, true, true, true, true, true, true, true, true, true, true, true, true, false] (by kernel_rfl) rfl (by decide) (fun Q' hQ' => ?_)
        have ho3r : Rep.Own kByte 5 xr.val (w.heap.size + 1) NoB v3 _ := ho3.step (fun k _ hl => xr.ok.block k hl)
        go_wp2_with (at_builtin; refine wpList_slF (Rep.Flat.int _) rfl (.tmp 13) (.tmp 18) rfl byteT rfl rfl ho3r hsr (le_maxLen (by simp only [List.length_append, List.length_cons, List.length_nil]; omega)) (by simp only [List.length_append, List.length_cons, List.length_nil]; omega) (Nat.le_trans hw0s (y3.trans xr).size) ?_; intro v4 w4 ho4 hg4')
        have hg4 : Grew xr.val w4 v3 v4 := hg4'
        clear hg4'
        obtain ⟨y4, hy4⟩ := (Is.val (y3.trans xr)).grew hg4 (fun k hk => by have := (ho3.lt k hk).1; simpa using this)
        subst hy4
        refine ⟨(by first | exact .inr ⟨y4, rfl⟩ | exact ⟨y4, rfl⟩ | exact .inr (by first | exact ⟨y4, rfl⟩) ), ?_⟩
        refine anyT_one (i := 13) #[true, true, true, true, true, true, true, true, true, true, true, true, true, true] (by kernel_rfl) rfl (by decide) (fun Q' hQ' => ?_)
        go_wp2
        refine ⟨by kernel_rfl, ?_⟩
        go_wp2
        go_meet
        case rel => exact ⟨y4, rfl, ho4⟩
    · go_wp2_with (go_at_call 48; refine (seven_calls _ _ (InK.mku64 (by omega))).mono ?_; rintro e wq ⟨_, rfl, hoq, ⟨xq, rfl⟩⟩; obtain ⟨Aq, cq, rfl, hsq⟩ := hoq.sl)
      refine ⟨(by first | exact .inr ⟨(Under.refl _).drew.trans xq, rfl⟩ | exact ⟨(Under.refl _).drew.trans xq, rfl⟩ | exact .inr (by first | exact ⟨(Under.refl _).drew.trans xq, rfl⟩) ), ?_⟩
      refine anyT_one (i := 0) #[true, false, true, true, true, true, false, true, true, true, true, false, false, false] (by kernel_rfl) rfl (by decide) (fun Q' hQ' => ?_)
      go_wp2
      refine ⟨(by first | exact .inr ⟨((Under.refl (w.alloc (.cells #[.int .i64 x.End, .slice A x.Lines.length c] 24))).drew.trans xq).alloc _, rfl⟩ | exact ⟨((Under.refl (w.alloc (.cells #[.int .i64 x.End, .slice A x.Lines.length c] 24))).drew.trans xq).alloc _, rfl⟩ | exact .inr (by first | exact ⟨((Under.refl (w.alloc (.cells #[.int .i64 x.End, .slice A x.Lines.length c] 24))).drew.trans xq).alloc _, rfl⟩) ), ?_⟩
      refine anyT_one (i := 1) #[true, true, true, true, true, true, false, true, true, true, true, false, false, false] (by kernel_rfl) rfl (by decide) (fun Q' hQ' => ?_)
      obtain ⟨zc, hkc', hHc, hcs, hoth⟩ := const_under (((Under.refl (w.alloc (.cells #[.int .i64 x.End, .slice A x.Lines.length c] 24))).drew.trans xq).alloc (.cells #[.int .u8 119, .int .u8 1] 5)) #[.int .u8 119, .int .u8 1] 2 2 (xq.val.heap.size) (heap_alloc_new xq.val _) xq.size
      have hkc : (convert 25 25 (.slice (some ⟨xq.val.heap.size, 0, none⟩) 2 2)).run Try.prog (xq.val.alloc (.cells #[.int .u8 119, .int .u8 1] 5)) = .ok (.slice (some ⟨xq.val.heap.size, 0, none⟩) 2 2) zc.val := hkc'
      clear hkc'
      go_wp2
      refine ⟨(by first | exact .inr ⟨zc, rfl⟩ | exact ⟨zc, rfl⟩ | exact .inr (by first | exact ⟨zc, rfl⟩) ), ?_⟩
      have hH := hdr_sl (InK.mku8 (by omega)) (InK.mku8 (by omega)) hHc
      have hS := hsq.step (w1 := zc.val) (G := fun _ => True) (fun k hk hl => ⟨trivial, (hoth k (by omega)).trans (Below.heap_alloc xq.val _ k hl)⟩)
      have hl2 := seven_len x.End
      refine anyT_one (i := 6) #[true, true, true, true, true, true, true, true, true, true, true, false, false, false] (by kernel_rfl) rfl (by decide) (fun Q' hQ' => ?_)
      go_wp2_with (at_builtin; refine wpList_slN (Rep.Flat.int _) rfl (.tmp 8) (.tmp 12) rfl byteT (xs := [(119 : Int), 1]) rfl rfl hH hS (by simp) (seven_pos _) (le_maxLen (by simp; omega)) (by simp; omega) ?_; intro v3 w3 ho3' hw3)
      have ho3 : Rep.Own kByte 5 w3 (w.heap.size + 1) NoB v3 ([119, 1] ++ seven x.End) := ho3'.lower (Nat.le_trans hw0s (zc).size)
      clear ho3'
      obtain ⟨y3, hy3⟩ := (Is.val (zc)).trans hw3
      subst hy3
      refine ⟨(by first | exact .inr ⟨y3, rfl⟩ | exact ⟨y3, rfl⟩ | exact .inr (by first | exact ⟨y3, rfl⟩) ), ?_⟩
      refine anyT_one (i := 11) #[true, true, true, true, true, true, true, true, true, true, true, true, false, false] (by kernel_rfl) rfl (by decide) (fun Q' hQ' => ?_)
      go_wp2_with (go_at_call 48; refine (seven_calls _ _ (InK.mku64 (by omega))).mono ?_; rintro e wr ⟨_, rfl, hor, ⟨xr, rfl⟩⟩; obtain ⟨Ar, cr, rfl, hsr⟩ := hor.sl)
      have hl3 := seven_len (x.Lines.length : Int)
      refine ⟨(by first | exact .inr ⟨y3.trans xr, rfl⟩ | exact ⟨y3.trans xr, rfl⟩ | exact .inr (by first | exact ⟨y3.trans xr, rfl⟩) ), ?_⟩
      refine anyT_one (i := 12) #[true, true, true, true, true, true, true, true, true, true, true, true, true, false] (by kernel_rfl) rfl (by decide) (fun Q' hQ' => ?_)
      have ho3r : Rep.Own kByte 5 xr.val (w.heap.size + 1) NoB v3 _ := ho3.step (fun k _ hl => xr.ok.block k hl)
      go_wp2_with (at_builtin; refine wpList_slF (Rep.Flat.int _) rfl (.tmp 13) (.tmp 18) rfl byteT rfl rfl ho3r hsr (le_maxLen (by simp only [List.length_append, List.length_cons, List.length_nil]; omega)) (by simp only [List.length_append, List.length_cons, List.length_nil]; omega) (Nat.le_trans hw0s (y3.trans xr).size) ?_; intro v4 w4 ho4 hg4')
      have hg4 : Grew xr.val w4 v3 v4 := hg4'
      clear hg4'
      obtain ⟨y4, hy4⟩ := (Is.val (y3.trans xr)).grew hg4 (fun k hk => by have := (ho3.lt k hk).1; simpa using this)
      subst hy4
      refine ⟨(by first | exact .inr ⟨y4, rfl⟩ | exact ⟨y4, rfl⟩ | exact .inr (by first | exact ⟨y4, rfl⟩) ), ?_⟩
      refine anyT_one (i := 13) #[true, true, true, true, true, true, true, true, true, true, true, true, true, true] (by kernel_rfl) rfl (by decide) (fun Q' hQ' => ?_)
      go_wp2
      refine ⟨by kernel_rfl, ?_⟩
      go_wp2
      go_meet
      case rel => exact ⟨y4, rfl, ho4⟩
  case rest =>
    obtain ⟨z, rfl, ho4⟩ := hcut
    go_wp2
    go_loopg [3, 5, 6, 23] x.Lines.length (fun d u _ _ n wr => ∃ (i : Nat) (bs : List Int) (y : Under (w.alloc (.cells #[.int .i64 x.End, .slice A x.Lines.length c] 24))), n = .int .i64 i ∧ wr = y.val ∧ Rep.Own kByte 5 y.val (w.heap.size + 1) NoB u bs ∧ Aside (i + d = x.Lines.length ∧ bs ++ linesB (x.Lines.drop i) = headOf x ++ linesB x.Lines ∧ bs.length ≤ 22 + 2000110 * i))
    case atStart => exact ⟨0, headOf x, z, rfl, rfl, ho4, by omega, rfl, by omega⟩
    case round =>
      clear ho4
      obtain ⟨i, bs, y, rfl, rfl, ho, hA⟩ := hrel
      have hys : w.heap.size + 1 ≤ y.val.heap.size := hB y
      have hbl : bs.length ≤ 400000000 := by have := hA.out.2.2; have := hA.out.1; omega
      by_cases hlt : i < x.Lines.length
      · obtain ⟨l, hl⟩ := get_ex hlt
        have hlk := hpk.lines l (List.mem_of_getElem? hl)
        have hpl := packLine_len hlk
        obtain ⟨b, o, A2, c2, A3, c3, rfl, hb, hc0, hc1, hc2, hc3, hk, hs2, hs3⟩ := Rep.rowLine h.row hl
        obtain ⟨gk, rfl⟩ : ∃ m, gk = m + 1 := ⟨gk - 1, by have := hA.out.1; omega⟩
        have hby : b < y.val.heap.size := y.lt _ (by simp; omega)
        have hbl2 : b ≤ w.heap.size := by omega
        have hwy := ((Is.refl w).alloc (.cells #[.int .i64 x.End, .slice (some ⟨b, o, none⟩) x.Lines.length c] 24)).step y
        have hl2 := Lib.hid hl
        have hA2 := Lib.hid hA.out
        have hsv := seven_len ((packLineOf l).length : Int)
        clear hl hA
        go_wp2_with (first
          | (go_at_call 49; refine (bare_calls l A2 A3 c2 c3 _ F hk hlk.name hlk.w1 hlk.w2 hlk.times hlk.steps hlk.zero (hs2.is (hwy.alloc _)) (hs3.is (hwy.alloc _))).mono ?_; rintro e w4 ⟨v4, rfl, ho4, ⟨x4, rfl⟩⟩; obtain ⟨A4, c4, rfl, hs4⟩ := ho4.sl; have hx4 : w.heap.size + 1 ≤ x4.val.heap.size := Nat.le_trans hys (Nat.le_trans (by simp) x4.size); have ho5 : Rep.Own kByte 5 x4.val (w.heap.size + 1) NoB u3 bs := ho.step (fun k _ hl => (x4.ok.block k (by simp; omega)).trans (Below.heap_alloc y.val _ k hl)); have hml := hs4.len)
          | (go_at_call 48; refine (seven_calls _ _ (InK.mku64 (by omega))).mono ?_; rintro e w6 ⟨v6, rfl, ho6, ⟨x6, rfl⟩⟩; obtain ⟨A6, c6, rfl, hs6⟩ := ho6.sl; have ho5b := ho5.step (w1 := x6.val) (fun k _ hl => x6.ok.block k hl); have hx6 := Nat.le_trans hx4 x6.size; have hs4b : Rep.Sl kByte x6.val (fun k => u3.ownBlock ≠ some k) A4 c4 (packLineOf l) := (hs4.mono (fun k hk hl => by
              rcases hk with hk | hk
              · exact hk.elim
              · intro e; have := (ho.lt k e).2; have := (ho4.lt k hk).1; simp at this; omega)).step (fun k hk hl => ⟨hk, x6.ok.block k hl⟩))
          | (at_builtin; refine wpList_slF (Rep.Flat.int _) rfl (.tmp 29) (.tmp 33) rfl byteT rfl rfl ho5b hs6 (le_maxLen (by omega)) (by omega) hx6 ?_; intro v7 w7 ho7 hg7; have hs8 := hs4b.step (w1 := w7) (G := fun k => u3.ownBlock ≠ some k) (fun k hk hl => ⟨hk, hg7.by_.block k hl (fun e => hk e.symm)⟩); have hw7 := Nat.le_trans hx6 hg7.by_.size)
          | (at_builtin; refine wpList_slF (Rep.Flat.int _) rfl (.tmp 34) (.tmp 35) rfl byteT rfl rfl ho7 hs8 (le_maxLen (by simp only [List.length_append]; omega)) (by simp only [List.length_append]; omega) hw7 ?_; intro v8 w8 ho8 hg8))
        obtain ⟨y8, hy8⟩ := ((((Is.val y).alloc (.cells #[.string l.Name, .int .i64 l.W, .slice A2 l.At.length c2, .slice A3 l.Val.length c3] 50)).step x4).step x6).grew (hg7.trans hg8) (fun k hk => by have := (ho.lt k hk).1; simpa using this)
        have hy82 := Lib.hid hy8
        clear hy8
        go_roundg gk
        case measure => have := hA2.out.1; omega
        case rel =>
          refine ⟨i + 1, _, y8, by go_num, hy82.out, hy82.out ▸ ho8, by have := hA2.out.1; omega, ?_, ?_⟩
          · rw [← hA2.out.2.1, drop_cons hl2.out, linesB]
            simp
          · have := hA2.out.2.2
            simp only [List.length_append]
            omega
      · have hil := Lib.hid (show i = x.Lines.length by have := hA.out.1; omega)
        have q1 : decide ((i : Int) < (x.Lines.length : Int)) = false := by simp; omega
        obtain ⟨A5, c5, rfl, hs5⟩ := ho.sl
        have hml := hs5.len
        have hA2 := Lib.hid hA.out
        clear hA
        go_wp2_with (go_at_call 31; refine (sealed_calls A5 c5 bs _ _ hs5 (by omega)).mono ?_; rintro e w6 ⟨v6, rfl, ho6, ⟨x6, rfl⟩⟩)
        go_ret
        have hfin : boxedOf x = sealOf bs := by
          have h0 := hA2.out.2.1
          rw [hil.out, drop_end, linesB, List.append_nil] at h0
          unfold boxedOf
          rw [← h0]
        refine ⟨⟨v6, rfl, ?_⟩, (((Is.refl w).alloc _).step y).step x6⟩
        rw [hfin]
        exact ho6.lower (by omega)
end Go.Proofs.Ytabhafllkhoefaa
