/- The reference's Behind. -/
import Derived.Test.YtabhafllkhoefaaAppendOk
namespace Go.Proofs.Ytabhafllkhoefaa
open Go.RowKit
set_option maxRecDepth 100000

set_option maxHeartbeats 2000000 in
theorem behind_calls (x y : Wave) (A B : Option Addr) (c d : Nat) (w : World) (F G : Nat → Prop) (h : Rep.Sl kLine w F A c x.Lines) (k : Rep.Sl kLine w G B d y.Lines) (hlen' : x.Lines.length = y.Lines.length)
    (hex : 0 ≤ x.End ∧ x.End ≤ 1099511627776) (hye : 0 ≤ y.End ∧ y.End ≤ 1099511627776) (hn : x.Lines.length ≤ 160) (hlx : ∀ l ∈ x.Lines, AppLn l) (hly : ∀ l ∈ y.Lines, AppLn l) (hsh : ∀ l ∈ x.Lines, ∀ m : Line, merge [] [] (l.At ++ backT x.End m.At) (l.Val ++ m.Val) = ((behLine x.End l m).At, (behLine x.End l m).Val)) :
    Calls Try.prog 29 #[.agg #[.int .i64 x.End, .slice A x.Lines.length c], .agg #[.int .i64 y.End, .slice B y.Lines.length d]] w fun e w' =>
      ∃ A' c', e = .returned (.agg #[.int .i64 (x.End + 1 + y.End), .slice A' (behOf x y).Lines.length c']) ∧ Rep.Sl kLine w' (fun k => k < w'.heap.size) A' c' (behOf x y).Lines ∧ Is w w' := by
  have hu := Try.underlying50
  have hu2 := Try.underlying24
  have hu3 := Try.underlying41
  have hm := h.len
  have hmk := k.len
  have hE0 := hex.1
  have hE1 := hex.2
  have hE2 := hye.1
  have hE3 := hye.2
  have hlen := Lib.hid hlen'
  clear hlen'
  go_enter Try.func29, Try.ntmps29
  go_wp2
  obtain ⟨g, hg⟩ : ∃ g, w.heap.size + 1 + 1 + 1 = g := ⟨_, rfl⟩
  have hB : ∀ z : Under (((w.alloc (.cells #[.int .i64 x.End, .slice A x.Lines.length c] 24)).alloc (.cells #[.int .i64 y.End, .slice B y.Lines.length d] 24)).alloc (.cells #[.int .i64 0, .slice none 0 0] 24)), w.heap.size < z.val.heap.size ∧ w.heap.size + 1 < z.val.heap.size ∧ w.heap.size + 1 + 1 < z.val.heap.size ∧ z.val.heap[w.heap.size + 1 + 1]? = some (.cells #[.int .i64 0, .slice none 0 0] 24 (0, 0)) ∧
      z.val.heap[w.heap.size + 1]? = some (.cells #[.int .i64 y.End, .slice B y.Lines.length d] 24 (0, 0)) ∧ z.val.heap[w.heap.size]? = some (.cells #[.int .i64 x.End, .slice A x.Lines.length c] 24 (0, 0)) := fun z => ⟨z.lt _ (by simp; omega), z.lt _ (by simp), z.lt _ (by simp), (z.ok.block _ (by simp)).trans (heap_alloc3_new w _ _ _), (z.ok.block _ (by simp)).trans (heap_alloc3_at1 w _ _ _), (z.ok.block _ (by simp; omega)).trans ((Below.heap_alloc ((w.alloc _).alloc _) _ _ (by simp; omega)).trans ((Below.heap_alloc (w.alloc _) _ _ (by simp)).trans (heap_alloc_new w _)))⟩
  go_loopg [6, 7, 8, 9, 10, 11, 22] x.Lines.length (fun d' _ _ _ _ _ _ n wr => ∃ (i : Nat) (vL : Value) (z : Under (((w.alloc (.cells #[.int .i64 x.End, .slice A x.Lines.length c] 24)).alloc (.cells #[.int .i64 y.End, .slice B y.Lines.length d] 24)).alloc (.cells #[.int .i64 0, .slice none 0 0] 24))),
    n = .int .i64 i ∧ wr = z.val ∧ WBox z.val g g (x.End + 1 + y.End) ((behOf x y).Lines.take i) vL ∧ Aside (i + d' = x.Lines.length))
  case atStart =>
    refine ⟨0, .slice none 0 0, ⟨_, (Below.refl _ _).alloc (Nat.le_refl _) _⟩, rfl, rfl, ⟨?_, ⟨fun _ => False, Rep.Own.nil _ _ _ _ _, fun k hk => hk.elim⟩, by simp [Value.ownBlock], Nat.le_refl _⟩, Nat.zero_add _⟩
    rw [← hg]
    have h9 := heap_alloc_new (((w.alloc (.cells #[.int .i64 x.End, .slice A x.Lines.length c] 24)).alloc (.cells #[.int .i64 y.End, .slice B y.Lines.length d] 24)).alloc (.cells #[.int .i64 0, .slice none 0 0] 24)) (.cells #[.int .i64 (x.End + 1 + y.End), .slice none 0 0] 24)
    simp only [World.size_alloc] at h9
    exact h9
  case round =>
    obtain ⟨i, vL, z, rfl, rfl, hb, hA⟩ := hrel
    have hWz : Is w z.val := ((((Is.refl w).alloc _).alloc _).alloc _).step z
    obtain ⟨r1, r2, r3, r4, r5, r6⟩ := hB z
    have hz2 : g < z.val.heap.size := (Array.getElem?_eq_some_iff.1 hb.blk).1
    have y0 := cell_of_row z.val (w.heap.size + 1) 0 _ _ _ r5
    have y1 := cell_of_row z.val (w.heap.size + 1) 1 _ _ _ r5
    have v0 := cell_of_row z.val w.heap.size 0 _ _ _ r6
    have v1 := cell_of_row z.val w.heap.size 1 _ _ _ r6
    simp at y0 y1 v0 v1
    have hr4 := Lib.hid r4
    clear r4 r5 r6
    by_cases hlt : i < x.Lines.length
    · obtain ⟨l, hxl⟩ := get_ex hlt
      obtain ⟨m, hyl⟩ := get_ex (xs := y.Lines) (i := i) (by have := hlen.out; omega)
      obtain ⟨b, o, A2, c2, A3, c3, rfl, hbb, hc0, hc1, hc2, hc3, hk, h2, h3⟩ := Rep.rowLine h.row hxl
      obtain ⟨b', o', B2, d2, B3, d3, rfl, hbb', hd0, hd1, hd2, hd3, hk', k2, k3⟩ := Rep.rowLine k.row hyl
      obtain ⟨gi, rfl⟩ : ∃ m, gk = m + 1 := ⟨gk - 1, by have := hA.out; omega⟩
      have hal := hlx l (List.mem_of_getElem? hxl)
      have ham := hly m (List.mem_of_getElem? hyl)
      have hshl := Lib.hid (hsh l (List.mem_of_getElem? hxl) m)
      have hst := Lib.hid hA.out
      have hBL : Hid ((behOf x y).Lines[i]? = some (behLine x.End l m)) := Lib.hid (by unfold behOf; simp [List.getElem?_zipWith, hxl, hyl])
      have hilt : (i : Int) < (y.Lines.length : Int) := by have := hlen.out; omega
      have hm2 := h2.len
      have hm3 := h3.len
      have hmk2 := k2.len
      have hmk3 := k3.len
      clear hA hxl hyl
      replace hc0 := (hWz.below.cell (p := ⟨b, o + i * 4, none⟩) hbb).trans hc0
      replace hc1 := (hWz.below.cell (p := ⟨b, o + i * 4 + 1, none⟩) hbb).trans hc1
      replace hc2 := (hWz.below.cell (p := ⟨b, o + i * 4 + 2, none⟩) hbb).trans hc2
      replace hc3 := (hWz.below.cell (p := ⟨b, o + i * 4 + 3, none⟩) hbb).trans hc3
      have hbz : b < z.val.heap.size := by omega
      have hbzn : b ≠ z.val.heap.size := by omega
      have hWL : ∀ o', Is w (z.val.alloc o') := fun o' => hWz.alloc o'
      have n1 : w.heap.size ≠ z.val.heap.size := by omega
      have n2 : w.heap.size + 1 ≠ z.val.heap.size := by omega
      go_wp2
      refine wp_region_splitL (fun w' => ∃ z' : Under (z.val.alloc (.cells #[.string l.Name, .int .i64 l.W, .slice A2 l.At.length c2, .slice A3 l.Val.length c3] 50)), w' = z'.val) [false, false, false, false, false, false, false, false] [true, true, false, true, true, false, false, false] [] 4 #[true, true, false, true, true, false, false, false] (by kernel_rfl) (by kernel_rfl) (by decide) ⟨(Under.refl _).drew, rfl⟩ (fun _ _ d _ _ h => by cases d <;> exact h) ?_
      simp only [pickB]
      refine wpQuiet_nil ?_
      repeat (go_big_quiet_step (fail))
      refine wpQuiet_nil ?_
      refine anyL_one (i := 2) #[true, true, true, true, true, false, false, false] (by kernel_rfl) rfl (by decide) (fun Q' hQ' => ?_)
      go_wp2_with (go_at_call 61; refine (cloneInts_calls A2 c2 l.At _ F (h2.is ((hWL _).drew)) hal.pos (by have := hal.few; omega)).mono ?_; rintro e w6 ⟨vA, rfl, hoA, ⟨x6, rfl⟩⟩)
      refine ⟨(by first | exact .inr ⟨(Under.refl _).drew.trans x6, rfl⟩ | exact ⟨(Under.refl _).drew.trans x6, rfl⟩), ?_⟩
      refine anyL_one (i := 5) #[true, true, true, true, true, true, false, false] (by kernel_rfl) rfl (by decide) (fun Q' hQ' => ?_)
      go_wp2_with (go_at_call 62; refine (cloneBits_calls A3 c3 l.Val _ F (h3.is (((hWL _).drew).step x6)) (by rw [hal.len]; exact hal.pos) (by have := hal.few; have := hal.len; omega)).mono ?_; rintro e w9 ⟨vV, rfl, hoV, ⟨x9, rfl⟩⟩)
      refine ⟨(by first | exact .inr ⟨((Under.refl _).drew.trans x6).trans x9, rfl⟩ | exact ⟨((Under.refl _).drew.trans x6).trans x9, rfl⟩), ?_⟩
      refine anyL_one (i := 6) #[true, true, true, true, true, true, true, false] (by kernel_rfl) rfl (by decide) (fun Q' hQ' => ?_)
      go_wp2
      refine ⟨(by first | exact .inr ⟨((Under.refl _).drew.trans x6).trans x9, rfl⟩ | exact ⟨((Under.refl _).drew.trans x6).trans x9, rfl⟩), ?_⟩
      refine anyL_one (i := 7) #[true, true, true, true, true, true, true, true] (by kernel_rfl) rfl (by decide) (fun Q' hQ' => ?_)
      go_wp2
      refine ⟨(by first | exact .inr ⟨((Under.refl _).drew.trans x6).trans x9, rfl⟩ | exact ⟨((Under.refl _).drew.trans x6).trans x9, rfl⟩), ?_⟩
      refine anyL_end (by kernel_rfl) ?_
      have s6 := x6.size
      simp at s6
      have s9 := x9.size
      have hA0 : Rep.Own (Rep.int .i64) 3 x9.val (z.val.heap.size + 1) NoB vA l.At := (hoA.lower (by simp)).below x9.ok
      have hV0 : Rep.Own kBits 41 x9.val (z.val.heap.size + 1) NoB vV l.Val := hoV.lower (by omega)
      have h30 : ∀ k, vA.ownBlock = some k → vV.ownBlock ≠ some k := fun k q1 q2 => by have := (hoA.lt k q1).2; have := (hoV.lt k q2).1; omega
      have hIq : Is (z.val.alloc (.cells #[.string l.Name, .int .i64 l.W, .slice A2 l.At.length c2, .slice A3 l.Val.length c3] 50)) x9.val := (((Is.refl _).drew).step x6).step x9
      clear hoA hoV
      have hzq : Is z.val x9.val := ((Is.refl z.val).alloc _).trans hIq
      have hWq : Is w x9.val := hWz.trans hzq
      have u1 := (hzq.below.cell (p := ⟨w.heap.size + 1, 1, none⟩) r2).trans y1
      have u2 := (hWq.below.cell (p := ⟨b', o' + i * 4 + 2, none⟩) hbb').trans hd2
      have hq1 : w.heap.size + 1 < x9.val.heap.size := by omega
      have hbq : b' < x9.val.heap.size := by omega
      go_wp2
      go_loopg [8, 9, 10, 11, 40] m.At.length (fun d' vA vV _ _ n wr => ∃ (j : Nat) (ats : List Int) (vals : List Bits) (v : Under (z.val.alloc (.cells #[.string l.Name, .int .i64 l.W, .slice A2 l.At.length c2, .slice A3 l.Val.length c3] 50))),
        n = .int .i64 j ∧ wr = v.val ∧ Rep.Own (Rep.int .i64) 3 v.val (z.val.heap.size + 1) NoB vA ats ∧ Rep.Own kBits 41 v.val (z.val.heap.size + 1) NoB vV vals ∧ (∀ k, vA.ownBlock = some k → vV.ownBlock ≠ some k) ∧
        Aside (j + d' = m.At.length ∧ ats ++ backT x.End (m.At.drop j) = l.At ++ backT x.End m.At ∧ vals ++ m.Val.drop j = l.Val ++ m.Val ∧ ats.length ≤ 20000 + j ∧ vals.length = ats.length))
      case atStart =>
        obtain ⟨q, hq⟩ := hIq
        rw [hq] at hA0 hV0
        exact ⟨0, l.At, l.Val, q, rfl, hq, hA0, hV0, h30, by omega, rfl, rfl, by have := hal.few; omega, hal.len⟩
      case round =>
        obtain ⟨j, ats, vals, v, rfl, rfl, hoA, hoV, n3, hA⟩ := hrel
        clear u1 u2 hA0 hV0 h30
        have hWv : Is w v.val := (hWL _).step v
        have hzv : Is z.val v.val := ((Is.refl z.val).alloc _).step v
        have sv : z.val.heap.size < v.val.heap.size := v.lt _ (by simp)
        have e0 := (hzv.below.cell (p := ⟨w.heap.size, 0, none⟩) r1).trans v0
        have e1 := (hzv.below.cell (p := ⟨w.heap.size + 1, 1, none⟩) r2).trans y1
        have e3 := (hWv.below.cell (p := ⟨b', o' + i * 4 + 3, none⟩) hbb').trans hd3
        have hv0 : w.heap.size < v.val.heap.size := by omega
        have hv1 : w.heap.size + 1 < v.val.heap.size := by omega
        have hbv : b' < v.val.heap.size := by omega
        by_cases hlj : j < m.At.length
        · obtain ⟨t, hta⟩ := get_ex hlj
          obtain ⟨u, hua⟩ := get_ex (xs := m.Val) (i := j) (by have := ham.len; omega)
          have hr := ham.range t (List.mem_of_getElem? hta)
          have hr0 := hr.1
          have hr1' := hr.2
          obtain ⟨b2, o2, rfl, hb2, hct, hkt⟩ := Rep.rowInt k2.row hta
          obtain ⟨b3, o3, rfl, hb3, hu0, hu1, hu2, hku⟩ := Rep.rowBits k3.row hua
          replace hct := (hWv.below.cell (p := ⟨b2, o2 + j, none⟩) hb2).trans hct
          replace hu0 := (hWv.below.cell (p := ⟨b3, o3 + j * 3, none⟩) hb3).trans hu0
          replace hu1 := (hWv.below.cell (p := ⟨b3, o3 + j * 3 + 1, none⟩) hb3).trans hu1
          replace hu2 := (hWv.below.cell (p := ⟨b3, o3 + j * 3 + 2, none⟩) hb3).trans hu2
          have hb2v : b2 < v.val.heap.size := by omega
          have hb3v : b3 < v.val.heap.size := by omega
          have hjv : (j : Int) < (m.Val.length : Int) := by have := ham.len; omega
          obtain ⟨gk, rfl⟩ : ∃ m, gk = m + 1 := ⟨gk - 1, by have := hA.out.1; omega⟩
          obtain ⟨oA, hoAe⟩ : ∃ oA, u8.ownBlock = oA := ⟨_, rfl⟩
          obtain ⟨oV, hoVe⟩ : ∃ oV, u9.ownBlock = oV := ⟨_, rfl⟩
          have la : ∀ k, oA = some k → z.val.heap.size + 1 ≤ k ∧ k < v.val.heap.size := fun k hk => hoA.lt k (hoAe.trans hk)
          have lv : ∀ k, oV = some k → z.val.heap.size + 1 ≤ k ∧ k < v.val.heap.size := fun k hk => hoV.lt k (hoVe.trans hk)
          have hGk : ∀ k, (oA = some k ∨ oV = some k) → z.val.heap.size + 1 ≤ k := fun k hk => hk.elim (fun h => (la k h).1) (fun h => (lv k h).1)
          have nn : ∀ k, k < z.val.heap.size + 1 → ¬ oA = some k ∧ ¬ oV = some k := fun k hk => ⟨fun e => by have := (la k e).1; omega, fun e => by have := (lv k e).1; omega⟩
          have na0 := (nn w.heap.size (by omega)).1
          have nv0 := (nn w.heap.size (by omega)).2
          have na1 := (nn (w.heap.size + 1) (by omega)).1
          have nv1 := (nn (w.heap.size + 1) (by omega)).2
          have na2 := (nn b' (by omega)).1
          have nv2 := (nn b' (by omega)).2
          have na3 := (nn b3 (by omega)).1
          have nv3 := (nn b3 (by omega)).2
          have hoAh := Lib.hid hoAe
          have hoVh := Lib.hid hoVe
          have hstj := Lib.hid hA.out
          have hta2 := Lib.hid hta
          have hua2 := Lib.hid hua
          have hlA : ats.length ≤ 40000 := by have := hA.out.2.2.2.1; have := ham.few; omega
          have hlV : vals.length ≤ 40000 := by have := hA.out.2.2.2.2; omega
          clear hA hta hua hr hoAe hoVe nn
          go_wp2
          refine wp_region_splitL (fun w' => ∃ z' : But v.val (fun k => oA = some k ∨ oV = some k), w' = z'.val) [false, false, false, false, false, false, false, false, false, false, false, false, false, false, false, false, false, false, false, false, false, false] [true, true, true, true, true, true, false, false, true, true, true, true, true, true, true, true, true, true, false, false, false, false] [] 6 #[true, true, true, true, true, true, false, false, true, true, true, true, true, true, true, true, true, true, false, false, false, false] (by kernel_rfl) (by kernel_rfl) (by decide) ⟨(But.refl _ _).drew, rfl⟩ (fun _ _ d _ _ h => by cases d <;> exact h) ?_
          simp only [pickB]
          refine wpQuiet_nil ?_
          repeat (go_big_quiet_step (fail))
          refine wpQuiet_nil ?_
          refine anyL_two (i := 6) (j := 18) #[true, true, true, true, true, true, true, false, true, true, true, true, true, true, true, true, true, true, false, false, false, false] #[true, true, true, true, true, true, false, false, true, true, true, true, true, true, true, true, true, true, true, false, false, false] (by kernel_rfl) rfl rfl (by decide) (by decide) (fun Q' hQ' => ?_) (fun Q' hQ' => ?_)
          · go_wp2_with fail
            refine ⟨(by first | exact .inr ⟨((But.refl _ _).alloc _).drew, rfl⟩ | exact ⟨((But.refl _ _).alloc _).drew, rfl⟩), ?_⟩
            have h7 : ((v.val.alloc (.cells #[.int .i64 (t + x.End + 1)] 3)).drew).heap[v.val.heap.size]? = some (.cells #[.int .i64 (t + x.End + 1)] 3 (0, 0)) := heap_alloc_new _ _
            have hA7 : Rep.Own (Rep.int .i64) 3 ((v.val.alloc (.cells #[.int .i64 (t + x.End + 1)] 3)).drew) (z.val.heap.size + 1) NoB u8 ats := hoA.step (fun k _ hl => Below.heap_alloc v.val _ k hl)
            have hV7 : Rep.Own kBits 41 ((v.val.alloc (.cells #[.int .i64 (t + x.End + 1)] 3)).drew) (z.val.heap.size + 1) NoB u9 vals := hoV.step (fun k _ hl => Below.heap_alloc v.val _ k hl)
            refine anyL_two (i := 7) (j := 18) #[true, true, true, true, true, true, true, true, true, true, true, true, true, true, true, true, true, true, false, false, false, false] #[true, true, true, true, true, true, true, false, true, true, true, true, true, true, true, true, true, true, true, false, false, false] (by kernel_rfl) rfl rfl (by decide) (by decide) (fun Q' hQ' => ?_) (fun Q' hQ' => ?_)
            · go_wp2_with (at_builtin; refine wpList_slF (Rep.Flat.int _) rfl (.tmp 45) (.tmp 51) rfl intT rfl rfl hA7 (Rep.sl_one (y := t + x.End + 1) (c := [.int .i64 (t + x.End + 1)]) (F := fun k => k = v.val.heap.size) h7 ⟨rfl, InK.mk64 (by omega)⟩ rfl) (le_maxLen (by simp; omega)) (by simp; omega) (by simp; omega) ?_; intro vA' w8 ho8 hg8')
              have hg8 : Grew ((v.val.alloc (.cells #[.int .i64 (t + x.End + 1)] 3)).drew) w8 _ vA' := hg8'
              clear hg8'
              obtain ⟨y8, hy8⟩ := (((But.refl v.val (fun k => oA = some k ∨ oV = some k)).alloc (.cells #[.int .i64 (t + x.End + 1)] 3)).drew).grewB hg8 (fun k hk => .inl (hoAh.out ▸ hk))
              subst hy8
              have hV8 : Rep.Own kBits 41 y8.val (z.val.heap.size + 1) NoB u9 vals := hV7.step (fun k hk hl => hg8.by_.block k hl (fun e => hk.elim (fun h => h.elim) (fun h => n3 k e.symm h)))
              have n8 : ∀ k, vA'.ownBlock = some k → u9.ownBlock ≠ some k := fun k hk hk2 => by
                rcases hg8.at_ with h | h
                · exact n3 k (h ▸ hk) hk2
                · have q1 := h k hk
                  have q2 := lv k (hoVh.out ▸ hk2)
                  simp at q1
                  omega
              have s8 := y8.size
              refine ⟨(by first | exact .inr ⟨y8, rfl⟩ | exact ⟨y8, rfl⟩), ?_⟩
              refine anyL_one (i := 18) #[true, true, true, true, true, true, true, true, true, true, true, true, true, true, true, true, true, true, true, false, false, false] (by kernel_rfl) rfl (by decide) (fun Q' hQ' => ?_)
              go_wp2_with fail
              refine ⟨(by first | exact .inr ⟨y8.alloc _, rfl⟩ | exact ⟨y8.alloc _, rfl⟩), ?_⟩
              have h14 : (y8.val.alloc (.cells #[.int .i64 u.W, .int .u64 u.V, .int .u64 u.X] 41)).heap[y8.val.heap.size]? = some (.cells #[.int .i64 u.W, .int .u64 u.V, .int .u64 u.X] 41 (0, 0)) := heap_alloc_new _ _
              have hA14 : Rep.Own (Rep.int .i64) 3 (y8.val.alloc (.cells #[.int .i64 u.W, .int .u64 u.V, .int .u64 u.X] 41)) (z.val.heap.size + 1) NoB vA' (ats ++ [t + x.End + 1]) := ho8.step (fun k _ hl => Below.heap_alloc y8.val _ k hl)
              have hV14 : Rep.Own kBits 41 (y8.val.alloc (.cells #[.int .i64 u.W, .int .u64 u.V, .int .u64 u.X] 41)) (z.val.heap.size + 1) NoB u9 vals := hV8.step (fun k _ hl => Below.heap_alloc y8.val _ k hl)
              refine anyL_one (i := 19) #[true, true, true, true, true, true, true, true, true, true, true, true, true, true, true, true, true, true, true, true, false, false] (by kernel_rfl) rfl (by decide) (fun Q' hQ' => ?_)
              go_wp2_with (at_builtin; refine wpList_slF kBits_flat rfl (.tmp 53) (.tmp 63) rfl bitsT rfl rfl hV14 (Rep.sl_one (y := u) (c := [.int .i64 u.W, .int .u64 u.V, .int .u64 u.X]) (F := fun k => k = y8.val.heap.size) h14 (kBits_iff.2 ⟨rfl, hku⟩) rfl) (le_maxLen (by simp; omega)) (by simp; omega) (by first | omega | (simp; omega)) ?_; intro vV' w15 ho15 hg15')
              have hg15 : Grew (y8.val.alloc (.cells #[.int .i64 u.W, .int .u64 u.V, .int .u64 u.X] 41)) w15 _ vV' := hg15'
              clear hg15'
              obtain ⟨y15, hy15⟩ := (y8.alloc (.cells #[.int .i64 u.W, .int .u64 u.V, .int .u64 u.X] 41)).grewB hg15 (fun k hk => .inr (hoVh.out ▸ hk))
              subst hy15
              have hA15 : Rep.Own (Rep.int .i64) 3 y15.val (z.val.heap.size + 1) NoB vA' (ats ++ [t + x.End + 1]) := hA14.step (fun k hk hl => hg15.by_.block k hl (fun e => hk.elim (fun h => h.elim) (fun h => n8 k h e.symm)))
              have n15 : ∀ k, vA'.ownBlock = some k → vV'.ownBlock ≠ some k := fun k hk hk2 => by
                rcases hg15.at_ with h | h
                · exact n8 k hk (h ▸ hk2)
                · have q1 := h k hk2
                  have q2 := (hA14.lt k hk).2
                  omega
              have hWl := y15.is (Is.val v) (fun k hk => by have := hGk k hk; simp; omega)
              refine ⟨(by first | exact .inr ⟨y15, rfl⟩ | exact ⟨y15, rfl⟩), ?_⟩
              refine anyL_one (i := 20) #[true, true, true, true, true, true, true, true, true, true, true, true, true, true, true, true, true, true, true, true, true, false] (by kernel_rfl) rfl (by decide) (fun Q' hQ' => ?_)
              go_wp2
              refine ⟨(by first | exact .inr ⟨y15, rfl⟩ | exact ⟨y15, rfl⟩), ?_⟩
              refine anyL_one (i := 21) #[true, true, true, true, true, true, true, true, true, true, true, true, true, true, true, true, true, true, true, true, true, true] (by kernel_rfl) rfl (by decide) (fun Q' hQ' => ?_)
              go_wp2
              refine ⟨(by first | exact .inr ⟨y15, rfl⟩ | exact ⟨y15, rfl⟩), ?_⟩
              refine anyL_end (by kernel_rfl) ?_
              go_wp2
              go_roundg gk
              case measure => omega
              case rel =>
                obtain ⟨q, hq⟩ := hWl
                refine ⟨j + 1, ats ++ [t + x.End + 1], vals ++ [u], q, by go_num, hq, hq ▸ hA15, hq ▸ ho15, n15, ?_⟩
                have h0 := hstj.out
                refine ⟨by omega, ?_, ?_, by simp; omega, by simp; omega⟩
                · rw [← h0.2.1, drop_cons hta2.out, show t + x.End + 1 = x.End + 1 + t by omega]
                  simp [backT]
                · rw [← h0.2.2.1, drop_cons hua2.out]
                  simp
            · go_wp2_with fail
              refine ⟨(by first | exact .inr ⟨(((But.refl _ _).alloc _).alloc _).drew, rfl⟩ | exact ⟨(((But.refl _ _).alloc _).alloc _).drew, rfl⟩), ?_⟩
              have h7b : (((v.val.alloc (.cells #[.int .i64 (t + x.End + 1)] 3)).alloc (.cells #[.int .i64 u.W, .int .u64 u.V, .int .u64 u.X] 41)).drew).heap[v.val.heap.size]? = some (.cells #[.int .i64 (t + x.End + 1)] 3 (0, 0)) := (Below.heap_alloc (v.val.alloc (.cells #[.int .i64 (t + x.End + 1)] 3)) (.cells #[.int .i64 u.W, .int .u64 u.V, .int .u64 u.X] 41) _ (by simp)).trans (heap_alloc_new _ _)
              have h14b : (((v.val.alloc (.cells #[.int .i64 (t + x.End + 1)] 3)).alloc (.cells #[.int .i64 u.W, .int .u64 u.V, .int .u64 u.X] 41)).drew).heap[(v.val.heap.size + 1)]? = some (.cells #[.int .i64 u.W, .int .u64 u.V, .int .u64 u.X] 41 (0, 0)) := heap_alloc2_new v.val (.cells #[.int .i64 (t + x.End + 1)] 3) (.cells #[.int .i64 u.W, .int .u64 u.V, .int .u64 u.X] 41)
              have hA7b : Rep.Own (Rep.int .i64) 3 (((v.val.alloc (.cells #[.int .i64 (t + x.End + 1)] 3)).alloc (.cells #[.int .i64 u.W, .int .u64 u.V, .int .u64 u.X] 41)).drew) (z.val.heap.size + 1) NoB u8 ats := hoA.step (fun k _ hl => (Below.heap_alloc (v.val.alloc (.cells #[.int .i64 (t + x.End + 1)] 3)) (.cells #[.int .i64 u.W, .int .u64 u.V, .int .u64 u.X] 41) k (by simp; omega)).trans (Below.heap_alloc v.val (.cells #[.int .i64 (t + x.End + 1)] 3) k hl))
              have hV7b : Rep.Own kBits 41 (((v.val.alloc (.cells #[.int .i64 (t + x.End + 1)] 3)).alloc (.cells #[.int .i64 u.W, .int .u64 u.V, .int .u64 u.X] 41)).drew) (z.val.heap.size + 1) NoB u9 vals := hoV.step (fun k _ hl => (Below.heap_alloc (v.val.alloc (.cells #[.int .i64 (t + x.End + 1)] 3)) (.cells #[.int .i64 u.W, .int .u64 u.V, .int .u64 u.X] 41) k (by simp; omega)).trans (Below.heap_alloc v.val (.cells #[.int .i64 (t + x.End + 1)] 3) k hl))
              refine anyL_one (i := 7) #[true, true, true, true, true, true, true, true, true, true, true, true, true, true, true, true, true, true, true, false, false, false] (by kernel_rfl) rfl (by decide) (fun Q' hQ' => ?_)
              go_wp2_with (at_builtin; refine wpList_slF (Rep.Flat.int _) rfl (.tmp 45) (.tmp 51) rfl intT rfl rfl hA7b (Rep.sl_one (y := t + x.End + 1) (c := [.int .i64 (t + x.End + 1)]) (F := fun k => k = v.val.heap.size) h7b ⟨rfl, InK.mk64 (by omega)⟩ rfl) (le_maxLen (by simp; omega)) (by simp; omega) (by simp; omega) ?_; intro vA' w8 ho8 hg8')
              have hg8 : Grew (((v.val.alloc (.cells #[.int .i64 (t + x.End + 1)] 3)).alloc (.cells #[.int .i64 u.W, .int .u64 u.V, .int .u64 u.X] 41)).drew) w8 _ vA' := hg8'
              clear hg8'
              obtain ⟨y8, hy8⟩ := ((((But.refl v.val (fun k => oA = some k ∨ oV = some k)).alloc (.cells #[.int .i64 (t + x.End + 1)] 3)).alloc (.cells #[.int .i64 u.W, .int .u64 u.V, .int .u64 u.X] 41)).drew).grewB hg8 (fun k hk => .inl (hoAh.out ▸ hk))
              subst hy8
              have hV8 : Rep.Own kBits 41 y8.val (z.val.heap.size + 1) NoB u9 vals := hV7b.step (fun k hk hl => hg8.by_.block k hl (fun e => hk.elim (fun h => h.elim) (fun h => n3 k e.symm h)))
              have n8 : ∀ k, vA'.ownBlock = some k → u9.ownBlock ≠ some k := fun k hk hk2 => by
                rcases hg8.at_ with h | h
                · exact n3 k (h ▸ hk) hk2
                · have q1 := h k hk
                  have q2 := lv k (hoVh.out ▸ hk2)
                  simp at q1
                  omega
              have s8 := y8.size
              refine ⟨(by first | exact .inr ⟨y8, rfl⟩ | exact ⟨y8, rfl⟩), ?_⟩
              have h14 : y8.val.heap[(v.val.heap.size + 1)]? = some (.cells #[.int .i64 u.W, .int .u64 u.V, .int .u64 u.X] 41 (0, 0)) := (hg8.by_.block _ (Array.getElem?_eq_some_iff.1 h14b).1 (fun e => by have := (la _ (hoAh.out ▸ e.symm)).2; omega)).trans h14b
              refine anyL_one (i := 19) #[true, true, true, true, true, true, true, true, true, true, true, true, true, true, true, true, true, true, true, true, false, false] (by kernel_rfl) rfl (by decide) (fun Q' hQ' => ?_)
              go_wp2_with (at_builtin; refine wpList_slF kBits_flat rfl (.tmp 53) (.tmp 63) rfl bitsT rfl rfl hV8 (Rep.sl_one (y := u) (c := [.int .i64 u.W, .int .u64 u.V, .int .u64 u.X]) (F := fun k => k = (v.val.heap.size + 1)) h14 (kBits_iff.2 ⟨rfl, hku⟩) rfl) (le_maxLen (by simp; omega)) (by simp; omega) (by first | omega | (simp; omega)) ?_; intro vV' w15 ho15 hg15')
              have hg15 : Grew (y8.val) w15 _ vV' := hg15'
              clear hg15'
              obtain ⟨y15, hy15⟩ := (y8).grewB hg15 (fun k hk => .inr (hoVh.out ▸ hk))
              subst hy15
              have hA15 : Rep.Own (Rep.int .i64) 3 y15.val (z.val.heap.size + 1) NoB vA' (ats ++ [t + x.End + 1]) := ho8.step (fun k hk hl => hg15.by_.block k hl (fun e => hk.elim (fun h => h.elim) (fun h => n8 k h e.symm)))
              have n15 : ∀ k, vA'.ownBlock = some k → vV'.ownBlock ≠ some k := fun k hk hk2 => by
                rcases hg15.at_ with h | h
                · exact n8 k hk (h ▸ hk2)
                · have q1 := h k hk2
                  have q2 := (ho8.lt k hk).2
                  omega
              have hWl := y15.is (Is.val v) (fun k hk => by have := hGk k hk; simp; omega)
              refine ⟨(by first | exact .inr ⟨y15, rfl⟩ | exact ⟨y15, rfl⟩), ?_⟩
              refine anyL_one (i := 20) #[true, true, true, true, true, true, true, true, true, true, true, true, true, true, true, true, true, true, true, true, true, false] (by kernel_rfl) rfl (by decide) (fun Q' hQ' => ?_)
              go_wp2
              refine ⟨(by first | exact .inr ⟨y15, rfl⟩ | exact ⟨y15, rfl⟩), ?_⟩
              refine anyL_one (i := 21) #[true, true, true, true, true, true, true, true, true, true, true, true, true, true, true, true, true, true, true, true, true, true] (by kernel_rfl) rfl (by decide) (fun Q' hQ' => ?_)
              go_wp2
              refine ⟨(by first | exact .inr ⟨y15, rfl⟩ | exact ⟨y15, rfl⟩), ?_⟩
              refine anyL_end (by kernel_rfl) ?_
              go_wp2
              go_roundg gk
              case measure => omega
              case rel =>
                obtain ⟨q, hq⟩ := hWl
                refine ⟨j + 1, ats ++ [t + x.End + 1], vals ++ [u], q, by go_num, hq, hq ▸ hA15, hq ▸ ho15, n15, ?_⟩
                have h0 := hstj.out
                refine ⟨by omega, ?_, ?_, by simp; omega, by simp; omega⟩
                · rw [← h0.2.1, drop_cons hta2.out, show t + x.End + 1 = x.End + 1 + t by omega]
                  simp [backT]
                · rw [← h0.2.2.1, drop_cons hua2.out]
                  simp
          · go_wp2_with fail
            refine ⟨(by first | exact .inr ⟨((But.refl _ _).alloc _).drew, rfl⟩ | exact ⟨((But.refl _ _).alloc _).drew, rfl⟩), ?_⟩
            refine anyL_one (i := 6) #[true, true, true, true, true, true, true, false, true, true, true, true, true, true, true, true, true, true, true, false, false, false] (by kernel_rfl) rfl (by decide) (fun Q' hQ' => ?_)
            go_wp2_with fail
            refine ⟨(by first | exact .inr ⟨(((But.refl _ _).alloc _).alloc _).drew, rfl⟩ | exact ⟨(((But.refl _ _).alloc _).alloc _).drew, rfl⟩), ?_⟩
            have h7b : (((v.val.alloc (.cells #[.int .i64 u.W, .int .u64 u.V, .int .u64 u.X] 41)).alloc (.cells #[.int .i64 (t + x.End + 1)] 3)).drew).heap[(v.val.heap.size + 1)]? = some (.cells #[.int .i64 (t + x.End + 1)] 3 (0, 0)) := heap_alloc2_new v.val (.cells #[.int .i64 u.W, .int .u64 u.V, .int .u64 u.X] 41) (.cells #[.int .i64 (t + x.End + 1)] 3)
            have h14b : (((v.val.alloc (.cells #[.int .i64 u.W, .int .u64 u.V, .int .u64 u.X] 41)).alloc (.cells #[.int .i64 (t + x.End + 1)] 3)).drew).heap[v.val.heap.size]? = some (.cells #[.int .i64 u.W, .int .u64 u.V, .int .u64 u.X] 41 (0, 0)) := (Below.heap_alloc (v.val.alloc (.cells #[.int .i64 u.W, .int .u64 u.V, .int .u64 u.X] 41)) (.cells #[.int .i64 (t + x.End + 1)] 3) _ (by simp)).trans (heap_alloc_new _ _)
            have hA7b : Rep.Own (Rep.int .i64) 3 (((v.val.alloc (.cells #[.int .i64 u.W, .int .u64 u.V, .int .u64 u.X] 41)).alloc (.cells #[.int .i64 (t + x.End + 1)] 3)).drew) (z.val.heap.size + 1) NoB u8 ats := hoA.step (fun k _ hl => (Below.heap_alloc (v.val.alloc (.cells #[.int .i64 u.W, .int .u64 u.V, .int .u64 u.X] 41)) (.cells #[.int .i64 (t + x.End + 1)] 3) k (by simp; omega)).trans (Below.heap_alloc v.val (.cells #[.int .i64 u.W, .int .u64 u.V, .int .u64 u.X] 41) k hl))
            have hV7b : Rep.Own kBits 41 (((v.val.alloc (.cells #[.int .i64 u.W, .int .u64 u.V, .int .u64 u.X] 41)).alloc (.cells #[.int .i64 (t + x.End + 1)] 3)).drew) (z.val.heap.size + 1) NoB u9 vals := hoV.step (fun k _ hl => (Below.heap_alloc (v.val.alloc (.cells #[.int .i64 u.W, .int .u64 u.V, .int .u64 u.X] 41)) (.cells #[.int .i64 (t + x.End + 1)] 3) k (by simp; omega)).trans (Below.heap_alloc v.val (.cells #[.int .i64 u.W, .int .u64 u.V, .int .u64 u.X] 41) k hl))
            refine anyL_one (i := 7) #[true, true, true, true, true, true, true, true, true, true, true, true, true, true, true, true, true, true, true, false, false, false] (by kernel_rfl) rfl (by decide) (fun Q' hQ' => ?_)
            go_wp2_with (at_builtin; refine wpList_slF (Rep.Flat.int _) rfl (.tmp 45) (.tmp 51) rfl intT rfl rfl hA7b (Rep.sl_one (y := t + x.End + 1) (c := [.int .i64 (t + x.End + 1)]) (F := fun k => k = (v.val.heap.size + 1)) h7b ⟨rfl, InK.mk64 (by omega)⟩ rfl) (le_maxLen (by simp; omega)) (by simp; omega) (by simp; omega) ?_; intro vA' w8 ho8 hg8')
            have hg8 : Grew (((v.val.alloc (.cells #[.int .i64 u.W, .int .u64 u.V, .int .u64 u.X] 41)).alloc (.cells #[.int .i64 (t + x.End + 1)] 3)).drew) w8 _ vA' := hg8'
            clear hg8'
            obtain ⟨y8, hy8⟩ := ((((But.refl v.val (fun k => oA = some k ∨ oV = some k)).alloc (.cells #[.int .i64 u.W, .int .u64 u.V, .int .u64 u.X] 41)).alloc (.cells #[.int .i64 (t + x.End + 1)] 3)).drew).grewB hg8 (fun k hk => .inl (hoAh.out ▸ hk))
            subst hy8
            have hV8 : Rep.Own kBits 41 y8.val (z.val.heap.size + 1) NoB u9 vals := hV7b.step (fun k hk hl => hg8.by_.block k hl (fun e => hk.elim (fun h => h.elim) (fun h => n3 k e.symm h)))
            have n8 : ∀ k, vA'.ownBlock = some k → u9.ownBlock ≠ some k := fun k hk hk2 => by
              rcases hg8.at_ with h | h
              · exact n3 k (h ▸ hk) hk2
              · have q1 := h k hk
                have q2 := lv k (hoVh.out ▸ hk2)
                simp at q1
                omega
            have s8 := y8.size
            refine ⟨(by first | exact .inr ⟨y8, rfl⟩ | exact ⟨y8, rfl⟩), ?_⟩
            have h14 : y8.val.heap[v.val.heap.size]? = some (.cells #[.int .i64 u.W, .int .u64 u.V, .int .u64 u.X] 41 (0, 0)) := (hg8.by_.block _ (Array.getElem?_eq_some_iff.1 h14b).1 (fun e => by have := (la _ (hoAh.out ▸ e.symm)).2; omega)).trans h14b
            refine anyL_one (i := 19) #[true, true, true, true, true, true, true, true, true, true, true, true, true, true, true, true, true, true, true, true, false, false] (by kernel_rfl) rfl (by decide) (fun Q' hQ' => ?_)
            go_wp2_with (at_builtin; refine wpList_slF kBits_flat rfl (.tmp 53) (.tmp 63) rfl bitsT rfl rfl hV8 (Rep.sl_one (y := u) (c := [.int .i64 u.W, .int .u64 u.V, .int .u64 u.X]) (F := fun k => k = v.val.heap.size) h14 (kBits_iff.2 ⟨rfl, hku⟩) rfl) (le_maxLen (by simp; omega)) (by simp; omega) (by first | omega | (simp; omega)) ?_; intro vV' w15 ho15 hg15')
            have hg15 : Grew (y8.val) w15 _ vV' := hg15'
            clear hg15'
            obtain ⟨y15, hy15⟩ := (y8).grewB hg15 (fun k hk => .inr (hoVh.out ▸ hk))
            subst hy15
            have hA15 : Rep.Own (Rep.int .i64) 3 y15.val (z.val.heap.size + 1) NoB vA' (ats ++ [t + x.End + 1]) := ho8.step (fun k hk hl => hg15.by_.block k hl (fun e => hk.elim (fun h => h.elim) (fun h => n8 k h e.symm)))
            have n15 : ∀ k, vA'.ownBlock = some k → vV'.ownBlock ≠ some k := fun k hk hk2 => by
              rcases hg15.at_ with h | h
              · exact n8 k hk (h ▸ hk2)
              · have q1 := h k hk2
                have q2 := (ho8.lt k hk).2
                omega
            have hWl := y15.is (Is.val v) (fun k hk => by have := hGk k hk; simp; omega)
            refine ⟨(by first | exact .inr ⟨y15, rfl⟩ | exact ⟨y15, rfl⟩), ?_⟩
            refine anyL_one (i := 20) #[true, true, true, true, true, true, true, true, true, true, true, true, true, true, true, true, true, true, true, true, true, false] (by kernel_rfl) rfl (by decide) (fun Q' hQ' => ?_)
            go_wp2
            refine ⟨(by first | exact .inr ⟨y15, rfl⟩ | exact ⟨y15, rfl⟩), ?_⟩
            refine anyL_one (i := 21) #[true, true, true, true, true, true, true, true, true, true, true, true, true, true, true, true, true, true, true, true, true, true] (by kernel_rfl) rfl (by decide) (fun Q' hQ' => ?_)
            go_wp2
            refine ⟨(by first | exact .inr ⟨y15, rfl⟩ | exact ⟨y15, rfl⟩), ?_⟩
            refine anyL_end (by kernel_rfl) ?_
            go_wp2
            go_roundg gk
            case measure => omega
            case rel =>
              obtain ⟨q, hq⟩ := hWl
              refine ⟨j + 1, ats ++ [t + x.End + 1], vals ++ [u], q, by go_num, hq, hq ▸ hA15, hq ▸ ho15, n15, ?_⟩
              have h0 := hstj.out
              refine ⟨by omega, ?_, ?_, by simp; omega, by simp; omega⟩
              · rw [← h0.2.1, drop_cons hta2.out, show t + x.End + 1 = x.End + 1 + t by omega]
                simp [backT]
              · rw [← h0.2.2.1, drop_cons hua2.out]
                simp
        · obtain rfl : j = m.At.length := by have := hA.out.1; omega
          have hAo := hA.out
          rw [drop_end, show backT x.End [] = [] from rfl, List.append_nil] at hAo
          have hatsE := hAo.2.1
          have hvalsE : vals = l.Val ++ m.Val := by
            have h9 := hAo.2.2.1
            rw [List.drop_of_length_le (by rw [ham.len]; exact Nat.le_refl _), List.append_nil] at h9
            exact h9
          have hlenA : ats.length ≤ 40000 := by have := hAo.2.2.2.1; have := ham.few; omega
          have hlenE := hAo.2.2.2.2
          have hmg : merge [] [] ats vals = ((behLine x.End l m).At, (behLine x.End l m).Val) := by rw [hatsE, hvalsE]; exact hshl.out
          have hmgh := Lib.hid hmg
          have hlenEh := Lib.hid hlenE
          clear hA hAo hatsE hvalsE hlenE hmg
          obtain ⟨A5, c5, rfl, hs5⟩ := hoA.sl
          obtain ⟨A6, c6, rfl, hs6⟩ := hoV.sl
          obtain ⟨oL, hoL⟩ : ∃ oL, vL.ownBlock = oL := ⟨_, rfl⟩
          obtain ⟨FL, hOwn, hFL⟩ := hb.own
          have ll : ∀ k, oL = some k → g ≤ k ∧ k < z.val.heap.size := fun k hk => hOwn.lt k (hoL.trans hk)
          have d1 : ¬ oL = some z.val.heap.size := fun e => by have := ll _ e; omega
          have d2 : ¬ oL = some g := hoL ▸ hb.n1
          have hby := hb.step hzv.below
          have hbblk := hby.blk
          have b0 := cell_of_row v.val g 0 _ _ _ hbblk
          have b1 := cell_of_row v.val g 1 _ _ _ hbblk
          simp at b0 b1
          have hb2y : g < v.val.heap.size := by omega
          have hyL : v.val.heap[z.val.heap.size]? = some (.cells #[.string l.Name, .int .i64 l.W, .slice A2 l.At.length c2, .slice A3 l.Val.length c3] 50 (0, 0)) := (v.ok.block _ (by simp)).trans (heap_alloc_new _ _)
          have g0 := cell_of_row v.val z.val.heap.size 0 _ _ _ hyL
          have g1 := cell_of_row v.val z.val.heap.size 1 _ _ _ hyL
          simp at g0 g1
          have hoLh := Lib.hid hoL
          clear hoL hby
          try rw [hg]
          go_wp2
          refine wp_region_splitT (fun w' => ∃ z' : But v.val (fun k => oL = some k), w' = z'.val) [true, true, true, true, true, true, true, true, false, false, false, false, false] (by kernel_rfl) (by kernel_rfl) (by decide) ⟨(But.refl _ _).drew, rfl⟩ (fun _ _ d _ _ h => by cases d <;> exact h) ?_
          simp only [pickB, dropB]
          repeat (go_big_quiet_step (fail))
          refine wpQuiet_nil ?_
          refine wpListT_step (fun Q' hQ' => ?_)
          go_wp2_with (go_at_call 60; refine (shown_calls l.Name l.W ats vals A5 A6 c5 c6 _ _ _ (hs5.is (Is.refl v.val).drew) (hs6.is (Is.refl v.val).drew) (by have := hlenEh.out; omega) (by omega)).mono ?_; rw [hmgh.out]; rintro e w8 ⟨vA2, vV2, rfl, ho7, ho8, ⟨x8, rfl⟩⟩)
          have hzx : Is z.val x8.val := (hzv.drew).step x8
          have hA8 : Rep.Own (Rep.int .i64) 3 x8.val (z.val.heap.size + 1) NoB vA2 (behLine x.End l m).At := ho7.lower (by simp; omega)
          have hV8 : Rep.Own kBits 41 x8.val (z.val.heap.size + 1) NoB vV2 (behLine x.End l m).Val := ho8.lower (by simp; omega)
          have hbx := hb.step hzx.below
          obtain ⟨FN, A2', c2', A3', c3', rfl, rfl, hOwnF, hrel, hFN⟩ := hbx.push hA8 hV8 hk (fun k hk => by have := ll k (hoLh.out ▸ hk); omega) (by omega)
          have s8 := x8.size
          simp at s8
          have hbll := behOf_len hlen.out
          have hlenL : ((behOf x y).Lines.take i).length = i := by rw [List.length_take, hbll, Nat.min_eq_left (Nat.le_of_lt hlt)]
          have hin : i ≤ 160 := by omega
          have hbxh := Lib.hid hbx
          have hinh := Lib.hid hin
          have hbllh := Lib.hid hbll
          clear hbx hbll
          refine ⟨⟨((But.refl _ _).drew).under x8, rfl⟩, ?_⟩
          refine wpListT_step (fun Q' hQ' => ?_)
          go_wp2_with fail
          refine ⟨⟨(((But.refl _ _).drew).under x8).alloc _, rfl⟩, ?_⟩
          refine wpListT_step (fun Q' hQ' => ?_)
          go_wp2_with (at_builtin; refine wpList_one rfl (.tmp 67) (.tmp 75) rfl linesT (w0 := x8.val) (c := [.string l.Name, .int .i64 l.W, .slice A2' (behLine x.End l m).At.length c2', .slice A3' (behLine x.End l m).Val.length c3']) (te := 50) rfl rfl hOwnF (y := behLine x.End l m) hrel (fun k hk => (hFN k hk).2.1) (le_maxLen (by rw [hlenL]; omega)) (by rw [hlenL]; omega) (by omega) ?_; intro v' w10 ho10 hg10)
          obtain ⟨hblk10, hW10⟩ := hbxh.out.done ho10 hg10 hFN
          obtain ⟨y10, hy10⟩ := (((But.refl v.val (fun k => oL = some k)).drew).under x8).grewB hg10 (fun k hk => hoLh.out ▸ hk)
          have hIs : Is (((w.alloc (.cells #[.int .i64 x.End, .slice (some ⟨b, o, none⟩) x.Lines.length c] 24)).alloc (.cells #[.int .i64 y.End, .slice (some ⟨b', o', none⟩) y.Lines.length d] 24)).alloc (.cells #[.int .i64 0, .slice none 0 0] 24)) (w10.setCell ⟨g, 1, none⟩ v') := (((Is.val z).trans hzx).grown hg10.by_ (fun k hk => by have := ll k (hoLh.out ▸ hk); simp; omega)).setCell (by show _ ≤ g; simp; omega) _
          subst hy10
          have hlen10 : ((behOf x y).Lines.take i ++ [behLine x.End l m]).length = i + 1 := by rw [List.length_append, hlenL]; rfl
          have hlist : (behOf x y).Lines.take i ++ [behLine x.End l m] = (behOf x y).Lines.take (i + 1) := by rw [List.take_add_one, hBL.out]; rfl
          obtain ⟨A10, c10, rfl, hs10⟩ := ho10.sl
          have k1 := cell_of_row y10.val g 1 _ _ _ hblk10
          simp at k1
          have hfz : ∀ j, y10.val.frozen? ⟨g, j, none⟩ = false := fun j => frozen_of_row _ _ _ _ _ hblk10
          have hg10l : g < y10.val.heap.size := (Array.getElem?_eq_some_iff.1 hblk10).1
          rw [hlen10] at hW10 hIs
          rw [hlist] at hW10
          have hW10h := Lib.hid hW10
          have hlisth := Lib.hid hlist
          clear hlist hW10 hlenL hbxh hrel hOwnF ho10 hs10 hg10 hzx hA8 hV8
          refine ⟨⟨y10, rfl⟩, ?_⟩
          refine wpListT_step (fun Q' hQ' => ?_)
          go_wp2
          refine ⟨⟨y10, rfl⟩, ?_⟩
          refine wpListT_last (fun Q' hQ' => ?_)
          rw [hlen10]
          go_wp2
          rw [← hg]
          go_roundg gi
          case measure => omega
          case rel =>
            obtain ⟨q, hq⟩ := hIs
            refine ⟨i + 1, .slice A10 (i + 1) c10, q, by go_num, by rw [hg]; exact hq, by rw [← hq]; exact hW10h.out, by have := hst.out; unfold Aside; omega⟩
    · obtain rfl : i = x.Lines.length := by have := hA.out; omega
      have hbll := behOf_len hlen.out
      have hT : (behOf x y).Lines.take x.Lines.length = (behOf x y).Lines := List.take_of_length_le (by rw [hbll]; exact Nat.le_refl _)
      rw [hT] at hb
      have hrr := hr4.out
      have hfz : ∀ j, z.val.frozen? ⟨w.heap.size + 1 + 1, j, none⟩ = false := fun j => frozen_of_row _ _ _ _ _ hrr
      have w0 := cell_of_row z.val (w.heap.size + 1 + 1) 0 _ _ _ hrr
      have w1 := cell_of_row z.val (w.heap.size + 1 + 1) 1 _ _ _ hrr
      have b0 := cell_of_row z.val g 0 _ _ _ hb.blk
      have b1 := cell_of_row z.val g 1 _ _ _ hb.blk
      simp at w0 w1 b0 b1
      obtain ⟨FL, hOwn, hFL⟩ := hb.own
      obtain ⟨AL, cL, rfl, hsL⟩ := hOwn.sl
      have hbl := fun k hk => (hOwn.lt k hk).1
      clear hA hrr hb
      try rw [hg]
      go_wp2
      have hrow := heap_setCell_same _ (w.heap.size + 1 + 1) 1 _ _ (.slice AL x.Lines.length cL) (heap_setCell_same z.val (w.heap.size + 1 + 1) 0 _ _ (.int .i64 (x.End + 1 + y.End)) hr4.out)
      ((try simp only [Exit.inBlock, Exit.then]); refine bodyPost_ret (results_cell_row rfl _ _ (w.heap.size + 1 + 1) _ _ _ _ rfl hrow Try.underlying24 rfl (by kernel_rfl)) rfl ?_)
      refine ⟨AL, cL, by simp [hbll], ?_, (hWz.setCell (by simp; omega) _).setCell (by simp; omega) _⟩
      refine hsL.step (fun k hk hl => ⟨by simp; exact hl, (Below.heap_setCell _ ⟨w.heap.size + 1 + 1, 1, none⟩ _ k (fun e => ?_)).trans (Below.heap_setCell _ ⟨w.heap.size + 1 + 1, 0, none⟩ _ k (fun e => ?_))⟩)
      · rcases hk with hk | hk
        · have := (hFL k hk).1; have e' : k = w.heap.size + 1 + 1 := e; omega
        · have := hbl k hk; have e' : k = w.heap.size + 1 + 1 := e; omega
      · rcases hk with hk | hk
        · have := (hFL k hk).1; have e' : k = w.heap.size + 1 + 1 := e; omega
        · have := hbl k hk; have e' : k = w.heap.size + 1 + 1 := e; omega
end Go.Proofs.Ytabhafllkhoefaa
