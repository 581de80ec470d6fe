/- The law function WaveChecks at a valid wave that has the line. -/
import Derived.Test.YtabhafllkhoefaaChecksLaw
namespace Go.Proofs.Ytabhafllkhoefaa
open Go.RowKit
set_option maxRecDepth 100000

set_option maxHeartbeats 16000000 in
theorem waveChecks_neg_none (x y : Wave) (s : ByteArray) (t : Int) (A B : Option Addr) (c d : Nat) (w : World) (F G : Nat → Prop) (he : InK .i64 x.End) (h : Rep.Sl kLine w F A c x.Lines) (hy : Rep.Sl kLine w G B d y.Lines) (hwf : waveFault x = 0) (i : Nat) (l : Line) (hix : idxFrom s x.Lines 0 = i) (hl : x.Lines[i]? = some l) (hlv : LV l x.End)
    (hr : t < 0) (ha : after1 t (l.At.drop 1) = none) :
    Calls Try.prog 4 #[.agg #[.int .i64 x.End, .slice A x.Lines.length c], .agg #[.int .i64 y.End, .slice B y.Lines.length d], .string s, .int .i64 t] w fun e w' => e = .returned (.bool true) ∧ Is w w' := by
  have hu := Try.underlying50
  have hu2 := Try.underlying24
  have hu3 := Try.underlying41
  have hm := h.len
  have hfe : findErr x s = 0 := by unfold findErr; rw [if_neg (by simpa using hwf), if_neg (by omega)]
  have hfh := Lib.hid hfe
  have hih := Lib.hid hix
  have hit : Hid ((idxFrom s x.Lines 0).toNat = i) := Lib.hid (by rw [hix]; rfl)
  have hah := Lib.hid ha
  clear hfe hix ha
  obtain ⟨b, o, A2, c2, A3, c3, rfl, hb, hc0, hc1, hc2, hc3, hk, hs2, hs3⟩ := Rep.rowLine h.row hl
  have hlh := Lib.hid hl
  have hm2 := hs2.len
  have hc2le := hs2.le
  have hc2max := hs2.cap_le
  have hlp := hlv.len0
  obtain ⟨a0, ha0⟩ := get_ex hlp
  obtain ⟨b2, o2, rfl, hb2, hca, _⟩ := Rep.rowInt hs2.row ha0
  clear hl ha0 hca
  have hrh : Hid (t < 0 ∨ x.End < t) := Lib.hid (by omega)
  have hr1 := hr
  clear hr
  have hwh := Lib.hid hwf
  clear hwf
  have hW : Is w ((w.alloc (.cells #[.int .i64 x.End, .slice (some ⟨b, o, none⟩) x.Lines.length c] 24)).alloc (.cells #[.int .i64 y.End, .slice B y.Lines.length d] 24)) := ((Is.refl w).alloc _).alloc _
  have hB : ∀ z : Under ((w.alloc (.cells #[.int .i64 x.End, .slice (some ⟨b, o, none⟩) x.Lines.length c] 24)).alloc (.cells #[.int .i64 y.End, .slice B y.Lines.length d] 24)), w.heap.size < z.val.heap.size ∧ w.heap.size + 1 < z.val.heap.size := fun z => ⟨z.lt _ (by simp; omega), z.lt _ (by simp)⟩
  have hck : ∀ W, Is w W → Calls Try.prog 17 #[.agg #[.int .i64 x.End, .slice (some ⟨b, o, none⟩) x.Lines.length c]] W fun e w' => e = .returned (.int .i64 0) ∧ Is W w' := fun W hW => by
    have := check_calls x (some ⟨b, o, none⟩) c W F he (h.is hW)
    rw [hwh.out] at this
    exact this
  go_enter Try.func4, Try.ntmps4
  go_wp2_with (go_at_call 11; refine (waveFault_calls x (some ⟨b, o, none⟩) c _ F he (h.is hW)).mono ?_; rintro e w1 ⟨rfl, ⟨x1, rfl⟩⟩; rw [hwh.out]; have hW1 := hW.step x1; have hb3 := (hB x1).1; have hb4 := (hB x1).2)
  refine wp_region_under (by kernel_rfl) (by kernel_rfl) ?_
  repeat (go_big_quiet_step (first
    | (go_at_call 12; exact Calls.under _ (waved_calls _))
    | (go_at_call 17; exact Calls.under _ (hck _ (hW1.step _)))
    | (go_at_call 18; exact Calls.under _ (same_calls x y (some ⟨b, o, none⟩) B c d _ F G (h.is (hW1.step _)) (hy.is (hW1.step _))))
    | (go_at_call 19; exact Calls.under _ (sameWave_calls x y (some ⟨b, o, none⟩) B c d _ F G (h.is (hW1.step _)) (hy.is (hW1.step _))))))
  refine wpQuiet_nil ?_
  rintro _ ⟨x2, rfl⟩
  have hW2 := hW1.step x2
  have p3 := x2.lt _ hb3
  have p4 := x2.lt _ hb4
  go_wp2_with (first
    | (go_at_call 20; refine (called_calls x s (some ⟨b, o, none⟩) c _ F (h.is hW2)).mono ?_; rintro e w3 ⟨hor, ⟨x3, rfl⟩⟩; obtain ⟨_, b', o', hA', rfl⟩ := hor.resolve_left (fun h => by have := hih.out; omega); simp only [Option.some.injEq, Addr.mk.injEq, and_true] at hA'; obtain ⟨rfl, rfl⟩ := hA'; rw [hit.out]; clear hor; have hW3 := hW2.step x3; have p5 := x3.lt _ p3; have p6 := x3.lt _ p4)
    | (go_at_call 21; refine (value_range x s t (some ⟨b, o, none⟩) c _ F he (h.is hW3) hfh.out hrh.out).mono ?_; rintro e w4 ⟨rfl, ⟨x4, rfl⟩⟩; have hW4 := (hW3.step x4).alloc (.cells #[.int .i64 0, .int .u64 0, .int .u64 0] 41); have p7 := x4.lt _ p5; have p8 := x4.lt _ p6)
    | (go_at_call 22; refine (next_calls x s t (some ⟨b, o, none⟩) c _ F he (h.is hW4)).mono ?_; rintro e w5 ⟨hor, ⟨x5, rfl⟩⟩; obtain ⟨_, l', hl', hor2⟩ := hor.resolve_left (fun h => h.1 hfh.out); rw [hit.out, hlh.out] at hl'; obtain rfl := Option.some.inj hl'; obtain ⟨_, rfl⟩ := hor2.resolve_left (fun ⟨a', h, _⟩ => by rw [hah.out] at h; exact absurd h (by simp)); clear hor2 hl'; go_loud (have hW5 := hW4.step x5); go_loud (have p9 : x4.val.heap.size < x5.val.heap.size := x5.lt _ (by simp)); go_loud (have p10 : w.heap.size < x5.val.heap.size := x5.lt _ (by simp <;> omega)); go_loud (have p11 : w.heap.size + 1 < x5.val.heap.size := x5.lt _ (by simp <;> omega)); go_loud (have q1 : x5.val.cell? ⟨x4.val.heap.size, 0, none⟩ = some (.int .i64 0) := by { rw [x5.cell _ _ (by simp)]; try go_simp }); go_loud (have q2 : x5.val.cell? ⟨x4.val.heap.size, 1, none⟩ = some (.int .u64 0) := by { rw [x5.cell _ _ (by simp)]; try go_simp }); go_loud (have q3 : x5.val.cell? ⟨x4.val.heap.size, 2, none⟩ = some (.int .u64 0) := by { rw [x5.cell _ _ (by simp)]; try go_simp }); go_loud (have d0 := (hW5.below.cell (p := ⟨b, o + i * 4, none⟩) hb).trans hc0); go_loud (have d1 := (hW5.below.cell (p := ⟨b, o + i * 4 + 1, none⟩) hb).trans hc1); go_loud (have d2 := (hW5.below.cell (p := ⟨b, o + i * 4 + 2, none⟩) hb).trans hc2); go_loud (have d3 := (hW5.below.cell (p := ⟨b, o + i * 4 + 3, none⟩) hb).trans hc3); go_loud (have d4 : b < x5.val.heap.size := by omega); clear hor))
  all_goals have hbx : b2 < x5.val.heap.size := by omega
  · go_loopg [16, 110] (l.At.length - 1) (fun d' _ t' wr => ∃ (j : Nat), t' = .int .i64 j ∧ wr = x5.val ∧ Aside (j + d' = l.At.length - 1 ∧ after1 t ((l.At.drop 1).drop j) = none))
    case atStart => exact ⟨0, rfl, rfl, by omega, hah.out⟩
    case round =>
      obtain ⟨j, rfl, rfl, hA⟩ := hrel
      by_cases hlt : j < l.At.length - 1
      · exact absurd hlt (by omega)
      · have h9 := hA.out.2
        obtain rfl : j = l.At.length - 1 := by have := hA.out.1; omega
        clear h9 hA
        go_wp2
        go_ret
        exact ⟨ret_bool (by simp), hW5⟩
  · go_loopg [16, 110] (l.At.length - 1) (fun d' _ t' wr => ∃ (j : Nat), t' = .int .i64 j ∧ wr = x5.val ∧ Aside (j + d' = l.At.length - 1 ∧ after1 t ((l.At.drop 1).drop j) = none))
    case atStart => exact ⟨0, rfl, rfl, by omega, hah.out⟩
    case round =>
      obtain ⟨j, rfl, rfl, hA⟩ := hrel
      by_cases hlt : j < l.At.length - 1
      · obtain ⟨a1, ha1⟩ := get_ex (xs := l.At) (i := 1 + j) (by omega)
        obtain ⟨_, hca, _⟩ := Rep.rowIntAt hs2.row ha1
        rw [← Nat.add_assoc] at hca
        have hcx := (hW5.below.cell (p := ⟨b2, o2 + 1 + j, none⟩) hb2).trans hca
        have hltz : (j : Int) < ((l.At.length - 1 : Nat) : Int) := by omega
        have hn : after1 t ((l.At.drop 1).drop j) = if t < a1 then some a1 else after1 t ((l.At.drop 1).drop (j + 1)) := by
          rw [List.drop_drop, drop_cons ha1, after1, List.drop_drop, Nat.add_assoc]
        obtain ⟨gk, rfl⟩ : ∃ m, gk = m + 1 := ⟨gk - 1, by have := hA.out.1; omega⟩
        have hst := Lib.hid hA.out
        have hnh := Lib.hid hn
        clear hA hn ha1 hlt
        by_cases hta : t < a1
        · have h9 := hst.out.2
          rw [hnh.out, if_pos hta] at h9
          exact absurd h9 (by simp)
        · go_wp2
          go_roundg gk
          case measure => omega
          case rel => exact ⟨j + 1, by go_num, rfl, by have := hst.out.1; omega, by rw [← hst.out.2, hnh.out, if_neg (by omega)]⟩
      · have h9 := hA.out.2
        obtain rfl : j = l.At.length - 1 := by have := hA.out.1; omega
        clear h9 hA
        go_wp2
        go_ret
        exact ⟨ret_bool (by simp), hW5⟩

set_option maxHeartbeats 16000000 in
theorem waveChecks_neg_some (x y : Wave) (s : ByteArray) (t : Int) (A B : Option Addr) (c d : Nat) (w : World) (F G : Nat → Prop) (he : InK .i64 x.End) (h : Rep.Sl kLine w F A c x.Lines) (hy : Rep.Sl kLine w G B d y.Lines) (hwf : waveFault x = 0) (i : Nat) (l : Line) (hix : idxFrom s x.Lines 0 = i) (hl : x.Lines[i]? = some l) (hlv : LV l x.End)
    (hr : t < 0) (a : Int) (ha : after1 t (l.At.drop 1) = some a) :
    Calls Try.prog 4 #[.agg #[.int .i64 x.End, .slice A x.Lines.length c], .agg #[.int .i64 y.End, .slice B y.Lines.length d], .string s, .int .i64 t] w fun e w' => e = .returned (.bool true) ∧ Is w w' := by
  have hu := Try.underlying50
  have hu2 := Try.underlying24
  have hu3 := Try.underlying41
  have hm := h.len
  have hfe : findErr x s = 0 := by unfold findErr; rw [if_neg (by simpa using hwf), if_neg (by omega)]
  have hfh := Lib.hid hfe
  have hih := Lib.hid hix
  have hit : Hid ((idxFrom s x.Lines 0).toNat = i) := Lib.hid (by rw [hix]; rfl)
  have hah := Lib.hid ha
  clear hfe hix ha
  obtain ⟨b, o, A2, c2, A3, c3, rfl, hb, hc0, hc1, hc2, hc3, hk, hs2, hs3⟩ := Rep.rowLine h.row hl
  have hlh := Lib.hid hl
  have hm2 := hs2.len
  have hc2le := hs2.le
  have hc2max := hs2.cap_le
  have hlp := hlv.len0
  obtain ⟨a0, ha0⟩ := get_ex hlp
  obtain ⟨b2, o2, rfl, hb2, hca, _⟩ := Rep.rowInt hs2.row ha0
  clear hl ha0 hca
  have hrh : Hid (t < 0 ∨ x.End < t) := Lib.hid (by omega)
  have hr1 := hr
  clear hr
  have hwh := Lib.hid hwf
  clear hwf
  have hW : Is w ((w.alloc (.cells #[.int .i64 x.End, .slice (some ⟨b, o, none⟩) x.Lines.length c] 24)).alloc (.cells #[.int .i64 y.End, .slice B y.Lines.length d] 24)) := ((Is.refl w).alloc _).alloc _
  have hB : ∀ z : Under ((w.alloc (.cells #[.int .i64 x.End, .slice (some ⟨b, o, none⟩) x.Lines.length c] 24)).alloc (.cells #[.int .i64 y.End, .slice B y.Lines.length d] 24)), w.heap.size < z.val.heap.size ∧ w.heap.size + 1 < z.val.heap.size := fun z => ⟨z.lt _ (by simp; omega), z.lt _ (by simp)⟩
  have hck : ∀ W, Is w W → Calls Try.prog 17 #[.agg #[.int .i64 x.End, .slice (some ⟨b, o, none⟩) x.Lines.length c]] W fun e w' => e = .returned (.int .i64 0) ∧ Is W w' := fun W hW => by
    have := check_calls x (some ⟨b, o, none⟩) c W F he (h.is hW)
    rw [hwh.out] at this
    exact this
  go_enter Try.func4, Try.ntmps4
  go_wp2_with (go_at_call 11; refine (waveFault_calls x (some ⟨b, o, none⟩) c _ F he (h.is hW)).mono ?_; rintro e w1 ⟨rfl, ⟨x1, rfl⟩⟩; rw [hwh.out]; have hW1 := hW.step x1; have hb3 := (hB x1).1; have hb4 := (hB x1).2)
  refine wp_region_under (by kernel_rfl) (by kernel_rfl) ?_
  repeat (go_big_quiet_step (first
    | (go_at_call 12; exact Calls.under _ (waved_calls _))
    | (go_at_call 17; exact Calls.under _ (hck _ (hW1.step _)))
    | (go_at_call 18; exact Calls.under _ (same_calls x y (some ⟨b, o, none⟩) B c d _ F G (h.is (hW1.step _)) (hy.is (hW1.step _))))
    | (go_at_call 19; exact Calls.under _ (sameWave_calls x y (some ⟨b, o, none⟩) B c d _ F G (h.is (hW1.step _)) (hy.is (hW1.step _))))))
  refine wpQuiet_nil ?_
  rintro _ ⟨x2, rfl⟩
  have hW2 := hW1.step x2
  have p3 := x2.lt _ hb3
  have p4 := x2.lt _ hb4
  go_wp2_with (first
    | (go_at_call 20; refine (called_calls x s (some ⟨b, o, none⟩) c _ F (h.is hW2)).mono ?_; rintro e w3 ⟨hor, ⟨x3, rfl⟩⟩; obtain ⟨_, b', o', hA', rfl⟩ := hor.resolve_left (fun h => by have := hih.out; omega); simp only [Option.some.injEq, Addr.mk.injEq, and_true] at hA'; obtain ⟨rfl, rfl⟩ := hA'; rw [hit.out]; clear hor; have hW3 := hW2.step x3; have p5 := x3.lt _ p3; have p6 := x3.lt _ p4)
    | (go_at_call 21; refine (value_range x s t (some ⟨b, o, none⟩) c _ F he (h.is hW3) hfh.out hrh.out).mono ?_; rintro e w4 ⟨rfl, ⟨x4, rfl⟩⟩; have hW4 := (hW3.step x4).alloc (.cells #[.int .i64 0, .int .u64 0, .int .u64 0] 41); have p7 := x4.lt _ p5; have p8 := x4.lt _ p6)
    | (go_at_call 22; refine (next_calls x s t (some ⟨b, o, none⟩) c _ F he (h.is hW4)).mono ?_; rintro e w5 ⟨hor, ⟨x5, rfl⟩⟩; obtain ⟨_, l', hl', hor2⟩ := hor.resolve_left (fun h => h.1 hfh.out); rw [hit.out, hlh.out] at hl'; obtain rfl := Option.some.inj hl'; obtain ⟨a', ha', rfl⟩ := hor2.resolve_right (fun h => by rw [hah.out] at h; exact absurd h.1 (by simp)); rw [hah.out] at ha'; obtain rfl := Option.some.inj ha'; clear hor2 ha' hl'; go_loud (have hW5 := hW4.step x5); go_loud (have p9 : x4.val.heap.size < x5.val.heap.size := x5.lt _ (by simp)); go_loud (have p10 : w.heap.size < x5.val.heap.size := x5.lt _ (by simp <;> omega)); go_loud (have p11 : w.heap.size + 1 < x5.val.heap.size := x5.lt _ (by simp <;> omega)); go_loud (have q1 : x5.val.cell? ⟨x4.val.heap.size, 0, none⟩ = some (.int .i64 0) := by { rw [x5.cell _ _ (by simp)]; try go_simp }); go_loud (have q2 : x5.val.cell? ⟨x4.val.heap.size, 1, none⟩ = some (.int .u64 0) := by { rw [x5.cell _ _ (by simp)]; try go_simp }); go_loud (have q3 : x5.val.cell? ⟨x4.val.heap.size, 2, none⟩ = some (.int .u64 0) := by { rw [x5.cell _ _ (by simp)]; try go_simp }); go_loud (have d0 := (hW5.below.cell (p := ⟨b, o + i * 4, none⟩) hb).trans hc0); go_loud (have d1 := (hW5.below.cell (p := ⟨b, o + i * 4 + 1, none⟩) hb).trans hc1); go_loud (have d2 := (hW5.below.cell (p := ⟨b, o + i * 4 + 2, none⟩) hb).trans hc2); go_loud (have d3 := (hW5.below.cell (p := ⟨b, o + i * 4 + 3, none⟩) hb).trans hc3); go_loud (have d4 : b < x5.val.heap.size := by omega); clear hor))
  all_goals have hbx : b2 < x5.val.heap.size := by omega
  · go_loopg [16, 110] (l.At.length - 1) (fun d' _ t' wr => ∃ (j : Nat), t' = .int .i64 j ∧ wr = x5.val ∧ Aside (j + d' = l.At.length - 1 ∧ after1 t ((l.At.drop 1).drop j) = some a))
    case atStart => exact ⟨0, rfl, rfl, by omega, hah.out⟩
    case round =>
      obtain ⟨j, rfl, rfl, hA⟩ := hrel
      by_cases hlt : j < l.At.length - 1
      · exact absurd hlt (by omega)
      · have h9 := hA.out.2
        obtain rfl : j = l.At.length - 1 := by have := hA.out.1; omega
        rw [List.drop_drop, List.drop_of_length_le (by omega), after1] at h9
        exact absurd h9 (by simp)
  · go_loopg [16, 110] (l.At.length - 1) (fun d' _ t' wr => ∃ (j : Nat), t' = .int .i64 j ∧ wr = x5.val ∧ Aside (j + d' = l.At.length - 1 ∧ after1 t ((l.At.drop 1).drop j) = some a))
    case atStart => exact ⟨0, rfl, rfl, by omega, hah.out⟩
    case round =>
      obtain ⟨j, rfl, rfl, hA⟩ := hrel
      by_cases hlt : j < l.At.length - 1
      · obtain ⟨a1, ha1⟩ := get_ex (xs := l.At) (i := 1 + j) (by omega)
        obtain ⟨_, hca, _⟩ := Rep.rowIntAt hs2.row ha1
        rw [← Nat.add_assoc] at hca
        have hcx := (hW5.below.cell (p := ⟨b2, o2 + 1 + j, none⟩) hb2).trans hca
        have hltz : (j : Int) < ((l.At.length - 1 : Nat) : Int) := by omega
        have hn : after1 t ((l.At.drop 1).drop j) = if t < a1 then some a1 else after1 t ((l.At.drop 1).drop (j + 1)) := by
          rw [List.drop_drop, drop_cons ha1, after1, List.drop_drop, Nat.add_assoc]
        obtain ⟨gk, rfl⟩ : ∃ m, gk = m + 1 := ⟨gk - 1, by have := hA.out.1; omega⟩
        have hst := Lib.hid hA.out
        have hnh := Lib.hid hn
        clear hA hn ha1 hlt
        by_cases hta : t < a1
        · have h9 := hst.out.2
          rw [hnh.out, if_pos hta] at h9
          obtain rfl := Option.some.inj h9
          clear h9
          go_wp2
          go_ret
          exact ⟨ret_bool (by simp), hW5⟩
        · go_wp2
          go_roundg gk
          case measure => omega
          case rel => exact ⟨j + 1, by go_num, rfl, by have := hst.out.1; omega, by rw [← hst.out.2, hnh.out, if_neg (by omega)]⟩
      · have h9 := hA.out.2
        obtain rfl : j = l.At.length - 1 := by have := hA.out.1; omega
        rw [List.drop_drop, List.drop_of_length_le (by omega), after1] at h9
        exact absurd h9 (by simp)

set_option maxHeartbeats 16000000 in
theorem waveChecks_big_none (x y : Wave) (s : ByteArray) (t : Int) (A B : Option Addr) (c d : Nat) (w : World) (F G : Nat → Prop) (he : InK .i64 x.End) (h : Rep.Sl kLine w F A c x.Lines) (hy : Rep.Sl kLine w G B d y.Lines) (hwf : waveFault x = 0) (i : Nat) (l : Line) (hix : idxFrom s x.Lines 0 = i) (hl : x.Lines[i]? = some l) (hlv : LV l x.End)
    (hr : ¬ t < 0 ∧ x.End < t) (ha : after1 t (l.At.drop 1) = none) :
    Calls Try.prog 4 #[.agg #[.int .i64 x.End, .slice A x.Lines.length c], .agg #[.int .i64 y.End, .slice B y.Lines.length d], .string s, .int .i64 t] w fun e w' => e = .returned (.bool true) ∧ Is w w' := by
  have hu := Try.underlying50
  have hu2 := Try.underlying24
  have hu3 := Try.underlying41
  have hm := h.len
  have hfe : findErr x s = 0 := by unfold findErr; rw [if_neg (by simpa using hwf), if_neg (by omega)]
  have hfh := Lib.hid hfe
  have hih := Lib.hid hix
  have hit : Hid ((idxFrom s x.Lines 0).toNat = i) := Lib.hid (by rw [hix]; rfl)
  have hah := Lib.hid ha
  clear hfe hix ha
  obtain ⟨b, o, A2, c2, A3, c3, rfl, hb, hc0, hc1, hc2, hc3, hk, hs2, hs3⟩ := Rep.rowLine h.row hl
  have hlh := Lib.hid hl
  have hm2 := hs2.len
  have hc2le := hs2.le
  have hc2max := hs2.cap_le
  have hlp := hlv.len0
  obtain ⟨a0, ha0⟩ := get_ex hlp
  obtain ⟨b2, o2, rfl, hb2, hca, _⟩ := Rep.rowInt hs2.row ha0
  clear hl ha0 hca
  have hrh : Hid (t < 0 ∨ x.End < t) := Lib.hid (by omega)
  have hr1 := hr.1
  have hr2 := hr.2
  clear hr
  have hwh := Lib.hid hwf
  clear hwf
  have hW : Is w ((w.alloc (.cells #[.int .i64 x.End, .slice (some ⟨b, o, none⟩) x.Lines.length c] 24)).alloc (.cells #[.int .i64 y.End, .slice B y.Lines.length d] 24)) := ((Is.refl w).alloc _).alloc _
  have hB : ∀ z : Under ((w.alloc (.cells #[.int .i64 x.End, .slice (some ⟨b, o, none⟩) x.Lines.length c] 24)).alloc (.cells #[.int .i64 y.End, .slice B y.Lines.length d] 24)), w.heap.size < z.val.heap.size ∧ w.heap.size + 1 < z.val.heap.size := fun z => ⟨z.lt _ (by simp; omega), z.lt _ (by simp)⟩
  have hck : ∀ W, Is w W → Calls Try.prog 17 #[.agg #[.int .i64 x.End, .slice (some ⟨b, o, none⟩) x.Lines.length c]] W fun e w' => e = .returned (.int .i64 0) ∧ Is W w' := fun W hW => by
    have := check_calls x (some ⟨b, o, none⟩) c W F he (h.is hW)
    rw [hwh.out] at this
    exact this
  go_enter Try.func4, Try.ntmps4
  go_wp2_with (go_at_call 11; refine (waveFault_calls x (some ⟨b, o, none⟩) c _ F he (h.is hW)).mono ?_; rintro e w1 ⟨rfl, ⟨x1, rfl⟩⟩; rw [hwh.out]; have hW1 := hW.step x1; have hb3 := (hB x1).1; have hb4 := (hB x1).2)
  refine wp_region_under (by kernel_rfl) (by kernel_rfl) ?_
  repeat (go_big_quiet_step (first
    | (go_at_call 12; exact Calls.under _ (waved_calls _))
    | (go_at_call 17; exact Calls.under _ (hck _ (hW1.step _)))
    | (go_at_call 18; exact Calls.under _ (same_calls x y (some ⟨b, o, none⟩) B c d _ F G (h.is (hW1.step _)) (hy.is (hW1.step _))))
    | (go_at_call 19; exact Calls.under _ (sameWave_calls x y (some ⟨b, o, none⟩) B c d _ F G (h.is (hW1.step _)) (hy.is (hW1.step _))))))
  refine wpQuiet_nil ?_
  rintro _ ⟨x2, rfl⟩
  have hW2 := hW1.step x2
  have p3 := x2.lt _ hb3
  have p4 := x2.lt _ hb4
  go_wp2_with (first
    | (go_at_call 20; refine (called_calls x s (some ⟨b, o, none⟩) c _ F (h.is hW2)).mono ?_; rintro e w3 ⟨hor, ⟨x3, rfl⟩⟩; obtain ⟨_, b', o', hA', rfl⟩ := hor.resolve_left (fun h => by have := hih.out; omega); simp only [Option.some.injEq, Addr.mk.injEq, and_true] at hA'; obtain ⟨rfl, rfl⟩ := hA'; rw [hit.out]; clear hor; have hW3 := hW2.step x3; have p5 := x3.lt _ p3; have p6 := x3.lt _ p4)
    | (go_at_call 21; refine (value_range x s t (some ⟨b, o, none⟩) c _ F he (h.is hW3) hfh.out hrh.out).mono ?_; rintro e w4 ⟨rfl, ⟨x4, rfl⟩⟩; have hW4 := (hW3.step x4).alloc (.cells #[.int .i64 0, .int .u64 0, .int .u64 0] 41); have p7 := x4.lt _ p5; have p8 := x4.lt _ p6)
    | (go_at_call 22; refine (next_calls x s t (some ⟨b, o, none⟩) c _ F he (h.is hW4)).mono ?_; rintro e w5 ⟨hor, ⟨x5, rfl⟩⟩; obtain ⟨_, l', hl', hor2⟩ := hor.resolve_left (fun h => h.1 hfh.out); rw [hit.out, hlh.out] at hl'; obtain rfl := Option.some.inj hl'; obtain ⟨_, rfl⟩ := hor2.resolve_left (fun ⟨a', h, _⟩ => by rw [hah.out] at h; exact absurd h (by simp)); clear hor2 hl'; go_loud (have hW5 := hW4.step x5); go_loud (have p9 : x4.val.heap.size < x5.val.heap.size := x5.lt _ (by simp)); go_loud (have p10 : w.heap.size < x5.val.heap.size := x5.lt _ (by simp <;> omega)); go_loud (have p11 : w.heap.size + 1 < x5.val.heap.size := x5.lt _ (by simp <;> omega)); go_loud (have q1 : x5.val.cell? ⟨x4.val.heap.size, 0, none⟩ = some (.int .i64 0) := by { rw [x5.cell _ _ (by simp)]; try go_simp }); go_loud (have q2 : x5.val.cell? ⟨x4.val.heap.size, 1, none⟩ = some (.int .u64 0) := by { rw [x5.cell _ _ (by simp)]; try go_simp }); go_loud (have q3 : x5.val.cell? ⟨x4.val.heap.size, 2, none⟩ = some (.int .u64 0) := by { rw [x5.cell _ _ (by simp)]; try go_simp }); go_loud (have d0 := (hW5.below.cell (p := ⟨b, o + i * 4, none⟩) hb).trans hc0); go_loud (have d1 := (hW5.below.cell (p := ⟨b, o + i * 4 + 1, none⟩) hb).trans hc1); go_loud (have d2 := (hW5.below.cell (p := ⟨b, o + i * 4 + 2, none⟩) hb).trans hc2); go_loud (have d3 := (hW5.below.cell (p := ⟨b, o + i * 4 + 3, none⟩) hb).trans hc3); go_loud (have d4 : b < x5.val.heap.size := by omega); clear hor))
  all_goals have hbx : b2 < x5.val.heap.size := by omega
  · go_loopg [16, 110] (l.At.length - 1) (fun d' _ t' wr => ∃ (j : Nat), t' = .int .i64 j ∧ wr = x5.val ∧ Aside (j + d' = l.At.length - 1 ∧ after1 t ((l.At.drop 1).drop j) = none))
    case atStart => exact ⟨0, rfl, rfl, by omega, hah.out⟩
    case round =>
      obtain ⟨j, rfl, rfl, hA⟩ := hrel
      by_cases hlt : j < l.At.length - 1
      · exact absurd hlt (by omega)
      · have h9 := hA.out.2
        obtain rfl : j = l.At.length - 1 := by have := hA.out.1; omega
        clear h9 hA
        go_wp2
        go_ret
        exact ⟨ret_bool (by simp), hW5⟩
  · go_loopg [16, 110] (l.At.length - 1) (fun d' _ t' wr => ∃ (j : Nat), t' = .int .i64 j ∧ wr = x5.val ∧ Aside (j + d' = l.At.length - 1 ∧ after1 t ((l.At.drop 1).drop j) = none))
    case atStart => exact ⟨0, rfl, rfl, by omega, hah.out⟩
    case round =>
      obtain ⟨j, rfl, rfl, hA⟩ := hrel
      by_cases hlt : j < l.At.length - 1
      · obtain ⟨a1, ha1⟩ := get_ex (xs := l.At) (i := 1 + j) (by omega)
        obtain ⟨_, hca, _⟩ := Rep.rowIntAt hs2.row ha1
        rw [← Nat.add_assoc] at hca
        have hcx := (hW5.below.cell (p := ⟨b2, o2 + 1 + j, none⟩) hb2).trans hca
        have hltz : (j : Int) < ((l.At.length - 1 : Nat) : Int) := by omega
        have hn : after1 t ((l.At.drop 1).drop j) = if t < a1 then some a1 else after1 t ((l.At.drop 1).drop (j + 1)) := by
          rw [List.drop_drop, drop_cons ha1, after1, List.drop_drop, Nat.add_assoc]
        obtain ⟨gk, rfl⟩ : ∃ m, gk = m + 1 := ⟨gk - 1, by have := hA.out.1; omega⟩
        have hst := Lib.hid hA.out
        have hnh := Lib.hid hn
        clear hA hn ha1 hlt
        by_cases hta : t < a1
        · have h9 := hst.out.2
          rw [hnh.out, if_pos hta] at h9
          exact absurd h9 (by simp)
        · go_wp2
          go_roundg gk
          case measure => omega
          case rel => exact ⟨j + 1, by go_num, rfl, by have := hst.out.1; omega, by rw [← hst.out.2, hnh.out, if_neg (by omega)]⟩
      · have h9 := hA.out.2
        obtain rfl : j = l.At.length - 1 := by have := hA.out.1; omega
        clear h9 hA
        go_wp2
        go_ret
        exact ⟨ret_bool (by simp), hW5⟩

set_option maxHeartbeats 16000000 in
theorem waveChecks_big_some (x y : Wave) (s : ByteArray) (t : Int) (A B : Option Addr) (c d : Nat) (w : World) (F G : Nat → Prop) (he : InK .i64 x.End) (h : Rep.Sl kLine w F A c x.Lines) (hy : Rep.Sl kLine w G B d y.Lines) (hwf : waveFault x = 0) (i : Nat) (l : Line) (hix : idxFrom s x.Lines 0 = i) (hl : x.Lines[i]? = some l) (hlv : LV l x.End)
    (hr : ¬ t < 0 ∧ x.End < t) (a : Int) (ha : after1 t (l.At.drop 1) = some a) :
    Calls Try.prog 4 #[.agg #[.int .i64 x.End, .slice A x.Lines.length c], .agg #[.int .i64 y.End, .slice B y.Lines.length d], .string s, .int .i64 t] w fun e w' => e = .returned (.bool true) ∧ Is w w' := by
  have hu := Try.underlying50
  have hu2 := Try.underlying24
  have hu3 := Try.underlying41
  have hm := h.len
  have hfe : findErr x s = 0 := by unfold findErr; rw [if_neg (by simpa using hwf), if_neg (by omega)]
  have hfh := Lib.hid hfe
  have hih := Lib.hid hix
  have hit : Hid ((idxFrom s x.Lines 0).toNat = i) := Lib.hid (by rw [hix]; rfl)
  have hah := Lib.hid ha
  clear hfe hix ha
  obtain ⟨b, o, A2, c2, A3, c3, rfl, hb, hc0, hc1, hc2, hc3, hk, hs2, hs3⟩ := Rep.rowLine h.row hl
  have hlh := Lib.hid hl
  have hm2 := hs2.len
  have hc2le := hs2.le
  have hc2max := hs2.cap_le
  have hlp := hlv.len0
  obtain ⟨a0, ha0⟩ := get_ex hlp
  obtain ⟨b2, o2, rfl, hb2, hca, _⟩ := Rep.rowInt hs2.row ha0
  clear hl ha0 hca
  have hrh : Hid (t < 0 ∨ x.End < t) := Lib.hid (by omega)
  have hr1 := hr.1
  have hr2 := hr.2
  clear hr
  have hwh := Lib.hid hwf
  clear hwf
  have hW : Is w ((w.alloc (.cells #[.int .i64 x.End, .slice (some ⟨b, o, none⟩) x.Lines.length c] 24)).alloc (.cells #[.int .i64 y.End, .slice B y.Lines.length d] 24)) := ((Is.refl w).alloc _).alloc _
  have hB : ∀ z : Under ((w.alloc (.cells #[.int .i64 x.End, .slice (some ⟨b, o, none⟩) x.Lines.length c] 24)).alloc (.cells #[.int .i64 y.End, .slice B y.Lines.length d] 24)), w.heap.size < z.val.heap.size ∧ w.heap.size + 1 < z.val.heap.size := fun z => ⟨z.lt _ (by simp; omega), z.lt _ (by simp)⟩
  have hck : ∀ W, Is w W → Calls Try.prog 17 #[.agg #[.int .i64 x.End, .slice (some ⟨b, o, none⟩) x.Lines.length c]] W fun e w' => e = .returned (.int .i64 0) ∧ Is W w' := fun W hW => by
    have := check_calls x (some ⟨b, o, none⟩) c W F he (h.is hW)
    rw [hwh.out] at this
    exact this
  go_enter Try.func4, Try.ntmps4
  go_wp2_with (go_at_call 11; refine (waveFault_calls x (some ⟨b, o, none⟩) c _ F he (h.is hW)).mono ?_; rintro e w1 ⟨rfl, ⟨x1, rfl⟩⟩; rw [hwh.out]; have hW1 := hW.step x1; have hb3 := (hB x1).1; have hb4 := (hB x1).2)
  refine wp_region_under (by kernel_rfl) (by kernel_rfl) ?_
  repeat (go_big_quiet_step (first
    | (go_at_call 12; exact Calls.under _ (waved_calls _))
    | (go_at_call 17; exact Calls.under _ (hck _ (hW1.step _)))
    | (go_at_call 18; exact Calls.under _ (same_calls x y (some ⟨b, o, none⟩) B c d _ F G (h.is (hW1.step _)) (hy.is (hW1.step _))))
    | (go_at_call 19; exact Calls.under _ (sameWave_calls x y (some ⟨b, o, none⟩) B c d _ F G (h.is (hW1.step _)) (hy.is (hW1.step _))))))
  refine wpQuiet_nil ?_
  rintro _ ⟨x2, rfl⟩
  have hW2 := hW1.step x2
  have p3 := x2.lt _ hb3
  have p4 := x2.lt _ hb4
  go_wp2_with (first
    | (go_at_call 20; refine (called_calls x s (some ⟨b, o, none⟩) c _ F (h.is hW2)).mono ?_; rintro e w3 ⟨hor, ⟨x3, rfl⟩⟩; obtain ⟨_, b', o', hA', rfl⟩ := hor.resolve_left (fun h => by have := hih.out; omega); simp only [Option.some.injEq, Addr.mk.injEq, and_true] at hA'; obtain ⟨rfl, rfl⟩ := hA'; rw [hit.out]; clear hor; have hW3 := hW2.step x3; have p5 := x3.lt _ p3; have p6 := x3.lt _ p4)
    | (go_at_call 21; refine (value_range x s t (some ⟨b, o, none⟩) c _ F he (h.is hW3) hfh.out hrh.out).mono ?_; rintro e w4 ⟨rfl, ⟨x4, rfl⟩⟩; have hW4 := (hW3.step x4).alloc (.cells #[.int .i64 0, .int .u64 0, .int .u64 0] 41); have p7 := x4.lt _ p5; have p8 := x4.lt _ p6)
    | (go_at_call 22; refine (next_calls x s t (some ⟨b, o, none⟩) c _ F he (h.is hW4)).mono ?_; rintro e w5 ⟨hor, ⟨x5, rfl⟩⟩; obtain ⟨_, l', hl', hor2⟩ := hor.resolve_left (fun h => h.1 hfh.out); rw [hit.out, hlh.out] at hl'; obtain rfl := Option.some.inj hl'; obtain ⟨a', ha', rfl⟩ := hor2.resolve_right (fun h => by rw [hah.out] at h; exact absurd h.1 (by simp)); rw [hah.out] at ha'; obtain rfl := Option.some.inj ha'; clear hor2 ha' hl'; go_loud (have hW5 := hW4.step x5); go_loud (have p9 : x4.val.heap.size < x5.val.heap.size := x5.lt _ (by simp)); go_loud (have p10 : w.heap.size < x5.val.heap.size := x5.lt _ (by simp <;> omega)); go_loud (have p11 : w.heap.size + 1 < x5.val.heap.size := x5.lt _ (by simp <;> omega)); go_loud (have q1 : x5.val.cell? ⟨x4.val.heap.size, 0, none⟩ = some (.int .i64 0) := by { rw [x5.cell _ _ (by simp)]; try go_simp }); go_loud (have q2 : x5.val.cell? ⟨x4.val.heap.size, 1, none⟩ = some (.int .u64 0) := by { rw [x5.cell _ _ (by simp)]; try go_simp }); go_loud (have q3 : x5.val.cell? ⟨x4.val.heap.size, 2, none⟩ = some (.int .u64 0) := by { rw [x5.cell _ _ (by simp)]; try go_simp }); go_loud (have d0 := (hW5.below.cell (p := ⟨b, o + i * 4, none⟩) hb).trans hc0); go_loud (have d1 := (hW5.below.cell (p := ⟨b, o + i * 4 + 1, none⟩) hb).trans hc1); go_loud (have d2 := (hW5.below.cell (p := ⟨b, o + i * 4 + 2, none⟩) hb).trans hc2); go_loud (have d3 := (hW5.below.cell (p := ⟨b, o + i * 4 + 3, none⟩) hb).trans hc3); go_loud (have d4 : b < x5.val.heap.size := by omega); clear hor))
  all_goals have hbx : b2 < x5.val.heap.size := by omega
  · go_loopg [16, 110] (l.At.length - 1) (fun d' _ t' wr => ∃ (j : Nat), t' = .int .i64 j ∧ wr = x5.val ∧ Aside (j + d' = l.At.length - 1 ∧ after1 t ((l.At.drop 1).drop j) = some a))
    case atStart => exact ⟨0, rfl, rfl, by omega, hah.out⟩
    case round =>
      obtain ⟨j, rfl, rfl, hA⟩ := hrel
      by_cases hlt : j < l.At.length - 1
      · exact absurd hlt (by omega)
      · have h9 := hA.out.2
        obtain rfl : j = l.At.length - 1 := by have := hA.out.1; omega
        rw [List.drop_drop, List.drop_of_length_le (by omega), after1] at h9
        exact absurd h9 (by simp)
  · go_loopg [16, 110] (l.At.length - 1) (fun d' _ t' wr => ∃ (j : Nat), t' = .int .i64 j ∧ wr = x5.val ∧ Aside (j + d' = l.At.length - 1 ∧ after1 t ((l.At.drop 1).drop j) = some a))
    case atStart => exact ⟨0, rfl, rfl, by omega, hah.out⟩
    case round =>
      obtain ⟨j, rfl, rfl, hA⟩ := hrel
      by_cases hlt : j < l.At.length - 1
      · obtain ⟨a1, ha1⟩ := get_ex (xs := l.At) (i := 1 + j) (by omega)
        obtain ⟨_, hca, _⟩ := Rep.rowIntAt hs2.row ha1
        rw [← Nat.add_assoc] at hca
        have hcx := (hW5.below.cell (p := ⟨b2, o2 + 1 + j, none⟩) hb2).trans hca
        have hltz : (j : Int) < ((l.At.length - 1 : Nat) : Int) := by omega
        have hn : after1 t ((l.At.drop 1).drop j) = if t < a1 then some a1 else after1 t ((l.At.drop 1).drop (j + 1)) := by
          rw [List.drop_drop, drop_cons ha1, after1, List.drop_drop, Nat.add_assoc]
        obtain ⟨gk, rfl⟩ : ∃ m, gk = m + 1 := ⟨gk - 1, by have := hA.out.1; omega⟩
        have hst := Lib.hid hA.out
        have hnh := Lib.hid hn
        clear hA hn ha1 hlt
        by_cases hta : t < a1
        · have h9 := hst.out.2
          rw [hnh.out, if_pos hta] at h9
          obtain rfl := Option.some.inj h9
          clear h9
          go_wp2
          go_ret
          exact ⟨ret_bool (by simp), hW5⟩
        · go_wp2
          go_roundg gk
          case measure => omega
          case rel => exact ⟨j + 1, by go_num, rfl, by have := hst.out.1; omega, by rw [← hst.out.2, hnh.out, if_neg (by omega)]⟩
      · have h9 := hA.out.2
        obtain rfl : j = l.At.length - 1 := by have := hA.out.1; omega
        rw [List.drop_drop, List.drop_of_length_le (by omega), after1] at h9
        exact absurd h9 (by simp)

set_option maxHeartbeats 16000000 in
theorem waveChecks_in_none (x y : Wave) (s : ByteArray) (t : Int) (A B : Option Addr) (c d : Nat) (w : World) (F G : Nat → Prop) (he : InK .i64 x.End) (h : Rep.Sl kLine w F A c x.Lines) (hy : Rep.Sl kLine w G B d y.Lines) (hwf : waveFault x = 0) (i : Nat) (l : Line) (hix : idxFrom s x.Lines 0 = i) (hl : x.Lines[i]? = some l) (hlv : LV l x.End)
    (hr : 0 ≤ t ∧ t ≤ x.End) (ha : after1 t (l.At.drop 1) = none) :
    Calls Try.prog 4 #[.agg #[.int .i64 x.End, .slice A x.Lines.length c], .agg #[.int .i64 y.End, .slice B y.Lines.length d], .string s, .int .i64 t] w fun e w' => e = .returned (.bool true) ∧ Is w w' := by
  have hu := Try.underlying50
  have hu2 := Try.underlying24
  have hu3 := Try.underlying41
  have hm := h.len
  have hfe : findErr x s = 0 := by unfold findErr; rw [if_neg (by simpa using hwf), if_neg (by omega)]
  have hfh := Lib.hid hfe
  have hih := Lib.hid hix
  have hit : Hid ((idxFrom s x.Lines 0).toNat = i) := Lib.hid (by rw [hix]; rfl)
  have hah := Lib.hid ha
  clear hfe hix ha
  obtain ⟨b, o, A2, c2, A3, c3, rfl, hb, hc0, hc1, hc2, hc3, hk, hs2, hs3⟩ := Rep.rowLine h.row hl
  have hlh := Lib.hid hl
  have hm2 := hs2.len
  have hc2le := hs2.le
  have hc2max := hs2.cap_le
  have hlp := hlv.len0
  obtain ⟨a0, ha0⟩ := get_ex hlp
  obtain ⟨b2, o2, rfl, hb2, hca, _⟩ := Rep.rowInt hs2.row ha0
  clear hl ha0 hca
  obtain ⟨k, hk1, hk2, hk3, _, _⟩ := had_index hlv hr.1
  have hrh := Lib.hid hr
  have hk1h := Lib.hid hk1
  have hk3h := Lib.hid hk3
  have hr1 := hr.1
  have hr2 := hr.2
  clear hr hk1 hk3 hk2
  have hwh := Lib.hid hwf
  clear hwf
  have hW : Is w ((w.alloc (.cells #[.int .i64 x.End, .slice (some ⟨b, o, none⟩) x.Lines.length c] 24)).alloc (.cells #[.int .i64 y.End, .slice B y.Lines.length d] 24)) := ((Is.refl w).alloc _).alloc _
  have hB : ∀ z : Under ((w.alloc (.cells #[.int .i64 x.End, .slice (some ⟨b, o, none⟩) x.Lines.length c] 24)).alloc (.cells #[.int .i64 y.End, .slice B y.Lines.length d] 24)), w.heap.size < z.val.heap.size ∧ w.heap.size + 1 < z.val.heap.size := fun z => ⟨z.lt _ (by simp; omega), z.lt _ (by simp)⟩
  have hck : ∀ W, Is w W → Calls Try.prog 17 #[.agg #[.int .i64 x.End, .slice (some ⟨b, o, none⟩) x.Lines.length c]] W fun e w' => e = .returned (.int .i64 0) ∧ Is W w' := fun W hW => by
    have := check_calls x (some ⟨b, o, none⟩) c W F he (h.is hW)
    rw [hwh.out] at this
    exact this
  go_enter Try.func4, Try.ntmps4
  go_wp2_with (go_at_call 11; refine (waveFault_calls x (some ⟨b, o, none⟩) c _ F he (h.is hW)).mono ?_; rintro e w1 ⟨rfl, ⟨x1, rfl⟩⟩; rw [hwh.out]; have hW1 := hW.step x1; have hb3 := (hB x1).1; have hb4 := (hB x1).2)
  refine wp_region_under (by kernel_rfl) (by kernel_rfl) ?_
  repeat (go_big_quiet_step (first
    | (go_at_call 12; exact Calls.under _ (waved_calls _))
    | (go_at_call 17; exact Calls.under _ (hck _ (hW1.step _)))
    | (go_at_call 18; exact Calls.under _ (same_calls x y (some ⟨b, o, none⟩) B c d _ F G (h.is (hW1.step _)) (hy.is (hW1.step _))))
    | (go_at_call 19; exact Calls.under _ (sameWave_calls x y (some ⟨b, o, none⟩) B c d _ F G (h.is (hW1.step _)) (hy.is (hW1.step _))))))
  refine wpQuiet_nil ?_
  rintro _ ⟨x2, rfl⟩
  have hW2 := hW1.step x2
  have p3 := x2.lt _ hb3
  have p4 := x2.lt _ hb4
  go_wp2_with (first
    | (go_at_call 20; refine (called_calls x s (some ⟨b, o, none⟩) c _ F (h.is hW2)).mono ?_; rintro e w3 ⟨hor, ⟨x3, rfl⟩⟩; obtain ⟨_, b', o', hA', rfl⟩ := hor.resolve_left (fun h => by have := hih.out; omega); simp only [Option.some.injEq, Addr.mk.injEq, and_true] at hA'; obtain ⟨rfl, rfl⟩ := hA'; rw [hit.out]; clear hor; have hW3 := hW2.step x3; have p5 := x3.lt _ p3; have p6 := x3.lt _ p4)
    | (go_at_call 21; refine (value_ok x s t (some ⟨b, o, none⟩) c _ F he (h.is hW3) hfh.out hrh.out.1 hrh.out.2 l (by rw [hit.out]; exact hlh.out) (had l t) (by rw [hk1h.out]; exact hk3h.out) (by rw [hk1h.out]; omega)).mono ?_; rintro e w4 ⟨rfl, ⟨x4, rfl⟩⟩; have hW4 := (hW3.step x4).alloc (.cells #[.int .i64 (had l t).W, .int .u64 (had l t).V, .int .u64 (had l t).X] 41); have p7 := x4.lt _ p5; have p8 := x4.lt _ p6)
    | (go_at_call 22; refine (next_calls x s t (some ⟨b, o, none⟩) c _ F he (h.is hW4)).mono ?_; rintro e w5 ⟨hor, ⟨x5, rfl⟩⟩; obtain ⟨_, l', hl', hor2⟩ := hor.resolve_left (fun h => h.1 hfh.out); rw [hit.out, hlh.out] at hl'; obtain rfl := Option.some.inj hl'; obtain ⟨_, rfl⟩ := hor2.resolve_left (fun ⟨a', h, _⟩ => by rw [hah.out] at h; exact absurd h (by simp)); clear hor2 hl'; go_loud (have hW5 := hW4.step x5); go_loud (have p9 : x4.val.heap.size < x5.val.heap.size := x5.lt _ (by simp)); go_loud (have p10 : w.heap.size < x5.val.heap.size := x5.lt _ (by simp <;> omega)); go_loud (have p11 : w.heap.size + 1 < x5.val.heap.size := x5.lt _ (by simp <;> omega)); go_loud (have q1 : x5.val.cell? ⟨x4.val.heap.size, 0, none⟩ = some (.int .i64 (had l t).W) := by { rw [x5.cell _ _ (by simp)]; try go_simp }); go_loud (have q2 : x5.val.cell? ⟨x4.val.heap.size, 1, none⟩ = some (.int .u64 (had l t).V) := by { rw [x5.cell _ _ (by simp)]; try go_simp }); go_loud (have q3 : x5.val.cell? ⟨x4.val.heap.size, 2, none⟩ = some (.int .u64 (had l t).X) := by { rw [x5.cell _ _ (by simp)]; try go_simp }); go_loud (have d0 := (hW5.below.cell (p := ⟨b, o + i * 4, none⟩) hb).trans hc0); go_loud (have d1 := (hW5.below.cell (p := ⟨b, o + i * 4 + 1, none⟩) hb).trans hc1); go_loud (have d2 := (hW5.below.cell (p := ⟨b, o + i * 4 + 2, none⟩) hb).trans hc2); go_loud (have d3 := (hW5.below.cell (p := ⟨b, o + i * 4 + 3, none⟩) hb).trans hc3); go_loud (have d4 : b < x5.val.heap.size := by omega); clear hor))
  refine wp_region_under (by kernel_rfl) (by kernel_rfl) ?_
  repeat (go_big_quiet_step ((go_at_call 23; exact Calls.under _ (had_calls l (some ⟨b2, o2, none⟩) A3 c2 c3 t _ F (by rw [hlv.len]; exact Nat.le_refl _) (hs2.is (hW5.step _)) (hs3.is (hW5.step _))))))
  refine wpQuiet_nil ?_
  rintro _ ⟨x6, rfl⟩
  have hW6 := hW5.step x6
  have p12 := x6.lt _ p10
  have p13 := x6.lt _ p11
  have p14 := x6.lt _ p9
  have e2 := (hW6.below.cell (p := ⟨b, o + i * 4 + 2, none⟩) hb).trans hc2
  have d5 : b < x6.val.heap.size := by omega
  go_wp2
  all_goals have hbx : b2 < x6.val.heap.size := by omega
  · go_loopg [16, 110] (l.At.length - 1) (fun d' _ t' wr => ∃ (j : Nat), t' = .int .i64 j ∧ wr = x6.val ∧ Aside (j + d' = l.At.length - 1 ∧ after1 t ((l.At.drop 1).drop j) = none))
    case atStart => exact ⟨0, rfl, rfl, by omega, hah.out⟩
    case round =>
      obtain ⟨j, rfl, rfl, hA⟩ := hrel
      by_cases hlt : j < l.At.length - 1
      · exact absurd hlt (by omega)
      · have h9 := hA.out.2
        obtain rfl : j = l.At.length - 1 := by have := hA.out.1; omega
        clear h9 hA
        go_wp2
        go_ret
        exact ⟨ret_bool (by simp), hW6⟩
  · go_loopg [16, 110] (l.At.length - 1) (fun d' _ t' wr => ∃ (j : Nat), t' = .int .i64 j ∧ wr = x6.val ∧ Aside (j + d' = l.At.length - 1 ∧ after1 t ((l.At.drop 1).drop j) = none))
    case atStart => exact ⟨0, rfl, rfl, by omega, hah.out⟩
    case round =>
      obtain ⟨j, rfl, rfl, hA⟩ := hrel
      by_cases hlt : j < l.At.length - 1
      · obtain ⟨a1, ha1⟩ := get_ex (xs := l.At) (i := 1 + j) (by omega)
        obtain ⟨_, hca, _⟩ := Rep.rowIntAt hs2.row ha1
        rw [← Nat.add_assoc] at hca
        have hcx := (hW6.below.cell (p := ⟨b2, o2 + 1 + j, none⟩) hb2).trans hca
        have hltz : (j : Int) < ((l.At.length - 1 : Nat) : Int) := by omega
        have hn : after1 t ((l.At.drop 1).drop j) = if t < a1 then some a1 else after1 t ((l.At.drop 1).drop (j + 1)) := by
          rw [List.drop_drop, drop_cons ha1, after1, List.drop_drop, Nat.add_assoc]
        obtain ⟨gk, rfl⟩ : ∃ m, gk = m + 1 := ⟨gk - 1, by have := hA.out.1; omega⟩
        have hst := Lib.hid hA.out
        have hnh := Lib.hid hn
        clear hA hn ha1 hlt
        by_cases hta : t < a1
        · have h9 := hst.out.2
          rw [hnh.out, if_pos hta] at h9
          exact absurd h9 (by simp)
        · go_wp2
          go_roundg gk
          case measure => omega
          case rel => exact ⟨j + 1, by go_num, rfl, by have := hst.out.1; omega, by rw [← hst.out.2, hnh.out, if_neg (by omega)]⟩
      · have h9 := hA.out.2
        obtain rfl : j = l.At.length - 1 := by have := hA.out.1; omega
        clear h9 hA
        go_wp2
        go_ret
        exact ⟨ret_bool (by simp), hW6⟩

set_option maxHeartbeats 16000000 in
theorem waveChecks_in_some (x y : Wave) (s : ByteArray) (t : Int) (A B : Option Addr) (c d : Nat) (w : World) (F G : Nat → Prop) (he : InK .i64 x.End) (h : Rep.Sl kLine w F A c x.Lines) (hy : Rep.Sl kLine w G B d y.Lines) (hwf : waveFault x = 0) (i : Nat) (l : Line) (hix : idxFrom s x.Lines 0 = i) (hl : x.Lines[i]? = some l) (hlv : LV l x.End)
    (hr : 0 ≤ t ∧ t ≤ x.End) (a : Int) (ha : after1 t (l.At.drop 1) = some a) :
    Calls Try.prog 4 #[.agg #[.int .i64 x.End, .slice A x.Lines.length c], .agg #[.int .i64 y.End, .slice B y.Lines.length d], .string s, .int .i64 t] w fun e w' => e = .returned (.bool true) ∧ Is w w' := by
  have hu := Try.underlying50
  have hu2 := Try.underlying24
  have hu3 := Try.underlying41
  have hm := h.len
  have hfe : findErr x s = 0 := by unfold findErr; rw [if_neg (by simpa using hwf), if_neg (by omega)]
  have hfh := Lib.hid hfe
  have hih := Lib.hid hix
  have hit : Hid ((idxFrom s x.Lines 0).toNat = i) := Lib.hid (by rw [hix]; rfl)
  have hah := Lib.hid ha
  clear hfe hix ha
  obtain ⟨b, o, A2, c2, A3, c3, rfl, hb, hc0, hc1, hc2, hc3, hk, hs2, hs3⟩ := Rep.rowLine h.row hl
  have hlh := Lib.hid hl
  have hm2 := hs2.len
  have hc2le := hs2.le
  have hc2max := hs2.cap_le
  have hlp := hlv.len0
  obtain ⟨a0, ha0⟩ := get_ex hlp
  obtain ⟨b2, o2, rfl, hb2, hca, _⟩ := Rep.rowInt hs2.row ha0
  clear hl ha0 hca
  obtain ⟨k, hk1, hk2, hk3, _, _⟩ := had_index hlv hr.1
  have hrh := Lib.hid hr
  have hk1h := Lib.hid hk1
  have hk3h := Lib.hid hk3
  have hr1 := hr.1
  have hr2 := hr.2
  clear hr hk1 hk3 hk2
  have hwh := Lib.hid hwf
  clear hwf
  have hW : Is w ((w.alloc (.cells #[.int .i64 x.End, .slice (some ⟨b, o, none⟩) x.Lines.length c] 24)).alloc (.cells #[.int .i64 y.End, .slice B y.Lines.length d] 24)) := ((Is.refl w).alloc _).alloc _
  have hB : ∀ z : Under ((w.alloc (.cells #[.int .i64 x.End, .slice (some ⟨b, o, none⟩) x.Lines.length c] 24)).alloc (.cells #[.int .i64 y.End, .slice B y.Lines.length d] 24)), w.heap.size < z.val.heap.size ∧ w.heap.size + 1 < z.val.heap.size := fun z => ⟨z.lt _ (by simp; omega), z.lt _ (by simp)⟩
  have hck : ∀ W, Is w W → Calls Try.prog 17 #[.agg #[.int .i64 x.End, .slice (some ⟨b, o, none⟩) x.Lines.length c]] W fun e w' => e = .returned (.int .i64 0) ∧ Is W w' := fun W hW => by
    have := check_calls x (some ⟨b, o, none⟩) c W F he (h.is hW)
    rw [hwh.out] at this
    exact this
  go_enter Try.func4, Try.ntmps4
  go_wp2_with (go_at_call 11; refine (waveFault_calls x (some ⟨b, o, none⟩) c _ F he (h.is hW)).mono ?_; rintro e w1 ⟨rfl, ⟨x1, rfl⟩⟩; rw [hwh.out]; have hW1 := hW.step x1; have hb3 := (hB x1).1; have hb4 := (hB x1).2)
  refine wp_region_under (by kernel_rfl) (by kernel_rfl) ?_
  repeat (go_big_quiet_step (first
    | (go_at_call 12; exact Calls.under _ (waved_calls _))
    | (go_at_call 17; exact Calls.under _ (hck _ (hW1.step _)))
    | (go_at_call 18; exact Calls.under _ (same_calls x y (some ⟨b, o, none⟩) B c d _ F G (h.is (hW1.step _)) (hy.is (hW1.step _))))
    | (go_at_call 19; exact Calls.under _ (sameWave_calls x y (some ⟨b, o, none⟩) B c d _ F G (h.is (hW1.step _)) (hy.is (hW1.step _))))))
  refine wpQuiet_nil ?_
  rintro _ ⟨x2, rfl⟩
  have hW2 := hW1.step x2
  have p3 := x2.lt _ hb3
  have p4 := x2.lt _ hb4
  go_wp2_with (first
    | (go_at_call 20; refine (called_calls x s (some ⟨b, o, none⟩) c _ F (h.is hW2)).mono ?_; rintro e w3 ⟨hor, ⟨x3, rfl⟩⟩; obtain ⟨_, b', o', hA', rfl⟩ := hor.resolve_left (fun h => by have := hih.out; omega); simp only [Option.some.injEq, Addr.mk.injEq, and_true] at hA'; obtain ⟨rfl, rfl⟩ := hA'; rw [hit.out]; clear hor; have hW3 := hW2.step x3; have p5 := x3.lt _ p3; have p6 := x3.lt _ p4)
    | (go_at_call 21; refine (value_ok x s t (some ⟨b, o, none⟩) c _ F he (h.is hW3) hfh.out hrh.out.1 hrh.out.2 l (by rw [hit.out]; exact hlh.out) (had l t) (by rw [hk1h.out]; exact hk3h.out) (by rw [hk1h.out]; omega)).mono ?_; rintro e w4 ⟨rfl, ⟨x4, rfl⟩⟩; have hW4 := (hW3.step x4).alloc (.cells #[.int .i64 (had l t).W, .int .u64 (had l t).V, .int .u64 (had l t).X] 41); have p7 := x4.lt _ p5; have p8 := x4.lt _ p6)
    | (go_at_call 22; refine (next_calls x s t (some ⟨b, o, none⟩) c _ F he (h.is hW4)).mono ?_; rintro e w5 ⟨hor, ⟨x5, rfl⟩⟩; obtain ⟨_, l', hl', hor2⟩ := hor.resolve_left (fun h => h.1 hfh.out); rw [hit.out, hlh.out] at hl'; obtain rfl := Option.some.inj hl'; obtain ⟨a', ha', rfl⟩ := hor2.resolve_right (fun h => by rw [hah.out] at h; exact absurd h.1 (by simp)); rw [hah.out] at ha'; obtain rfl := Option.some.inj ha'; clear hor2 ha' hl'; go_loud (have hW5 := hW4.step x5); go_loud (have p9 : x4.val.heap.size < x5.val.heap.size := x5.lt _ (by simp)); go_loud (have p10 : w.heap.size < x5.val.heap.size := x5.lt _ (by simp <;> omega)); go_loud (have p11 : w.heap.size + 1 < x5.val.heap.size := x5.lt _ (by simp <;> omega)); go_loud (have q1 : x5.val.cell? ⟨x4.val.heap.size, 0, none⟩ = some (.int .i64 (had l t).W) := by { rw [x5.cell _ _ (by simp)]; try go_simp }); go_loud (have q2 : x5.val.cell? ⟨x4.val.heap.size, 1, none⟩ = some (.int .u64 (had l t).V) := by { rw [x5.cell _ _ (by simp)]; try go_simp }); go_loud (have q3 : x5.val.cell? ⟨x4.val.heap.size, 2, none⟩ = some (.int .u64 (had l t).X) := by { rw [x5.cell _ _ (by simp)]; try go_simp }); go_loud (have d0 := (hW5.below.cell (p := ⟨b, o + i * 4, none⟩) hb).trans hc0); go_loud (have d1 := (hW5.below.cell (p := ⟨b, o + i * 4 + 1, none⟩) hb).trans hc1); go_loud (have d2 := (hW5.below.cell (p := ⟨b, o + i * 4 + 2, none⟩) hb).trans hc2); go_loud (have d3 := (hW5.below.cell (p := ⟨b, o + i * 4 + 3, none⟩) hb).trans hc3); go_loud (have d4 : b < x5.val.heap.size := by omega); clear hor))
  refine wp_region_under (by kernel_rfl) (by kernel_rfl) ?_
  repeat (go_big_quiet_step ((go_at_call 23; exact Calls.under _ (had_calls l (some ⟨b2, o2, none⟩) A3 c2 c3 t _ F (by rw [hlv.len]; exact Nat.le_refl _) (hs2.is (hW5.step _)) (hs3.is (hW5.step _))))))
  refine wpQuiet_nil ?_
  rintro _ ⟨x6, rfl⟩
  have hW6 := hW5.step x6
  have p12 := x6.lt _ p10
  have p13 := x6.lt _ p11
  have p14 := x6.lt _ p9
  have e2 := (hW6.below.cell (p := ⟨b, o + i * 4 + 2, none⟩) hb).trans hc2
  have d5 : b < x6.val.heap.size := by omega
  go_wp2
  all_goals have hbx : b2 < x6.val.heap.size := by omega
  · go_loopg [16, 110] (l.At.length - 1) (fun d' _ t' wr => ∃ (j : Nat), t' = .int .i64 j ∧ wr = x6.val ∧ Aside (j + d' = l.At.length - 1 ∧ after1 t ((l.At.drop 1).drop j) = some a))
    case atStart => exact ⟨0, rfl, rfl, by omega, hah.out⟩
    case round =>
      obtain ⟨j, rfl, rfl, hA⟩ := hrel
      by_cases hlt : j < l.At.length - 1
      · exact absurd hlt (by omega)
      · have h9 := hA.out.2
        obtain rfl : j = l.At.length - 1 := by have := hA.out.1; omega
        rw [List.drop_drop, List.drop_of_length_le (by omega), after1] at h9
        exact absurd h9 (by simp)
  · go_loopg [16, 110] (l.At.length - 1) (fun d' _ t' wr => ∃ (j : Nat), t' = .int .i64 j ∧ wr = x6.val ∧ Aside (j + d' = l.At.length - 1 ∧ after1 t ((l.At.drop 1).drop j) = some a))
    case atStart => exact ⟨0, rfl, rfl, by omega, hah.out⟩
    case round =>
      obtain ⟨j, rfl, rfl, hA⟩ := hrel
      by_cases hlt : j < l.At.length - 1
      · obtain ⟨a1, ha1⟩ := get_ex (xs := l.At) (i := 1 + j) (by omega)
        obtain ⟨_, hca, _⟩ := Rep.rowIntAt hs2.row ha1
        rw [← Nat.add_assoc] at hca
        have hcx := (hW6.below.cell (p := ⟨b2, o2 + 1 + j, none⟩) hb2).trans hca
        have hltz : (j : Int) < ((l.At.length - 1 : Nat) : Int) := by omega
        have hn : after1 t ((l.At.drop 1).drop j) = if t < a1 then some a1 else after1 t ((l.At.drop 1).drop (j + 1)) := by
          rw [List.drop_drop, drop_cons ha1, after1, List.drop_drop, Nat.add_assoc]
        obtain ⟨gk, rfl⟩ : ∃ m, gk = m + 1 := ⟨gk - 1, by have := hA.out.1; omega⟩
        have hst := Lib.hid hA.out
        have hnh := Lib.hid hn
        clear hA hn ha1 hlt
        by_cases hta : t < a1
        · have h9 := hst.out.2
          rw [hnh.out, if_pos hta] at h9
          obtain rfl := Option.some.inj h9
          clear h9
          go_wp2
          go_ret
          exact ⟨ret_bool (by simp), hW6⟩
        · go_wp2
          go_roundg gk
          case measure => omega
          case rel => exact ⟨j + 1, by go_num, rfl, by have := hst.out.1; omega, by rw [← hst.out.2, hnh.out, if_neg (by omega)]⟩
      · have h9 := hA.out.2
        obtain rfl : j = l.At.length - 1 := by have := hA.out.1; omega
        rw [List.drop_drop, List.drop_of_length_le (by omega), after1] at h9
        exact absurd h9 (by simp)
end Go.Proofs.Ytabhafllkhoefaa
