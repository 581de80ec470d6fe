/- The law function WaveAppends where it comes to the lines, and at all inputs. -/
import Derived.Test.YtabhafllkhoefaaAppendsLaw
namespace Go.Proofs.Ytabhafllkhoefaa
open Go.RowKit
set_option maxRecDepth 100000

theorem totN_take (ls : List Line) {i : Nat} {l : Line} (h : ls[i]? = some l) : totN (ls.take (i + 1)) = totN (ls.take i) + l.At.length := by
  rw [List.take_add_one, h, ← totN_snoc]
  rfl

set_option maxHeartbeats 2000000 in
theorem waveAppends_ok (x y : Wave) (A B : Option Addr) (c d : Nat) (w : World) (F G : Nat → Prop) (he : InK .i64 x.End) (hey : InK .i64 y.End) (h : Rep.Sl kLine w F A c x.Lines) (k : Rep.Sl kLine w G B d y.Lines) (hx : waveFault x = 0) (hy : waveFault y = 0) (hf : all2 lineFits x.Lines y.Lines = true) (hE : ¬ 1099511627776 < x.End + 1 + y.End)
    (hn : x.Lines.length ≤ 160) (hlx : ∀ l ∈ x.Lines, AppLn l) (hly : ∀ l ∈ y.Lines, AppLn l) (hsh : ∀ l ∈ x.Lines, ∀ m : Line, merge [] [] (l.At ++ backT x.End m.At) (l.Val ++ m.Val) = ((behLine x.End l m).At, (behLine x.End l m).Val)) (hbl : ∀ i, totN ((behOf x y).Lines.take i) ≤ 6400000) :
    Calls Try.prog 6 #[.agg #[.int .i64 x.End, .slice A x.Lines.length c], .agg #[.int .i64 y.End, .slice B y.Lines.length d]] w fun e w' => e = .returned (.bool true) ∧ Is w w' := by
  have hu := Try.underlying50
  have hu2 := Try.underlying24
  have hm := h.len
  have e1 := (wave_end hx).1
  have e2 := (wave_end hx).2
  have e3 := (wave_end hy).1
  have e4 := (wave_end hy).2
  have hW : Is w ((w.alloc (.cells #[.int .i64 x.End, .slice A x.Lines.length c] 24)).alloc (.cells #[.int .i64 y.End, .slice B y.Lines.length d] 24)) := ((Is.refl w).alloc _).alloc _
  have hB : ∀ z : Under ((w.alloc (.cells #[.int .i64 x.End, .slice A x.Lines.length c] 24)).alloc (.cells #[.int .i64 y.End, .slice B y.Lines.length d] 24)), w.heap.size < z.val.heap.size ∧ w.heap.size + 1 < z.val.heap.size := fun z => ⟨z.lt _ (by simp; omega), z.lt _ (by simp)⟩
  have hxh := Lib.hid hx
  have hyh := Lib.hid hy
  have hfh := Lib.hid hf
  have hll : Hid (x.Lines.length = y.Lines.length) := Lib.hid (all2_len hf)
  have hbll := Lib.hid (behOf_len hll.out)
  clear hx hy hf
  by_cases hbig : 20000 < totN (behOf x y).Lines
  · have hbh := Lib.hid hbig
    clear hbig
    go_enter Try.func6, Try.ntmps6
    go_wp2_with (first
      | (go_at_call 29; refine (behind_calls x y A B c d _ F G (h.is hW4) (k.is hW4) hll.out ⟨e1, e2⟩ ⟨e3, e4⟩ hn hlx hly hsh).mono ?_; rintro e w5 ⟨A5, c5, rfl, hs5, ⟨x5, rfl⟩⟩; have hW5 := hW4.step x5; have p12 := x5.lt _ p9; have p13 := x5.lt _ p10; have p14 := x5.lt _ p11; have hm5 := hs5.len)
      | (go_at_call 28; refine (eqFits2_calls x.Lines y.Lines A B c d _ _ _ (h.is hW3) (k.is hW3)).mono ?_; rw [hfh.out]; rintro e w4 ⟨rfl, ⟨x4, rfl⟩⟩; have hW4 := hW3.step x4; have p9 := x4.lt _ p6; have p10 := x4.lt _ p7; have p11 := x4.lt _ p8)
      | (go_at_call 11; refine (waveFault_calls y B d _ G hey (k.is hW2)).mono ?_; rintro e w3 ⟨rfl, ⟨x3, rfl⟩⟩; rw [hyh.out]; have hW3 := hW2.step x3; have p6 := x3.lt _ p3; have p7 := x3.lt _ p4; have p8 := x3.lt _ p5)
      | (go_at_call 11; refine (waveFault_calls x A c _ F he (h.is hW1)).mono ?_; rintro e w2 ⟨rfl, ⟨x2, rfl⟩⟩; rw [hxh.out]; have hW2 := hW1.step x2; have p3 : w.heap.size < x2.val.heap.size := x2.lt _ (by simp; omega); have p4 : w.heap.size + 1 < x2.val.heap.size := x2.lt _ (by simp; omega); have p5 : x1.val.heap.size < x2.val.heap.size := x2.lt _ (by simp))
      | (go_at_call 26; refine (append_ok x y A B c d _ F G he hey (h.is hW) (k.is hW) hxh.out hyh.out hfh.out hE ⟨e1, e2⟩ ⟨e3, e4⟩ hn hlx hly).mono ?_; rintro e w1 ⟨hor, ⟨x1, rfl⟩⟩; obtain ⟨_, rfl⟩ := hor.resolve_right (fun q => q.1 hbh.out); clear hor; have hW1 := (hW.step x1).alloc (.cells #[.int .i64 0, .slice none 0 0] 24); have p1 := (hB x1).1; have p2 := (hB x1).2))
    go_loopg [10, 12, 31] x.Lines.length (fun d' tn _ n wr => ∃ (i : Nat) (v : Under (x5.val.alloc (.cells #[.int .i64 (x.End + 1 + y.End), .slice A5 (behOf x y).Lines.length c5] 24))), tn = .int .i64 (totN ((behOf x y).Lines.take i)) ∧ n = .int .i64 i ∧ wr = v.val ∧ Aside (i + d' = x.Lines.length))
    case atStart => exact ⟨0, Under.refl _, rfl, rfl, rfl, Nat.zero_add _⟩
    case round =>
      obtain ⟨i, v, rfl, rfl, rfl, hA⟩ := hrel
      have hWv : Is w v.val := (hW5.alloc _).step v
      have q1 : w.heap.size < v.val.heap.size := v.lt _ (by simp; omega)
      have q2 : w.heap.size + 1 < v.val.heap.size := v.lt _ (by simp; omega)
      have q3 : x1.val.heap.size < v.val.heap.size := v.lt _ (by simp; omega)
      have q4 : x5.val.heap.size < v.val.heap.size := v.lt _ (by simp)
      by_cases hlt : i < x.Lines.length
      · obtain ⟨l, hl⟩ := get_ex (xs := (behOf x y).Lines) (i := i) (by have := hbll.out; omega)
        obtain ⟨b, o, A2, c2, A3, c3, rfl, hbb, hc0, hc1, hc2, hc3, hk, _, _⟩ := Rep.rowLine (hs5.is (((Is.refl _).alloc (.cells #[.int .i64 (x.End + 1 + y.End), .slice A5 (behOf x y).Lines.length c5] 24)).step v)).row hl
        obtain ⟨gk, rfl⟩ : ∃ m, gk = m + 1 := ⟨gk - 1, by have := hA.out; omega⟩
        have htk := totN_take _ hl
        have h6 := hbl (i + 1)
        have hst := Lib.hid hA.out
        have hwt := wrap64_nat (totN ((behOf x y).Lines.take i)) l.At.length (by omega)
        have htkh := Lib.hid htk
        have hbv : b ≠ v.val.heap.size := by omega
        have hltz : (i : Int) < ((behOf x y).Lines.length : Int) := by have := hbll.out; omega
        clear hA hl htk h6
        have hwth := Lib.hid hwt
        go_wp2
        clear hwt
        go_roundg gk
        case measure => omega
        case rel => exact ⟨i + 1, v.alloc _, by rw [htkh.out, Int.natCast_add, hwth.out], by go_num, rfl, by have := hst.out; unfold Aside; omega⟩
      · obtain rfl : i = x.Lines.length := by have := hA.out; omega
        have hT : (behOf x y).Lines.take x.Lines.length = (behOf x y).Lines := List.take_of_length_le (by rw [hbll.out]; exact Nat.le_refl _)
        rw [hT]
        have hnz : ¬ (x.Lines.length : Int) < ((behOf x y).Lines.length : Int) := by have := hbll.out; omega
        clear hA
        have hbz : ¬ (totN (behOf x y).Lines : Int) ≤ 20000 := by have := hbh.out; omega
        go_wp2_with (first
          | (go_at_call 18; refine (zero_same _).mono ?_; rintro e w7 ⟨rfl, ⟨x7, rfl⟩⟩; have hW7 := hW6.step x7)
          | (go_at_call 12; refine (waved_calls _).mono ?_; rintro e w6 ⟨rfl, ⟨x6, rfl⟩⟩; have hW6 := hWv.step x6; have q5 := x6.lt _ q3))
        go_ret
        exact ⟨ret_bool (by simp), hW7⟩
  · have hbh := Lib.hid hbig
    clear hbig
    go_enter Try.func6, Try.ntmps6
    go_wp2_with (first
      | (go_at_call 29; refine (behind_calls x y A B c d _ F G (h.is hW4) (k.is hW4) hll.out ⟨e1, e2⟩ ⟨e3, e4⟩ hn hlx hly hsh).mono ?_; rintro e w5 ⟨A5, c5, rfl, hs5, ⟨x5, rfl⟩⟩; have hW5 := hW4.step x5; have p12 := x5.lt _ p9; have p13 := x5.lt _ p10; have p14 := x5.lt _ p11; have hm5 := hs5.len)
      | (go_at_call 28; refine (eqFits2_calls x.Lines y.Lines A B c d _ _ _ (h.is hW3) (k.is hW3)).mono ?_; rw [hfh.out]; rintro e w4 ⟨rfl, ⟨x4, rfl⟩⟩; have hW4 := hW3.step x4; have p9 := x4.lt _ p6; have p10 := x4.lt _ p7; have p11 := x4.lt _ p8)
      | (go_at_call 11; refine (waveFault_calls y B d _ G hey (k.is hW2)).mono ?_; rintro e w3 ⟨rfl, ⟨x3, rfl⟩⟩; rw [hyh.out]; have hW3 := hW2.step x3; have p6 := x3.lt _ p3; have p7 := x3.lt _ p4; have p8 := x3.lt _ p5)
      | (go_at_call 11; refine (waveFault_calls x A c _ F he (h.is hW1)).mono ?_; rintro e w2 ⟨rfl, ⟨x2, rfl⟩⟩; rw [hxh.out]; have hW2 := hW1.step x2; have p3 : w.heap.size < x2.val.heap.size := x2.lt _ (by simp; omega); have p4 : w.heap.size + 1 < x2.val.heap.size := x2.lt _ (by simp; omega); have p5 : x1.val.heap.size < x2.val.heap.size := x2.lt _ (by simp))
      | (go_at_call 26; refine (append_ok x y A B c d _ F G he hey (h.is hW) (k.is hW) hxh.out hyh.out hfh.out hE ⟨e1, e2⟩ ⟨e3, e4⟩ hn hlx hly).mono ?_; rintro e w1 ⟨hor, ⟨x1, rfl⟩⟩; obtain ⟨_, A1, c1, rfl, hs1⟩ := hor.resolve_left (fun q => hbh.out q.1); clear hor; have hW1 := (hW.step x1).alloc (.cells #[.int .i64 (x.End + 1 + y.End), .slice A1 (behOf x y).Lines.length c1] 24); have p1 := (hB x1).1; have p2 := (hB x1).2))
    go_loopg [10, 12, 31] x.Lines.length (fun d' tn _ n wr => ∃ (i : Nat) (v : Under (x5.val.alloc (.cells #[.int .i64 (x.End + 1 + y.End), .slice A5 (behOf x y).Lines.length c5] 24))), tn = .int .i64 (totN ((behOf x y).Lines.take i)) ∧ n = .int .i64 i ∧ wr = v.val ∧ Aside (i + d' = x.Lines.length))
    case atStart => exact ⟨0, Under.refl _, rfl, rfl, rfl, Nat.zero_add _⟩
    case round =>
      obtain ⟨i, v, rfl, rfl, rfl, hA⟩ := hrel
      have hWv : Is w v.val := (hW5.alloc _).step v
      have q1 : w.heap.size < v.val.heap.size := v.lt _ (by simp; omega)
      have q2 : w.heap.size + 1 < v.val.heap.size := v.lt _ (by simp; omega)
      have q3 : x1.val.heap.size < v.val.heap.size := v.lt _ (by simp; omega)
      have q4 : x5.val.heap.size < v.val.heap.size := v.lt _ (by simp)
      by_cases hlt : i < x.Lines.length
      · obtain ⟨l, hl⟩ := get_ex (xs := (behOf x y).Lines) (i := i) (by have := hbll.out; omega)
        obtain ⟨b, o, A2, c2, A3, c3, rfl, hbb, hc0, hc1, hc2, hc3, hk, _, _⟩ := Rep.rowLine (hs5.is (((Is.refl _).alloc (.cells #[.int .i64 (x.End + 1 + y.End), .slice A5 (behOf x y).Lines.length c5] 24)).step v)).row hl
        obtain ⟨gk, rfl⟩ : ∃ m, gk = m + 1 := ⟨gk - 1, by have := hA.out; omega⟩
        have htk := totN_take _ hl
        have h6 := hbl (i + 1)
        have hst := Lib.hid hA.out
        have hwt := wrap64_nat (totN ((behOf x y).Lines.take i)) l.At.length (by omega)
        have htkh := Lib.hid htk
        have hbv : b ≠ v.val.heap.size := by omega
        have hltz : (i : Int) < ((behOf x y).Lines.length : Int) := by have := hbll.out; omega
        clear hA hl htk h6
        have hwth := Lib.hid hwt
        go_wp2
        clear hwt
        go_roundg gk
        case measure => omega
        case rel => exact ⟨i + 1, v.alloc _, by rw [htkh.out, Int.natCast_add, hwth.out], by go_num, rfl, by have := hst.out; unfold Aside; omega⟩
      · obtain rfl : i = x.Lines.length := by have := hA.out; omega
        have hT : (behOf x y).Lines.take x.Lines.length = (behOf x y).Lines := List.take_of_length_le (by rw [hbll.out]; exact Nat.le_refl _)
        rw [hT]
        have hnz : ¬ (x.Lines.length : Int) < ((behOf x y).Lines.length : Int) := by have := hbll.out; omega
        clear hA
        have hbz : (totN (behOf x y).Lines : Int) ≤ 20000 := by have := hbh.out; omega
        have s1 := (((((hs1.is ((Is.refl _).alloc (.cells #[.int .i64 (x.End + 1 + y.End), .slice A1 (behOf x y).Lines.length c1] 24))).is (Is.val x2)).is (Is.val x3)).is (Is.val x4)).is (Is.val x5)).is (((Is.refl _).alloc (.cells #[.int .i64 (x.End + 1 + y.End), .slice A5 (behOf x y).Lines.length c5] 24)).step v)
        have s5 := hs5.is (((Is.refl _).alloc (.cells #[.int .i64 (x.End + 1 + y.End), .slice A5 (behOf x y).Lines.length c5] 24)).step v)
        go_wp2_with (first
          | (go_at_call 19; refine (sameWave_calls (behOf x y) (behOf x y) A1 A5 c1 c5 _ _ _ (s1.is (Is.val x6)) (s5.is (Is.val x6))).mono ?_; rw [sameWave_refl]; rintro e w7 ⟨rfl, ⟨x7, rfl⟩⟩; have hW7 := hW6.step x7)
          | (go_at_call 12; refine (waved_calls _).mono ?_; rintro e w6 ⟨rfl, ⟨x6, rfl⟩⟩; have hW6 := hWv.step x6; have q5 := x6.lt _ q3; have q6 := x6.lt _ q4))
        go_ret
        exact ⟨ret_bool (by simp), hW7⟩

theorem totN_le (M : Nat) : ∀ (ls : List Line), (∀ l ∈ ls, l.At.length ≤ M) → totN ls ≤ ls.length * M
  | [], _ => by simp [totN]
  | l :: ls, h => by
    have h1 := totN_le M ls (fun m hm => h m (List.mem_cons_of_mem _ hm))
    have h2 := h l (List.mem_cons_self ..)
    have h3 : totN (l :: ls) = l.At.length + totN ls := by simp [totN]
    rw [h3, List.length_cons, Nat.add_mul]
    omega
theorem appLn_of {l : Line} {e : Int} (h : LV l e) (he : e ≤ 1099511627776) (hk : LineOk l) (hn : l.At.length ≤ 20000) (hb : ∀ v ∈ l.Val, BitsOk v) : AppLn l :=
  ⟨h.len, h.len0, hn, hk, (cutLn_of h he hk hn (Int.le_refl 0)).ok.range, hb⟩
theorem behOf_few {x y : Wave} (hn : x.Lines.length ≤ 160) (hx : ∀ l ∈ x.Lines, l.At.length ≤ 20000) (hy : ∀ l ∈ y.Lines, l.At.length ≤ 20000) (i : Nat) : totN ((behOf x y).Lines.take i) ≤ 6400000 := by
  have h1 := totN_le 40000 ((behOf x y).Lines.take i) (fun l hl => by
    have hl' := List.mem_of_mem_take hl
    unfold behOf at hl'
    obtain ⟨j, hj⟩ := List.getElem?_of_mem hl'
    simp only [List.getElem?_zipWith] at hj
    cases h1 : x.Lines[j]? with
    | none => rw [h1] at hj; simp at hj
    | some a =>
      cases h2 : y.Lines[j]? with
      | none => rw [h1, h2] at hj; simp at hj
      | some b =>
        rw [h1, h2] at hj
        simp only [Option.some.injEq] at hj
        subst hj
        have h3 := (merge_len a.At a.Val (backT x.End b.At) b.Val).1
        have h4 := hx a (List.mem_of_getElem? h1)
        have h5 := hy b (List.mem_of_getElem? h2)
        have h6 : (backT x.End b.At).length = b.At.length := by simp [backT]
        show (merge a.At a.Val (backT x.End b.At) b.Val).1.length ≤ 40000
        omega)
  have h2 : ((behOf x y).Lines.take i).length ≤ 160 := by
    unfold behOf
    simp
    omega
  have h3 := Nat.mul_le_mul_right 40000 h2
  omega

theorem waveAppends_calls (x y : Wave) (A B : Option Addr) (c d : Nat) (w : World) (F G : Nat → Prop) (he : InK .i64 x.End) (hey : InK .i64 y.End) (h : Rep.Sl kLine w F A c x.Lines) (k : Rep.Sl kLine w G B d y.Lines) (hs : ∀ l ∈ x.Lines, l.At.length ≤ 140737488355328) (ks : ∀ l ∈ y.Lines, l.At.length ≤ 140737488355328) :
    Calls Try.prog 6 #[.agg #[.int .i64 x.End, .slice A x.Lines.length c], .agg #[.int .i64 y.End, .slice B y.Lines.length d]] w fun e w' => e = .returned (.bool true) ∧ Is w w' := by
  by_cases hx : waveFault x = 0
  · by_cases hy : waveFault y = 0
    · cases hf : all2 lineFits x.Lines y.Lines with
      | false => exact waveAppends_err x y A B c d w F G he hey h k 4 (.inr (.inr (.inl ⟨hx, hy, hf, rfl⟩)))
      | true =>
        by_cases hE : 1099511627776 < x.End + 1 + y.End
        · exact waveAppends_err x y A B c d w F G he hey h k 3 (.inr (.inr (.inr ⟨hx, hy, hf, hE, rfl⟩)))
        · have hfx := wave_few hx hs
          have hfy := wave_few hy ks
          have bits : ∀ {w : World} {F : Nat → Prop} {A : Option Addr} {c : Nat} {ls : List Line}, Rep.Sl kLine w F A c ls → ∀ l ∈ ls, LineOk l ∧ ∀ v ∈ l.Val, BitsOk v := by
            intro w F A c ls hls l hl
            obtain ⟨i, hi⟩ := List.getElem?_of_mem hl
            obtain ⟨_, _, _, _, _, _, _, _, _, _, _, _, hk, _, h3⟩ := Rep.rowLine hls.row hi
            refine ⟨hk, fun v hv => ?_⟩
            obtain ⟨j, hj⟩ := List.getElem?_of_mem hv
            obtain ⟨_, _, _, _, _, _, _, hkv⟩ := Rep.rowBits h3.row hj
            exact hkv
          exact waveAppends_ok x y A B c d w F G he hey h k hx hy hf hE hfx.1
            (fun l hl => appLn_of (wave_lv hx l hl) (wave_end hx).2 (bits h l hl).1 (hfx.2 l hl) (bits h l hl).2)
            (fun l hl => appLn_of (wave_lv hy l hl) (wave_end hy).2 (bits k l hl).1 (hfy.2 l hl) (bits k l hl).2)
            (fun l hl m => beh_shown x.End (wave_lv hx l hl)) (behOf_few hfx.1 hfx.2 hfy.2)
    · exact waveAppends_err x y A B c d w F G he hey h k (waveFault y) (.inr (.inl ⟨hx, hy, rfl⟩))
  · exact waveAppends_err x y A B c d w F G he hey h k (waveFault x) (.inl ⟨hx, rfl⟩)
end Go.Proofs.Ytabhafllkhoefaa
