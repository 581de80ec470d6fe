/- Waves in packed form: what they are, and the program's walk. -/
import Derived.Test.YtabhafllkhoefaaPackLine
import Derived.Test.YtabhafllkhoefaaSplitT
import Derived.Test.YtabhafllkhoefaaCheck
namespace Go.Proofs.Ytabhafllkhoefaa
open Go.RowKit
set_option maxRecDepth 100000

/-- A line that can be packed. -/
structure LinePk (l : Line) : Prop where
  name : l.Name.size ≤ 1000000
  w1 : 1 ≤ l.W
  w2 : l.W ≤ 64
  times : TimesOk l
  steps : StepsOk l
  zero : ∀ t, l.At[0]? = some t → t = 0
/-- A wave that can be packed. -/
structure WavePk (x : Wave) : Prop where
  e0 : 0 ≤ x.End
  e1 : x.End ≤ 1099511627776
  few : x.Lines.length ≤ 160
  lines : ∀ l ∈ x.Lines, LinePk l
def linesB : List Line → List Int
  | [] => []
  | l :: ls => seven (packLineOf l).length ++ packLineOf l ++ linesB ls
def headOf (x : Wave) : List Int := [119, 1] ++ seven x.End ++ seven x.Lines.length
def boxedOf (x : Wave) : List Int := sealOf (headOf x ++ linesB x.Lines)
theorem bareF_len : ∀ (l : List Chg) (p : Chg) (r : Int), (bareF l p r).length ≤ 10 + 40 * l.length
  | [], p, r => by
    rw [bareF]
    unfold flushF
    split
    · have := seven_len (r * 4 + 2); simp; omega
    · simp
  | x :: l, p, r => by
    rw [bareF]
    split
    · have := bareF_len l p (r + 1); simp; omega
    · have h1 := bareF_len l x 0
      have h2 := enc_len x
      have h3 : (flushF r).length ≤ 10 := by
        unfold flushF
        split
        · exact seven_len _
        · simp
      simp only [List.length_append, List.length_cons]
      omega
theorem packLine_len {l : Line} (h : LinePk l) : (packLineOf l).length ≤ 2000100 := by
  have h1 := seven_len (l.Name.size : Int)
  have h2 := seven_len (l.At.length : Int)
  have h3 := h.name
  have h4 := h.times.2.1
  have h5 : (chgOf l).length = l.At.length := chgF_len _ _ _ _ h.times.1
  have h6 : (packC (chgOf l)).length ≤ 40 + 40 * (chgOf l).length := by
    cases chgOf l with
    | nil => simp [packC]
    | cons x cs =>
      have h7 := enc_len x
      have h8 := bareF_len cs x 0
      rw [packC]
      simp only [List.length_append, List.length_cons]
      omega
  unfold packLineOf
  simp only [List.length_append, List.length_singleton, bytesOf_len]
  omega
theorem linesB_len : ∀ (ls : List Line), (∀ l ∈ ls, LinePk l) → (linesB ls).length ≤ 2000110 * ls.length
  | [], _ => by simp [linesB]
  | l :: ls, h => by
    have h1 := linesB_len ls (fun m hm => h m (List.mem_cons_of_mem _ hm))
    have h2 := packLine_len (h l (List.mem_cons_self ..))
    have h3 := seven_len ((packLineOf l).length : Int)
    rw [linesB]
    simp only [List.length_append, List.length_cons]
    omega
theorem headOf_len (x : Wave) : (headOf x).length ≤ 22 := by
  have h1 := seven_len x.End
  have h2 := seven_len (x.Lines.length : Int)
  unfold headOf
  simp only [List.length_append, List.length_cons, List.length_nil]
  omega
theorem and_take {P Q : Prop} (h : P) (k : P → Q) : P ∧ Q := ⟨h, k h⟩

set_option maxHeartbeats 8000000 in
theorem pack_calls (x : Wave) (A : Option Addr) (c : Nat) (w : World) (F : Nat → Prop) (he : InK .i64 x.End) (h : Rep.Sl kLine w F A c x.Lines) (hp : waveFault x = 0 → WavePk x) :
    Calls Try.prog 10 #[.agg #[.int .i64 x.End, .slice A x.Lines.length c]] w fun e w' => ((waveFault x ≠ 0 ∧ e = .returned (.tuple #[.slice none 0 0, .int .i64 (waveFault x)])) ∨
      (waveFault x = 0 ∧ ∃ v, e = .returned (.tuple #[v, .int .i64 0]) ∧ Rep.Own kByte 5 w' w.heap.size NoB v (boxedOf x))) ∧ Is w w' := by
  have hu := Try.underlying50
  have hu2 := Try.underlying24
  have hm := h.len
  have hB : ∀ y : Under (w.alloc (.cells #[.int .i64 x.End, .slice A x.Lines.length c] 24)), w.heap.size < y.val.heap.size := fun y => y.lt _ (by simp)
  by_cases hwf : waveFault x = 0
  case neg =>
    have hwf2 := Lib.hid hwf
    have hb : (waveFault x != 0) = true := by simpa using hwf
    clear hwf
    go_enter Try.func10, Try.ntmps10
    go_wp2_with (go_at_call 17; refine (check_calls x A c _ F he (h.is ((Is.refl w).alloc _))).mono ?_; rintro e w1 ⟨rfl, ⟨x1, rfl⟩⟩)
    all_goals go_ret2
    exact ⟨.inl ⟨hwf2.out, rfl⟩, ((Is.refl w).alloc _).step x1⟩
  case pos =>
    have hpk := hp hwf
    have e0 := hpk.e0
    have e1 := hpk.e1
    have hfew := hpk.few
    have hwf0 := Lib.hid hwf
    have hhl := headOf_len x
    have hb2 : ∀ q ∈ [(119 : Int), 1], InK .u8 q := by
      intro q hq
      simp only [List.mem_cons, List.not_mem_nil, or_false] at hq
      rcases hq with rfl | rfl <;> exact InK.mku8 (by omega)
    go_enter Try.func10, Try.ntmps10
    go_wp2_with (go_at_call 17; refine (check_calls x A c _ F he (h.is ((Is.refl w).alloc _))).mono ?_; rintro e w1 ⟨rfl, ⟨x1, rfl⟩⟩)
    refine wp_region_splitT (fun w' => ∃ y : Under x1.val, w' = y.val) [false, true, true, true, false, true, true, true, true, false, false] (by kernel_rfl) (by kernel_rfl) (by decide) ⟨(Under.refl _).drew, rfl⟩ (fun _ _ d _ _ h => by cases d <;> exact h) ?_
    have hx1 := hB x1
    simp only [pickB, dropB]
    repeat (go_big_quiet_step (fail))
    refine wpQuiet_nil ?_
    refine wpListT_step (fun Q' hQ' => ?_)
    go_wp2_with fail
    refine ⟨⟨((Under.refl _).alloc _).drew, rfl⟩, ?_⟩
    refine wpListT_step (fun Q' hQ' => ?_)
    have hx1s : w.heap.size + 1 ≤ x1.val.heap.size := hx1
    have hof : Rep.Own kByte 5 (x1.val.alloc (.cells #[.int .u8 119, .int .u8 1] 5)).drew (w.heap.size + 1) NoB (.slice (some ⟨x1.val.heap.size, 0, none⟩) 2 2) [119, 1] :=
      (Rep.Own.fresh (xs := [(119 : Int), 1]) (c := [.int .u8 119, .int .u8 1]) (all_ints (xs := [(119 : Int), 1]) hb2) hx1s (fun k hk => hk.elim) (by simp)).step (fun _ _ _ => rfl)
    go_wp2_with (go_at_call 43; refine (number_calls _ _ _ _ (w.heap.size + 1) hof (InK.mku64 (by omega)) (by simp; omega) (by simp)).mono ?_; rintro e w2 ⟨v2, rfl, ho2, hg2⟩)
    obtain ⟨y2, rfl⟩ := (((Is.refl x1.val).alloc (.cells #[.int .u8 119, .int .u8 1] 5)).drew).grew hg2 (fun k hk => by simp [Value.ownBlock] at hk; omega)
    have hl2 := seven_len x.End
    have hy2s : w.heap.size + 1 ≤ y2.val.heap.size := Nat.le_trans hx1s y2.size
    refine ⟨⟨y2, rfl⟩, ?_⟩
    refine wpListT_step (fun Q' hQ' => ?_)
    go_wp2_with (go_at_call 43; refine (number_calls v2 _ _ _ (w.heap.size + 1) ho2 (InK.mku64 (by omega)) hy2s (by simp only [List.length_append, List.length_cons, List.length_nil]; omega)).mono ?_; rintro e w3 ⟨v3, rfl, ho3, hg3⟩)
    obtain ⟨y3, hy3⟩ := (Is.val y2).grew hg3 (fun k hk => by have := hg2.at_; rcases this with h | h
                                                             · rw [h] at hk; simp [Value.ownBlock] at hk; omega
                                                             · have := h k hk; simp at this; omega)
    subst hy3
    refine ⟨⟨y3, rfl⟩, ?_⟩
    refine wpListT_last (fun Q' hQ' => ?_)
    have ho4 : Rep.Own kByte 5 (x1.trans y3).val (w.heap.size + 1) NoB v3 (headOf x) := ho3
    go_wp2
    go_loopg [5, 7, 8, 28] x.Lines.length (fun d u _ _ n wr => ∃ (i : Nat) (bs : List Int) (y : Under (w.alloc (.cells #[.int .i64 x.End, .slice A x.Lines.length c] 24))), n = .int .i64 i ∧ wr = y.val ∧ Rep.Own kByte 5 y.val (w.heap.size + 1) NoB u bs ∧ Aside (i + d = x.Lines.length ∧ bs ++ linesB (x.Lines.drop i) = headOf x ++ linesB x.Lines ∧ bs.length ≤ 22 + 2000110 * i))
    case atStart => exact ⟨0, headOf x, x1.trans y3, rfl, rfl, ho4, by omega, rfl, by omega⟩
    case round =>
      clear ho4 ho3 ho2 hof hg2 hg3
      obtain ⟨i, bs, y, rfl, rfl, ho, hA⟩ := hrel
      have hys : w.heap.size + 1 ≤ y.val.heap.size := hB y
      have hbl : bs.length ≤ 400000000 := by have := hA.out.2.2; have := hA.out.1; omega
      by_cases hlt : i < x.Lines.length
      · obtain ⟨l, hl⟩ := get_ex hlt
        have hlk := hpk.lines l (List.mem_of_getElem? hl)
        have hpl := packLine_len hlk
        obtain ⟨b, o, A2, c2, A3, c3, rfl, hb, hc0, hc1, hc2, hc3, hk, hs2, hs3⟩ := Rep.rowLine h.row hl
        obtain ⟨gk, rfl⟩ : ∃ m, gk = m + 1 := ⟨gk - 1, by have := hA.out.1; omega⟩
        have hby : b < y.val.heap.size := y.lt _ (by simp; omega)
        have hbl2 : b ≤ w.heap.size := by omega
        have hwy := ((Is.refl w).alloc (.cells #[.int .i64 x.End, .slice (some ⟨b, o, none⟩) x.Lines.length c] 24)).step y
        have hl2 := Lib.hid hl
        have hA2 := Lib.hid hA.out
        clear hl hA
        go_wp2_with (first
          | (go_at_call 44; refine (packLine_calls l A2 A3 c2 c3 _ F hk hlk.name hlk.w1 hlk.w2 hlk.times hlk.steps (hs2.is (hwy.alloc _)) (hs3.is (hwy.alloc _))).mono ?_; rintro e w4 ⟨v4, rfl, ho4, ⟨x4, rfl⟩⟩; obtain ⟨A4, c4, rfl, hs4⟩ := ho4.sl; have hx4 : w.heap.size + 1 ≤ x4.val.heap.size := Nat.le_trans hys (Nat.le_trans (by simp) x4.size); have ho5 : Rep.Own kByte 5 x4.val (w.heap.size + 1) NoB u5 bs := ho.step (fun k _ hl => (x4.ok.block k (by simp; omega)).trans (Below.heap_alloc y.val _ k hl)); have hml := hs4.len)
          | (go_at_call 43; refine (number_calls u5 bs _ _ (w.heap.size + 1) ho5 (InK.mku64 (by omega)) hx4 (by omega)).mono ?_; rintro e w6 ⟨v6, rfl, ho6, hg6⟩; have hs6 : Rep.Sl kByte w6 (fun k => u5.ownBlock ≠ some k) A4 c4 (packLineOf l) := (hs4.mono (fun k hk hl => by
              rcases hk with hk | hk
              · exact hk.elim
              · intro e; have := (ho.lt k e).2; have := (ho4.lt k hk).1; simp at this; omega)).step (fun k hk hl => ⟨hk, hg6.by_.block k hl (fun e => hk e.symm)⟩); have hsv := seven_len ((packLineOf l).length : Int); have hw6 := hg6.by_.size)
          | (at_builtin; refine wpList_slF (Rep.Flat.int _) rfl (.tmp 38) (.tmp 39) rfl byteT rfl rfl ho6 hs6 (le_maxLen (by simp only [List.length_append]; omega)) (by simp only [List.length_append]; omega) (Nat.le_trans hx4 hw6) ?_; intro v7 w7 ho7 hg7))
        obtain ⟨y7, hy7⟩ := (((Is.val y).alloc (.cells #[.string l.Name, .int .i64 l.W, .slice A2 l.At.length c2, .slice A3 l.Val.length c3] 50)).step x4).grew (hg6.trans hg7) (fun k hk => by have := (ho.lt k hk).1; simpa using this)
        have hy72 := Lib.hid hy7
        clear hy7
        go_roundg gk
        case measure => have := hA2.out.1; omega
        case rel =>
          refine ⟨i + 1, _, y7, by go_num, hy72.out, hy72.out ▸ ho7, by have := hA2.out.1; omega, ?_, ?_⟩
          · rw [← hA2.out.2.1, drop_cons hl2.out, linesB]
            simp
          · have := hA2.out.2.2
            simp only [List.length_append]
            omega
      · have hil := Lib.hid (show i = x.Lines.length by have := hA.out.1; omega)
        have q1 : decide ((i : Int) < (x.Lines.length : Int)) = false := by simp; omega
        obtain ⟨A5, c5, rfl, hs5⟩ := ho.sl
        have hml := hs5.len
        have hA2 := Lib.hid hA.out
        clear hA
        have hs := sumOf_lt bs
        have hs1 := hs.1
        have hs2 := hs.2
        have hb4 : ∀ q ∈ [sumOf bs / 16777216, sumOf bs / 65536 % 256, sumOf bs / 256 % 256, sumOf bs % 256], InK .u8 q := by
          intro q hq
          simp only [List.mem_cons, List.not_mem_nil, or_false] at hq
          rcases hq with rfl | rfl | rfl | rfl <;> exact InK.mku8 (by omega)
        go_wp2_with (first
          | (go_at_call 13; refine (sum_calls A5 c5 bs _ _ hs5).mono ?_; rintro e w6 ⟨rfl, ⟨x6, rfl⟩⟩)
          | (at_builtin; refine wpList_new rfl (.tmp 44) (.tmp 56) rfl byteT rfl (ys := [sumOf bs / 16777216, sumOf bs / 65536 % 256, sumOf bs / 256 % 256, sumOf bs % 256]) rfl (ho.step (fun k _ hl => x6.ok.block k hl)) (all_ints hb4) (fun k hk => hk.elim) (le_maxLen (by simp; omega)) (by simp; omega) (Nat.le_trans hys x6.size) ?_; intro v7 w7 ho7 hg7))
        go_ret2
        have hfin : boxedOf x = bs ++ [sumOf bs / 16777216, sumOf bs / 65536 % 256, sumOf bs / 256 % 256, sumOf bs % 256] := by
          have h0 := hA2.out.2.1
          rw [hil.out, drop_end, linesB, List.append_nil] at h0
          unfold boxedOf sealOf
          rw [← h0]
        refine ⟨.inr ⟨hwf0.out, v7, rfl, ?_⟩, ?_⟩
        · rw [hfin]
          exact ho7.lower (by omega)
        · exact (((Is.refl w).alloc _).step (y.trans x6)).grew hg7 (fun k hk => by have := (ho.lt k hk).1; omega)
end Go.Proofs.Ytabhafllkhoefaa
