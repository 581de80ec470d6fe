/- A line in packed form. -/
import Derived.Test.YtabhafllkhoefaaChg
import Derived.Deep.DeepCutAuto
import Derived.Deep.CutBlock
namespace Go.Proofs.Ytabhafllkhoefaa
open Go.RowKit
set_option maxRecDepth 100000

def Chg.beq (a b : Chg) : Bool := a.step == b.step && (a.v == b.v && a.x == b.x)
theorem Chg.beq_iff {a b : Chg} : a.beq b = true ↔ a = b := by cases a; cases b; simp [Chg.beq]
theorem eqChg (d : Nat) (w : World) (a0 a1 a2 b0 b1 b2 : Int) : (Op.equalIn (d + 2) 129 (.agg #[.int .i64 a0, .int .u64 a1, .int .u64 a2]) (.agg #[.int .i64 b0, .int .u64 b1, .int .u64 b2])).run Try.prog w = .ok (a0 == b0 && (a1 == b1 && a2 == b2)) w := by
  refine eqStruct Try.underlying129 (by kernel_rfl) ?_
  refine eqFields_step (by decide) (by go_simp; rfl) (by go_simp; rfl) (by go_simp) ?_
  refine eqFields_step (by decide) (by go_simp; rfl) (by go_simp; rfl) (by go_simp) ?_
  exact eqFields_last (by decide) (by go_simp; rfl) (by go_simp; rfl) (by go_simp)
attribute [go_sem high] eqChg
theorem or64 {a b : Int} (ha0 : 0 ≤ a) (ha : a ≤ 4611686018427387903) (hb0 : 0 ≤ b) (hb : b < 4) : Go.bits .or .u64 (a * 4) b = a * 4 + b :=
  bits_join .u64 64 (by decide) (fun n h0 h1 => by rw [IntKind.wrap_u64]; omega) 2 (a * 4) b (by omega) (by omega) (by omega) hb0 (by omega) (by omega)

def enc (c : Chg) : List Int := if c.x = 0 then seven (c.step * 4) ++ seven c.v else seven (c.step * 4 + 1) ++ seven c.v ++ seven c.x
def flushF (r : Int) : List Int := if 0 < r then seven (r * 4 + 2) else []
def bareF : List Chg → Chg → Int → List Int
  | [], _, r => flushF r
  | x :: l, p, r => if x.beq p then bareF l p (r + 1) else flushF r ++ (enc x ++ bareF l x 0)
def packC : List Chg → List Int
  | [] => []
  | x :: l => enc x ++ bareF l x 0
def packLineOf (l : Line) : List Int := seven l.Name.size ++ bytesOf l.Name ++ [l.W] ++ seven l.At.length ++ packC (chgOf l)
/-- What is left to be said from the i-th change on. -/
def restF (cs : List Chg) (i : Nat) : List Int := match i with
  | 0 => packC cs
  | j + 1 => match cs[j]? with
    | none => []
    | some p => bareF (cs.drop (j + 1)) p 0
theorem bareF_end {l : List Chg} {p : Chg} {r : Int} (h : ∀ x, l.head? = some x → x.beq p = false) : bareF l p r = flushF r ++ bareF l p 0 := by
  cases l with
  | nil => simp [bareF, flushF]
  | cons x l =>
    have := h x rfl
    rw [bareF, bareF, this]
    simp [flushF]
theorem chgF_len : ∀ (ts : List Int) (bs : List Bits) (p : Int) (q : Bits), ts.length = bs.length → (chgF ts bs p q).length = ts.length
  | [], [], _, _, _ => rfl
  | [], _ :: _, _, _, h => by simp at h
  | _ :: _, [], _, _, h => by simp at h
  | t :: ts, b :: bs, p, q, h => by
    rw [chgF]
    simpa using chgF_len ts bs t b (by simpa using h)
/-- The steps lie in their range. -/
def StepsOk (l : Line) : Prop := ∀ c ∈ chgOf l, 0 ≤ c.step ∧ c.step ≤ 1099511627776
theorem seven_len (n : Int) : (seven n).length ≤ 10 := sevenF_len 10 n
theorem enc_len (c : Chg) : (enc c).length ≤ 30 := by
  unfold enc
  split <;> simp only [List.length_append] <;> have h1 := seven_len c.v <;> have h2 := seven_len c.x <;> have h3 := seven_len (c.step * 4) <;> have h4 := seven_len (c.step * 4 + 1) <;> omega

theorem Grew.sl {α : Type} {d : Rep α} {w w' : World} {v v' : Value} {F : Nat → Prop} {A : Option Addr} {c : Nat} {xs : List α} (h : Grew w w' v v') (hs : Rep.Sl d w F A c xs) (hF : ∀ k, F k → v.ownBlock ≠ some k) : Rep.Sl d w' F A c xs :=
  hs.step fun k hk hl => ⟨hk, h.by_.block k hl (fun e => hF k hk e.symm)⟩
theorem Grew.undrew {w w' : World} {v v' : Value} (h : Grew w.drew w' v v') : Grew w w' v v' := ⟨⟨h.by_.os, h.by_.tape, h.by_.output, h.by_.size, h.by_.block⟩, h.at_⟩
theorem But.grewC {w : World} {G : Nat → Prop} (x : But w G) {w' : World} {v v' : Value} (hg : Grew x.val w' v v') (hv : ∀ k, v.ownBlock = some k → G k ∨ w.heap.size ≤ k) : ∃ y : But w G, w' = y.val := by
  refine ⟨⟨w', hg.by_.os.trans x.os, hg.by_.tape.trans x.tape, hg.by_.output.trans x.output, Nat.le_trans x.size hg.by_.size, fun k hk hG => ?_⟩, rfl⟩
  exact (hg.by_.block k (Nat.lt_of_lt_of_le hk x.size) (fun e => (hv k e.symm).elim hG (fun h => by omega))).trans (x.block k hk hG)
theorem But.isU {w w0 : World} {G : Nat → Prop} (x : But w G) (h : Is w0 w) (hG : ∀ k, G k → w0.heap.size ≤ k) : Is w0 x.val := x.is h hG
/-- A slice whose row and all that it leads into is not the row that was written. -/
theorem Grew.slx {α : Type} {d : Rep α} {w w' : World} {v v' : Value} {A : Option Addr} {c : Nat} {xs : List α} (h : Grew w w' v v') (hs : Rep.Sl d w (fun k => v.ownBlock ≠ some k) A c xs) : Rep.Sl d w' (fun k => v'.ownBlock ≠ some k) A c xs := by
  refine hs.step fun k hk hl => ⟨fun e => ?_, h.by_.block k hl (fun e => hk e.symm)⟩
  rcases h.at_ with h1 | h1
  · exact hk (h1 ▸ e)
  · have := h1 k e; omega
theorem rowChg {w : World} {F : Nat → Prop} {A : Option Addr} {xs : List Chg} (h : Rep.Row kChg w F A xs) {i : Nat} {x : Chg} (hx : xs[i]? = some x) :
    ∃ b o, A = some ⟨b, o, none⟩ ∧ F b ∧ b < w.heap.size ∧ w.cell? ⟨b, o + i * 3, none⟩ = some (.int .i64 x.step) ∧ w.cell? ⟨b, o + i * 3 + 1, none⟩ = some (.int .u64 x.v) ∧ w.cell? ⟨b, o + i * 3 + 2, none⟩ = some (.int .u64 x.x) ∧ ChgOk x := by
  obtain ⟨b, o, cs, hA, hF, hl, hr, hc⟩ := h i x hx
  obtain ⟨rfl, hk⟩ := kChg_iff.1 hr
  exact ⟨b, o, hA, hF, hl, hc 0 _ rfl, hc 1 _ rfl, hc 2 _ rfl, hk⟩
theorem rowChgAt {w : World} {F : Nat → Prop} {b o : Nat} {xs : List Chg} (h : Rep.Row kChg w F (some ⟨b, o, none⟩) xs) {i : Nat} {x : Chg} (hx : xs[i]? = some x) :
    F b ∧ b < w.heap.size ∧ w.cell? ⟨b, o + i * 3, none⟩ = some (.int .i64 x.step) ∧ w.cell? ⟨b, o + i * 3 + 1, none⟩ = some (.int .u64 x.v) ∧ w.cell? ⟨b, o + i * 3 + 2, none⟩ = some (.int .u64 x.x) ∧ ChgOk x := by
  obtain ⟨b', o', hA, h⟩ := rowChg h hx
  simp only [Option.some.injEq, Addr.mk.injEq, and_true] at hA
  obtain ⟨rfl, rfl⟩ := hA
  exact h

set_option maxHeartbeats 8000000 in
theorem packLine_calls (l : Line) (A2 A3 : Option Addr) (c2 c3 : Nat) (w : World) (F : Nat → Prop) (hl : LineOk l) (hn : l.Name.size ≤ 1000000) (hW1 : 1 ≤ l.W) (hW2 : l.W ≤ 64) (ht : TimesOk l) (hs : StepsOk l)
    (h2 : Rep.Sl (Rep.int .i64) w F A2 c2 l.At) (h3 : Rep.Sl kBits w F A3 c3 l.Val) :
    Calls Try.prog 44 #[.agg #[.string l.Name, .int .i64 l.W, .slice A2 l.At.length c2, .slice A3 l.Val.length c3]] w fun e w' => ∃ v, e = .returned v ∧ Rep.Own kByte 5 w' w.heap.size NoB v (packLineOf l) ∧ Is w w' := by
  have hu := Try.underlying50
  have hu3 := Try.underlying129
  have hm2 := h2.len
  have hm3 := h3.len
  have hsz : (l.Name.size : Int) ≤ 1000000 := by omega
  have hatl : l.At.length ≤ 20000 := ht.2.1
  go_enter Try.func44, Try.ntmps44
  have hbox : ∀ x : Under (w.alloc (.cells #[.string l.Name, .int .i64 l.W, .slice A2 l.At.length c2, .slice A3 l.Val.length c3] 50)), w.heap.size < x.val.heap.size := fun x => x.lt _ (by simp)
  have hs7 := seven_len (l.Name.size : Int)
  go_wp2_with (first
    | (go_at_call 43; refine (number_calls (.slice none 0 0) [] _ _ (w.heap.size + 1) (Rep.Own.nil _ _ _ _ _) (InK.mku64 (by omega)) (by simp) (by simp)).mono ?_; rintro e w1 ⟨v1, rfl, ho1, hg1⟩; obtain ⟨x1, rfl⟩ := (Is.refl _).grew hg1 (fun k hk => by cases hk))
    | (at_builtin; refine wpList_str rfl (.tmp 12) (.tmp 14) rfl byteT Try.underlying9 rfl rfl ho1 (by simp; omega) (by have := x1.size; simpa using this) ?_; intro v2 w2 ho2 hg2; obtain ⟨x2, rfl⟩ := (Is.val x1).grew hg2 (fun k hk => by have := (ho1.lt k hk).1; simpa using this)))
  refine wp_region_split (fun w' => ∃ x : But x2.val (fun k => w.heap.size + 1 ≤ k), w' = x.val) [true, true, true, true, false, false, true, true, true, true, false, false] (by kernel_rfl) (by kernel_rfl) ⟨(But.refl _ _).drew, rfl⟩ (fun _ _ d _ _ h => by cases d <;> exact h) ?_
  simp only [pickB, dropB]
  repeat (go_big_quiet_step (fail))
  refine wpQuiet_nil ?_
  have hlb1 : ([] ++ seven (l.Name.size : Int) ++ bytesOf l.Name).length ≤ 1000010 := by simp only [List.nil_append, List.length_append, bytesOf_len]; omega
  have hx2s : w.heap.size + 1 ≤ x2.val.heap.size := by have := x2.size; simpa using this
  have hbase2 : ∀ k, v2.ownBlock = some k → w.heap.size + 1 ≤ k := fun k hk => (ho2.lt k hk).1
  refine wpListS_step (fun Q' hQ' => ?_) ⟨(But.refl _ _).drew, rfl⟩
  go_wp2_with fail
  refine ⟨⟨((But.refl _ _).alloc _).drew, rfl⟩, ?_⟩
  refine wpListS_step (fun Q' hQ' => ?_) ⟨((But.refl _ _).alloc _).drew, rfl⟩
  go_wp2_with (at_builtin; refine wpList_one rfl (.tmp 16) (.tmp 20) rfl byteT (w0 := x2.val.drew) (c := [.int .u8 l.W]) (te := 5) rfl rfl (ho2.step (fun _ _ _ => rfl)) (y := l.W) ⟨rfl, InK.mku8 (by omega)⟩ (fun k hk => hk.elim) (le_maxLen (by omega)) (by omega) hx2s ?_; intro v3 w3 ho3 hg3)
  obtain ⟨y3, rfl⟩ := (But.refl x2.val (fun k => w.heap.size + 1 ≤ k)).drew.grewB hg3 hbase2
  have hy3s : w.heap.size + 1 ≤ y3.val.heap.size := Nat.le_trans hx2s y3.size
  refine ⟨⟨y3, rfl⟩, ?_⟩
  refine wpListS_step (fun Q' hQ' => ?_) ⟨y3, rfl⟩
  go_wp2_with (go_at_call 43; refine (number_calls v3 _ _ _ (w.heap.size + 1) ho3 (InK.mku64 (by omega)) hy3s (by simp only [List.length_append, List.length_singleton] at hlb1 ⊢; omega)).mono ?_; rintro e w4 ⟨v4, rfl, ho4, hg4⟩)
  obtain ⟨y4, rfl⟩ := y3.grewB hg4 (fun k hk => (ho3.lt k hk).1)
  refine ⟨⟨y4, rfl⟩, ?_⟩
  refine wpListS_step (fun Q' hQ' => ?_) ⟨y4, rfl⟩
  go_wp2
  refine ⟨⟨y4, rfl⟩, wpListS_nil ?_⟩
  obtain ⟨x4, hx4⟩ := y4.isU (w0 := w.alloc (.cells #[.string l.Name, .int .i64 l.W, .slice A2 l.At.length c2, .slice A3 l.Val.length c3] 50)) (Is.val x2) (fun k hk => by simpa using hk)
  have hwx : Is w x4.val := ((Is.refl w).alloc _).step x4
  rw [hx4] at ho4
  rw [hx4]
  go_wp2_with (go_at_call 75; refine (changes_calls l A2 A3 c2 c3 _ F hl ht (h2.is hwx) (h3.is hwx)).mono ?_; rintro e w5 ⟨v5, rfl, ho5, ⟨x5, rfl⟩⟩)
  have hb5 := ho5.lt
  obtain ⟨A5, c5, rfl, hs5⟩ := ho5.sl
  have hcl : (chgOf l).length = l.At.length := chgF_len _ _ _ _ ht.1
  have hs6 : Rep.Sl kChg x5.val (fun k => v4.ownBlock ≠ some k) A5 c5 (chgOf l) := hs5.mono fun k hk _ e => by
    rcases hk with hk | hk
    · exact hk
    · have h1 := (hb5 k hk).1
      have h2 := (ho4.lt k e).2
      omega
  have ho6 : Rep.Own kByte 5 x5.val (w.heap.size + 1) NoB v4 _ := ho4.step (fun k hk hl => x5.ok.block k hl)
  generalize hhd : ([] ++ seven (l.Name.size : Int) ++ bytesOf l.Name ++ [l.W] ++ seven (l.At.length : Int)) = hd at ho6
  have hpl : Hid (packLineOf l = hd ++ restF (chgOf l) 0) := Lib.hid (by rw [← hhd]; rfl)
  have hdl : hd.length ≤ 1000100 := by
    have h1 := seven_len (l.At.length : Int)
    rw [← hhd]; simp only [List.length_append, List.length_singleton] at hlb1 ⊢; omega
  have hcs : ∀ c ∈ chgOf l, 0 ≤ c.step ∧ c.step ≤ 1099511627776 := hs
  have hWx5 : Is w x5.val := hwx.step x5
  clear hWx5 hhd hs5 ho5 hb5 ho4 hx4 hg4 hg3 ho3 hg2 ho2 hg1 ho1 hs
  generalize chgOf l = cs at *
  have hcl2 := Lib.hid hcl
  clear hcl
  go_loopg [3, 5, 6] cs.length (fun d u n _ wr => ∃ (i : Nat) (bs : List Int) (y : Under (w.alloc (.cells #[.string l.Name, .int .i64 l.W, .slice A2 l.At.length c2, .slice A3 l.Val.length c3] 50))), n = .int .i64 i ∧ wr = y.val ∧ Rep.Own kByte 5 y.val (w.heap.size + 1) NoB u bs ∧ Rep.Sl kChg y.val (fun k => u.ownBlock ≠ some k) A5 c5 cs ∧ Aside (i + d = cs.length ∧ bs ++ restF cs i = packLineOf l ∧ bs.length ≤ 1000100 + 30 * i))
  case atStart => exact ⟨0, hd, x4.trans x5, rfl, rfl, ho6, hs6, by omega, hpl.out.symm, hdl⟩
  case round =>
    clear hs6 ho6
    obtain ⟨i, bs, y, rfl, rfl, ho, hc, hA⟩ := hrel
    have hcn : cs.length ≤ 20000 := by have := hcl2.out; omega
    have hcl' := hc.len
    by_cases hlt : i < cs.length
    · obtain ⟨x, hx⟩ := get_ex hlt
      obtain ⟨b5, o5, rfl, hne5, hb5, hcx0, hcx1, hcx2, hkx⟩ := rowChg hc.row hx
      have hstep := hcs x (List.mem_of_getElem? hx)
      have hst0 := hstep.1
      have hst1 := hstep.2
      obtain ⟨gk, rfl⟩ : ∃ m, gk = m + 1 := ⟨gk - 1, by have := hA.out.1; omega⟩
      have hbY : w.heap.size + 1 ≤ y.val.heap.size := by have := y.size; simpa using this
      have hnb : ¬ u3.ownBlock = some b5 := hne5
      have hx2 := Lib.hid hx
      have hbl : bs.length ≤ 1600100 := by have := hA.out.2.2; omega
      cases i with
      | zero =>
        have hI : Hid (bs ++ (enc x ++ bareF (cs.drop (0 + 1)) x 0) = packLineOf l ∧ bs.length ≤ 1000100 + 30 * 0 ∧ 0 + (gk + 1) = cs.length) := Lib.hid (by
          refine ⟨?_, hA.out.2.2, hA.out.1⟩
          rw [← hA.out.2.1]
          cases cs with
          | nil => simp at hx
          | cons x' l' => simp at hx; subst hx; rfl)
        simp only [Nat.zero_mul, Nat.add_zero] at hcx0 hcx1 hcx2
        clear hA hx
        have hkx0 := hkx.1.i64.1
        by_cases hxz : x.x = 0
        · have hxb : (x.x == 0) = true := by simp [hxz]
          have hx0 := Lib.hid hxz
          clear hxz
          go_wp2
          refine wp_region_split (fun w' => ∃ x : But y.val (fun k => u3.ownBlock = some k), w' = x.val) [true, true, true, true, true, true, true, true, true, false, true, true, true, true, true, false, false] (by kernel_rfl) (by kernel_rfl) ⟨(But.refl _ _).drew, rfl⟩ (fun _ _ d _ _ h => by cases d <;> exact h) ?_
          simp only [pickB, dropB]
          repeat (go_big_quiet_step (fail))
          refine wpQuiet_nil ?_
          refine wpListS_step (fun Q' hQ' => ?_) ⟨(But.refl _ _).drew, rfl⟩
          go_wp2_with (go_at_call 43; refine (number_calls u3 bs _ y.val.drew (w.heap.size + 1) (ho.step (fun _ _ _ => rfl)) (InK.mku64 (by rw [or64 (by omega) (by omega) (by omega) (by omega)]; omega)) hbY (by omega)).mono ?_; rintro e wa ⟨va, rfl, hoa, hga⟩)
          obtain ⟨ya, rfl⟩ := (But.refl y.val (fun k => u3.ownBlock = some k)).drew.grewC hga (fun k hk => .inl hk)
          have hbya := Nat.le_trans hbY ya.size
          refine ⟨⟨ya, rfl⟩, ?_⟩
          have hla := seven_len (Go.bits .or .u64 (x.step * 4) 0)
          refine wpListS_step (fun Q' hQ' => ?_) ⟨ya, rfl⟩
          go_wp2_with (go_at_call 43; refine (number_calls va _ _ _ (w.heap.size + 1) hoa hkx.2.1 hbya (by rw [List.length_append]; omega)).mono ?_; rintro e wb ⟨vb, rfl, hob, hgb⟩)
          obtain ⟨yb, rfl⟩ := ya.grewC hgb (fun k hk => hga.at_.elim (fun h => .inl (h ▸ hk)) (fun h => .inr (h k hk)))
          refine ⟨⟨yb, rfl⟩, ?_⟩
          refine wpListS_step (fun Q' hQ' => ?_) ⟨yb, rfl⟩
          go_wp2
          refine ⟨⟨yb, rfl⟩, wpListS_nil ?_⟩
          have hgT : Grew y.val yb.val u3 vb := Grew.undrew (hga.trans hgb)
          obtain ⟨ye, hye⟩ := (Is.val y).grew hgT (fun k hk => by have := (ho.lt k hk).1; simpa using this)
          have hye2 := Lib.hid hye
          clear hye
          go_wp2
          go_roundg gk
          case measure => omega
          case rel =>
            refine ⟨0 + 1, _, ye, by go_num, hye2.out, hye2.out ▸ hob, hye2.out ▸ hgT.slx hc, by have := hI.out; omega, ?_, ?_⟩
            · rw [← hI.out.1]
              show _ ++ (match cs[0]? with | none => [] | some p => bareF (cs.drop (0 + 1)) p 0) = _
              rw [hx2.out]
              unfold enc
              rw [if_pos hx0.out, or64 (by omega) (by omega) (by omega) (by omega)]
              simp
            · have h0 := hI.out.2.1
              have h1 := seven_len (Go.bits .or .u64 (x.step * 4) 0)
              have h2 := seven_len x.v
              have h3 := seven_len x.x
              simp only [List.length_append]
              omega

        · have hxb : (x.x == 0) = false := by simp [hxz]
          have hx0 := Lib.hid hxz
          clear hxz
          go_wp2
          refine wp_region_split (fun w' => ∃ x : But y.val (fun k => u3.ownBlock = some k), w' = x.val) [true, true, true, true, true, true, true, true, true, false, true, true, true, true, true, false, true, true, true, true, true, false, false] (by kernel_rfl) (by kernel_rfl) ⟨(But.refl _ _).drew, rfl⟩ (fun _ _ d _ _ h => by cases d <;> exact h) ?_
          simp only [pickB, dropB]
          repeat (go_big_quiet_step (fail))
          refine wpQuiet_nil ?_
          refine wpListS_step (fun Q' hQ' => ?_) ⟨(But.refl _ _).drew, rfl⟩
          go_wp2_with (go_at_call 43; refine (number_calls u3 bs _ y.val.drew (w.heap.size + 1) (ho.step (fun _ _ _ => rfl)) (InK.mku64 (by rw [or64 (by omega) (by omega) (by omega) (by omega)]; omega)) hbY (by omega)).mono ?_; rintro e wa ⟨va, rfl, hoa, hga⟩)
          obtain ⟨ya, rfl⟩ := (But.refl y.val (fun k => u3.ownBlock = some k)).drew.grewC hga (fun k hk => .inl hk)
          have hbya := Nat.le_trans hbY ya.size
          refine ⟨⟨ya, rfl⟩, ?_⟩
          have hla := seven_len (Go.bits .or .u64 (x.step * 4) 1)
          refine wpListS_step (fun Q' hQ' => ?_) ⟨ya, rfl⟩
          go_wp2_with (go_at_call 43; refine (number_calls va _ _ _ (w.heap.size + 1) hoa hkx.2.1 hbya (by rw [List.length_append]; omega)).mono ?_; rintro e wb ⟨vb, rfl, hob, hgb⟩)
          obtain ⟨yb, rfl⟩ := ya.grewC hgb (fun k hk => hga.at_.elim (fun h => .inl (h ▸ hk)) (fun h => .inr (h k hk)))
          refine ⟨⟨yb, rfl⟩, ?_⟩
          have hbyb := Nat.le_trans hbY yb.size
          have hlb := seven_len x.v
          have hgab := hga.trans hgb
          refine wpListS_step (fun Q' hQ' => ?_) ⟨yb, rfl⟩
          go_wp2_with (go_at_call 43; refine (number_calls vb _ _ _ (w.heap.size + 1) hob hkx.2.2 hbyb (by rw [List.length_append, List.length_append]; omega)).mono ?_; rintro e wc ⟨vc, rfl, hoc, hgc⟩)
          obtain ⟨yc, rfl⟩ := yb.grewC hgc (fun k hk => hgab.at_.elim (fun h => .inl (h ▸ hk)) (fun h => .inr (h k hk)))
          refine ⟨⟨yc, rfl⟩, ?_⟩
          refine wpListS_step (fun Q' hQ' => ?_) ⟨yc, rfl⟩
          go_wp2
          refine ⟨⟨yc, rfl⟩, wpListS_nil ?_⟩
          have hgT : Grew y.val yc.val u3 vc := Grew.undrew ((hga.trans hgb).trans hgc)
          obtain ⟨ye, hye⟩ := (Is.val y).grew hgT (fun k hk => by have := (ho.lt k hk).1; simpa using this)
          have hye2 := Lib.hid hye
          clear hye
          go_wp2
          go_roundg gk
          case measure => omega
          case rel =>
            refine ⟨0 + 1, _, ye, by go_num, hye2.out, hye2.out ▸ hoc, hye2.out ▸ hgT.slx hc, by have := hI.out; omega, ?_, ?_⟩
            · rw [← hI.out.1]
              show _ ++ (match cs[0]? with | none => [] | some p => bareF (cs.drop (0 + 1)) p 0) = _
              rw [hx2.out]
              unfold enc
              rw [if_neg hx0.out, or64 (by omega) (by omega) (by omega) (by omega)]
              simp
            · have h0 := hI.out.2.1
              have h1 := seven_len (Go.bits .or .u64 (x.step * 4) 1)
              have h2 := seven_len x.v
              have h3 := seven_len x.x
              simp only [List.length_append]
              omega


      | succ j =>
        obtain ⟨p, hp⟩ := get_ex (xs := cs) (i := j) (by omega)
        obtain ⟨_, _, hcp0, hcp1, hcp2, hkp⟩ := rowChgAt hc.row hp
        have hI0 : Hid (bs ++ bareF (cs.drop (j + 1)) p 0 = packLineOf l ∧ bs.length ≤ 1000100 + 30 * (j + 1) ∧ (j + 1) + (gk + 1) = cs.length) := Lib.hid (by
          refine ⟨?_, hA.out.2.2, hA.out.1⟩
          rw [← hA.out.2.1]
          show _ = bs ++ (match cs[j]? with | none => [] | some p => bareF (cs.drop (j + 1)) p 0)
          rw [hp])
        have hp2 := Lib.hid hp
        clear hA hx hp
        go_upto_block 2 with (fail)
        go_cut [6] (fun n wc => ∃ (m : Nat) (z : Under (w.alloc (.cells #[.string l.Name, .int .i64 l.W, .slice A2 l.At.length c2, .slice A3 l.Val.length c3] 50))), n = .int .i64 m ∧ wc = z.val ∧ Is y.val z.val ∧ Aside (j + 1 + m ≤ cs.length ∧ bareF (cs.drop (j + 1)) p 0 = flushF m ++ bareF (cs.drop (j + 1 + m)) p 0 ∧ (0 < m → cs[j + m]? = some p) ∧ (m = 0 → x.beq p = false)))
        case first =>
          go_wp2
          go_loopg [6] cs.length (fun d n wr => ∃ (m : Nat) (z : Under y.val), n = .int .i64 m ∧ wr = z.val ∧ Aside (j + 1 + m + d = cs.length + (j + 1) ∧ j + 1 + m ≤ cs.length ∧ bareF (cs.drop (j + 1)) p 0 = bareF (cs.drop (j + 1 + m)) p m ∧ (0 < m → cs[j + m]? = some p)))
          case atStart => exact ⟨0, Under.refl _, rfl, rfl, by omega, by omega, rfl, by omega⟩
          case round =>
            obtain ⟨m, z, rfl, rfl, hM⟩ := hrel
            have hbz : b5 < z.val.heap.size := z.lt _ hb5
            by_cases hlm : j + 1 + m < cs.length
            · obtain ⟨e, he⟩ := get_ex hlm
              obtain ⟨_, _, hce0, hce1, hce2, hke⟩ := rowChgAt hc.row he
              have q1 : decide ((j : Int) + 1 + (m : Int) < (cs.length : Int)) = true := by simp; omega
              have q2 : (0 : Int) ≤ (j : Int) + 1 + (m : Int) := by omega
              have q3 : (j : Int) + 1 + (m : Int) < (cs.length : Int) := by omega
              have q4 : ((j : Int) + 1 + (m : Int)).toNat = j + 1 + m := by omega
              have he2 := Lib.hid he
              clear he
              go_wp2
              refine wp_region_under (by kernel_rfl) (by kernel_rfl) ?_
              repeat (go_big_quiet_step (fail))
              refine wpQuiet_nil ?_
              rintro _ ⟨zz, rfl⟩
              go_wp2
              · have heq : Hid (e.beq p = true) := Lib.hid (by unfold Chg.beq; grind)
                obtain ⟨gk, rfl⟩ : ∃ m, gk = m + 1 := ⟨gk - 1, by have := hM.out.1; omega⟩
                go_roundg gk
                case measure => omega
                case rel =>
                  refine ⟨m + 1, z.trans zz, by go_num, rfl, by have := hM.out.1; omega, by omega, ?_, fun _ => ?_⟩
                  · rw [hM.out.2.2.1, drop_cons he2.out, bareF, if_pos heq.out]
                    simp [Nat.add_assoc]
                  · rw [show j + (m + 1) = j + 1 + m by omega, he2.out, Chg.beq_iff.1 heq.out]
              · have heq : Hid (e.beq p = false) := Lib.hid (by unfold Chg.beq; grind)
                go_meet
                case rel =>
                  refine ⟨m, (y.trans z).trans zz, rfl, rfl, (Is.val z).step zz, by omega, ?_, hM.out.2.2.2, fun h0 => ?_⟩
                  · rw [hM.out.2.2.1]
                    exact bareF_end fun x' hx' => by rw [drop_cons he2.out] at hx'; simp at hx'; subst hx'; exact heq.out
                  · subst h0
                    have := he2.out
                    rw [show j + 1 + 0 = j + 1 by omega, hx2.out] at this
                    cases this
                    exact heq.out
            · have q1 : decide ((j : Int) + 1 + (m : Int) < (cs.length : Int)) = false := by simp; omega
              have hmn : ¬ m = 0 := by omega
              have q5 : (j : Int) + 1 + (m : Int) ≤ (cs.length : Int) := by have := hM.out.2.1; omega
              have hdr : Hid (cs.drop (j + 1 + m) = []) := Lib.hid (List.drop_eq_nil_iff.2 (by omega))
              go_wp2
              refine wp_region_under (by kernel_rfl) (by kernel_rfl) ?_
              repeat (go_big_quiet_step (fail))
              refine wpQuiet_nil ?_
              rintro _ ⟨zz, rfl⟩
              go_wp2
              go_meet
              case rel =>
                refine ⟨m, (y.trans z).trans zz, rfl, rfl, (Is.val z).step zz, hM.out.2.1, ?_, hM.out.2.2.2, fun h0 => absurd h0 hmn⟩
                rw [hM.out.2.2.1]
                exact bareF_end fun x' hx' => by rw [hdr.out] at hx'; simp at hx'
        case rest =>
          obtain ⟨m, z, rfl, rfl, hyz, hM⟩ := hcut
          have ho : Rep.Own kByte 5 z.val (w.heap.size + 1) NoB u3 bs := ho.step (fun k hk hl => hyz.below.block k hl)
          have hc := hc.is hyz
          have hbY : w.heap.size + 1 ≤ z.val.heap.size := by have := z.size; simpa using this
          obtain ⟨_, hb5, hcx0, hcx1, hcx2, _⟩ := rowChgAt hc.row hx2.out
          by_cases hm0 : 0 < m
          · have hml : m ≤ 20000 := by have := hM.out.1; omega
            have hmp : (0 : Int) < (m : Int) := by omega
            have hmi : (m : Int) ≤ 20000 := by omega
            have hji : (j : Int) + 1 + (m : Int) ≤ (cs.length : Int) := by have := hM.out.1; omega
            go_wp2_with (go_at_call 43; refine (number_calls u3 bs _ _ (w.heap.size + 1) ho (InK.mku64 (by rw [or64 (by omega) (by omega) (by omega) (by omega)]; omega)) hbY (by omega)).mono ?_; rintro e wa ⟨va, rfl, hoa, hga⟩)
            obtain ⟨gk', hgk'⟩ : ∃ d, j + 1 + m + d = cs.length := ⟨cs.length - (j + 1 + m), by have := hM.out.1; omega⟩
            have hgk2 := Lib.hid hgk'
            clear hgk'
            obtain ⟨ye, hye⟩ := (Is.val z).grew hga (fun k hk => by have := (ho.lt k hk).1; simpa using this)
            have hye2 := Lib.hid hye
            clear hye
            go_roundg gk'
            case measure => have h1 := hI0.out.2.2; have h2 := hgk2.out; omega
            case rel =>
              refine ⟨j + 1 + m, _, ye, congrArg (Value.int .i64) (by omega), hye2.out, hye2.out ▸ hoa, hye2.out ▸ hga.slx hc, hgk2.out, ?_, ?_⟩
              · rw [← hI0.out.1, hM.out.2.1]
                show _ ++ restF cs (j + 1 + m) = _
                rw [show j + 1 + m = (j + m) + 1 by omega]
                show _ ++ (match cs[j + m]? with | none => [] | some p => bareF (cs.drop (j + m + 1)) p 0) = _
                rw [hM.out.2.2.1 hm0, or64 (by omega) (by omega) (by omega) (by omega)]
                unfold flushF
                rw [if_pos hmp]
                simp
              · have h0 := hI0.out.2.1
                have h1 := seven_len (Go.bits .or .u64 ((m : Int) * 4) 2)
                simp only [List.length_append]
                omega
          · have hm00 : m = 0 := by omega
            subst hm00
            have hI : Hid (bs ++ (enc x ++ bareF (cs.drop ((j + 1) + 1)) x 0) = packLineOf l ∧ bs.length ≤ 1000100 + 30 * (j + 1) ∧ (j + 1) + (gk + 1) = cs.length) := Lib.hid (by
              refine ⟨?_, hI0.out.2⟩
              rw [← hI0.out.1, drop_cons hx2.out, bareF, if_neg (by rw [hM.out.2.2.2 rfl]; decide)]
              simp [flushF])
            clear hI0 hM
            have hkx0 := hkx.1.i64.1
            by_cases hxz : x.x = 0
            · have hxb : (x.x == 0) = true := by simp [hxz]
              have hx0 := Lib.hid hxz
              clear hxz
              go_wp2
              refine wp_region_split (fun w' => ∃ x : But z.val (fun k => u3.ownBlock = some k), w' = x.val) [true, true, true, true, true, true, true, true, true, false, true, true, true, true, true, false, false] (by kernel_rfl) (by kernel_rfl) ⟨(But.refl _ _).drew, rfl⟩ (fun _ _ d _ _ h => by cases d <;> exact h) ?_
              simp only [pickB, dropB]
              repeat (go_big_quiet_step (fail))
              refine wpQuiet_nil ?_
              refine wpListS_step (fun Q' hQ' => ?_) ⟨(But.refl _ _).drew, rfl⟩
              go_wp2_with (go_at_call 43; refine (number_calls u3 bs _ z.val.drew (w.heap.size + 1) (ho.step (fun _ _ _ => rfl)) (InK.mku64 (by rw [or64 (by omega) (by omega) (by omega) (by omega)]; omega)) hbY (by omega)).mono ?_; rintro e wa ⟨va, rfl, hoa, hga⟩)
              obtain ⟨ya, rfl⟩ := (But.refl z.val (fun k => u3.ownBlock = some k)).drew.grewC hga (fun k hk => .inl hk)
              have hbya := Nat.le_trans hbY ya.size
              refine ⟨⟨ya, rfl⟩, ?_⟩
              have hla := seven_len (Go.bits .or .u64 (x.step * 4) 0)
              refine wpListS_step (fun Q' hQ' => ?_) ⟨ya, rfl⟩
              go_wp2_with (go_at_call 43; refine (number_calls va _ _ _ (w.heap.size + 1) hoa hkx.2.1 hbya (by rw [List.length_append]; omega)).mono ?_; rintro e wb ⟨vb, rfl, hob, hgb⟩)
              obtain ⟨yb, rfl⟩ := ya.grewC hgb (fun k hk => hga.at_.elim (fun h => .inl (h ▸ hk)) (fun h => .inr (h k hk)))
              refine ⟨⟨yb, rfl⟩, ?_⟩
              refine wpListS_step (fun Q' hQ' => ?_) ⟨yb, rfl⟩
              go_wp2
              refine ⟨⟨yb, rfl⟩, wpListS_nil ?_⟩
              have hgT : Grew z.val yb.val u3 vb := Grew.undrew (hga.trans hgb)
              obtain ⟨ye, hye⟩ := (Is.val z).grew hgT (fun k hk => by have := (ho.lt k hk).1; simpa using this)
              have hye2 := Lib.hid hye
              clear hye
              go_wp2
              go_roundg gk
              case measure => omega
              case rel =>
                refine ⟨(j + 1) + 1, _, ye, by go_num, hye2.out, hye2.out ▸ hob, hye2.out ▸ hgT.slx hc, by have := hI.out; omega, ?_, ?_⟩
                · rw [← hI.out.1]
                  show _ ++ (match cs[(j + 1)]? with | none => [] | some p => bareF (cs.drop ((j + 1) + 1)) p 0) = _
                  rw [hx2.out]
                  unfold enc
                  rw [if_pos hx0.out, or64 (by omega) (by omega) (by omega) (by omega)]
                  simp
                · have h0 := hI.out.2.1
                  have h1 := seven_len (Go.bits .or .u64 (x.step * 4) 0)
                  have h2 := seven_len x.v
                  have h3 := seven_len x.x
                  simp only [List.length_append]
                  omega

            · have hxb : (x.x == 0) = false := by simp [hxz]
              have hx0 := Lib.hid hxz
              clear hxz
              go_wp2
              refine wp_region_split (fun w' => ∃ x : But z.val (fun k => u3.ownBlock = some k), w' = x.val) [true, true, true, true, true, true, true, true, true, false, true, true, true, true, true, false, true, true, true, true, true, false, false] (by kernel_rfl) (by kernel_rfl) ⟨(But.refl _ _).drew, rfl⟩ (fun _ _ d _ _ h => by cases d <;> exact h) ?_
              simp only [pickB, dropB]
              repeat (go_big_quiet_step (fail))
              refine wpQuiet_nil ?_
              refine wpListS_step (fun Q' hQ' => ?_) ⟨(But.refl _ _).drew, rfl⟩
              go_wp2_with (go_at_call 43; refine (number_calls u3 bs _ z.val.drew (w.heap.size + 1) (ho.step (fun _ _ _ => rfl)) (InK.mku64 (by rw [or64 (by omega) (by omega) (by omega) (by omega)]; omega)) hbY (by omega)).mono ?_; rintro e wa ⟨va, rfl, hoa, hga⟩)
              obtain ⟨ya, rfl⟩ := (But.refl z.val (fun k => u3.ownBlock = some k)).drew.grewC hga (fun k hk => .inl hk)
              have hbya := Nat.le_trans hbY ya.size
              refine ⟨⟨ya, rfl⟩, ?_⟩
              have hla := seven_len (Go.bits .or .u64 (x.step * 4) 1)
              refine wpListS_step (fun Q' hQ' => ?_) ⟨ya, rfl⟩
              go_wp2_with (go_at_call 43; refine (number_calls va _ _ _ (w.heap.size + 1) hoa hkx.2.1 hbya (by rw [List.length_append]; omega)).mono ?_; rintro e wb ⟨vb, rfl, hob, hgb⟩)
              obtain ⟨yb, rfl⟩ := ya.grewC hgb (fun k hk => hga.at_.elim (fun h => .inl (h ▸ hk)) (fun h => .inr (h k hk)))
              refine ⟨⟨yb, rfl⟩, ?_⟩
              have hbyb := Nat.le_trans hbY yb.size
              have hlb := seven_len x.v
              have hgab := hga.trans hgb
              refine wpListS_step (fun Q' hQ' => ?_) ⟨yb, rfl⟩
              go_wp2_with (go_at_call 43; refine (number_calls vb _ _ _ (w.heap.size + 1) hob hkx.2.2 hbyb (by rw [List.length_append, List.length_append]; omega)).mono ?_; rintro e wc ⟨vc, rfl, hoc, hgc⟩)
              obtain ⟨yc, rfl⟩ := yb.grewC hgc (fun k hk => hgab.at_.elim (fun h => .inl (h ▸ hk)) (fun h => .inr (h k hk)))
              refine ⟨⟨yc, rfl⟩, ?_⟩
              refine wpListS_step (fun Q' hQ' => ?_) ⟨yc, rfl⟩
              go_wp2
              refine ⟨⟨yc, rfl⟩, wpListS_nil ?_⟩
              have hgT : Grew z.val yc.val u3 vc := Grew.undrew ((hga.trans hgb).trans hgc)
              obtain ⟨ye, hye⟩ := (Is.val z).grew hgT (fun k hk => by have := (ho.lt k hk).1; simpa using this)
              have hye2 := Lib.hid hye
              clear hye
              go_wp2
              go_roundg gk
              case measure => omega
              case rel =>
                refine ⟨(j + 1) + 1, _, ye, by go_num, hye2.out, hye2.out ▸ hoc, hye2.out ▸ hgT.slx hc, by have := hI.out; omega, ?_, ?_⟩
                · rw [← hI.out.1]
                  show _ ++ (match cs[(j + 1)]? with | none => [] | some p => bareF (cs.drop ((j + 1) + 1)) p 0) = _
                  rw [hx2.out]
                  unfold enc
                  rw [if_neg hx0.out, or64 (by omega) (by omega) (by omega) (by omega)]
                  simp
                · have h0 := hI.out.2.1
                  have h1 := seven_len (Go.bits .or .u64 (x.step * 4) 1)
                  have h2 := seven_len x.v
                  have h3 := seven_len x.x
                  simp only [List.length_append]
                  omega


    · have hil : Hid (i = cs.length) := Lib.hid (by have := hA.out.1; omega)
      have hA2 := Lib.hid hA.out
      clear hA
      go_wp2
      go_ret
      refine ⟨u3, rfl, ?_, ((Is.refl w).alloc _).step y⟩
      have h0 := hA2.out.2.1
      have h00 : restF cs i = [] := by
        rw [hil.out]
        cases cs with
        | nil => rfl
        | cons x' l' => simp [restF, bareF, flushF]
      rw [h00, List.append_nil] at h0
      rw [← h0]
      exact ho.lower (by omega)
end Go.Proofs.Ytabhafllkhoefaa
