/- The changes of a line. -/
import Derived.Test.YtabhafllkhoefaaPack3
import Derived.Test.YtabhafllkhoefaaSplit
namespace Go.Proofs.Ytabhafllkhoefaa
open Go.RowKit
set_option maxRecDepth 100000

structure Chg where
  step : Int
  v : Int
  x : Int
def kChg : Rep Chg := Rep.iso (Rep.pair (Rep.int .i64) (Rep.pair (Rep.int .u64) (Rep.int .u64))) (fun c => (c.step, c.v, c.x))
def ChgOk (c : Chg) : Prop := InK .i64 c.step ∧ InK .u64 c.v ∧ InK .u64 c.x
theorem kChg_iff {w : World} {F : Nat → Prop} {x : Chg} {cs : List Value} : kChg.rel w F x cs ↔ cs = [.int .i64 x.step, .int .u64 x.v, .int .u64 x.x] ∧ ChgOk x := by
  constructor
  · rintro ⟨_, _, rfl, ⟨rfl, h1⟩, ⟨_, _, rfl, ⟨rfl, h2⟩, ⟨rfl, h3⟩⟩⟩
    exact ⟨rfl, h1, h2, h3⟩
  · rintro ⟨rfl, h1, h2, h3⟩
    exact ⟨[_], [_, _], rfl, ⟨rfl, h1⟩, ⟨[_], [_], rfl, ⟨rfl, h2⟩, ⟨rfl, h3⟩⟩⟩
theorem kChg_flat : Rep.Flat kChg := fun h => kChg_iff.2 (kChg_iff.1 h)
theorem info_chg : (Try.prog.info? 129).map (fun i => (i.zero, i.size, i.bytes)) = some (some (.agg #[.int .i64 0, .int .u64 0, .int .u64 0]), 3, 24) := by kernel_rfl
instance (w : World) (G : Nat → Prop) : Nonempty (But w G) := ⟨But.refl w G⟩
theorem chgT : SlT Try.prog 126 129 (.agg #[.int .i64 0, .int .u64 0, .int .u64 0]) 3 24 := ⟨Try.underlying126, info_chg, rfl, by omega⟩

def xor64 (a b : Int) : Int := Go.bits .xor .u64 a b
theorem xor64_ok {a b : Int} (ha : InK .u64 a) (hb : InK .u64 b) : InK .u64 (xor64 a b) := by
  obtain ⟨x, rfl⟩ := Int.eq_ofNat_of_zero_le ha.u64.1
  obtain ⟨y, rfl⟩ := Int.eq_ofNat_of_zero_le hb.u64.1
  have h1 := ha.u64.2
  have h2 := hb.u64.2
  unfold xor64
  rw [bits_xor_u64_nat x y (by omega) (by omega)]
  have : x ^^^ y < 2 ^ 64 := Nat.xor_lt_two_pow (by omega) (by omega)
  exact InK.mku64 (by omega)
def chgF : List Int → List Bits → Int → Bits → List Chg
  | t :: ts, b :: bs, p, q => ⟨t - p, xor64 b.V q.V, xor64 b.X q.X⟩ :: chgF ts bs t b
  | _, _, _, _ => []
def chgOf (l : Line) : List Chg := chgF l.At l.Val 0 Bits.zero
/-- The times lie in their range. -/
def TimesOk (l : Line) : Prop := l.At.length = l.Val.length ∧ l.At.length ≤ 20000 ∧ ∀ t ∈ l.At, 0 ≤ t ∧ t ≤ 1099511627776

theorem Bits.zero_ok : BitsOk Bits.zero := ⟨InK.mk64 (by decide), InK.mku64 (by decide), InK.mku64 (by decide)⟩
namespace But
variable {w : World} {G : Nat → Prop}
/-- An own slice that is new since w has been written. -/
theorem grew (x : But w G) {w' : World} {v v' : Value} (hg : Grew x.val w' v v') (hv : ∀ k, v.ownBlock = some k → w.heap.size ≤ k) : ∃ y : But w G, w' = y.val := by
  refine ⟨⟨w', hg.by_.os.trans x.os, hg.by_.tape.trans x.tape, hg.by_.output.trans x.output, Nat.le_trans x.size hg.by_.size, fun k hk hG => ?_⟩, rfl⟩
  exact (hg.by_.block k (Nat.lt_of_lt_of_le hk x.size) (fun e => by have := hv k e.symm; omega)).trans (x.block k hk hG)
theorem grewB (x : But w G) {w' : World} {v v' : Value} (hg : Grew x.val w' v v') (hv : ∀ k, v.ownBlock = some k → G k) : ∃ y : But w G, w' = y.val := by
  refine ⟨⟨w', hg.by_.os.trans x.os, hg.by_.tape.trans x.tape, hg.by_.output.trans x.output, Nat.le_trans x.size hg.by_.size, fun k hk hG => ?_⟩, rfl⟩
  exact (hg.by_.block k (Nat.lt_of_lt_of_le hk x.size) (fun e => hG (hv k e.symm))).trans (x.block k hk hG)
def comp {G' : Nat → Prop} (x : But w G) (y : But x.val G') (h : ∀ k, k < w.heap.size → G' k → G k) : But w G :=
  ⟨y.val, y.os.trans x.os, y.tape.trans x.tape, y.output.trans x.output, Nat.le_trans x.size y.size, fun k hk hG => (y.block k (Nat.lt_of_lt_of_le hk x.size) (fun hg => hG (h k hk hg))).trans (x.block k hk hG)⟩
theorem set3 (w : World) (G : Nat → Prop) (b : Nat) (hb : G b) (u0 u1 u2 : Value) : ∃ x : But w G, (((w.setCell ⟨b, 0, none⟩ u0).setCell ⟨b, 1, none⟩ u1).setCell ⟨b, 2, none⟩ u2).drew = x.val := by
  refine ⟨⟨(((w.setCell ⟨b, 0, none⟩ u0).setCell ⟨b, 1, none⟩ u1).setCell ⟨b, 2, none⟩ u2).drew, rfl, rfl, rfl, by simp [World.setCell], fun k hk hG => ?_⟩, rfl⟩
  have hne : k ≠ b := fun e => hG (e ▸ hb)
  exact ((Below.heap_setCell _ ⟨b, 2, none⟩ u2 k hne).trans (Below.heap_setCell _ ⟨b, 1, none⟩ u1 k hne)).trans (Below.heap_setCell w ⟨b, 0, none⟩ u0 k hne)
theorem setCell (x : But w G) (p : Addr) (hp : G p.block) (u : Value) : ∃ y : But w G, x.val.setCell p u = y.val := by
  refine ⟨⟨x.val.setCell p u, x.os, x.tape, x.output, by simpa using x.size, fun k hk hG => ?_⟩, rfl⟩
  exact (Below.heap_setCell x.val p u k (fun e => hG (e ▸ hp))).trans (x.block k hk hG)
end But

theorem setCell3_other (w : World) (b k : Nat) (hne : k ≠ b) (u0 u1 u2 : Value) : (((w.setCell ⟨b, 0, none⟩ u0).setCell ⟨b, 1, none⟩ u1).setCell ⟨b, 2, none⟩ u2).drew.heap[k]? = w.heap[k]? :=
  ((Below.heap_setCell _ ⟨b, 2, none⟩ u2 k hne).trans (Below.heap_setCell _ ⟨b, 1, none⟩ u1 k hne)).trans (Below.heap_setCell w ⟨b, 0, none⟩ u0 k hne)
theorem setCell3_heap (w : World) (b : Nat) {t : TypeId} (a0 a1 a2 u0 u1 u2 : Value) (h : w.heap[b]? = some (.cells #[a0, a1, a2] t (0, 0))) : (((w.setCell ⟨b, 0, none⟩ u0).setCell ⟨b, 1, none⟩ u1).setCell ⟨b, 2, none⟩ u2).drew.heap[b]? = some (.cells #[u0, u1, u2] t (0, 0)) := by
  have h1 := heap_setCell_same w b 0 _ _ u0 h
  have h2 := heap_setCell_same _ b 1 _ _ u1 h1
  have h3 := heap_setCell_same _ b 2 _ _ u2 h2
  exact h3

set_option maxHeartbeats 4000000 in
theorem changes_calls (l : Line) (A2 A3 : Option Addr) (c2 c3 : Nat) (w : World) (F : Nat → Prop) (_hl : LineOk l) (ht : TimesOk l) (h2 : Rep.Sl (Rep.int .i64) w F A2 c2 l.At) (h3 : Rep.Sl kBits w F A3 c3 l.Val) :
    Calls Try.prog 75 #[.agg #[.string l.Name, .int .i64 l.W, .slice A2 l.At.length c2, .slice A3 l.Val.length c3]] w fun e w' => ∃ v, e = .returned v ∧ Rep.Own kChg 129 w' w.heap.size NoB v (chgOf l) ∧ Is w w' := by
  have hu := Try.underlying50
  have hu2 := Try.underlying41
  have hu3 := Try.underlying129
  have hm2 := h2.len
  have hm3 := h3.len
  go_enter Try.func75, Try.ntmps75
  go_wp2
  go_loopg [3, 4, 6, 7, 12] l.At.length (fun d u t _ _ n wr => ∃ (i : Nat) (p : Int) (q : Bits) (ys : List Chg) (z : But ((w.alloc (.cells #[.string l.Name, .int .i64 l.W, .slice A2 l.At.length c2, .slice A3 l.Val.length c3] 50)).alloc (.cells #[.int .i64 0, .int .u64 0, .int .u64 0] 41)) (fun k => k = w.heap.size + 1)),
      t = .int .i64 p ∧ n = .int .i64 i ∧ wr = z.val ∧ 0 ≤ p ∧ p ≤ 1099511627776 ∧ BitsOk q ∧ Rep.Own kChg 129 z.val (w.heap.size + 2) NoB u ys ∧
      Aside (z.val.heap[w.heap.size + 1]? = some (.cells #[.int .i64 q.W, .int .u64 q.V, .int .u64 q.X] 41 (0, 0))) ∧ Aside (i + d = l.At.length ∧ ys ++ chgF (l.At.drop i) (l.Val.drop i) p q = chgOf l ∧ ys.length = i))
  case atStart => exact ⟨0, 0, Bits.zero, [], But.refl _ _, rfl, rfl, rfl, by omega, by omega, Bits.zero_ok, Rep.Own.nil _ _ _ _ _, heap_alloc2_new w _ _, by omega, rfl, rfl⟩
  case round =>
    obtain ⟨i, p, q, ys, z, rfl, rfl, rfl, p0, p1, hq, ho, hbox, hA⟩ := hrel
    have hlen := ht.1
    have hmax := ht.2.1
    by_cases hlt : i < l.At.length
    · obtain ⟨t, htt⟩ := get_ex hlt
      obtain ⟨v, hv⟩ := get_ex (xs := l.Val) (i := i) (by omega)
      have htr := ht.2.2 t (List.mem_of_getElem? htt)
      have t0 := htr.1
      have t1 := htr.2
      obtain ⟨b2, o2, rfl, hb2, hct, hkt⟩ := Rep.rowInt h2.row htt
      obtain ⟨b3, o3, rfl, hb3, hcv1, hcv2, hcv3, hkv⟩ := Rep.rowBits h3.row hv
      have hlv : (i : Int) < (l.Val.length : Int) := by omega
      obtain ⟨gk, rfl⟩ : ∃ m, gk = m + 1 := ⟨gk - 1, by have := hA.out.1; omega⟩
      have hu0 := fun k hk => (ho.lt k hk).1
      have hbz2 : b2 < z.val.heap.size := z.lt _ (by simp; omega)
      have hbz3 : b3 < z.val.heap.size := z.lt _ (by simp; omega)
      have hgz : w.heap.size < z.val.heap.size := z.lt _ (by simp; omega)
      have hgz1 : w.heap.size + 1 < z.val.heap.size := z.lt _ (by simp)
      have n2 : ¬ b2 = w.heap.size + 1 := by omega
      have n3 : ¬ b3 = w.heap.size + 1 := by omega
      have l2 : b2 ≤ w.heap.size := by omega
      have l3 : b3 ≤ w.heap.size := by omega
      have m2 : ¬ w.heap.size + 2 ≤ b2 := by omega
      have m3 : ¬ w.heap.size + 2 ≤ b3 := by omega
      have hqc0 := cell_of_row z.val (w.heap.size + 1) 0 _ _ _ hbox.out
      have hqc1 := cell_of_row z.val (w.heap.size + 1) 1 _ _ _ hbox.out
      have hqc2 := cell_of_row z.val (w.heap.size + 1) 2 _ _ _ hbox.out
      simp at hqc0 hqc1 hqc2
      have hst := Lib.hid hA.out
      have hlen2 := Lib.hid hlen
      have htt2 := Lib.hid htt
      have hv2 := Lib.hid hv
      have ho1 : Rep.Own kChg 129 z.val.drew (w.heap.size + 2) NoB u3 ys := ho.step (fun _ _ _ => rfl)
      have hok : ChgOk ⟨t - p, xor64 v.V q.V, xor64 v.X q.X⟩ := ⟨InK.mk64 ⟨by show _ ≤ t - p; omega, by show t - p ≤ _; omega⟩, xor64_ok hkv.2.1 hq.2.1, xor64_ok hkv.2.2 hq.2.2⟩
      have b1 : ys.length + 1 ≤ maxLen := le_maxLen (by have := hst.out.2.2; omega)
      have b24 : (ys.length + 1) * 24 ≤ 140737488355328 := by have := hst.out.2.2; omega
      have hbw : w.heap.size + 2 ≤ z.val.drew.heap.size := by have := z.size; simp at this; exact this
      clear hA hlen htt hv
      go_wp2
      refine wp_region_split (fun w' => ∃ x : But z.val (fun k => w.heap.size + 2 ≤ k), w' = x.val) [true, true, true, true, true, true, true, true, true, true, true, true, true, true, true, true, true, true, true, true, true, true, true, false, false, false] (by kernel_rfl) (by kernel_rfl) ⟨(But.refl _ _).drew, rfl⟩ (fun _ _ d _ _ h => by cases d <;> exact h) ?_
      simp only [pickB, dropB]
      repeat (go_big_quiet_step (fail))
      refine wpQuiet_nil ?_
      refine wpListS_step (fun Q' hQ' => ?_) ⟨(But.refl _ _).drew, rfl⟩
      go_wp2_with fail
      refine ⟨⟨((But.refl _ _).alloc _).drew, rfl⟩, ?_⟩
      refine wpListS_step (fun Q' hQ' => ?_) ⟨((But.refl _ _).alloc _).drew, rfl⟩
      go_wp2_with (at_builtin; refine wpList_one rfl (.tmp 17) (.tmp 40) rfl chgT (w0 := z.val.drew) (c := [.int .i64 (t - p), .int .u64 (Go.bits .xor .u64 v.V q.V), .int .u64 (Go.bits .xor .u64 v.X q.X)]) (te := 129) rfl rfl ho1 (y := ⟨t - p, xor64 v.V q.V, xor64 v.X q.X⟩) (kChg_iff.2 ⟨rfl, hok⟩) (fun k hk => hk.elim) b1 b24 hbw ?_; intro v' w1 ho' hg')
      obtain ⟨y1, rfl⟩ := (But.refl z.val (fun k => w.heap.size + 2 ≤ k)).drew.grewB hg' hu0
      refine ⟨⟨y1, rfl⟩, ?_⟩
      refine wpListS_step (fun Q' hQ' => ?_) ⟨y1, rfl⟩
      go_wp2
      refine ⟨⟨y1, rfl⟩, ?_⟩
      refine wpListS_nil ?_
      have hyc0 : y1.val.frozen? ⟨w.heap.size + 1, 0, none⟩ = false := by rw [y1.frozen _ _ hgz1 (by omega)]; exact frozen_of_row _ _ _ _ _ hbox.out
      have hyc1 : y1.val.frozen? ⟨w.heap.size + 1, 1, none⟩ = false := by rw [y1.frozen _ _ hgz1 (by omega)]; exact frozen_of_row _ _ _ _ _ hbox.out
      have hyc2 : y1.val.frozen? ⟨w.heap.size + 1, 2, none⟩ = false := by rw [y1.frozen _ _ hgz1 (by omega)]; exact frozen_of_row _ _ _ _ _ hbox.out
      have k1 : ¬ w.heap.size + 2 ≤ w.heap.size + 1 := by omega
      have k2 : ¬ w.heap.size + 2 ≤ w.heap.size := by omega
      have m2' : ¬ w.heap.size + 1 ≤ b2 := by omega
      have m3' : ¬ w.heap.size + 1 ≤ b3 := by omega
      have hby3 : b3 < y1.val.heap.size := y1.lt _ hbz3
      have hgy0 : w.heap.size < y1.val.heap.size := y1.lt _ hgz
      have hgy1 : w.heap.size + 1 < y1.val.heap.size := y1.lt _ hgz1
      go_wp2
      refine wp_region_split (fun w' => ∃ x : But y1.val (fun k => w.heap.size + 1 ≤ k), w' = x.val) [true, true, true, true, true, true, true, false] (by kernel_rfl) (by kernel_rfl) ⟨(But.refl _ _).drew, rfl⟩ (fun _ _ d _ _ h => by cases d <;> exact h) ?_
      simp only [pickB, dropB]
      repeat (go_big_quiet_step (fail))
      refine wpQuiet_nil ?_
      refine wpListS_step (fun Q' hQ' => ?_) ⟨(But.refl _ _).drew, rfl⟩
      go_wp2
      obtain ⟨x3, hx3⟩ := But.set3 y1.val (fun k => w.heap.size + 1 ≤ k) (w.heap.size + 1) (Nat.le_refl _) (.int .i64 v.W) (.int .u64 v.V) (.int .u64 v.X)
      refine ⟨⟨x3, hx3⟩, wpListS_nil ?_⟩
      have hbox1 := (y1.block (w.heap.size + 1) hgz1 k1).trans hbox.out
      have hbox3 := setCell3_heap y1.val (w.heap.size + 1) _ _ _ (.int .i64 v.W) (.int .u64 v.V) (.int .u64 v.X) hbox1
      have hoth := fun k (hk : k ≠ w.heap.size + 1) => setCell3_other y1.val (w.heap.size + 1) k hk (.int .i64 v.W) (.int .u64 v.V) (.int .u64 v.X)
      rw [hx3] at hbox3
      have hoth2 : Hid (∀ k, k ≠ w.heap.size + 1 → x3.val.heap[k]? = y1.val.heap[k]?) := Lib.hid (fun k hk => hx3 ▸ hoth k hk)
      have hbox4 := Lib.hid hbox3
      have hx4 := Lib.hid hx3
      clear hx3 hoth hbox3 hbox1
      go_wp2
      go_roundg gk
      case measure => omega
      case rel =>
        have hbn : ∀ k, v'.ownBlock = some k → k ≠ w.heap.size + 1 := fun k hk => by have := (ho'.lt k hk).1; omega
        refine ⟨i + 1, t, v, ys ++ [⟨t - p, xor64 v.V q.V, xor64 v.X q.X⟩], (z.comp y1 (fun k hk hg => by simp at hk; omega)).comp x3 (fun k hk hg => by simp at hk; omega), rfl, by go_num, hx4.out, t0, t1, hkv, ?_, hbox4.out, ?_⟩
        · exact ho'.step (fun k hk _ => hoth2.out k (hk.elim (fun h => h.elim) (hbn k)))
        · have h0 := hst.out
          refine ⟨by omega, ?_, by simp; omega⟩
          rw [← h0.2.1, drop_cons htt2.out, drop_cons hv2.out, chgF]
          simp
    · obtain rfl : i = l.At.length := by have := hA.out.1; omega
      have hA2 := Lib.hid hA.out
      clear hA
      go_wp2
      go_ret
      refine ⟨u3, rfl, ?_, z.is (((Is.refl w).alloc _).alloc _) (fun k hk => by omega)⟩
      have h0 := hA2.out.2.1
      rw [drop_end, hlen, drop_end] at h0
      simp only [chgF, List.append_nil] at h0
      rw [← h0]
      exact ho.lower (by omega)
end Go.Proofs.Ytabhafllkhoefaa
