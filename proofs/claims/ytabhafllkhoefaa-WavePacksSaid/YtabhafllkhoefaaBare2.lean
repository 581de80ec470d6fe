/- The reference's packed line: the walk. -/
import Derived.Test.YtabhafllkhoefaaBare
import Derived.Test.YtabhafllkhoefaaSplitA
import Derived.ChangeKeysEq
namespace Go.Proofs.Ytabhafllkhoefaa
open Go.RowKit
set_option maxRecDepth 100000

/-- Changes, each from its own place. -/
theorem chgF_at : ∀ (ts : List Int) (bs : List Bits) (p : Int) (q : Bits) (j : Nat) (t u : Int) (a b : Bits), ts[j]? = some t → ts[j + 1]? = some u → bs[j]? = some a → bs[j + 1]? = some b → (chgF ts bs p q)[j + 1]? = some ⟨u - t, xor64 b.V a.V, xor64 b.X a.X⟩
  | t0 :: u0 :: ts, a0 :: b0 :: bs, p, q, 0, t, u, a, b, h1, h2, h3, h4 => by
    simp at h1 h2 h3 h4
    subst h1 h2 h3 h4
    simp [chgF]
  | t0 :: ts, a0 :: bs, p, q, j + 1, t, u, a, b, h1, h2, h3, h4 => by
    rw [chgF]
    simp only [List.getElem?_cons_succ] at h1 h2 h3 h4 ⊢
    exact chgF_at ts bs t0 a0 j t u a b h1 h2 h3 h4
  | [], _, _, _, _, _, _, _, _, h1, _, _, _ => by simp at h1
  | _, [], _, _, _, _, _, _, _, _, _, h3, _ => by simp at h3
  | [_], _, _, _, 0, _, _, _, _, _, h2, _, _ => by simp at h2
  | _, [_], _, _, 0, _, _, _, _, _, _, _, h4 => by simp at h4

/-- A variable that was made behind W is written. -/
theorem out_done {W : World} (z : Under W) {gO : Nat} {u v : Value} {t e : TypeId} {base : Nat} {bs : List Int} (hv : VarAt z.val gO u t) (hg : W.heap.size ≤ gO) (ho : Rep.Own kByte e z.val base NoB v bs) (hn : v.ownBlock ≠ some gO) :
    ∃ x : Under W, z.val.setCell ⟨gO, 0, none⟩ v = x.val ∧ VarAt x.val gO v t ∧ Rep.Own kByte e x.val base NoB v bs := by
  obtain ⟨x, hx⟩ := (Is.val z).setCell (p := ⟨gO, 0, none⟩) hg v
  refine ⟨x, hx, hx ▸ hv.set v, hx ▸ ho.step fun k hk _ => hk.elim (fun h => h.elim) (fun h => ?_)⟩
  exact Below.heap_setCell _ ⟨gO, 0, none⟩ _ k (fun e => hn (by rw [h, e]))
theorem flushF_len (r : Int) : (flushF r).length ≤ 10 := by
  unfold flushF
  split
  · exact seven_len _
  · simp
theorem Grew.var {w w' : World} {v v' u : Value} {g : Nat} {t : TypeId} (h : Grew w w' v v') (hu : VarAt w g u t) (hn : v.ownBlock ≠ some g) : VarAt w' g u t ∧ v'.ownBlock ≠ some g :=
  ⟨hu.step (h.by_.block g hu.lt (fun e => hn e.symm)), fun e => h.at_.elim (fun k => hn (k ▸ e)) (fun k => by have := k g e; have := hu.lt; omega)⟩

theorem alloc2_old (w : World) (o1 o2 : Obj) (k : Nat) (h : k < w.heap.size) : ((w.alloc o1).alloc o2).heap[k]? = w.heap[k]? :=
  (Below.heap_alloc (w.alloc o1) o2 k (by simp; omega)).trans (Below.heap_alloc w o1 k h)
theorem alloc2_mid (w : World) (o1 o2 : Obj) : ((w.alloc o1).alloc o2).heap[w.heap.size]? = some o1 :=
  (Below.heap_alloc (w.alloc o1) o2 _ (by simp)).trans (heap_alloc_new w o1)
theorem xor64_zero {a : Int} (ha : InK .u64 a) : xor64 a 0 = a := by
  obtain ⟨x, rfl⟩ := Int.eq_ofNat_of_zero_le ha.u64.1
  have h1 := ha.u64.2
  unfold xor64
  have := bits_xor_u64_nat x 0 (by omega) (by omega)
  simpa using this
theorem chgF_zero (ts : List Int) (bs : List Bits) (p : Int) (q : Bits) (t : Int) (b : Bits) (h1 : ts[0]? = some t) (h2 : bs[0]? = some b) : (chgF ts bs p q)[0]? = some ⟨t - p, xor64 b.V q.V, xor64 b.X q.X⟩ := by
  cases ts with
  | nil => simp at h1
  | cons t' ts =>
    cases bs with
    | nil => simp at h2
    | cons b' bs =>
      simp at h1 h2
      subst h1 h2
      rfl

theorem eqArr3 (d : Nat) (w : World) (a0 a1 a2 b0 b1 b2 : Int) : (Op.equalIn (d + 2) 131 (.agg #[.int .u64 a0, .int .u64 a1, .int .u64 a2]) (.agg #[.int .u64 b0, .int .u64 b1, .int .u64 b2])).run Try.prog w = .ok (a0 == b0 && (a1 == b1 && a2 == b2)) w := by
  obtain ⟨i, hi⟩ := Option.isSome_iff_exists.1 (show (Try.prog.info? 39).isSome = true by kernel_rfl)
  rw [run_equalIn_array w (d + 1) _ _ Try.underlying131 hi, show Try.prog.cellsOf 39 = 1 by kernel_rfl, show List.range 3 = [0, 1, 2] by rfl]
  simp only [Op.eqItems]
  go_simp
  by_cases h0 : a0 = b0 <;> by_cases h1 : a1 = b1 <;> by_cases h2 : a2 = b2 <;> simp [h0, h1, h2]
attribute [go_sem high] eqArr3

def restB (cs : List Chg) (i : Nat) (p : Chg) (r : Int) : List Int := if i = 0 then packC cs else bareF (cs.drop i) p r

set_option maxHeartbeats 8000000 in
theorem bare_calls (l : Line) (A2 A3 : Option Addr) (c2 c3 : Nat) (w : World) (F : Nat → Prop) (_hl : LineOk l) (hn : l.Name.size ≤ 1000000) (hW1 : 1 ≤ l.W) (hW2 : l.W ≤ 64) (ht : TimesOk l) (hs : StepsOk l) (h0t : ∀ t, l.At[0]? = some t → t = 0)
    (h2 : Rep.Sl (Rep.int .i64) w F A2 c2 l.At) (h3 : Rep.Sl kBits w F A3 c3 l.Val) :
    Calls Try.prog 49 #[.agg #[.string l.Name, .int .i64 l.W, .slice A2 l.At.length c2, .slice A3 l.Val.length c3]] w fun e w' => ∃ v, e = .returned v ∧ Rep.Own kByte 5 w' w.heap.size NoB v (packLineOf l) ∧ Is w w' := by
  have hu := Try.underlying50
  have hm2 := h2.len
  have hm3 := h3.len
  have hsz : (l.Name.size : Int) ≤ 1000000 := by omega
  have hatl : l.At.length ≤ 20000 := ht.2.1
  go_enter Try.func49, Try.ntmps49
  have hbox : ∀ x : Under (w.alloc (.cells #[.string l.Name, .int .i64 l.W, .slice A2 l.At.length c2, .slice A3 l.Val.length c3] 50)), w.heap.size < x.val.heap.size := fun x => x.lt _ (by simp)
  have hs7 := seven_len (l.Name.size : Int)
  go_upto_region 1 with (fail)
  go_cut [3] (fun s wc => ∃ (gO : Nat) (v : Value) (x : Under (w.alloc (.cells #[.string l.Name, .int .i64 l.W, .slice A2 l.At.length c2, .slice A3 l.Val.length c3] 50))), s = .pointer (some ⟨gO, 0, none⟩) ∧ wc = x.val ∧ w.heap.size < gO ∧ VarAt x.val gO v 25 ∧ v.ownBlock ≠ some gO ∧ Aside (Rep.Own kByte 5 x.val (w.heap.size + 1) NoB v (seven (l.Name.size : Int) ++ bytesOf l.Name)))
  case first =>
    refine wp_region_splitA (fun w' => ∃ x : Under (w.alloc (.cells #[.string l.Name, .int .i64 l.W, .slice A2 l.At.length c2, .slice A3 l.Val.length c3] 50)), w' = x.val) [true, true, true, true, false, true, true, false, false, false] 4 #[true, true, true, true, false, true, true, false, false, false] (by kernel_rfl) (by kernel_rfl) (by decide) (by decide) ⟨(Under.refl _).drew, rfl⟩ (fun _ _ d _ _ h => by cases d <;> exact h) ?_
    simp only [pickB]
    repeat (go_big_quiet_step (fail))
    refine wpQuiet_nil ?_
    refine anyT_two (i := 4) (j := 8) #[true, true, true, true, true, true, true, false, false, false] #[true, true, true, true, false, true, true, false, true, false] (by kernel_rfl) rfl rfl (by decide) (by decide) (fun Q' hQ' => ?_) (fun Q' hQ' => ?_)
    · go_wp2_with (go_at_call 48; refine (seven_calls _ _ (InK.mku64 (by omega))).mono ?_; rintro e w1 ⟨v1, rfl, ho1, ⟨x1, rfl⟩⟩)
      have hx1 : w.heap.size + 1 ≤ x1.val.heap.size := by have := x1.size; simp at this; omega
      have ho1 := ho1.lower (base' := w.heap.size + 1) (by simp; try omega)
      refine ⟨(by first | exact .inr ⟨((Under.refl _).drew).trans x1, rfl⟩ | exact ⟨((Under.refl _).drew).trans x1, rfl⟩ | exact rfl | exact .inl rfl), ?_⟩
      refine anyT_two (i := 7) (j := 8) #[true, true, true, true, true, true, true, true, false, false] #[true, true, true, true, true, true, true, false, true, false] (by kernel_rfl) rfl rfl (by decide) (by decide) (fun Q' hQ' => ?_) (fun Q' hQ' => ?_)
      · go_wp2_with (at_builtin; refine wpList_str rfl (.tmp 14) (.tmp 16) rfl byteT Try.underlying9 rfl rfl ho1 (by omega) hx1 ?_; intro v2 w2 ho2 hg2')
        have hg2 : Grew x1.val w2 v1 v2 := hg2'
        clear hg2'
        obtain ⟨z, hz⟩ := (Is.val (((Under.refl _).drew.trans x1))).grew hg2 (fun k hk => by have := (ho1.lt k hk).1; simpa using this)
        subst hz
        refine ⟨(by first | exact .inr ⟨z, rfl⟩ | exact ⟨z, rfl⟩ | exact rfl | exact .inl rfl), ?_⟩
        have hsz2 : ∀ k, v2.ownBlock = some k → k < z.val.heap.size := fun k hk => (ho2.lt k hk).2
        refine anyT_one (i := 8) #[true, true, true, true, true, true, true, true, true, false] (by kernel_rfl) rfl (by decide) (fun Q' hQ' => ?_)
        go_wp2
        refine ⟨(by first | exact .inr ⟨(z).alloc _, rfl⟩ | exact ⟨(z).alloc _, rfl⟩ | exact rfl | exact .inl rfl), ?_⟩
        have hvO : VarAt (z.val.alloc (.cells #[.slice none 0 0] 25)) z.val.heap.size (.slice none 0 0) 25 := heap_alloc_new _ _
        have ho2 : Rep.Own kByte 5 (z.val.alloc (.cells #[.slice none 0 0] 25)) (w.heap.size + 1) NoB v2 _ := ho2.step (fun k _ hl => Below.heap_alloc z.val _ k hl)
        have hnO : v2.ownBlock ≠ some z.val.heap.size := fun e => by have := hsz2 _ e; omega
        have hzs := z.size
        simp at hzs
        generalize hz' : z.alloc (.cells #[.slice none 0 0] 25) = z' at *
        have hzz' : z.val.alloc (.cells #[.slice none 0 0] 25) = z'.val := by rw [← hz']; rfl
        rw [hzz'] at hvO ho2
        rw [hzz']
        clear hz' hzz'
        obtain ⟨B2, d2, rfl, hs2⟩ := ho2.sl
        obtain ⟨zz, hzz, hvv, hoo⟩ := out_done z' hvO (by first | (simp; done) | (simp; omega)) ho2 hnO
        have cO := hvO.cell
        have fO := hvO.free
        refine anyT_one (i := 9) #[true, true, true, true, true, true, true, true, true, true] (by kernel_rfl) rfl (by decide) (fun Q' hQ' => ?_)
        go_wp2
        refine ⟨by kernel_rfl, ?_⟩
        go_wp2
        go_meet
        case rel =>
          refine ⟨_, _, zz, rfl, by simpa using hzz, by omega, hvv, hnO, hoo⟩
      · go_wp2
        refine ⟨(by first | exact .inr ⟨(((Under.refl _).drew.trans x1)).alloc _, rfl⟩ | exact ⟨(((Under.refl _).drew.trans x1)).alloc _, rfl⟩ | exact rfl | exact .inl rfl), ?_⟩
        refine anyT_one (i := 7) #[true, true, true, true, true, true, true, true, true, false] (by kernel_rfl) rfl (by decide) (fun Q' hQ' => ?_)
        have hvO1 : VarAt (x1.val.alloc (.cells #[.slice none 0 0] 25)) x1.val.heap.size (.slice none 0 0) 25 := heap_alloc_new _ _
        have hn1 : v1.ownBlock ≠ some x1.val.heap.size := fun e => by have := (ho1.lt _ e).2; omega
        have ho1a : Rep.Own kByte 5 (x1.val.alloc (.cells #[.slice none 0 0] 25)) (w.heap.size + 1) NoB v1 _ := ho1.step (fun k _ hl => Below.heap_alloc x1.val _ k hl)
        go_wp2_with (at_builtin; refine wpList_str rfl (.tmp 14) (.tmp 16) rfl byteT Try.underlying9 rfl rfl ho1a (by omega) (by simp; omega) ?_; intro v2 w2 ho2 hg2')
        have hg2 : Grew (x1.val.alloc (.cells #[.slice none 0 0] 25)) w2 v1 v2 := hg2'
        clear hg2'
        obtain ⟨z, hz⟩ := (Is.val (((Under.refl _).drew.trans x1).alloc (.cells #[.slice none 0 0] 25))).grew hg2 (fun k hk => by have := (ho1.lt k hk).1; simpa using this)
        subst hz
        refine ⟨(by first | exact .inr ⟨z, rfl⟩ | exact ⟨z, rfl⟩ | exact rfl | exact .inl rfl), ?_⟩
        obtain ⟨hvO, hnO⟩ := hg2.var hvO1 hn1
        obtain ⟨B2, d2, rfl, hs2⟩ := ho2.sl
        obtain ⟨zz, hzz, hvv, hoo⟩ := out_done z hvO (by first | (simp; done) | (simp; omega)) ho2 hnO
        have cO := hvO.cell
        have fO := hvO.free
        refine anyT_one (i := 9) #[true, true, true, true, true, true, true, true, true, true] (by kernel_rfl) rfl (by decide) (fun Q' hQ' => ?_)
        go_wp2
        refine ⟨by kernel_rfl, ?_⟩
        go_wp2
        go_meet
        case rel =>
          refine ⟨_, _, zz, rfl, by simpa using hzz, by omega, hvv, hnO, hoo⟩
    · go_wp2
      refine ⟨(by first | exact .inr ⟨((Under.refl _).alloc _).drew, rfl⟩ | exact ⟨((Under.refl _).alloc _).drew, rfl⟩ | exact rfl | exact .inl rfl), ?_⟩
      refine anyT_one (i := 4) #[true, true, true, true, true, true, true, false, true, false] (by kernel_rfl) rfl (by decide) (fun Q' hQ' => ?_)
      go_wp2_with (go_at_call 48; refine (seven_calls _ _ (InK.mku64 (by omega))).mono ?_; rintro e w1 ⟨v1, rfl, ho1, ⟨x1, rfl⟩⟩)
      have hx1 : w.heap.size + 1 ≤ x1.val.heap.size := by have := x1.size; simp at this; omega
      have ho0 := ho1
      have ho1 := ho1.lower (base' := w.heap.size + 1) (by simp; try omega)
      refine ⟨(by first | exact .inr ⟨(((Under.refl _).alloc (.cells #[.slice none 0 0] 25)).drew).trans x1, rfl⟩ | exact ⟨(((Under.refl _).alloc (.cells #[.slice none 0 0] 25)).drew).trans x1, rfl⟩ | exact rfl | exact .inl rfl), ?_⟩
      refine anyT_one (i := 7) #[true, true, true, true, true, true, true, true, true, false] (by kernel_rfl) rfl (by decide) (fun Q' hQ' => ?_)
      have hvO1 : VarAt x1.val (w.heap.size + 1) (.slice none 0 0) 25 := (x1.ok.block _ (by simp)).trans (heap_alloc2_new w _ _)
      have hn1 : v1.ownBlock ≠ some (w.heap.size + 1) := fun e => by have h : ((w.alloc (.cells #[.string l.Name, .int .i64 l.W, .slice A2 l.At.length c2, .slice A3 l.Val.length c3] 50)).alloc (.cells #[.slice none 0 0] 25)).heap.size ≤ w.heap.size + 1 := (ho0.lt _ e).1; simp at h; omega
      go_wp2_with (at_builtin; refine wpList_str rfl (.tmp 14) (.tmp 16) rfl byteT Try.underlying9 rfl rfl ho1 (by omega) hx1 ?_; intro v2 w2 ho2 hg2')
      have hg2 : Grew x1.val w2 v1 v2 := hg2'
      clear hg2'
      obtain ⟨z, hz⟩ := (Is.val ((((Under.refl _).alloc (.cells #[.slice none 0 0] 25)).drew.trans x1))).grew hg2 (fun k hk => by have := (ho1.lt k hk).1; simpa using this)
      subst hz
      refine ⟨(by first | exact .inr ⟨z, rfl⟩ | exact ⟨z, rfl⟩ | exact rfl | exact .inl rfl), ?_⟩
      obtain ⟨hvO, hnO⟩ := hg2.var hvO1 hn1
      obtain ⟨B2, d2, rfl, hs2⟩ := ho2.sl
      obtain ⟨zz, hzz, hvv, hoo⟩ := out_done z hvO (by first | (simp; done) | (simp; omega)) ho2 hnO
      have cO := hvO.cell
      have fO := hvO.free
      refine anyT_one (i := 9) #[true, true, true, true, true, true, true, true, true, true] (by kernel_rfl) rfl (by decide) (fun Q' hQ' => ?_)
      go_wp2
      refine ⟨by kernel_rfl, ?_⟩
      go_wp2
      go_meet
      case rel =>
        refine ⟨_, _, zz, rfl, by simpa using hzz, by omega, hvv, hnO, hoo⟩
  case rest =>
    obtain ⟨gO, v, x, rfl, rfl, hgO, hvO, hnO, hoA⟩ := hcut
    have hlb1 : (seven (l.Name.size : Int) ++ bytesOf l.Name).length ≤ 1000010 := by simp only [List.length_append, bytesOf_len]; omega
    have hs8 := seven_len (l.At.length : Int)
    go_upto_region 2 with (fail)
    go_cut [] (fun wc => ∃ (v : Value) (x : Under (w.alloc (.cells #[.string l.Name, .int .i64 l.W, .slice A2 l.At.length c2, .slice A3 l.Val.length c3] 50))), wc = x.val ∧ VarAt x.val gO v 25 ∧ v.ownBlock ≠ some gO ∧ Aside (Rep.Own kByte 5 x.val (w.heap.size + 1) NoB v (seven (l.Name.size : Int) ++ bytesOf l.Name ++ [l.W] ++ seven (l.At.length : Int))))
    case first =>
      have ho := hoA.out
      have cO := hvO.cell
      have fO := hvO.free
      have lO := hvO.lt
      have nO : ¬ v.ownBlock = some gO := hnO
      have nB : ¬ v.ownBlock = some w.heap.size := fun e => by have := (ho.lt _ e).1; omega
      have hbx := hbox x
      refine wp_region_splitT (fun w' => ∃ y : But x.val (fun k => v.ownBlock = some k), w' = y.val) [true, true, true, true, false, false, true, true, true, true, false, false, false] (by kernel_rfl) (by kernel_rfl) (by decide) ⟨(But.refl _ _).drew, rfl⟩ (fun _ _ d _ _ h => by cases d <;> exact h) ?_
      simp only [pickB, dropB]
      repeat (go_big_quiet_step (fail))
      refine wpQuiet_nil ?_
      refine wpListT_step (fun Q' hQ' => ?_)
      go_wp2_with fail
      refine ⟨⟨((But.refl _ _).alloc _).drew, rfl⟩, ?_⟩
      refine wpListT_step (fun Q' hQ' => ?_)
      go_wp2_with (at_builtin; refine wpList_one rfl (.tmp 18) (.tmp 22) rfl byteT (w0 := x.val.drew) (c := [.int .u8 l.W]) (te := 5) rfl rfl (ho.step (fun _ _ _ => rfl)) (y := l.W) ⟨rfl, InK.mku8 (by omega)⟩ (fun k hk => hk.elim) (le_maxLen (by omega)) (by omega) (by have := x.size; simpa using this) ?_; intro v3 w3 ho3 hg3')
      have hg3 : Grew x.val.drew w3 v v3 := hg3'
      clear hg3'
      obtain ⟨y3, rfl⟩ := (But.refl x.val (fun k => v.ownBlock = some k)).drew.grewB hg3 (fun k hk => hk)
      refine ⟨⟨y3, rfl⟩, ?_⟩
      refine wpListT_step (fun Q' hQ' => ?_)
      go_wp2_with (go_at_call 48; refine (seven_calls _ _ (InK.mku64 (by omega))).mono ?_; rintro e w4 ⟨v4, rfl, ho4, ⟨x4, rfl⟩⟩; obtain ⟨A4, c4, rfl, hs4⟩ := ho4.sl)
      refine ⟨⟨y3.under x4, rfl⟩, ?_⟩
      refine wpListT_step (fun Q' hQ' => ?_)
      have ho3x : Rep.Own kByte 5 x4.val (w.heap.size + 1) NoB v3 _ := ho3.step (fun k _ hl => x4.ok.block k hl)
      have hxs : w.heap.size + 1 ≤ x.val.heap.size := by have := x.size; simpa using this
      go_wp2_with (at_builtin; refine wpList_slF (Rep.Flat.int _) rfl (.tmp 23) (.tmp 28) rfl byteT rfl rfl ho3x hs4 (le_maxLen (by simp only [List.length_append, List.length_singleton] at hlb1 ⊢; omega)) (by simp only [List.length_append, List.length_singleton] at hlb1 ⊢; omega) (Nat.le_trans hxs (Nat.le_trans y3.size x4.size)) ?_; intro v5 w5 ho5 hg5')
      have hg5 : Grew x4.val w5 v3 v5 := hg5'
      clear hg5'
      have hgA : Grew x.val w5 v v5 := Grew.undrew ((hg3.under x4).trans hg5)
      obtain ⟨z, hz⟩ := (Is.val x).grew hgA (fun k hk => by have := (ho.lt k hk).1; simpa using this)
      subst hz
      obtain ⟨hvO2, hnO2⟩ := hgA.var hvO hnO
      obtain ⟨B5, d5, rfl, hs5⟩ := ho5.sl
      have cO2 := hvO2.cell
      have fO2 := hvO2.free
      obtain ⟨z9, hz9⟩ : ∃ y : But x.val (fun k => v.ownBlock = some k), z.val = y.val := by
        obtain ⟨y, hy⟩ := (But.refl x.val (fun k => v.ownBlock = some k)).grewB hgA (fun k hk => hk)
        exact ⟨y, hy⟩
      refine ⟨⟨z9, hz9⟩, ?_⟩
      refine wpListT_last (fun Q' hQ' => ?_)
      obtain ⟨zz, hzz, hvv, hoo⟩ := out_done z hvO2 (by simp; omega) ho5 hnO2
      go_wp2
      go_meet
      case rel => exact ⟨_, zz, by rw [hz9] at hzz; simpa using hzz, hvv, hnO2, hoo⟩
    case rest =>
      obtain ⟨v, x, rfl, hvO, hnO, hoA⟩ := hcut
      have lO := hvO.lt
      have lOx := lO
      have hxs : w.heap.size + 1 ≤ x.val.heap.size := by have := x.size; simpa using this
      have hbx := hbox x
      have hcl : (chgOf l).length = l.At.length := chgF_len _ _ _ _ ht.1
      go_wp2
      go_loopg [7, 8, 9, 34] l.At.length (fun d _ _ _ n wr => ∃ (i r : Nat) (bs : List Int) (p : Chg) (v : Value) (y : Under (w.alloc (.cells #[.string l.Name, .int .i64 l.W, .slice A2 l.At.length c2, .slice A3 l.Val.length c3] 50))), n = .int .i64 i ∧ wr = y.val ∧ VarAt y.val gO v 25 ∧ y.val.heap[x.val.heap.size]? = some (.cells #[.int .u64 p.step, .int .u64 p.v, .int .u64 p.x] 131 (0, 0)) ∧ VarAt y.val (x.val.heap.size + 1) (.int .i64 r) 3 ∧ v.ownBlock ≠ some gO ∧ v.ownBlock ≠ some x.val.heap.size ∧ v.ownBlock ≠ some (x.val.heap.size + 1) ∧ Aside (Rep.Own kByte 5 y.val (w.heap.size + 1) NoB v bs) ∧ Aside (i + d = l.At.length ∧ bs ++ restB (chgOf l) i p r = packLineOf l ∧ bs.length ≤ 1000100 + 40 * i ∧ r ≤ i))
      case atStart =>
        have ho := hoA.out
        refine ⟨0, 0, _, ⟨0, 0, 0⟩, v, (x.alloc (.cells #[.int .u64 0, .int .u64 0, .int .u64 0] 131)).alloc (.cells #[.int .i64 0] 3), rfl, rfl, hvO.step (alloc2_old x.val _ _ _ lO), alloc2_mid x.val _ _, heap_alloc2_new x.val _ _, hnO, fun e => by have := (ho.lt _ e).2; omega, fun e => by have := (ho.lt _ e).2; omega, ho.step (fun k _ hl => alloc2_old x.val _ _ k hl), by omega, rfl, ?_, by omega⟩
        simp only [List.length_append, List.length_singleton] at hlb1 ⊢; omega
      case round =>
        clear hoA hvO hnO lO
        obtain ⟨i, r, bs, p, v, y, rfl, rfl, hvO, hL, hR, hnO, hnL, hnR, hoA, hA⟩ := hrel
        by_cases hlt : i < l.At.length
        · obtain ⟨t, htt⟩ := get_ex hlt
          have hlen := ht.1
          obtain ⟨b, hv⟩ := get_ex (xs := l.Val) (i := i) (by omega)
          have htr := ht.2.2 t (List.mem_of_getElem? htt)
          have t0 := htr.1
          have t1 := htr.2
          obtain ⟨b2, o2, rfl, hb2, hct, hkt⟩ := Rep.rowInt h2.row htt
          obtain ⟨b3, o3, rfl, hb3, hcv1, hcv2, hcv3, hkv⟩ := Rep.rowBits h3.row hv
          have hlv : (i : Int) < (l.Val.length : Int) := by omega
          obtain ⟨gk, rfl⟩ : ∃ m, gk = m + 1 := ⟨gk - 1, by have := hA.out.1; omega⟩
          obtain ⟨c, hc⟩ := get_ex (xs := chgOf l) (i := i) (by omega)
          have hcs := hs c (List.mem_of_getElem? hc)
          have hc2 := Lib.hid hc
          have kc : InK .u64 c.v ∧ InK .u64 c.x := by
            by_cases hi0 : 0 < i
            · obtain ⟨tp, htp⟩ := get_ex (xs := l.At) (i := i - 1) (by omega)
              obtain ⟨bp, hbp⟩ := get_ex (xs := l.Val) (i := i - 1) (by omega)
              obtain ⟨_, _, _, _, hkq⟩ := Rep.rowBitsAt h3.row hbp
              have := chgF_at l.At l.Val 0 Bits.zero (i - 1) tp t bp b htp (by rw [Nat.sub_add_cancel hi0]; exact htt) hbp (by rw [Nat.sub_add_cancel hi0]; exact hv)
              rw [Nat.sub_add_cancel hi0] at this
              rw [Option.some.inj (hc.symm.trans this)]
              exact ⟨xor64_ok hkv.2.1 hkq.2.1, xor64_ok hkv.2.2 hkq.2.2⟩
            · obtain rfl : i = 0 := by omega
              rw [Option.some.inj (hc.symm.trans (chgF_zero l.At l.Val 0 Bits.zero t b htt hv))]
              exact ⟨xor64_ok hkv.2.1 Bits.zero_ok.2.1, xor64_ok hkv.2.2 Bits.zero_ok.2.2⟩
          have htt2 := Lib.hid htt
          have hv2 := Lib.hid hv
          have hby2 : b2 < y.val.heap.size := y.lt _ (by simp; omega)
          have hby3 : b3 < y.val.heap.size := y.lt _ (by simp; omega)
          have hbyB : w.heap.size < y.val.heap.size := y.lt _ (by simp)
          have lO := hvO.lt
          have lR := hR.lt
          have cR := hR.cell
          have fR := hR.free
          have cO := hvO.cell
          have fO := hvO.free
          have lL : x.val.heap.size < y.val.heap.size := by omega
          have hlen2 := Lib.hid hlen
          clear hc htt hv hs hlen
          go_upto_region 9 with (fail)
          go_cut [9] (fun s wc => ∃ (gC : Nat) (z : Under y.val), s = .pointer (some ⟨gC, 0, none⟩) ∧ wc = z.val ∧ y.val.heap.size ≤ gC ∧ z.val.heap[gC]? = some (.cells #[.int .u64 0, .int .u64 b.V, .int .u64 b.X] 131 (0, 0)))
          case first =>
            refine wp_region_splitT (fun w' => ∃ x : Under y.val, w' = x.val) [true, true, true, true, true, true, true, true, true, true, true, true, true, false, false] (by kernel_rfl) (by kernel_rfl) (by decide) ⟨(Under.refl _).drew, rfl⟩ (fun _ _ d _ _ h => by cases d <;> exact h) ?_
            simp only [pickB, dropB]
            repeat (go_big_quiet_step (fail))
            refine wpQuiet_nil ?_
            refine wpListT_step (fun Q' hQ' => ?_)
            go_wp2
            refine ⟨⟨((Under.refl _).alloc _).drew, rfl⟩, ?_⟩
            refine wpListT_last (fun Q' hQ' => ?_)
            go_wp2
            go_meet
            case rel =>
              exact ⟨_, ((Under.refl _).alloc _).drew, rfl, rfl, Nat.le_refl _, heap_alloc_new y.val _⟩
          case rest =>
            obtain ⟨gC, z, rfl, rfl, hgC, hzC⟩ := hcut
            go_upto_if 53 with (fail)
            go_cut [] (fun wc => ∃ z2 : Under y.val, wc = z2.val ∧ z2.val.heap[gC]? = some (.cells #[.int .u64 c.step, .int .u64 c.v, .int .u64 c.x] 131 (0, 0)))
            case first =>
              by_cases hi0 : 0 < i
              · obtain ⟨tp, htp⟩ := get_ex (xs := l.At) (i := i - 1) (by omega)
                obtain ⟨bp, hbp⟩ := get_ex (xs := l.Val) (i := i - 1) (by have := hlen2.out; omega)
                obtain ⟨_, hcp, hkp⟩ := Rep.rowIntAt h2.row htp
                obtain ⟨_, hcq1, hcq2, hcq3, hkq⟩ := Rep.rowBitsAt h3.row hbp
                have hce : c = ⟨t - tp, xor64 b.V bp.V, xor64 b.X bp.X⟩ := by
                  have := chgF_at l.At l.Val 0 Bits.zero (i - 1) tp t bp b htp (by rw [Nat.sub_add_cancel hi0]; exact htt2.out) hbp (by rw [Nat.sub_add_cancel hi0]; exact hv2.out)
                  rw [Nat.sub_add_cancel hi0] at this
                  exact Option.some.inj (hc2.out.symm.trans this)
                have htpr := ht.2.2 tp (List.mem_of_getElem? htp)
                have tp0 := htpr.1
                have tp1 := htpr.2
                have hst0 : 0 ≤ t - tp := by have := hcs.1; rw [hce] at this; exact this
                have q2 : (0 : Int) ≤ (i : Int) - 1 := by omega
                have q3 : (i : Int) - 1 < (l.At.length : Int) := by omega
                have q3' : (i : Int) - 1 < (l.Val.length : Int) := by omega
                have q4 : ((i : Int) - 1).toNat = i - 1 := by omega
                have hbz2 : b2 < z.val.heap.size := z.lt _ hby2
                have hbz3 : b3 < z.val.heap.size := z.lt _ hby3
                have hbzB : w.heap.size < z.val.heap.size := z.lt _ hbyB
                have hi0' : (0 : Int) < (i : Int) := by omega
                have fC : z.val.frozen? ⟨gC, 0, none⟩ = false := frozen_of_row _ _ _ _ _ hzC
                have fC1 : z.val.frozen? ⟨gC, 1, none⟩ = false := frozen_of_row _ _ _ _ _ hzC
                have fC2 : z.val.frozen? ⟨gC, 2, none⟩ = false := frozen_of_row _ _ _ _ _ hzC
                have eC0 := cell_of_row z.val gC 0 _ _ _ hzC
                have eC1 := cell_of_row z.val gC 1 _ _ _ hzC
                have eC2 := cell_of_row z.val gC 2 _ _ _ hzC
                simp at eC0 eC1 eC2
                have gCz : gC < z.val.heap.size := (Array.getElem?_eq_some_iff.1 hzC).1
                clear htp hbp
                go_wp2
                refine wp_region_splitT (fun w' => ∃ x : Under z.val, w' = x.val) ([true, true, true, true, true, true, true, true, true, true, true, true, true, true, true, true, true, true, true, true, true, true, true, true, true, true, true, true, true, true, true, true, true, true, true, true, true, true, false]) (by kernel_rfl) (by kernel_rfl) (by decide) ⟨(Under.refl _).drew, rfl⟩ (fun _ _ d _ _ h => by cases d <;> exact h) ?_
                simp only [pickB, dropB]
                repeat (go_big_quiet_step (fail))
                refine wpQuiet_nil ?_
                refine wpListT_last (fun Q' hQ' => ?_)
                go_wp2
                go_meet
                case rel =>
                  obtain ⟨z3, hz3⟩ := ((((Is.val z).setCell (p := ⟨gC, 0, none⟩) hgC (.int .u64 (t - tp))).setCell (p := ⟨gC, 1, none⟩) hgC (.int .u64 (xor64 b.V bp.V))).setCell (p := ⟨gC, 2, none⟩) hgC (.int .u64 (xor64 b.X bp.X))).drew
                  exact ⟨z3, hz3, hz3 ▸ (by rw [hce]; exact setCell3_heap z.val gC _ _ _ _ _ _ hzC)⟩
              · have hce : c.step = 0 ∧ c.v = b.V ∧ c.x = b.X := by
                  have hi00 : i = 0 := by omega
                  subst hi00
                  have h1 := chgF_zero l.At l.Val 0 Bits.zero t b htt2.out hv2.out
                  have h2 := Option.some.inj (hc2.out.symm.trans h1)
                  have h3 := h0t t htt2.out
                  rw [h2]
                  exact ⟨by simp [h3], xor64_zero hkv.2.1, xor64_zero hkv.2.2⟩
                have hi0' : ¬ (0 : Int) < (i : Int) := by omega
                go_wp2
                go_meet
                case rel => exact ⟨z, rfl, by rw [hce.1, hce.2.1, hce.2.2]; exact hzC⟩
            case rest =>
              clear hzC
              obtain ⟨z2, rfl, hzC⟩ := hcut
              have hL2 := (z2.ok.block _ lL).trans hL
              have hL0 := cell_of_row z2.val x.val.heap.size 0 _ _ _ hL2
              have hL1 := cell_of_row z2.val x.val.heap.size 1 _ _ _ hL2
              have hL3 := cell_of_row z2.val x.val.heap.size 2 _ _ _ hL2
              have hC0 := cell_of_row z2.val gC 0 _ _ _ hzC
              have hC1 := cell_of_row z2.val gC 1 _ _ _ hzC
              have hC3 := cell_of_row z2.val gC 2 _ _ _ hzC
              simp at hL0 hL1 hL3 hC0 hC1 hC3
              go_upto_region 12 with (fail)
              go_cut [98] (fun s wc => s = .bool (decide (0 < i) && c.beq p) ∧ wc = z2.val)
              case first =>
                by_cases hi0 : 0 < i
                · have hi0' : (0 : Int) < (i : Int) := by omega
                  go_wp2
                  go_meet
                  case rel => exact ⟨by simp [hi0, Chg.beq], rfl⟩
                · have hi0' : ¬ (0 : Int) < (i : Int) := by omega
                  go_wp2
                  go_meet
                  case rel => exact ⟨by simp [hi0], rfl⟩
              case rest =>
                obtain ⟨rfl, rfl⟩ := hcut
                clear hct hcv1 hcv2 hcv3
                have nOL : gO ≠ x.val.heap.size := by omega
                have nOR : gO ≠ x.val.heap.size + 1 := by omega
                have hri : (r : Int) ≤ 20000 := by have := hA.out.2.2.2; omega
                have hr0 : (0 : Int) ≤ (r : Int) := by omega
                have hI2 : Hid (0 < i → restB (chgOf l) i p r = if c.beq p then bareF ((chgOf l).drop (i + 1)) p ((r : Int) + 1) else flushF r ++ (enc c ++ bareF ((chgOf l).drop (i + 1)) c 0)) := Lib.hid fun h => by
                  rw [restB, if_neg (by omega), drop_cons hc2.out, bareF]
                by_cases hq : (decide (0 < i) && c.beq p) = true
                · have hqq := Lib.hid hq
                  simp only [hq]
                  clear hq
                  go_wp2
                  obtain ⟨y', hy'⟩ := (Is.val (y.trans z2)).setCell (p := ⟨x.val.heap.size + 1, 0, none⟩) (by simp; omega) (.int .i64 ((r : Int) + 1))
                  have hy2 := Lib.hid hy'
                  clear hy'
                  go_roundg gk
                  case measure => have := hA.out.1; omega
                  case rel =>
                    have e1 : z2.val.setCell ⟨x.val.heap.size + 1, 0, none⟩ (.int .i64 ((r : Int) + 1)) = y'.val := hy2.out
                    have hq3 : 0 < i ∧ c.beq p = true := by simpa using hqq.out
                    refine ⟨i + 1, r + 1, bs, p, v, y', by go_num, by simpa using e1, ?_, ?_, ?_, hnO, hnL, hnR, ?_, ?_⟩
                    · rw [← e1]
                      exact (hvO.step (z2.ok.block _ lO)).step (Below.heap_setCell _ ⟨x.val.heap.size + 1, 0, none⟩ _ gO nOR)
                    · rw [← e1]
                      exact (Below.heap_setCell _ ⟨x.val.heap.size + 1, 0, none⟩ _ x.val.heap.size (by simp)).trans hL2
                    · rw [← e1]
                      have := (hR.step (z2.ok.block _ lR)).set (.int .i64 ((r : Int) + 1))
                      simpa using this
                    · rw [← e1]
                      exact hoA.out.step fun k hk hl => (Below.heap_setCell _ ⟨x.val.heap.size + 1, 0, none⟩ _ k (fun e => hk.elim (fun h => h.elim) (fun h => hnR (by rw [h, e])))).trans (z2.ok.block k hl)
                    · have h0 := hA.out
                      refine ⟨by omega, ?_, by omega, by omega⟩
                      rw [← h0.2.1, hI2.out hq3.1, if_pos hq3.2]
                      simp [restB]
                · have hq' : (decide (0 < i) && c.beq p) = false := by simpa using hq
                  simp only [hq']
                  have hqq := Lib.hid hq'
                  clear hq hq'
                  have hI3 : Hid (bs ++ flushF r ++ enc c ++ bareF ((chgOf l).drop (i + 1)) c 0 = packLineOf l ∧ i + (gk + 1) = l.At.length ∧ bs.length ≤ 1000100 + 40 * i) := Lib.hid (by
                    have h0 := hA.out
                    refine ⟨?_, h0.1, h0.2.2.1⟩
                    rw [← h0.2.1]
                    by_cases hi0 : 0 < i
                    · have hb : c.beq p = false := by have := hqq.out; simpa [hi0] using this
                      rw [hI2.out hi0, if_neg (by simp [hb])]
                      simp
                    · have : i = 0 := by omega
                      subst this
                      have hr00 : r = 0 := by omega
                      subst hr00
                      have h5 := drop_cons hc2.out
                      simp only [List.drop_zero] at h5
                      simp only [restB, if_pos, flushF]
                      conv => rhs; rw [h5]
                      simp [packC])
                  clear hA hI2 hqq
                  have hCv : ∀ k, v.ownBlock = some k → k ≠ gC := fun k hk e => by have := (hoA.out.lt k hk).2; omega
                  have nCL : gC ≠ x.val.heap.size := by omega
                  have hbl : bs.length ≤ 1800100 := by have := hI3.out.2.2; omega
                  go_upto_region 14 with (fail)
                  go_cut [] (fun wc => ∃ (v : Value) (u : Under (w.alloc (.cells #[.string l.Name, .int .i64 l.W, .slice (some ⟨b2, o2, none⟩) l.At.length c2, .slice (some ⟨b3, o3, none⟩) l.Val.length c3] 50))), wc = u.val ∧ VarAt u.val gO v 25 ∧ u.val.heap[x.val.heap.size]? = some (.cells #[.int .u64 p.step, .int .u64 p.v, .int .u64 p.x] 131 (0, 0)) ∧ VarAt u.val (x.val.heap.size + 1) (.int .i64 0) 3 ∧ u.val.heap[gC]? = some (.cells #[.int .u64 c.step, .int .u64 c.v, .int .u64 c.x] 131 (0, 0)) ∧ v.ownBlock ≠ some gO ∧ v.ownBlock ≠ some x.val.heap.size ∧ v.ownBlock ≠ some (x.val.heap.size + 1) ∧ v.ownBlock ≠ some gC ∧ Aside (Rep.Own kByte 5 u.val (w.heap.size + 1) NoB v (bs ++ flushF r)))
                  case first =>
                    have hf := flush_calls gO (x.val.heap.size + 1) v bs r z2.val (w.heap.size + 1) (hvO.step (z2.ok.block _ lO)) (hR.step (z2.ok.block _ lR)) nOR (hoA.out.step (fun k _ hl => z2.ok.block k hl)) hnO hnR hr0 hri (by have := z2.size; omega) (by omega)
                    have hf2 := Lib.hid hf
                    clear hf
                    go_wp2_with (go_at_call 77; refine hf2.out.mono ?_; rintro e wf ⟨rfl, vf, hfO, hfR, hfo, hfv, zf, rfl⟩)
                    go_meet
                    case rel =>
                      have hin := fun k hk => (hoA.out.lt k hk).1
                      obtain ⟨u, hu'⟩ := zf.isU (w0 := (w.alloc (.cells #[.string l.Name, .int .i64 l.W, .slice (some ⟨b2, o2, none⟩) l.At.length c2, .slice (some ⟨b3, o3, none⟩) l.Val.length c3] 50))) (Is.val (y.trans z2)) (fun k hk => by
                        rcases hk with hk | hk | hk
                        · simp; omega
                        · simp; omega
                        · have := hin k hk; simpa using this)
                      have hz2 : y.val.heap.size ≤ z2.val.heap.size := z2.size
                      have gCz : gC < z2.val.heap.size := (Array.getElem?_eq_some_iff.1 hzC).1
                      have hnew : ∀ k, v.ownBlock ≠ some k → k < z2.val.heap.size → vf.ownBlock ≠ some k := fun k h hl e => hfv.elim (fun h2 => h (h2 ▸ e)) (fun h2 => by have := h2 k e; omega)
                      have hGL : ¬ FlushG gO (x.val.heap.size + 1) v x.val.heap.size := fun h => by rcases h with h | h | h <;> first | omega | exact hnL h
                      have hGC : ¬ FlushG gO (x.val.heap.size + 1) v gC := fun h => by rcases h with h | h | h <;> first | omega | exact hCv _ h rfl
                      refine ⟨vf, u, hu', hu' ▸ hfO, hu' ▸ (zf.block _ (by omega) hGL).trans hL2, hu' ▸ hfR, hu' ▸ (zf.block _ gCz hGC).trans hzC, hnew _ hnO (by omega), hnew _ hnL (by omega), hnew _ hnR (by omega), hnew _ (fun e => hCv _ e rfl) gCz, hu' ▸ hfo⟩
                  case rest =>
                    clear hvO hR hnO hnL hnR hoA hL hL2 hL0 hL1 hL3 hzC hC0 hC1 hC3 cR fR cO fO lO lR hCv lL
                    obtain ⟨v, u, rfl, hvO, hL, hR, hzC, hnO, hnL, hnR, hnC, hoA⟩ := hcut
                    go_upto_region 15 with (fail)
                    go_cut [] (fun wc => ∃ (u : Under (w.alloc (.cells #[.string l.Name, .int .i64 l.W, .slice (some ⟨b2, o2, none⟩) l.At.length c2, .slice (some ⟨b3, o3, none⟩) l.Val.length c3] 50))), wc = u.val ∧ VarAt u.val gO v 25 ∧ u.val.heap[x.val.heap.size]? = some (.cells #[.int .u64 c.step, .int .u64 c.v, .int .u64 c.x] 131 (0, 0)) ∧ VarAt u.val (x.val.heap.size + 1) (.int .i64 0) 3 ∧ u.val.heap[gC]? = some (.cells #[.int .u64 c.step, .int .u64 c.v, .int .u64 c.x] 131 (0, 0)) ∧ v.ownBlock ≠ some gO ∧ v.ownBlock ≠ some x.val.heap.size ∧ v.ownBlock ≠ some (x.val.heap.size + 1) ∧ v.ownBlock ≠ some gC ∧ Aside (Rep.Own kByte 5 u.val (w.heap.size + 1) NoB v (bs ++ flushF r)))
                    case first =>
                      have hL0 := cell_of_row u.val x.val.heap.size 0 _ _ _ hL
                      have hL1 := cell_of_row u.val x.val.heap.size 1 _ _ _ hL
                      have hL3 := cell_of_row u.val x.val.heap.size 2 _ _ _ hL
                      have hC0 := cell_of_row u.val gC 0 _ _ _ hzC
                      have hC1 := cell_of_row u.val gC 1 _ _ _ hzC
                      have hC3 := cell_of_row u.val gC 2 _ _ _ hzC
                      have fL0 : u.val.frozen? ⟨x.val.heap.size, 0, none⟩ = false := frozen_of_row _ _ _ _ _ hL
                      have fL1 : u.val.frozen? ⟨x.val.heap.size, 1, none⟩ = false := frozen_of_row _ _ _ _ _ hL
                      have fL2 : u.val.frozen? ⟨x.val.heap.size, 2, none⟩ = false := frozen_of_row _ _ _ _ _ hL
                      simp at hL0 hL1 hL3 hC0 hC1 hC3
                      go_wp2
                      go_meet
                      case rel =>
                        obtain ⟨u2, hu2⟩ := (((Is.val u).setCell (p := ⟨x.val.heap.size, 0, none⟩) (by simp; omega) (.int .u64 c.step)).setCell (p := ⟨x.val.heap.size, 1, none⟩) (by simp; omega) (.int .u64 c.v)).setCell (p := ⟨x.val.heap.size, 2, none⟩) (by simp; omega) (.int .u64 c.x)
                        have hoth : ∀ k, k ≠ x.val.heap.size → u2.val.heap[k]? = u.val.heap[k]? := fun k hk => hu2 ▸ setCell3_other u.val x.val.heap.size k hk (.int .u64 c.step) (.int .u64 c.v) (.int .u64 c.x)
                        have hLn : u2.val.heap[x.val.heap.size]? = some (.cells #[.int .u64 c.step, .int .u64 c.v, .int .u64 c.x] 131 (0, 0)) := hu2 ▸ setCell3_heap u.val x.val.heap.size _ _ _ (.int .u64 c.step) (.int .u64 c.v) (.int .u64 c.x) hL
                        exact ⟨u2, hu2, hvO.step (hoth _ nOL), hLn, hR.step (hoth _ (by omega)), (hoth _ nCL).trans hzC, hnO, hnL, hnR, hnC, hoA.out.step fun k hk _ => hoth k (fun e => hk.elim (fun h => h.elim) (fun h => hnL (by rw [h, e])))⟩
                    case rest =>
                      clear hvO hR hL hzC hnO hnL hnR hnC hoA
                      obtain ⟨u, rfl, hvO, hL, hR, hzC, hnO, hnL, hnR, hnC, hoA⟩ := hcut
                      have hC0 := cell_of_row u.val gC 0 _ _ _ hzC
                      have hC1 := cell_of_row u.val gC 1 _ _ _ hzC
                      have hC3 := cell_of_row u.val gC 2 _ _ _ hzC
                      simp at hC0 hC1 hC3
                      have gCu : gC < u.val.heap.size := (Array.getElem?_eq_some_iff.1 hzC).1
                      have gOu := hvO.lt
                      have gRu := hR.lt
                      have cO := hvO.cell
                      have fO := hvO.free
                      have qO : ¬ v.ownBlock = some gO := hnO
                      have qC : ¬ v.ownBlock = some gC := hnC
                      have c0 := hcs.1
                      have c1 := hcs.2
                      have hfl := flushF_len r
                      have kcv := kc.1
                      have kcx := kc.2
                      by_cases hxz : c.x = 0
                      · have hxb : (c.x == 0) = true := by simp [hxz]
                        have hx0 := Lib.hid hxz
                        clear hxz
                        go_wp2
                        refine wp_region_splitT (fun w' => ∃ x : But u.val (fun k => v.ownBlock = some k), w' = x.val) [true, true, true, true, false, false, true, true, false, false, false] (by kernel_rfl) (by kernel_rfl) (by decide) ⟨(But.refl _ _).drew, rfl⟩ (fun _ _ d _ _ h => by cases d <;> exact h) ?_
                        simp only [pickB, dropB]
                        repeat (go_big_quiet_step (fail))
                        refine wpQuiet_nil ?_
                        have hG0 : Grew u.val u.val.drew v v := Grew.undrew (Grew.refl _ v)
                        have ho0 : Rep.Own kByte 5 u.val.drew (w.heap.size + 1) NoB v (bs ++ flushF r) := hoA.out.step (fun _ _ _ => rfl)
                        have y0s : w.heap.size + 1 ≤ u.val.drew.heap.size := by have := u.size; simpa using this
                        refine wpListT_step (fun Q' hQ' => ?_)
                        go_wp2_with (go_at_call 48; refine (seven_calls _ _ (InK.mku64 (by omega))).mono ?_; rintro e wq ⟨_, rfl, hoq, ⟨xq1, rfl⟩⟩; obtain ⟨Aq1, cq1, rfl, hsq1⟩ := hoq.sl)
                        refine ⟨⟨((But.refl u.val (fun k => v.ownBlock = some k)).drew).under xq1, rfl⟩, ?_⟩
                        refine wpListT_step (fun Q' hQ' => ?_)
                        have hov1 : Rep.Own kByte 5 xq1.val (w.heap.size + 1) NoB v _ := ho0.step (fun k _ hl => xq1.ok.block k hl)
                        have hln1 := seven_len (4 * c.step)
                        go_wp2_with (at_builtin; refine wpList_slF (Rep.Flat.int _) rfl (.tmp 107) (.tmp 111) rfl byteT rfl rfl hov1 hsq1 (le_maxLen (by simp only [List.length_append]; omega)) (by simp only [List.length_append]; omega) (Nat.le_trans y0s xq1.size) ?_; intro v1 w1 ho1 hg1')
                        have hg1 : Grew xq1.val w1 v v1 := hg1'
                        clear hg1'
                        have hG1 : Grew u.val w1 v v1 := (hG0.under xq1).trans hg1
                        obtain ⟨y1, rfl⟩ := (But.refl u.val (fun k => v.ownBlock = some k)).grewB hG1 (fun k hk => hk)
                        refine ⟨⟨y1, rfl⟩, ?_⟩
                        have y1s : w.heap.size + 1 ≤ y1.val.heap.size := Nat.le_trans y0s y1.size
                        refine wpListT_step (fun Q' hQ' => ?_)
                        go_wp2_with (go_at_call 48; refine (seven_calls _ _ kcv).mono ?_; rintro e wq ⟨_, rfl, hoq, ⟨xq2, rfl⟩⟩; obtain ⟨Aq2, cq2, rfl, hsq2⟩ := hoq.sl)
                        refine ⟨⟨(y1).under xq2, rfl⟩, ?_⟩
                        refine wpListT_step (fun Q' hQ' => ?_)
                        have hov2 : Rep.Own kByte 5 xq2.val (w.heap.size + 1) NoB v1 _ := ho1.step (fun k _ hl => xq2.ok.block k hl)
                        have hln2 := seven_len (c.v)
                        go_wp2_with (at_builtin; refine wpList_slF (Rep.Flat.int _) rfl (.tmp 112) (.tmp 115) rfl byteT rfl rfl hov2 hsq2 (le_maxLen (by simp only [List.length_append]; omega)) (by simp only [List.length_append]; omega) (Nat.le_trans y1s xq2.size) ?_; intro v2 w2 ho2 hg2')
                        have hg2 : Grew xq2.val w2 v1 v2 := hg2'
                        clear hg2'
                        have hG2 : Grew u.val w2 v v2 := (hG1.under xq2).trans hg2
                        obtain ⟨z, hz⟩ := (Is.val u).grew hG2 (fun k hk => by have := (hoA.out.lt k hk).1; simpa using this)
                        obtain ⟨z9, hz9⟩ := (But.refl u.val (fun k => v.ownBlock = some k)).grewB hG2 (fun k hk => hk)
                        subst hz
                        obtain ⟨hvO2, hnO2⟩ := hG2.var hvO hnO
                        obtain ⟨B5, d5, rfl, hs5⟩ := ho2.sl
                        have cO2 := hvO2.cell
                        have fO2 := hvO2.free
                        refine ⟨⟨z9, hz9⟩, ?_⟩
                        refine wpListT_last (fun Q' hQ' => ?_)
                        obtain ⟨zz, hzz, hvv, hoo⟩ := out_done z hvO2 (by simp; omega) ho2 hnO2
                        have hzz2 := Lib.hid hzz
                        have hz92 := Lib.hid hz9
                        have hG2 := Lib.hid hG2
                        go_wp2
                        go_roundg gk
                        case measure => have := hI3.out.2.1; omega
                        case rel =>
                          have hoth : ∀ k, k ≠ gO → k < u.val.heap.size → v.ownBlock ≠ some k → zz.val.heap[k]? = u.val.heap[k]? := fun k hk hl hvk => by
                            rw [← hzz2.out]
                            exact (Below.heap_setCell _ ⟨gO, 0, none⟩ _ k hk).trans (hG2.out.by_.block k hl (fun e => hvk e.symm))
                          have hnew : ∀ k, v.ownBlock ≠ some k → k < u.val.heap.size → (Value.slice B5 _ d5).ownBlock ≠ some k := fun k h hl e => hG2.out.at_.elim (fun h2 => h (h2 ▸ e)) (fun h2 => by have := h2 k e; omega)
                          refine ⟨i + 1, 0, _, c, _, zz, by go_num, by have h1 := hzz2.out; have h2 := hz92.out; first | (rw [h2] at h1; simpa using h1) | simpa using h1, hvv, (hoth _ (by omega) (by omega) hnL).trans hL, hR.step (hoth _ (by omega) hR.lt hnR), hnO2, hnew _ hnL (by omega), hnew _ hnR hR.lt, hoo, by have := hI3.out.2.1; omega, ?_, ?_, by omega⟩
                          · rw [← hI3.out.1, restB, if_neg (by omega)]
                            unfold enc
                            rw [if_pos hx0.out, Int.mul_comm c.step 4]
                            simp
                          · have h1 := flushF_len r
                            have h2 := hI3.out.2.2
                            simp only [List.length_append]
                            omega

                      · have hxb : (c.x == 0) = false := by simp [hxz]
                        have hx0 := Lib.hid hxz
                        clear hxz
                        go_wp2
                        refine wp_region_splitT (fun w' => ∃ x : But u.val (fun k => v.ownBlock = some k), w' = x.val) [true, true, true, true, true, false, false, true, true, false, false, true, true, false, false, false] (by kernel_rfl) (by kernel_rfl) (by decide) ⟨(But.refl _ _).drew, rfl⟩ (fun _ _ d _ _ h => by cases d <;> exact h) ?_
                        simp only [pickB, dropB]
                        repeat (go_big_quiet_step (fail))
                        refine wpQuiet_nil ?_
                        have hG0 : Grew u.val u.val.drew v v := Grew.undrew (Grew.refl _ v)
                        have ho0 : Rep.Own kByte 5 u.val.drew (w.heap.size + 1) NoB v (bs ++ flushF r) := hoA.out.step (fun _ _ _ => rfl)
                        have y0s : w.heap.size + 1 ≤ u.val.drew.heap.size := by have := u.size; simpa using this
                        refine wpListT_step (fun Q' hQ' => ?_)
                        go_wp2_with (go_at_call 48; refine (seven_calls _ _ (InK.mku64 (by omega))).mono ?_; rintro e wq ⟨_, rfl, hoq, ⟨xq1, rfl⟩⟩; obtain ⟨Aq1, cq1, rfl, hsq1⟩ := hoq.sl)
                        refine ⟨⟨((But.refl u.val (fun k => v.ownBlock = some k)).drew).under xq1, rfl⟩, ?_⟩
                        refine wpListT_step (fun Q' hQ' => ?_)
                        have hov1 : Rep.Own kByte 5 xq1.val (w.heap.size + 1) NoB v _ := ho0.step (fun k _ hl => xq1.ok.block k hl)
                        have hln1 := seven_len (4 * c.step + 1)
                        go_wp2_with (at_builtin; refine wpList_slF (Rep.Flat.int _) rfl (.tmp 117) (.tmp 122) rfl byteT rfl rfl hov1 hsq1 (le_maxLen (by simp only [List.length_append]; omega)) (by simp only [List.length_append]; omega) (Nat.le_trans y0s xq1.size) ?_; intro v1 w1 ho1 hg1')
                        have hg1 : Grew xq1.val w1 v v1 := hg1'
                        clear hg1'
                        have hG1 : Grew u.val w1 v v1 := (hG0.under xq1).trans hg1
                        obtain ⟨y1, rfl⟩ := (But.refl u.val (fun k => v.ownBlock = some k)).grewB hG1 (fun k hk => hk)
                        refine ⟨⟨y1, rfl⟩, ?_⟩
                        have y1s : w.heap.size + 1 ≤ y1.val.heap.size := Nat.le_trans y0s y1.size
                        refine wpListT_step (fun Q' hQ' => ?_)
                        go_wp2_with (go_at_call 48; refine (seven_calls _ _ kcv).mono ?_; rintro e wq ⟨_, rfl, hoq, ⟨xq2, rfl⟩⟩; obtain ⟨Aq2, cq2, rfl, hsq2⟩ := hoq.sl)
                        refine ⟨⟨(y1).under xq2, rfl⟩, ?_⟩
                        refine wpListT_step (fun Q' hQ' => ?_)
                        have hov2 : Rep.Own kByte 5 xq2.val (w.heap.size + 1) NoB v1 _ := ho1.step (fun k _ hl => xq2.ok.block k hl)
                        have hln2 := seven_len (c.v)
                        go_wp2_with (at_builtin; refine wpList_slF (Rep.Flat.int _) rfl (.tmp 123) (.tmp 126) rfl byteT rfl rfl hov2 hsq2 (le_maxLen (by simp only [List.length_append]; omega)) (by simp only [List.length_append]; omega) (Nat.le_trans y1s xq2.size) ?_; intro v2 w2 ho2 hg2')
                        have hg2 : Grew xq2.val w2 v1 v2 := hg2'
                        clear hg2'
                        have hG2 : Grew u.val w2 v v2 := (hG1.under xq2).trans hg2
                        obtain ⟨y2, rfl⟩ := (But.refl u.val (fun k => v.ownBlock = some k)).grewB hG2 (fun k hk => hk)
                        refine ⟨⟨y2, rfl⟩, ?_⟩
                        have y2s : w.heap.size + 1 ≤ y2.val.heap.size := Nat.le_trans y0s y2.size
                        refine wpListT_step (fun Q' hQ' => ?_)
                        go_wp2_with (go_at_call 48; refine (seven_calls _ _ kcx).mono ?_; rintro e wq ⟨_, rfl, hoq, ⟨xq3, rfl⟩⟩; obtain ⟨Aq3, cq3, rfl, hsq3⟩ := hoq.sl)
                        refine ⟨⟨(y2).under xq3, rfl⟩, ?_⟩
                        refine wpListT_step (fun Q' hQ' => ?_)
                        have hov3 : Rep.Own kByte 5 xq3.val (w.heap.size + 1) NoB v2 _ := ho2.step (fun k _ hl => xq3.ok.block k hl)
                        have hln3 := seven_len (c.x)
                        go_wp2_with (at_builtin; refine wpList_slF (Rep.Flat.int _) rfl (.tmp 127) (.tmp 130) rfl byteT rfl rfl hov3 hsq3 (le_maxLen (by simp only [List.length_append]; omega)) (by simp only [List.length_append]; omega) (Nat.le_trans y2s xq3.size) ?_; intro v3 w3 ho3 hg3')
                        have hg3 : Grew xq3.val w3 v2 v3 := hg3'
                        clear hg3'
                        have hG3 : Grew u.val w3 v v3 := (hG2.under xq3).trans hg3
                        obtain ⟨z, hz⟩ := (Is.val u).grew hG3 (fun k hk => by have := (hoA.out.lt k hk).1; simpa using this)
                        obtain ⟨z9, hz9⟩ := (But.refl u.val (fun k => v.ownBlock = some k)).grewB hG3 (fun k hk => hk)
                        subst hz
                        obtain ⟨hvO2, hnO2⟩ := hG3.var hvO hnO
                        obtain ⟨B5, d5, rfl, hs5⟩ := ho3.sl
                        have cO2 := hvO2.cell
                        have fO2 := hvO2.free
                        refine ⟨⟨z9, hz9⟩, ?_⟩
                        refine wpListT_last (fun Q' hQ' => ?_)
                        obtain ⟨zz, hzz, hvv, hoo⟩ := out_done z hvO2 (by simp; omega) ho3 hnO2
                        have hzz2 := Lib.hid hzz
                        have hz92 := Lib.hid hz9
                        have hG2 := Lib.hid hG3
                        go_wp2
                        go_roundg gk
                        case measure => have := hI3.out.2.1; omega
                        case rel =>
                          have hoth : ∀ k, k ≠ gO → k < u.val.heap.size → v.ownBlock ≠ some k → zz.val.heap[k]? = u.val.heap[k]? := fun k hk hl hvk => by
                            rw [← hzz2.out]
                            exact (Below.heap_setCell _ ⟨gO, 0, none⟩ _ k hk).trans (hG2.out.by_.block k hl (fun e => hvk e.symm))
                          have hnew : ∀ k, v.ownBlock ≠ some k → k < u.val.heap.size → (Value.slice B5 _ d5).ownBlock ≠ some k := fun k h hl e => hG2.out.at_.elim (fun h2 => h (h2 ▸ e)) (fun h2 => by have := h2 k e; omega)
                          refine ⟨i + 1, 0, _, c, _, zz, by go_num, by have h1 := hzz2.out; have h2 := hz92.out; first | (rw [h2] at h1; simpa using h1) | simpa using h1, hvv, (hoth _ (by omega) (by omega) hnL).trans hL, hR.step (hoth _ (by omega) hR.lt hnR), hnO2, hnew _ hnL (by omega), hnew _ hnR hR.lt, hoo, by have := hI3.out.2.1; omega, ?_, ?_, by omega⟩
                          · rw [← hI3.out.1, restB, if_neg (by omega)]
                            unfold enc
                            rw [if_neg hx0.out, Int.mul_comm c.step 4]
                            simp
                          · have h1 := flushF_len r
                            have h2 := hI3.out.2.2
                            simp only [List.length_append]
                            omega

        · have hil : i = l.At.length := by have := hA.out.1; omega
          have lO := hvO.lt
          have lR := hR.lt
          have q1 : decide ((i : Int) < (l.At.length : Int)) = false := by simp; omega
          have hr0 : (0 : Int) ≤ (r : Int) := by omega
          have hri : (r : Int) ≤ 20000 := by have := hA.out.2.2.2; omega
          have hf := flush_calls gO (x.val.heap.size + 1) v bs r y.val (w.heap.size + 1) hvO hR (by omega) hoA.out hnO hnR hr0 hri (by have := y.size; simpa using this) (by have := hA.out.2.2.1; omega)
          have hf2 := Lib.hid hf
          have hil2 := Lib.hid hil
          clear hf hil
          go_wp2_with (go_at_call 77; refine hf2.out.mono ?_; rintro e wf ⟨rfl, vf, hfO, hfR, hfo, hfv, zf, rfl⟩; have cO := hfO.cell)
          go_ret
          have hin := fun k hk => (hoA.out.lt k hk).1
          refine ⟨vf, rfl, ?_, ?_⟩
          · have h0 := hA.out.2.1
            have h1 : restB (chgOf l) i p r = flushF r := by
              unfold restB
              split
              · have h3 : chgOf l = [] := List.eq_nil_of_length_eq_zero (by rw [hcl, ← hil2.out]; assumption)
                have : r = 0 := by have := hA.out.2.2.2; omega
                subst this
                rw [h3]
                rfl
              · rw [hil2.out, ← hcl, drop_end]
                rfl
            rw [h1] at h0
            rw [← h0]
            exact hfo.lower (by omega)
          · exact zf.isU (((Is.refl w).alloc _).step y) (fun k hk => by
              rcases hk with hk | hk | hk
              · omega
              · omega
              · have := hin k hk; omega)
end Go.Proofs.Ytabhafllkhoefaa
