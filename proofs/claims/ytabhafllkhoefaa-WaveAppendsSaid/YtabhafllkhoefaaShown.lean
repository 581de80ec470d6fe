/- The reference's Shown: a line with values at some times, of which only changes are kept. -/
import Derived.Test.YtabhafllkhoefaaAdd
namespace Go.Proofs.Ytabhafllkhoefaa
open Go.RowKit
set_option maxRecDepth 100000

def merge (a : List Int) (v : List Bits) : List Int → List Bits → List Int × List Bits
  | t :: ts, b :: bs => merge (addAt a v t b) (addVal v b) ts bs
  | [], _ => (a, v)
  | _ :: _, [] => (a, v)
theorem addAt_len (a : List Int) (v : List Bits) (t : Int) (b : Bits) : (addAt a v t b).length ≤ a.length + 1 := by
  unfold addAt; split <;> simp
theorem addVal_len (v : List Bits) (b : Bits) : (addVal v b).length ≤ v.length + 1 := by
  unfold addVal; split <;> simp

set_option maxHeartbeats 16000000 in
theorem shown_calls (nm : ByteArray) (W : Int) (ts : List Int) (bs : List Bits) (A0 A0' : Option Addr) (c0 c0' : Nat) (w : World) (F F' : Nat → Prop) (hts : Rep.Sl (Rep.int .i64) w F A0 c0 ts) (hbs : Rep.Sl kBits w F' A0' c0' bs) (hlen : ts.length ≤ bs.length) (hmax : ts.length ≤ 1000000) :
    Calls Try.prog 60 #[.string nm, .int .i64 W, .slice A0 ts.length c0, .slice A0' bs.length c0'] w fun e w' =>
      ∃ vA vV, e = .returned (.agg #[.string nm, .int .i64 W, vA, vV]) ∧ Rep.Own (Rep.int .i64) 3 w' (w.heap.size + 1) NoB vA (merge [] [] ts bs).1 ∧ Rep.Own kBits 41 w' (w.heap.size + 1) NoB vV (merge [] [] ts bs).2 ∧ Is w w' := by
  have hu := Try.underlying50
  have hu2 := Try.underlying41
  have hm := hts.len
  have hm' := hbs.len
  have hlenh := Lib.hid hlen
  have hmaxh := Lib.hid hmax
  clear hlen hmax
  go_enter Try.func60, Try.ntmps60
  go_wp2
  obtain ⟨B, hB⟩ : ∃ B, w.heap.size + 1 = B := ⟨_, rfl⟩
  obtain ⟨g, hg⟩ : ∃ g, w.heap.size + 1 = g := ⟨_, rfl⟩
  go_loopg [10, 11, 12, 18] ts.length (fun d' _ _ _ n wr => ∃ (i : Nat) (ats : List Int) (vals : List Bits) (vA vV : Value) (x : Under (w.alloc (.cells #[.string ⟨#[]⟩, .int .i64 0, .slice none 0 0, .slice none 0 0] 50))),
    n = .int .i64 i ∧ wr = x.val ∧ LBox x.val B g nm W ats vals vA vV ∧ Aside (i + d' = ts.length ∧ merge ats vals (ts.drop i) (bs.drop i) = merge [] [] ts bs ∧ ats.length ≤ i ∧ vals.length ≤ i))
  case atStart =>
    refine ⟨0, [], [], .slice none 0 0, .slice none 0 0, ⟨_, (Below.refl _ _).alloc (Nat.le_refl _) _⟩, rfl, rfl, ⟨?_, Rep.Own.nil _ _ _ _ _, Rep.Own.nil _ _ _ _ _, by simp [Value.ownBlock], by simp [Value.ownBlock], by simp [Value.ownBlock], by omega⟩, by omega, rfl, by simp, by simp⟩
    rw [← hg]
    exact heap_alloc2_new w _ _
  case round =>
    obtain ⟨i, ats, vals, vA, vV, x, rfl, rfl, h, hA⟩ := hrel
    obtain ⟨oA, hoA⟩ : ∃ oA, vA.ownBlock = oA := ⟨_, rfl⟩
    obtain ⟨oV, hoV⟩ : ∃ oV, vV.ownBlock = oV := ⟨_, rfl⟩
    have d1 : ¬ oA = some g := hoA ▸ h.n1
    have d2 : ¬ oV = some g := hoV ▸ h.n2
    have hgx : g < x.val.heap.size := (Array.getElem?_eq_some_iff.1 h.blk).1
    have hrx : w.heap.size < x.val.heap.size := x.lt _ (by simp)
    have l1 : ∀ k, oA = some k → k < x.val.heap.size := fun k hk => (h.own1.lt k (hoA.trans hk)).2
    have l2 : ∀ k, oV = some k → k < x.val.heap.size := fun k hk => (h.own2.lt k (hoV.trans hk)).2
    have f0 := cell_of_row x.val g 0 _ _ _ h.blk
    have f1 := cell_of_row x.val g 1 _ _ _ h.blk
    have f2 := cell_of_row x.val g 2 _ _ _ h.blk
    have f3 := cell_of_row x.val g 3 _ _ _ h.blk
    simp at f0 f1 f2 f3
    have hWx : Is w x.val := ((Is.refl w).alloc _).step x
    obtain ⟨AA, cA, rfl, hsA⟩ := h.own1.sl
    obtain ⟨AV, cV, rfl, hsV⟩ := h.own2.sl
    have hmV := hsV.len
    have hh := Lib.hid h
    have hoAh := Lib.hid hoA
    have hoVh := Lib.hid hoV
    have hgh := Lib.hid hg
    have hBh := Lib.hid hB
    clear hoA hoV
    by_cases hlt : i < ts.length
    · obtain ⟨t, hta⟩ := get_ex hlt
      obtain ⟨b, hv⟩ := get_ex (xs := bs) (i := i) (by have := hlenh.out; omega)
      obtain ⟨bt, ot, rfl, hbt, hct, ht⟩ := Rep.rowInt hts.row hta
      obtain ⟨bb, ob, rfl, hbb, hcv1, hcv2, hcv3, hb⟩ := Rep.rowBits hbs.row hv
      replace hct := (hWx.below.cell (p := ⟨bt, ot + i, none⟩) hbt).trans hct
      replace hcv1 := (hWx.below.cell (p := ⟨bb, ob + i * 3, none⟩) hbb).trans hcv1
      replace hcv2 := (hWx.below.cell (p := ⟨bb, ob + i * 3 + 1, none⟩) hbb).trans hcv2
      replace hcv3 := (hWx.below.cell (p := ⟨bb, ob + i * 3 + 2, none⟩) hbb).trans hcv3
      have i1 : bt < x.val.heap.size := by omega
      have i2 : bb < x.val.heap.size := by omega
      have i3 : bt ≤ w.heap.size := by omega
      have i4 : bb ≤ w.heap.size := by omega
      have i5 : ¬ oA = some bt := fun e => by have := (h.own1.lt bt (hoAh.out.trans e)).1; have := hBh.out; omega
      have i6 : ¬ oV = some bt := fun e => by have := (h.own2.lt bt (hoVh.out.trans e)).1; have := hBh.out; omega
      have i7 : ¬ oA = some bb := fun e => by have := (h.own1.lt bb (hoAh.out.trans e)).1; have := hBh.out; omega
      have i8 : ¬ oV = some bb := fun e => by have := (h.own2.lt bb (hoVh.out.trans e)).1; have := hBh.out; omega
      clear h
      have hlv : (i : Int) < (bs.length : Int) := by have := hlenh.out; omega
      obtain ⟨gk, rfl⟩ : ∃ m, gk = m + 1 := ⟨gk - 1, by have := hA.out.1; omega⟩
      have h1 : ats.length ≤ 1000000 := by have := hA.out.2.2.1; have := hmaxh.out; omega
      have h2 : vals.length ≤ 1000000 := by have := hA.out.2.2.2; have := hmaxh.out; omega
      have hst := Lib.hid hA.out
      have hta2 := Lib.hid hta
      have hv2 := Lib.hid hv
      clear hA hta hv
      rw [hgh.out]
      go_upto_region 6 with (fail)
      go_cut [40] (fun s wc => ∃ y : Under x.val, s = .bool (decide (vals.getLast? = some b)) ∧ wc = y.val)
      case first =>
        by_cases hv0 : vals = []
        · subst hv0
          refine wp_region_under (by kernel_rfl) (by kernel_rfl) ?_
          repeat (go_big_quiet_step (fail))
          refine wpQuiet_nil ?_
          rintro _ ⟨y, rfl⟩
          go_wp2
          go_meet
          case rel => exact ⟨y, rfl, rfl⟩
        · have hpos : 0 < vals.length := List.length_pos_iff.2 hv0
          obtain ⟨u, hu0⟩ := get_ex (xs := vals) (i := vals.length - 1) (by omega)
          have hlast : vals.getLast? = some u := by
            rw [List.getLast?_eq_getElem?]
            exact hu0
          obtain ⟨bv, ov, rfl, hbv, hcu0, hcu1, hcu2, hku⟩ := Rep.rowBits hsV.row hu0
          have hz : 0 < (vals.length : Int) := by omega
          have e1 : 0 ≤ (vals.length : Int) - 1 := by omega
          have e2 : (vals.length : Int) - 1 < (vals.length : Int) := by omega
          have hld : decide (vals.getLast? = some b) = (u.W == b.W && (u.V == b.V && u.X == b.X)) := by
            have := Bits.beq_dec u b
            unfold Bits.beq at this
            rw [this, hlast]
            by_cases he : u = b <;> simp [he]
          have hldh := Lib.hid hld
          clear hld hlast hu0 hv0
          refine wp_region_under (by kernel_rfl) (by kernel_rfl) ?_
          repeat (go_big_quiet_step (fail))
          refine wpQuiet_nil ?_
          rintro _ ⟨y, rfl⟩
          go_wp2
          go_meet
          case rel => exact ⟨y, by rw [hldh.out], rfl⟩
      case rest =>
        obtain ⟨y, rfl, rfl⟩ := hcut
        have hWy : Is w y.val := hWx.step y
        have hW1y : Is (w.alloc (.cells #[.string ⟨#[]⟩, .int .i64 0, .slice none 0 0, .slice none 0 0] 50)) y.val := (Is.val x).step y
        by_cases hl : vals.getLast? = some b
        · have hlh := Lib.hid hl
          have hd : decide (vals.getLast? = some b) = true := by simp [hl]
          rw [hd]
          clear hl hd
          go_wp2
          rw [← hgh.out]
          go_roundg gk
          case measure => omega
          case rel =>
            obtain ⟨q, hq⟩ := hW1y
            refine ⟨i + 1, _, _, _, _, q, by go_num, hq, hq ▸ hh.out.step y.ok, ?_⟩
            have h0 := hst.out
            refine ⟨by omega, ?_, by omega, by omega⟩
            rw [← h0.2.1, drop_cons hta2.out, drop_cons hv2.out, merge, addAt, addVal, if_pos hlh.out, if_pos hlh.out]
        · have hlh := Lib.hid hl
          have hd : decide (vals.getLast? = some b) = false := by simp [hl]
          rw [hd]
          clear hl hd
          go_upto_region 7 with (fail)
          have hgy : g < y.val.heap.size := y.lt _ hgx
          have hyx := y.size
          have hBy : B ≤ y.val.heap.size := by have := hBh.out; omega
          have hAy : Rep.Own (Rep.int .i64) 3 y.val B NoB (.slice AA ats.length cA) ats := hh.out.own1.below y.ok
          have hVy : Rep.Own kBits 41 y.val B NoB (.slice AV vals.length cV) vals := hh.out.own2.below y.ok
          have hblky := (y.ok.block g hgx).trans hh.out.blk
          have s1 : bt < y.val.heap.size := by omega
          have s2 : bb < y.val.heap.size := by omega
          refine wp_region_splitL (fun w' => ∃ z : But y.val (fun k => oA = some k ∨ oV = some k), w' = z.val) [false, false, false, false, false, false, false, false, false, false, false, false, false, false, false, false, false] [true, true, true, false, false, true, true, true, true, true, true, false, false, false, false, false, false] [14, 15, 16] 8 #[true, true, true, false, false, true, true, true, true, true, true, false, false, false, false, false, false] (by kernel_rfl) (by kernel_rfl) (by decide) ⟨(But.refl _ _).drew, rfl⟩ (fun _ _ d _ _ h => by cases d <;> exact h) ?_
          simp only [pickB]
          repeat (go_big_quiet_step (fail))
          refine wpQuiet_nil ?_
          repeat (go_big_quiet_step (fail))
          refine wpQuiet_nil ?_
          refine anyL_two (i := 3) (j := 11) #[true, true, true, true, false, true, true, true, true, true, true, false, false, false, false, false, false] #[true, true, true, false, false, true, true, true, true, true, true, true, false, false, false, false, false] (by kernel_rfl) rfl rfl (by decide) (by decide) (fun Q' hQ' => ?_) (fun Q' hQ' => ?_)
          · go_wp2_with fail
            refine ⟨(by first | exact .inr ⟨((But.refl _ _).alloc _).drew, rfl⟩ | exact ⟨((But.refl _ _).alloc _).drew, rfl⟩), ?_⟩
            have h7 : ((y.val.alloc (.cells #[.int .i64 t] 3)).drew).heap[y.val.heap.size]? = some (.cells #[.int .i64 t] 3) := heap_alloc_new _ _
            have hA7 : Rep.Own (Rep.int .i64) 3 ((y.val.alloc (.cells #[.int .i64 t] 3)).drew) B NoB (.slice AA ats.length cA) ats := hAy.step (fun k _ hl => Below.heap_alloc y.val _ k hl)
            have hV7 : Rep.Own kBits 41 ((y.val.alloc (.cells #[.int .i64 t] 3)).drew) B NoB (.slice AV vals.length cV) vals := hVy.step (fun k _ hl => Below.heap_alloc y.val _ k hl)
            refine anyL_two (i := 4) (j := 11) #[true, true, true, true, true, true, true, true, true, true, true, false, false, false, false, false, false] #[true, true, true, true, false, true, true, true, true, true, true, true, false, false, false, false, false] (by kernel_rfl) rfl rfl (by decide) (by decide) (fun Q' hQ' => ?_) (fun Q' hQ' => ?_)
            · go_wp2_with (at_builtin; refine wpList_slF (Rep.Flat.int _) rfl (.tmp 42) (.tmp 44) rfl intT rfl rfl hA7 (Rep.sl_one (y := t) (c := [.int .i64 t]) (F := fun k => k = y.val.heap.size) h7 ⟨rfl, ht⟩ rfl) (le_maxLen (by simp; omega)) (by simp; omega) (by first | omega | (simp; omega)) ?_; intro vA' w8 ho8 hg8')
              have hg8 : Grew ((y.val.alloc (.cells #[.int .i64 t] 3)).drew) w8 _ vA' := hg8'
              clear hg8'
              obtain ⟨y8, hy8⟩ := (((But.refl y.val (fun k => oA = some k ∨ oV = some k)).alloc (.cells #[.int .i64 t] 3)).drew).grewB hg8 (fun k hk => .inl (hoAh.out ▸ hk))
              subst hy8
              have hV8 : Rep.Own kBits 41 y8.val B NoB (.slice AV vals.length cV) vals := hV7.step (fun k hk hl => hg8.by_.block k hl (fun e => hk.elim (fun h => h.elim) (fun h => hh.out.n3 k e.symm h)))
              have n8 : ∀ k, vA'.ownBlock = some k → (Value.slice AV vals.length cV).ownBlock ≠ some k := fun k hk hk2 => by
                rcases hg8.at_ with h | h
                · exact hh.out.n3 k (h ▸ hk) hk2
                · have q1 := h k hk
                  have q2 := l2 k (hoVh.out ▸ hk2)
                  simp at q1
                  omega
              have m8 : vA'.ownBlock ≠ some g := fun hk => by
                rcases hg8.at_ with h | h
                · exact hh.out.n1 (h ▸ hk)
                · have q1 := h g hk
                  simp at q1
                  omega
              have s8 := y8.size
              refine ⟨(by first | exact .inr ⟨y8, rfl⟩ | exact ⟨y8, rfl⟩), ?_⟩
              refine anyL_take (i := 13) #[true, true, true, true, true, true, true, true, true, true, true, false, false, true, false, false, false] (by kernel_rfl) rfl (by decide) ⟨y8, rfl⟩ (fun _ _ d _ _ h => by cases d <;> exact h) ?_
              repeat (go_big_quiet_step (fail))
              refine wpQuiet_nil ?_
              refine anyL_one (i := 11) #[true, true, true, true, true, true, true, true, true, true, true, true, false, true, false, false, false] (by kernel_rfl) rfl (by decide) (fun Q' hQ' => ?_)
              go_wp2_with fail
              refine ⟨(by first | exact .inr ⟨y8.alloc _, rfl⟩ | exact ⟨y8.alloc _, rfl⟩), ?_⟩
              have h14 : (y8.val.alloc (.cells #[.int .i64 b.W, .int .u64 b.V, .int .u64 b.X] 41)).heap[y8.val.heap.size]? = some (.cells #[.int .i64 b.W, .int .u64 b.V, .int .u64 b.X] 41) := heap_alloc_new _ _
              have hA14 : Rep.Own (Rep.int .i64) 3 (y8.val.alloc (.cells #[.int .i64 b.W, .int .u64 b.V, .int .u64 b.X] 41)) B NoB vA' (ats ++ [t]) := ho8.step (fun k _ hl => Below.heap_alloc y8.val _ k hl)
              have hV14 : Rep.Own kBits 41 (y8.val.alloc (.cells #[.int .i64 b.W, .int .u64 b.V, .int .u64 b.X] 41)) B NoB (.slice AV vals.length cV) vals := hV8.step (fun k _ hl => Below.heap_alloc y8.val _ k hl)
              refine anyL_one (i := 12) #[true, true, true, true, true, true, true, true, true, true, true, true, true, true, false, false, false] (by kernel_rfl) rfl (by decide) (fun Q' hQ' => ?_)
              go_wp2_with (at_builtin; refine wpList_slF kBits_flat rfl (.tmp 47) (.tmp 52) rfl bitsT rfl rfl hV14 (Rep.sl_one (y := b) (c := [.int .i64 b.W, .int .u64 b.V, .int .u64 b.X]) (F := fun k => k = y8.val.heap.size) h14 (kBits_iff.2 ⟨rfl, hb⟩) rfl) (le_maxLen (by simp; omega)) (by simp; omega) (by first | omega | (simp; omega)) ?_; intro vV' w15 ho15 hg15')
              have hg15 : Grew (y8.val.alloc (.cells #[.int .i64 b.W, .int .u64 b.V, .int .u64 b.X] 41)) w15 _ vV' := hg15'
              clear hg15'
              obtain ⟨y15, hy15⟩ := (y8.alloc (.cells #[.int .i64 b.W, .int .u64 b.V, .int .u64 b.X] 41)).grewB hg15 (fun k hk => .inr (hoVh.out ▸ hk))
              subst hy15
              have hA15 : Rep.Own (Rep.int .i64) 3 y15.val B NoB vA' (ats ++ [t]) := hA14.step (fun k hk hl => hg15.by_.block k hl (fun e => hk.elim (fun h => h.elim) (fun h => n8 k h e.symm)))
              have n15 : ∀ k, vA'.ownBlock = some k → vV'.ownBlock ≠ some k := fun k hk hk2 => by
                rcases hg15.at_ with h | h
                · exact n8 k hk (h ▸ hk2)
                · have q1 := h k hk2
                  have q2 := (hA14.lt k hk).2
                  omega
              have m15 : vV'.ownBlock ≠ some g := fun hk => by
                rcases hg15.at_ with h | h
                · exact hh.out.n2 (h ▸ hk)
                · have q1 := h g hk
                  try simp at q1
                  omega
              refine ⟨(by first | exact .inr ⟨y15, rfl⟩ | exact ⟨y15, rfl⟩), ?_⟩
              have hblk := (y15.block g hgy (fun h => h.elim d1 d2)).trans hblky
              obtain ⟨A1, e1, rfl, hs1⟩ := hA15.sl
              obtain ⟨A2, e2, rfl, hs2⟩ := ho15.sl
              have hfz : ∀ j, y15.val.frozen? ⟨g, j, none⟩ = false := fun j => frozen_of_row _ _ _ _ _ hblk
              have k2 := cell_of_row y15.val g 2 _ _ _ hblk
              have k3 := cell_of_row y15.val g 3 _ _ _ hblk
              simp at k2 k3
              have hgl15 : g < y15.val.heap.size := y15.lt _ hgy
              refine anyL_one (i := 14) #[true, true, true, true, true, true, true, true, true, true, true, true, true, true, true, false, false] (by kernel_rfl) rfl (by decide) (fun Q' hQ' => ?_)
              go_wp2
              refine ⟨.inl (by decide), ?_⟩
              refine anyL_one (i := 15) #[true, true, true, true, true, true, true, true, true, true, true, true, true, true, true, true, false] (by kernel_rfl) rfl (by decide) (fun Q' hQ' => ?_)
              go_wp2
              refine ⟨.inl (by decide), ?_⟩
              refine anyL_one (i := 16) #[true, true, true, true, true, true, true, true, true, true, true, true, true, true, true, true, true] (by kernel_rfl) rfl (by decide) (fun Q' hQ' => ?_)
              go_wp2
              refine ⟨.inl (by decide), ?_⟩
              refine anyL_end (by kernel_rfl) ?_
              go_wp2
              have r1 := heap_setCell_same y15.val g 2 _ _ (.slice A1 (ats ++ [t]).length e1) hblk
              have r2 := heap_setCell_same _ g 3 _ _ (.slice A2 (vals ++ [b]).length e2) r1
              have ro : ∀ k, k ≠ g → (((y15.val.setCell ⟨g, 2, none⟩ (.slice A1 (ats ++ [t]).length e1)).setCell ⟨g, 3, none⟩ (.slice A2 (vals ++ [b]).length e2))).heap[k]? = y15.val.heap[k]? := fun k hk => (Below.heap_setCell _ ⟨g, 3, none⟩ _ k hk).trans (Below.heap_setCell _ ⟨g, 2, none⟩ _ k hk)
              obtain ⟨z1, g1⟩ := ((But.refl y.val (fun k => B ≤ k)).comp y15 (fun k hk h => h.elim (fun h => (hh.out.own1.lt k (hoAh.out.trans h)).1) (fun h => (hh.out.own2.lt k (hoVh.out.trans h)).1))).setCell ⟨g, 2, none⟩ hh.out.gB (.slice A1 (ats ++ [t]).length e1)
              obtain ⟨z2, g2⟩ := z1.setCell ⟨g, 3, none⟩ hh.out.gB (.slice A2 (vals ++ [b]).length e2)
              have hfin : (((y15.val.setCell ⟨g, 2, none⟩ (.slice A1 (ats ++ [t]).length e1)).setCell ⟨g, 3, none⟩ (.slice A2 (vals ++ [b]).length e2))) = z2.val := by rw [← g2, ← g1]; rfl
              have hbox : LBox z2.val B g nm W (addAt ats vals t b) (addVal vals b) (.slice A1 (ats ++ [t]).length e1) (.slice A2 (vals ++ [b]).length e2) := by
                rw [← hfin]
                refine ⟨by simpa using r2, ?_, ?_, m8, m15, n15, hh.out.gB⟩
                · unfold addAt
                  rw [if_neg hlh.out]
                  exact hA15.step (fun k hk _ => by simpa using ro k (fun e => m8 (e ▸ hk.elim (fun h => h.elim) id)))
                · unfold addVal
                  rw [if_neg hlh.out]
                  exact ho15.step (fun k hk _ => by simpa using ro k (fun e => m15 (e ▸ hk.elim (fun h => h.elim) id)))
              obtain ⟨q, hq⟩ := z2.is (hW1y) (fun k hk => by simp; omega)
              simp only [List.length_append, List.length_cons, List.length_nil] at hfin
              rw [← hgh.out]
              go_roundg gk
              case measure => omega
              case rel =>
                refine ⟨i + 1, _, _, _, _, q, by go_num, ?_, hq ▸ hbox, ?_⟩
                · rw [← hq, ← hfin]; simp; rw [hgh.out]
                · have h0 := hst.out
                  refine ⟨by omega, ?_, ?_, ?_⟩
                  · rw [← h0.2.1, drop_cons hta2.out, drop_cons hv2.out, merge]
                  · have := addAt_len ats vals t b; omega
                  · have := addVal_len vals b; omega
            · go_wp2_with fail
              refine ⟨(by first | exact .inr ⟨(((But.refl _ _).alloc _).alloc _).drew, rfl⟩ | exact ⟨(((But.refl _ _).alloc _).alloc _).drew, rfl⟩), ?_⟩
              have h7b : (((y.val.alloc (.cells #[.int .i64 t] 3)).alloc (.cells #[.int .i64 b.W, .int .u64 b.V, .int .u64 b.X] 41)).drew).heap[y.val.heap.size]? = some (.cells #[.int .i64 t] 3) := (Below.heap_alloc (y.val.alloc (.cells #[.int .i64 t] 3)) (.cells #[.int .i64 b.W, .int .u64 b.V, .int .u64 b.X] 41) _ (by simp)).trans (heap_alloc_new _ _)
              have h14b : (((y.val.alloc (.cells #[.int .i64 t] 3)).alloc (.cells #[.int .i64 b.W, .int .u64 b.V, .int .u64 b.X] 41)).drew).heap[(y.val.heap.size + 1)]? = some (.cells #[.int .i64 b.W, .int .u64 b.V, .int .u64 b.X] 41) := heap_alloc2_new y.val (.cells #[.int .i64 t] 3) (.cells #[.int .i64 b.W, .int .u64 b.V, .int .u64 b.X] 41)
              have hA7b : Rep.Own (Rep.int .i64) 3 (((y.val.alloc (.cells #[.int .i64 t] 3)).alloc (.cells #[.int .i64 b.W, .int .u64 b.V, .int .u64 b.X] 41)).drew) B NoB (.slice AA ats.length cA) ats := hAy.step (fun k _ hl => (Below.heap_alloc (y.val.alloc (.cells #[.int .i64 t] 3)) (.cells #[.int .i64 b.W, .int .u64 b.V, .int .u64 b.X] 41) k (by simp; omega)).trans (Below.heap_alloc y.val (.cells #[.int .i64 t] 3) k hl))
              have hV7b : Rep.Own kBits 41 (((y.val.alloc (.cells #[.int .i64 t] 3)).alloc (.cells #[.int .i64 b.W, .int .u64 b.V, .int .u64 b.X] 41)).drew) B NoB (.slice AV vals.length cV) vals := hVy.step (fun k _ hl => (Below.heap_alloc (y.val.alloc (.cells #[.int .i64 t] 3)) (.cells #[.int .i64 b.W, .int .u64 b.V, .int .u64 b.X] 41) k (by simp; omega)).trans (Below.heap_alloc y.val (.cells #[.int .i64 t] 3) k hl))
              refine anyL_one (i := 4) #[true, true, true, true, true, true, true, true, true, true, true, true, false, false, false, false, false] (by kernel_rfl) rfl (by decide) (fun Q' hQ' => ?_)
              go_wp2_with (at_builtin; refine wpList_slF (Rep.Flat.int _) rfl (.tmp 42) (.tmp 44) rfl intT rfl rfl hA7b (Rep.sl_one (y := t) (c := [.int .i64 t]) (F := fun k => k = y.val.heap.size) h7b ⟨rfl, ht⟩ rfl) (le_maxLen (by simp; omega)) (by simp; omega) (by first | omega | (simp; omega)) ?_; intro vA' w8 ho8 hg8')
              have hg8 : Grew (((y.val.alloc (.cells #[.int .i64 t] 3)).alloc (.cells #[.int .i64 b.W, .int .u64 b.V, .int .u64 b.X] 41)).drew) w8 _ vA' := hg8'
              clear hg8'
              obtain ⟨y8, hy8⟩ := ((((But.refl y.val (fun k => oA = some k ∨ oV = some k)).alloc (.cells #[.int .i64 t] 3)).alloc (.cells #[.int .i64 b.W, .int .u64 b.V, .int .u64 b.X] 41)).drew).grewB hg8 (fun k hk => .inl (hoAh.out ▸ hk))
              subst hy8
              have hV8 : Rep.Own kBits 41 y8.val B NoB (.slice AV vals.length cV) vals := hV7b.step (fun k hk hl => hg8.by_.block k hl (fun e => hk.elim (fun h => h.elim) (fun h => hh.out.n3 k e.symm h)))
              have n8 : ∀ k, vA'.ownBlock = some k → (Value.slice AV vals.length cV).ownBlock ≠ some k := fun k hk hk2 => by
                rcases hg8.at_ with h | h
                · exact hh.out.n3 k (h ▸ hk) hk2
                · have q1 := h k hk
                  have q2 := l2 k (hoVh.out ▸ hk2)
                  simp at q1
                  omega
              have m8 : vA'.ownBlock ≠ some g := fun hk => by
                rcases hg8.at_ with h | h
                · exact hh.out.n1 (h ▸ hk)
                · have q1 := h g hk
                  simp at q1
                  omega
              have s8 := y8.size
              refine ⟨(by first | exact .inr ⟨y8, rfl⟩ | exact ⟨y8, rfl⟩), ?_⟩
              refine anyL_take (i := 13) #[true, true, true, true, true, true, true, true, true, true, true, true, false, true, false, false, false] (by kernel_rfl) rfl (by decide) ⟨y8, rfl⟩ (fun _ _ d _ _ h => by cases d <;> exact h) ?_
              repeat (go_big_quiet_step (fail))
              refine wpQuiet_nil ?_
              have h14 : y8.val.heap[(y.val.heap.size + 1)]? = some (.cells #[.int .i64 b.W, .int .u64 b.V, .int .u64 b.X] 41) := (hg8.by_.block _ (Array.getElem?_eq_some_iff.1 h14b).1 (fun e => by have := l1 _ (hoAh.out ▸ e.symm); omega)).trans h14b
              refine anyL_one (i := 12) #[true, true, true, true, true, true, true, true, true, true, true, true, true, true, false, false, false] (by kernel_rfl) rfl (by decide) (fun Q' hQ' => ?_)
              go_wp2_with (at_builtin; refine wpList_slF kBits_flat rfl (.tmp 47) (.tmp 52) rfl bitsT rfl rfl hV8 (Rep.sl_one (y := b) (c := [.int .i64 b.W, .int .u64 b.V, .int .u64 b.X]) (F := fun k => k = (y.val.heap.size + 1)) h14 (kBits_iff.2 ⟨rfl, hb⟩) rfl) (le_maxLen (by simp; omega)) (by simp; omega) (by first | omega | (simp; omega)) ?_; intro vV' w15 ho15 hg15')
              have hg15 : Grew (y8.val) w15 _ vV' := hg15'
              clear hg15'
              obtain ⟨y15, hy15⟩ := (y8).grewB hg15 (fun k hk => .inr (hoVh.out ▸ hk))
              subst hy15
              have hA15 : Rep.Own (Rep.int .i64) 3 y15.val B NoB vA' (ats ++ [t]) := ho8.step (fun k hk hl => hg15.by_.block k hl (fun e => hk.elim (fun h => h.elim) (fun h => n8 k h e.symm)))
              have n15 : ∀ k, vA'.ownBlock = some k → vV'.ownBlock ≠ some k := fun k hk hk2 => by
                rcases hg15.at_ with h | h
                · exact n8 k hk (h ▸ hk2)
                · have q1 := h k hk2
                  have q2 := (ho8.lt k hk).2
                  omega
              have m15 : vV'.ownBlock ≠ some g := fun hk => by
                rcases hg15.at_ with h | h
                · exact hh.out.n2 (h ▸ hk)
                · have q1 := h g hk
                  try simp at q1
                  omega
              refine ⟨(by first | exact .inr ⟨y15, rfl⟩ | exact ⟨y15, rfl⟩), ?_⟩
              have hblk := (y15.block g hgy (fun h => h.elim d1 d2)).trans hblky
              obtain ⟨A1, e1, rfl, hs1⟩ := hA15.sl
              obtain ⟨A2, e2, rfl, hs2⟩ := ho15.sl
              have hfz : ∀ j, y15.val.frozen? ⟨g, j, none⟩ = false := fun j => frozen_of_row _ _ _ _ _ hblk
              have k2 := cell_of_row y15.val g 2 _ _ _ hblk
              have k3 := cell_of_row y15.val g 3 _ _ _ hblk
              simp at k2 k3
              have hgl15 : g < y15.val.heap.size := y15.lt _ hgy
              refine anyL_one (i := 14) #[true, true, true, true, true, true, true, true, true, true, true, true, true, true, true, false, false] (by kernel_rfl) rfl (by decide) (fun Q' hQ' => ?_)
              go_wp2
              refine ⟨.inl (by decide), ?_⟩
              refine anyL_one (i := 15) #[true, true, true, true, true, true, true, true, true, true, true, true, true, true, true, true, false] (by kernel_rfl) rfl (by decide) (fun Q' hQ' => ?_)
              go_wp2
              refine ⟨.inl (by decide), ?_⟩
              refine anyL_one (i := 16) #[true, true, true, true, true, true, true, true, true, true, true, true, true, true, true, true, true] (by kernel_rfl) rfl (by decide) (fun Q' hQ' => ?_)
              go_wp2
              refine ⟨.inl (by decide), ?_⟩
              refine anyL_end (by kernel_rfl) ?_
              go_wp2
              have r1 := heap_setCell_same y15.val g 2 _ _ (.slice A1 (ats ++ [t]).length e1) hblk
              have r2 := heap_setCell_same _ g 3 _ _ (.slice A2 (vals ++ [b]).length e2) r1
              have ro : ∀ k, k ≠ g → (((y15.val.setCell ⟨g, 2, none⟩ (.slice A1 (ats ++ [t]).length e1)).setCell ⟨g, 3, none⟩ (.slice A2 (vals ++ [b]).length e2))).heap[k]? = y15.val.heap[k]? := fun k hk => (Below.heap_setCell _ ⟨g, 3, none⟩ _ k hk).trans (Below.heap_setCell _ ⟨g, 2, none⟩ _ k hk)
              obtain ⟨z1, g1⟩ := ((But.refl y.val (fun k => B ≤ k)).comp y15 (fun k hk h => h.elim (fun h => (hh.out.own1.lt k (hoAh.out.trans h)).1) (fun h => (hh.out.own2.lt k (hoVh.out.trans h)).1))).setCell ⟨g, 2, none⟩ hh.out.gB (.slice A1 (ats ++ [t]).length e1)
              obtain ⟨z2, g2⟩ := z1.setCell ⟨g, 3, none⟩ hh.out.gB (.slice A2 (vals ++ [b]).length e2)
              have hfin : (((y15.val.setCell ⟨g, 2, none⟩ (.slice A1 (ats ++ [t]).length e1)).setCell ⟨g, 3, none⟩ (.slice A2 (vals ++ [b]).length e2))) = z2.val := by rw [← g2, ← g1]; rfl
              have hbox : LBox z2.val B g nm W (addAt ats vals t b) (addVal vals b) (.slice A1 (ats ++ [t]).length e1) (.slice A2 (vals ++ [b]).length e2) := by
                rw [← hfin]
                refine ⟨by simpa using r2, ?_, ?_, m8, m15, n15, hh.out.gB⟩
                · unfold addAt
                  rw [if_neg hlh.out]
                  exact hA15.step (fun k hk _ => by simpa using ro k (fun e => m8 (e ▸ hk.elim (fun h => h.elim) id)))
                · unfold addVal
                  rw [if_neg hlh.out]
                  exact ho15.step (fun k hk _ => by simpa using ro k (fun e => m15 (e ▸ hk.elim (fun h => h.elim) id)))
              obtain ⟨q, hq⟩ := z2.is (hW1y) (fun k hk => by simp; omega)
              simp only [List.length_append, List.length_cons, List.length_nil] at hfin
              rw [← hgh.out]
              go_roundg gk
              case measure => omega
              case rel =>
                refine ⟨i + 1, _, _, _, _, q, by go_num, ?_, hq ▸ hbox, ?_⟩
                · rw [← hq, ← hfin]; simp; rw [hgh.out]
                · have h0 := hst.out
                  refine ⟨by omega, ?_, ?_, ?_⟩
                  · rw [← h0.2.1, drop_cons hta2.out, drop_cons hv2.out, merge]
                  · have := addAt_len ats vals t b; omega
                  · have := addVal_len vals b; omega
          · go_wp2_with fail
            refine ⟨(by first | exact .inr ⟨((But.refl _ _).alloc _).drew, rfl⟩ | exact ⟨((But.refl _ _).alloc _).drew, rfl⟩), ?_⟩
            refine anyL_one (i := 3) #[true, true, true, true, false, true, true, true, true, true, true, true, false, false, false, false, false] (by kernel_rfl) rfl (by decide) (fun Q' hQ' => ?_)
            go_wp2_with fail
            refine ⟨(by first | exact .inr ⟨(((But.refl _ _).alloc _).alloc _).drew, rfl⟩ | exact ⟨(((But.refl _ _).alloc _).alloc _).drew, rfl⟩), ?_⟩
            have h7b : (((y.val.alloc (.cells #[.int .i64 b.W, .int .u64 b.V, .int .u64 b.X] 41)).alloc (.cells #[.int .i64 t] 3)).drew).heap[(y.val.heap.size + 1)]? = some (.cells #[.int .i64 t] 3) := heap_alloc2_new y.val (.cells #[.int .i64 b.W, .int .u64 b.V, .int .u64 b.X] 41) (.cells #[.int .i64 t] 3)
            have h14b : (((y.val.alloc (.cells #[.int .i64 b.W, .int .u64 b.V, .int .u64 b.X] 41)).alloc (.cells #[.int .i64 t] 3)).drew).heap[y.val.heap.size]? = some (.cells #[.int .i64 b.W, .int .u64 b.V, .int .u64 b.X] 41) := (Below.heap_alloc (y.val.alloc (.cells #[.int .i64 b.W, .int .u64 b.V, .int .u64 b.X] 41)) (.cells #[.int .i64 t] 3) _ (by simp)).trans (heap_alloc_new _ _)
            have hA7b : Rep.Own (Rep.int .i64) 3 (((y.val.alloc (.cells #[.int .i64 b.W, .int .u64 b.V, .int .u64 b.X] 41)).alloc (.cells #[.int .i64 t] 3)).drew) B NoB (.slice AA ats.length cA) ats := hAy.step (fun k _ hl => (Below.heap_alloc (y.val.alloc (.cells #[.int .i64 b.W, .int .u64 b.V, .int .u64 b.X] 41)) (.cells #[.int .i64 t] 3) k (by simp; omega)).trans (Below.heap_alloc y.val (.cells #[.int .i64 b.W, .int .u64 b.V, .int .u64 b.X] 41) k hl))
            have hV7b : Rep.Own kBits 41 (((y.val.alloc (.cells #[.int .i64 b.W, .int .u64 b.V, .int .u64 b.X] 41)).alloc (.cells #[.int .i64 t] 3)).drew) B NoB (.slice AV vals.length cV) vals := hVy.step (fun k _ hl => (Below.heap_alloc (y.val.alloc (.cells #[.int .i64 b.W, .int .u64 b.V, .int .u64 b.X] 41)) (.cells #[.int .i64 t] 3) k (by simp; omega)).trans (Below.heap_alloc y.val (.cells #[.int .i64 b.W, .int .u64 b.V, .int .u64 b.X] 41) k hl))
            refine anyL_one (i := 4) #[true, true, true, true, true, true, true, true, true, true, true, true, false, false, false, false, false] (by kernel_rfl) rfl (by decide) (fun Q' hQ' => ?_)
            go_wp2_with (at_builtin; refine wpList_slF (Rep.Flat.int _) rfl (.tmp 42) (.tmp 44) rfl intT rfl rfl hA7b (Rep.sl_one (y := t) (c := [.int .i64 t]) (F := fun k => k = (y.val.heap.size + 1)) h7b ⟨rfl, ht⟩ rfl) (le_maxLen (by simp; omega)) (by simp; omega) (by first | omega | (simp; omega)) ?_; intro vA' w8 ho8 hg8')
            have hg8 : Grew (((y.val.alloc (.cells #[.int .i64 b.W, .int .u64 b.V, .int .u64 b.X] 41)).alloc (.cells #[.int .i64 t] 3)).drew) w8 _ vA' := hg8'
            clear hg8'
            obtain ⟨y8, hy8⟩ := ((((But.refl y.val (fun k => oA = some k ∨ oV = some k)).alloc (.cells #[.int .i64 b.W, .int .u64 b.V, .int .u64 b.X] 41)).alloc (.cells #[.int .i64 t] 3)).drew).grewB hg8 (fun k hk => .inl (hoAh.out ▸ hk))
            subst hy8
            have hV8 : Rep.Own kBits 41 y8.val B NoB (.slice AV vals.length cV) vals := hV7b.step (fun k hk hl => hg8.by_.block k hl (fun e => hk.elim (fun h => h.elim) (fun h => hh.out.n3 k e.symm h)))
            have n8 : ∀ k, vA'.ownBlock = some k → (Value.slice AV vals.length cV).ownBlock ≠ some k := fun k hk hk2 => by
              rcases hg8.at_ with h | h
              · exact hh.out.n3 k (h ▸ hk) hk2
              · have q1 := h k hk
                have q2 := l2 k (hoVh.out ▸ hk2)
                simp at q1
                omega
            have m8 : vA'.ownBlock ≠ some g := fun hk => by
              rcases hg8.at_ with h | h
              · exact hh.out.n1 (h ▸ hk)
              · have q1 := h g hk
                simp at q1
                omega
            have s8 := y8.size
            refine ⟨(by first | exact .inr ⟨y8, rfl⟩ | exact ⟨y8, rfl⟩), ?_⟩
            refine anyL_take (i := 13) #[true, true, true, true, true, true, true, true, true, true, true, true, false, true, false, false, false] (by kernel_rfl) rfl (by decide) ⟨y8, rfl⟩ (fun _ _ d _ _ h => by cases d <;> exact h) ?_
            repeat (go_big_quiet_step (fail))
            refine wpQuiet_nil ?_
            have h14 : y8.val.heap[y.val.heap.size]? = some (.cells #[.int .i64 b.W, .int .u64 b.V, .int .u64 b.X] 41) := (hg8.by_.block _ (Array.getElem?_eq_some_iff.1 h14b).1 (fun e => by have := l1 _ (hoAh.out ▸ e.symm); omega)).trans h14b
            refine anyL_one (i := 12) #[true, true, true, true, true, true, true, true, true, true, true, true, true, true, false, false, false] (by kernel_rfl) rfl (by decide) (fun Q' hQ' => ?_)
            go_wp2_with (at_builtin; refine wpList_slF kBits_flat rfl (.tmp 47) (.tmp 52) rfl bitsT rfl rfl hV8 (Rep.sl_one (y := b) (c := [.int .i64 b.W, .int .u64 b.V, .int .u64 b.X]) (F := fun k => k = y.val.heap.size) h14 (kBits_iff.2 ⟨rfl, hb⟩) rfl) (le_maxLen (by simp; omega)) (by simp; omega) (by first | omega | (simp; omega)) ?_; intro vV' w15 ho15 hg15')
            have hg15 : Grew (y8.val) w15 _ vV' := hg15'
            clear hg15'
            obtain ⟨y15, hy15⟩ := (y8).grewB hg15 (fun k hk => .inr (hoVh.out ▸ hk))
            subst hy15
            have hA15 : Rep.Own (Rep.int .i64) 3 y15.val B NoB vA' (ats ++ [t]) := ho8.step (fun k hk hl => hg15.by_.block k hl (fun e => hk.elim (fun h => h.elim) (fun h => n8 k h e.symm)))
            have n15 : ∀ k, vA'.ownBlock = some k → vV'.ownBlock ≠ some k := fun k hk hk2 => by
              rcases hg15.at_ with h | h
              · exact n8 k hk (h ▸ hk2)
              · have q1 := h k hk2
                have q2 := (ho8.lt k hk).2
                omega
            have m15 : vV'.ownBlock ≠ some g := fun hk => by
              rcases hg15.at_ with h | h
              · exact hh.out.n2 (h ▸ hk)
              · have q1 := h g hk
                try simp at q1
                omega
            refine ⟨(by first | exact .inr ⟨y15, rfl⟩ | exact ⟨y15, rfl⟩), ?_⟩
            have hblk := (y15.block g hgy (fun h => h.elim d1 d2)).trans hblky
            obtain ⟨A1, e1, rfl, hs1⟩ := hA15.sl
            obtain ⟨A2, e2, rfl, hs2⟩ := ho15.sl
            have hfz : ∀ j, y15.val.frozen? ⟨g, j, none⟩ = false := fun j => frozen_of_row _ _ _ _ _ hblk
            have k2 := cell_of_row y15.val g 2 _ _ _ hblk
            have k3 := cell_of_row y15.val g 3 _ _ _ hblk
            simp at k2 k3
            have hgl15 : g < y15.val.heap.size := y15.lt _ hgy
            refine anyL_one (i := 14) #[true, true, true, true, true, true, true, true, true, true, true, true, true, true, true, false, false] (by kernel_rfl) rfl (by decide) (fun Q' hQ' => ?_)
            go_wp2
            refine ⟨.inl (by decide), ?_⟩
            refine anyL_one (i := 15) #[true, true, true, true, true, true, true, true, true, true, true, true, true, true, true, true, false] (by kernel_rfl) rfl (by decide) (fun Q' hQ' => ?_)
            go_wp2
            refine ⟨.inl (by decide), ?_⟩
            refine anyL_one (i := 16) #[true, true, true, true, true, true, true, true, true, true, true, true, true, true, true, true, true] (by kernel_rfl) rfl (by decide) (fun Q' hQ' => ?_)
            go_wp2
            refine ⟨.inl (by decide), ?_⟩
            refine anyL_end (by kernel_rfl) ?_
            go_wp2
            have r1 := heap_setCell_same y15.val g 2 _ _ (.slice A1 (ats ++ [t]).length e1) hblk
            have r2 := heap_setCell_same _ g 3 _ _ (.slice A2 (vals ++ [b]).length e2) r1
            have ro : ∀ k, k ≠ g → (((y15.val.setCell ⟨g, 2, none⟩ (.slice A1 (ats ++ [t]).length e1)).setCell ⟨g, 3, none⟩ (.slice A2 (vals ++ [b]).length e2))).heap[k]? = y15.val.heap[k]? := fun k hk => (Below.heap_setCell _ ⟨g, 3, none⟩ _ k hk).trans (Below.heap_setCell _ ⟨g, 2, none⟩ _ k hk)
            obtain ⟨z1, g1⟩ := ((But.refl y.val (fun k => B ≤ k)).comp y15 (fun k hk h => h.elim (fun h => (hh.out.own1.lt k (hoAh.out.trans h)).1) (fun h => (hh.out.own2.lt k (hoVh.out.trans h)).1))).setCell ⟨g, 2, none⟩ hh.out.gB (.slice A1 (ats ++ [t]).length e1)
            obtain ⟨z2, g2⟩ := z1.setCell ⟨g, 3, none⟩ hh.out.gB (.slice A2 (vals ++ [b]).length e2)
            have hfin : (((y15.val.setCell ⟨g, 2, none⟩ (.slice A1 (ats ++ [t]).length e1)).setCell ⟨g, 3, none⟩ (.slice A2 (vals ++ [b]).length e2))) = z2.val := by rw [← g2, ← g1]; rfl
            have hbox : LBox z2.val B g nm W (addAt ats vals t b) (addVal vals b) (.slice A1 (ats ++ [t]).length e1) (.slice A2 (vals ++ [b]).length e2) := by
              rw [← hfin]
              refine ⟨by simpa using r2, ?_, ?_, m8, m15, n15, hh.out.gB⟩
              · unfold addAt
                rw [if_neg hlh.out]
                exact hA15.step (fun k hk _ => by simpa using ro k (fun e => m8 (e ▸ hk.elim (fun h => h.elim) id)))
              · unfold addVal
                rw [if_neg hlh.out]
                exact ho15.step (fun k hk _ => by simpa using ro k (fun e => m15 (e ▸ hk.elim (fun h => h.elim) id)))
            obtain ⟨q, hq⟩ := z2.is (hW1y) (fun k hk => by simp; omega)
            simp only [List.length_append, List.length_cons, List.length_nil] at hfin
            rw [← hgh.out]
            go_roundg gk
            case measure => omega
            case rel =>
              refine ⟨i + 1, _, _, _, _, q, by go_num, ?_, hq ▸ hbox, ?_⟩
              · rw [← hq, ← hfin]; simp; rw [hgh.out]
              · have h0 := hst.out
                refine ⟨by omega, ?_, ?_, ?_⟩
                · rw [← h0.2.1, drop_cons hta2.out, drop_cons hv2.out, merge]
                · have := addAt_len ats vals t b; omega
                · have := addVal_len vals b; omega
    · obtain rfl : i = ts.length := by have := hA.out.1; omega
      obtain rfl : gk = 0 := by have := hA.out.1; omega
      have hfin := hA.out.2.1
      rw [drop_end, merge] at hfin
      have hst := Lib.hid hfin
      clear hA hfin h
      rw [hgh.out]
      have hrr : x.val.heap[w.heap.size]? = some (.cells #[.string ⟨#[]⟩, .int .i64 0, .slice none 0 0, .slice none 0 0] 50 (0, 0)) := (x.ok.block _ (by simp)).trans (heap_alloc_new _ _)
      have hfz : ∀ j, x.val.frozen? ⟨w.heap.size, j, none⟩ = false := fun j => frozen_of_row _ _ _ _ _ hrr
      have w0 := cell_of_row x.val w.heap.size 0 _ _ _ hrr
      have w1 := cell_of_row x.val w.heap.size 1 _ _ _ hrr
      have w2 := cell_of_row x.val w.heap.size 2 _ _ _ hrr
      have w3 := cell_of_row x.val w.heap.size 3 _ _ _ hrr
      simp at w0 w1 w2 w3
      have hrh := Lib.hid hrr
      clear hrr
      go_wp2
      have hrow := setCell4_heap _ w.heap.size _ _ _ _ (.string nm) (.int .i64 W) (.slice AA ats.length cA) (.slice AV vals.length cV) hrh.out
      ((try simp only [Exit.inBlock, Exit.then]); refine bodyPost_ret (results_cell_row rfl _ _ w.heap.size _ _ _ _ rfl hrow Try.underlying50 rfl (by kernel_rfl)) rfl ?_)
      have ro : ∀ k, k ≠ w.heap.size → ((((x.val.setCell ⟨w.heap.size, 0, none⟩ (.string nm)).setCell ⟨w.heap.size, 1, none⟩ (.int .i64 W)).setCell ⟨w.heap.size, 2, none⟩ (.slice AA ats.length cA)).setCell ⟨w.heap.size, 3, none⟩ (.slice AV vals.length cV)).heap[k]? = x.val.heap[k]? := fun k hk => (Below.heap_setCell _ ⟨w.heap.size, 3, none⟩ _ k hk).trans ((Below.heap_setCell _ ⟨w.heap.size, 2, none⟩ _ k hk).trans ((Below.heap_setCell _ ⟨w.heap.size, 1, none⟩ _ k hk).trans (Below.heap_setCell _ ⟨w.heap.size, 0, none⟩ _ k hk)))
      have hBe := hBh.out
      have e1 : ats = (merge [] [] ts bs).1 := by rw [← hst.out]
      have e2 : vals = (merge [] [] ts bs).2 := by rw [← hst.out]
      refine ⟨_, _, rfl, ?_, ?_, (((hWx.setCell (by simp) _).setCell (by simp) _).setCell (by simp) _).setCell (by simp) _⟩
      · rw [← e1, hBe]
        exact hh.out.own1.step (fun k hk _ => ro k (fun e => hk.elim (fun h => h.elim) (fun h => by have := (hh.out.own1.lt k h).1; omega)))
      · rw [← e2, hBe]
        exact hh.out.own2.step (fun k hk _ => ro k (fun e => hk.elim (fun h => h.elim) (fun h => by have := (hh.out.own2.lt k h).1; omega)))
end Go.Proofs.Ytabhafllkhoefaa
