/- (*Line).add: a change at the end of a line that is being made. -/
import Derived.Test.YtabhafllkhoefaaSplitL
import Derived.Test.YtabhafllkhoefaaChg
import Derived.Test.YtabhafllkhoefaaEq
import Derived.Test.YtabhafllkhoefaaHad
namespace Go.Proofs.Ytabhafllkhoefaa
open Go.RowKit
set_option maxRecDepth 100000

theorem info_int : (Try.prog.info? 3).map (fun i => (i.zero, i.size, i.bytes)) = some (some (.int .i64 0), 1, 8) := by kernel_rfl
theorem info_bits : (Try.prog.info? 41).map (fun i => (i.zero, i.size, i.bytes)) = some (some (.agg #[.int .i64 0, .int .u64 0, .int .u64 0]), 3, 24) := by kernel_rfl
theorem intT : SlT Try.prog 47 3 (.int .i64 0) 1 8 := ⟨Try.underlying47, info_int, rfl, by omega⟩
theorem bitsT : SlT Try.prog 48 41 (.agg #[.int .i64 0, .int .u64 0, .int .u64 0]) 3 24 := ⟨Try.underlying48, info_bits, rfl, by omega⟩
theorem kBits_flat : Rep.Flat kBits := fun h => kBits_iff.2 (kBits_iff.1 h)
theorem Rep.sl_one {α : Type} {d : Rep α} {w : World} {F : Nat → Prop} {b : Nat} {c : List Value} {te : TypeId} {y : α} (hb : w.heap[b]? = some (.cells c.toArray te (0, 0))) (hy : d.rel w F y c) (hF : F b) : Rep.Sl d w F (some ⟨b, 0, none⟩) 1 [y] := by
  refine ⟨by simp, by omega, by simp, fun i x hx => ?_⟩
  have hi : i = 0 := by have := (List.getElem?_eq_some_iff.1 hx).1; simpa using this
  subst hi
  simp only [List.getElem?_cons_zero, Option.some.injEq] at hx
  subst hx
  refine ⟨b, 0, c, rfl, hF, (Array.getElem?_eq_some_iff.1 hb).1, hy, fun j u hu => ?_⟩
  rw [cell_of_row w b _ _ _ _ hb]
  simpa using hu

/-- A line in the making: its box at block g, its rows the call's own. -/
structure LBox (w : World) (B g : Nat) (nm : ByteArray) (W : Int) (ats : List Int) (vals : List Bits) (vA vV : Value) : Prop where
  blk : w.heap[g]? = some (.cells #[.string nm, .int .i64 W, vA, vV] 50 (0, 0))
  own1 : Rep.Own (Rep.int .i64) 3 w B NoB vA ats
  own2 : Rep.Own kBits 41 w B NoB vV vals
  n1 : vA.ownBlock ≠ some g
  n2 : vV.ownBlock ≠ some g
  n3 : ∀ k, vA.ownBlock = some k → vV.ownBlock ≠ some k
  gB : B ≤ g
theorem LBox.step {w w1 : World} {B g : Nat} {nm : ByteArray} {W : Int} {ats : List Int} {vals : List Bits} {vA vV : Value} (h : LBox w B g nm W ats vals vA vV) (hb : Below w.heap.size w w1) : LBox w1 B g nm W ats vals vA vV :=
  ⟨(hb.block g (Array.getElem?_eq_some_iff.1 h.blk).1).trans h.blk, h.own1.below hb, h.own2.below hb, h.n1, h.n2, h.n3, h.gB⟩

def addAt (ats : List Int) (vals : List Bits) (t : Int) (b : Bits) : List Int := if vals.getLast? = some b then ats else ats ++ [t]
def addVal (vals : List Bits) (b : Bits) : List Bits := if vals.getLast? = some b then vals else vals ++ [b]

set_option maxHeartbeats 8000000 in
theorem add_calls (B g : Nat) (nm : ByteArray) (W : Int) (ats : List Int) (vals : List Bits) (vA vV : Value) (t : Int) (b : Bits) (w : World) (h : LBox w B g nm W ats vals vA vV) (ht : InK .i64 t) (hb : BitsOk b) (h1 : ats.length ≤ 1000000) (h2 : vals.length ≤ 1000000) (hB : B ≤ w.heap.size) :
    Calls Try.prog 59 #[.pointer (some ⟨g, 0, none⟩), .int .i64 t, .agg #[.int .i64 b.W, .int .u64 b.V, .int .u64 b.X]] w fun e w' =>
      e = .returned (.tuple #[]) ∧ ∃ vA' vV', LBox w' B g nm W (addAt ats vals t b) (addVal vals b) vA' vV' ∧ ∃ z : But w (fun k => B ≤ k), w' = z.val := by
  have hu := Try.underlying50
  have hu2 := Try.underlying41
  obtain ⟨oA, hoA⟩ : ∃ oA, vA.ownBlock = oA := ⟨_, rfl⟩
  obtain ⟨oV, hoV⟩ : ∃ oV, vV.ownBlock = oV := ⟨_, rfl⟩
  have d1 : ¬ oA = some g := hoA ▸ h.n1
  have d2 : ¬ oV = some g := hoV ▸ h.n2
  have hg : g < w.heap.size := (Array.getElem?_eq_some_iff.1 h.blk).1
  have hgl : g ≤ w.heap.size := by omega
  have hgn : g ≠ w.heap.size := by omega
  have l1 : ∀ k, oA = some k → k < w.heap.size := fun k hk => (h.own1.lt k (hoA.trans hk)).2
  have l2 : ∀ k, oV = some k → k < w.heap.size := fun k hk => (h.own2.lt k (hoV.trans hk)).2
  have d3 : ¬ oA = some w.heap.size := fun e => by have := l1 _ e; omega
  have d4 : ¬ oV = some w.heap.size := fun e => by have := l2 _ e; omega
  have c0 := cell_of_row w g 0 _ _ _ h.blk
  have c1 := cell_of_row w g 1 _ _ _ h.blk
  have c2 := cell_of_row w g 2 _ _ _ h.blk
  have c3 := cell_of_row w g 3 _ _ _ h.blk
  simp at c0 c1 c2 c3
  obtain ⟨AA, cA, rfl, hsA⟩ := h.own1.sl
  obtain ⟨AV, cV, rfl, hsV⟩ := h.own2.sl
  have hmV := hsV.len
  have hh := Lib.hid h
  have hoAh := Lib.hid hoA
  have hoVh := Lib.hid hoV
  clear h hoA hoV
  go_enter Try.func59, Try.ntmps59
  go_upto_region 2 with (fail)
  go_cut [25] (fun s wc => ∃ y : Under (w.alloc (.cells #[.int .i64 b.W, .int .u64 b.V, .int .u64 b.X] 41)), s = .bool (decide (¬ vals.getLast? = some b)) ∧ wc = y.val)
  case first =>
    by_cases hv0 : vals = []
    · subst hv0
      refine wp_region_under (by kernel_rfl) (by kernel_rfl) ?_
      repeat (go_big_quiet_step (fail))
      refine wpQuiet_nil ?_
      rintro _ ⟨y, rfl⟩
      go_wp2
      go_meet
      case rel => exact ⟨y, rfl, rfl⟩
    · have hpos : 0 < vals.length := List.length_pos_iff.2 hv0
      obtain ⟨u, hu0⟩ := get_ex (xs := vals) (i := vals.length - 1) (by omega)
      have hlast : vals.getLast? = some u := by
        rw [List.getLast?_eq_getElem?]
        exact hu0
      obtain ⟨bv, ov, rfl, hbv, hcv0, hcv1, hcv2, hkv⟩ := Rep.rowBits hsV.row hu0
      have hbl : bv ≤ w.heap.size := by omega
      have hbn : bv ≠ w.heap.size := by omega
      have hz : ((vals.length : Int) == 0) = false := by simp; omega
      have e1 : 0 ≤ (vals.length : Int) - 1 := by omega
      have e2 : (vals.length : Int) - 1 < (vals.length : Int) := by omega
      have hld : decide (¬ vals.getLast? = some b) = !(u.W == b.W && (u.V == b.V && u.X == b.X)) := by
        have := Bits.beq_dec u b
        unfold Bits.beq at this
        rw [this, hlast]
        by_cases he : u = b <;> simp [he]
      have hldh := Lib.hid hld
      clear hld hlast hu0 hv0
      refine wp_region_under (by kernel_rfl) (by kernel_rfl) ?_
      repeat (go_big_quiet_step (fail))
      refine wpQuiet_nil ?_
      rintro _ ⟨y, rfl⟩
      go_wp2
      go_meet
      case rel => exact ⟨y, by rw [hldh.out]; simp only [Bool.not_and], rfl⟩
  case rest =>
    obtain ⟨y, rfl, rfl⟩ := hcut
    have hW := (((Is.refl w).alloc (.cells #[.int .i64 b.W, .int .u64 b.V, .int .u64 b.X] 41)).step y)
    by_cases hl : vals.getLast? = some b
    · have hlh := Lib.hid hl
      have hd : decide (¬ vals.getLast? = some b) = false := by simp [hl]
      rw [hd]
      clear hl hd
      go_wp2
      go_end0
      refine ⟨rfl, .slice AA ats.length cA, .slice AV vals.length cV, ?_, ?_⟩
      · have := hh.out.step hW.below
        unfold addAt addVal
        rw [if_pos hlh.out, if_pos hlh.out]
        exact this
      · exact ⟨(But.refl w _).under ⟨_, hW.below⟩, rfl⟩
    · have hlh := Lib.hid hl
      have hd : decide (¬ vals.getLast? = some b) = true := by simp [hl]
      rw [hd]
      clear hl hd
      go_wp2
      have hgy : g < y.val.heap.size := y.lt _ (by simp; omega)
      have hby : w.heap.size < y.val.heap.size := y.lt _ (by simp)
      have hAy : Rep.Own (Rep.int .i64) 3 y.val B NoB (.slice AA ats.length cA) ats := hh.out.own1.below hW.below
      have hVy : Rep.Own kBits 41 y.val B NoB (.slice AV vals.length cV) vals := hh.out.own2.below hW.below
      have hblky := (hW.below.block g hg).trans hh.out.blk
      refine wp_region_splitL (fun w' => ∃ z : But y.val (fun k => oA = some k ∨ oV = some k), w' = z.val) [false, true, false, false, false, false, false, false, false, false, false, false, false, false, false, false, false, false, false, false, false, false] [true, false, true, true, true, true, true, false, false, true, true, true, true, true, false, false, false, false, false, false, false, false] [1, 18, 19, 20, 21] 10 #[true, true, true, true, true, true, true, false, false, true, true, true, true, true, false, false, false, false, false, false, false, false] (by kernel_rfl) (by kernel_rfl) (by decide) ⟨(But.refl _ _).drew, rfl⟩ (fun _ _ d _ _ h => by cases d <;> exact h) ?_
      simp only [pickB]
      repeat (go_big_quiet_step (fail))
      refine wpQuiet_nil ?_
      repeat (go_big_quiet_step (fail))
      refine wpQuiet_nil ?_
      refine anyL_two (i := 7) (j := 14) #[true, true, true, true, true, true, true, true, false, true, true, true, true, true, false, false, false, false, false, false, false, false] #[true, true, true, true, true, true, true, false, false, true, true, true, true, true, true, false, false, false, false, false, false, false] (by kernel_rfl) rfl rfl (by decide) (by decide) (fun Q' hQ' => ?_) (fun Q' hQ' => ?_)
      · go_wp2_with fail
        refine ⟨(by first | exact .inr ⟨((But.refl _ _).alloc _).drew, rfl⟩ | exact ⟨((But.refl _ _).alloc _).drew, rfl⟩), ?_⟩
        have h7 : ((y.val.alloc (.cells #[.int .i64 t] 3)).drew).heap[y.val.heap.size]? = some (.cells #[.int .i64 t] 3) := heap_alloc_new _ _
        have hA7 : Rep.Own (Rep.int .i64) 3 ((y.val.alloc (.cells #[.int .i64 t] 3)).drew) B NoB (.slice AA ats.length cA) ats := hAy.step (fun k _ hl => Below.heap_alloc y.val _ k hl)
        have hV7 : Rep.Own kBits 41 ((y.val.alloc (.cells #[.int .i64 t] 3)).drew) B NoB (.slice AV vals.length cV) vals := hVy.step (fun k _ hl => Below.heap_alloc y.val _ k hl)
        refine anyL_two (i := 8) (j := 14) #[true, true, true, true, true, true, true, true, true, true, true, true, true, true, false, false, false, false, false, false, false, false] #[true, true, true, true, true, true, true, true, false, true, true, true, true, true, true, false, false, false, false, false, false, false] (by kernel_rfl) rfl rfl (by decide) (by decide) (fun Q' hQ' => ?_) (fun Q' hQ' => ?_)
        · go_wp2_with (at_builtin; refine wpList_slF (Rep.Flat.int _) rfl (.tmp 31) (.tmp 33) rfl intT rfl rfl hA7 (Rep.sl_one (y := t) (c := [.int .i64 t]) (F := fun k => k = y.val.heap.size) h7 ⟨rfl, ht⟩ rfl) (le_maxLen (by simp; omega)) (by simp; omega) (by first | omega | (simp; omega)) ?_; intro vA' w8 ho8 hg8')
          have hg8 : Grew ((y.val.alloc (.cells #[.int .i64 t] 3)).drew) w8 _ vA' := hg8'
          clear hg8'
          obtain ⟨y8, hy8⟩ := (((But.refl y.val (fun k => oA = some k ∨ oV = some k)).alloc (.cells #[.int .i64 t] 3)).drew).grewB hg8 (fun k hk => .inl (hoAh.out ▸ hk))
          subst hy8
          have hV8 : Rep.Own kBits 41 y8.val B NoB (.slice AV vals.length cV) vals := hV7.step (fun k hk hl => hg8.by_.block k hl (fun e => hk.elim (fun h => h.elim) (fun h => hh.out.n3 k e.symm h)))
          have n8 : ∀ k, vA'.ownBlock = some k → (Value.slice AV vals.length cV).ownBlock ≠ some k := fun k hk hk2 => by
            rcases hg8.at_ with h | h
            · exact hh.out.n3 k (h ▸ hk) hk2
            · have q1 := h k hk
              have q2 := l2 k (hoVh.out ▸ hk2)
              simp at q1
              omega
          have m8 : vA'.ownBlock ≠ some g := fun hk => by
            rcases hg8.at_ with h | h
            · exact hh.out.n1 (h ▸ hk)
            · have q1 := h g hk
              simp at q1
              omega
          have s8 := y8.size
          refine ⟨(by first | exact .inr ⟨y8, rfl⟩ | exact ⟨y8, rfl⟩), ?_⟩
          refine anyL_one (i := 14) #[true, true, true, true, true, true, true, true, true, true, true, true, true, true, true, false, false, false, false, false, false, false] (by kernel_rfl) rfl (by decide) (fun Q' hQ' => ?_)
          go_wp2_with fail
          refine ⟨(by first | exact .inr ⟨y8.alloc _, rfl⟩ | exact ⟨y8.alloc _, rfl⟩), ?_⟩
          have h14 : (y8.val.alloc (.cells #[.int .i64 b.W, .int .u64 b.V, .int .u64 b.X] 41)).heap[y8.val.heap.size]? = some (.cells #[.int .i64 b.W, .int .u64 b.V, .int .u64 b.X] 41) := heap_alloc_new _ _
          have hA14 : Rep.Own (Rep.int .i64) 3 (y8.val.alloc (.cells #[.int .i64 b.W, .int .u64 b.V, .int .u64 b.X] 41)) B NoB vA' (ats ++ [t]) := ho8.step (fun k _ hl => Below.heap_alloc y8.val _ k hl)
          have hV14 : Rep.Own kBits 41 (y8.val.alloc (.cells #[.int .i64 b.W, .int .u64 b.V, .int .u64 b.X] 41)) B NoB (.slice AV vals.length cV) vals := hV8.step (fun k _ hl => Below.heap_alloc y8.val _ k hl)
          refine anyL_one (i := 15) #[true, true, true, true, true, true, true, true, true, true, true, true, true, true, true, true, false, false, false, false, false, false] (by kernel_rfl) rfl (by decide) (fun Q' hQ' => ?_)
          go_wp2_with (at_builtin; refine wpList_slF kBits_flat rfl (.tmp 38) (.tmp 40) rfl bitsT rfl rfl hV14 (Rep.sl_one (y := b) (c := [.int .i64 b.W, .int .u64 b.V, .int .u64 b.X]) (F := fun k => k = y8.val.heap.size) h14 (kBits_iff.2 ⟨rfl, hb⟩) rfl) (le_maxLen (by simp; omega)) (by simp; omega) (by first | omega | (simp; omega)) ?_; intro vV' w15 ho15 hg15')
          have hg15 : Grew (y8.val.alloc (.cells #[.int .i64 b.W, .int .u64 b.V, .int .u64 b.X] 41)) w15 _ vV' := hg15'
          clear hg15'
          obtain ⟨y15, hy15⟩ := (y8.alloc (.cells #[.int .i64 b.W, .int .u64 b.V, .int .u64 b.X] 41)).grewB hg15 (fun k hk => .inr (hoVh.out ▸ hk))
          subst hy15
          have hA15 : Rep.Own (Rep.int .i64) 3 y15.val B NoB vA' (ats ++ [t]) := hA14.step (fun k hk hl => hg15.by_.block k hl (fun e => hk.elim (fun h => h.elim) (fun h => n8 k h e.symm)))
          have n15 : ∀ k, vA'.ownBlock = some k → vV'.ownBlock ≠ some k := fun k hk hk2 => by
            rcases hg15.at_ with h | h
            · exact n8 k hk (h ▸ hk2)
            · have q1 := h k hk2
              have q2 := (hA14.lt k hk).2
              omega
          have m15 : vV'.ownBlock ≠ some g := fun hk => by
            rcases hg15.at_ with h | h
            · exact hh.out.n2 (h ▸ hk)
            · have q1 := h g hk
              try simp at q1
              omega
          refine ⟨(by first | exact .inr ⟨y15, rfl⟩ | exact ⟨y15, rfl⟩), ?_⟩
          have hblk := (y15.block g hgy (fun h => h.elim d1 d2)).trans hblky
          obtain ⟨A1, e1, rfl, hs1⟩ := hA15.sl
          obtain ⟨A2, e2, rfl, hs2⟩ := ho15.sl
          have hfz : ∀ j, y15.val.frozen? ⟨g, j, none⟩ = false := fun j => frozen_of_row _ _ _ _ _ hblk
          have k2 := cell_of_row y15.val g 2 _ _ _ hblk
          have k3 := cell_of_row y15.val g 3 _ _ _ hblk
          simp at k2 k3
          have hgl15 : g < y15.val.heap.size := y15.lt _ hgy
          refine anyL_one (i := 16) #[true, true, true, true, true, true, true, true, true, true, true, true, true, true, true, true, true, false, false, false, false, false] (by kernel_rfl) rfl (by decide) (fun Q' hQ' => ?_)
          go_wp2
          refine ⟨(by first | exact .inr ⟨y15, rfl⟩ | exact ⟨y15, rfl⟩), ?_⟩
          refine anyL_one (i := 17) #[true, true, true, true, true, true, true, true, true, true, true, true, true, true, true, true, true, true, false, false, false, false] (by kernel_rfl) rfl (by decide) (fun Q' hQ' => ?_)
          go_wp2
          refine ⟨(by first | exact .inr ⟨y15, rfl⟩ | exact ⟨y15, rfl⟩), ?_⟩
          refine anyL_one (i := 18) #[true, true, true, true, true, true, true, true, true, true, true, true, true, true, true, true, true, true, true, false, false, false] (by kernel_rfl) rfl (by decide) (fun Q' hQ' => ?_)
          go_wp2
          refine ⟨.inl (by decide), ?_⟩
          refine anyL_one (i := 19) #[true, true, true, true, true, true, true, true, true, true, true, true, true, true, true, true, true, true, true, true, false, false] (by kernel_rfl) rfl (by decide) (fun Q' hQ' => ?_)
          go_wp2
          refine ⟨.inl (by decide), ?_⟩
          refine anyL_one (i := 20) #[true, true, true, true, true, true, true, true, true, true, true, true, true, true, true, true, true, true, true, true, true, false] (by kernel_rfl) rfl (by decide) (fun Q' hQ' => ?_)
          go_wp2
          refine ⟨.inl (by decide), ?_⟩
          refine anyL_one (i := 21) #[true, true, true, true, true, true, true, true, true, true, true, true, true, true, true, true, true, true, true, true, true, true] (by kernel_rfl) rfl (by decide) (fun Q' hQ' => ?_)
          go_wp2
          refine ⟨.inl (by decide), ?_⟩
          refine anyL_end (by kernel_rfl) ?_
          go_wp2
          have r1 := heap_setCell_same y15.val g 2 _ _ (.slice A1 (ats ++ [t]).length e1) hblk
          have r2 := heap_setCell_same _ g 3 _ _ (.slice A2 (vals ++ [b]).length e2) r1
          have ro : ∀ k, k ≠ g → (((y15.val.setCell ⟨g, 2, none⟩ (.slice A1 (ats ++ [t]).length e1)).setCell ⟨g, 3, none⟩ (.slice A2 (vals ++ [b]).length e2))).heap[k]? = y15.val.heap[k]? := fun k hk => (Below.heap_setCell _ ⟨g, 3, none⟩ _ k hk).trans (Below.heap_setCell _ ⟨g, 2, none⟩ _ k hk)
          go_end0
          obtain ⟨z1, g1⟩ := (((But.refl w (fun k => B ≤ k)).under ⟨y.val, hW.below⟩).comp y15 (fun k hk h => h.elim (fun h => (hh.out.own1.lt k (hoAh.out.trans h)).1) (fun h => (hh.out.own2.lt k (hoVh.out.trans h)).1))).setCell ⟨g, 2, none⟩ hh.out.gB (.slice A1 (ats ++ [t]).length e1)
          obtain ⟨z2, g2⟩ := z1.setCell ⟨g, 3, none⟩ hh.out.gB (.slice A2 (vals ++ [b]).length e2)
          refine ⟨rfl, .slice A1 (ats ++ [t]).length e1, .slice A2 (vals ++ [b]).length e2, ⟨?_, ?_, ?_, m8, m15, n15, hh.out.gB⟩, z2, ?_⟩
          · simpa using r2
          · unfold addAt
            rw [if_neg hlh.out]
            exact hA15.step (fun k hk _ => by simpa using ro k (fun e => m8 (e ▸ hk.elim (fun h => h.elim) id)))
          · unfold addVal
            rw [if_neg hlh.out]
            exact ho15.step (fun k hk _ => by simpa using ro k (fun e => m15 (e ▸ hk.elim (fun h => h.elim) id)))
          · rw [← g2, ← g1]
            simp
            rfl
        · go_wp2_with fail
          refine ⟨(by first | exact .inr ⟨(((But.refl _ _).alloc _).alloc _).drew, rfl⟩ | exact ⟨(((But.refl _ _).alloc _).alloc _).drew, rfl⟩), ?_⟩
          have h7b : (((y.val.alloc (.cells #[.int .i64 t] 3)).alloc (.cells #[.int .i64 b.W, .int .u64 b.V, .int .u64 b.X] 41)).drew).heap[y.val.heap.size]? = some (.cells #[.int .i64 t] 3) := (Below.heap_alloc (y.val.alloc (.cells #[.int .i64 t] 3)) (.cells #[.int .i64 b.W, .int .u64 b.V, .int .u64 b.X] 41) _ (by simp)).trans (heap_alloc_new _ _)
          have h14b : (((y.val.alloc (.cells #[.int .i64 t] 3)).alloc (.cells #[.int .i64 b.W, .int .u64 b.V, .int .u64 b.X] 41)).drew).heap[(y.val.heap.size + 1)]? = some (.cells #[.int .i64 b.W, .int .u64 b.V, .int .u64 b.X] 41) := heap_alloc2_new y.val (.cells #[.int .i64 t] 3) (.cells #[.int .i64 b.W, .int .u64 b.V, .int .u64 b.X] 41)
          have hA7b : Rep.Own (Rep.int .i64) 3 (((y.val.alloc (.cells #[.int .i64 t] 3)).alloc (.cells #[.int .i64 b.W, .int .u64 b.V, .int .u64 b.X] 41)).drew) B NoB (.slice AA ats.length cA) ats := hAy.step (fun k _ hl => (Below.heap_alloc (y.val.alloc (.cells #[.int .i64 t] 3)) (.cells #[.int .i64 b.W, .int .u64 b.V, .int .u64 b.X] 41) k (by simp; omega)).trans (Below.heap_alloc y.val (.cells #[.int .i64 t] 3) k hl))
          have hV7b : Rep.Own kBits 41 (((y.val.alloc (.cells #[.int .i64 t] 3)).alloc (.cells #[.int .i64 b.W, .int .u64 b.V, .int .u64 b.X] 41)).drew) B NoB (.slice AV vals.length cV) vals := hVy.step (fun k _ hl => (Below.heap_alloc (y.val.alloc (.cells #[.int .i64 t] 3)) (.cells #[.int .i64 b.W, .int .u64 b.V, .int .u64 b.X] 41) k (by simp; omega)).trans (Below.heap_alloc y.val (.cells #[.int .i64 t] 3) k hl))
          refine anyL_one (i := 8) #[true, true, true, true, true, true, true, true, true, true, true, true, true, true, true, false, false, false, false, false, false, false] (by kernel_rfl) rfl (by decide) (fun Q' hQ' => ?_)
          go_wp2_with (at_builtin; refine wpList_slF (Rep.Flat.int _) rfl (.tmp 31) (.tmp 33) rfl intT rfl rfl hA7b (Rep.sl_one (y := t) (c := [.int .i64 t]) (F := fun k => k = y.val.heap.size) h7b ⟨rfl, ht⟩ rfl) (le_maxLen (by simp; omega)) (by simp; omega) (by first | omega | (simp; omega)) ?_; intro vA' w8 ho8 hg8')
          have hg8 : Grew (((y.val.alloc (.cells #[.int .i64 t] 3)).alloc (.cells #[.int .i64 b.W, .int .u64 b.V, .int .u64 b.X] 41)).drew) w8 _ vA' := hg8'
          clear hg8'
          obtain ⟨y8, hy8⟩ := ((((But.refl y.val (fun k => oA = some k ∨ oV = some k)).alloc (.cells #[.int .i64 t] 3)).alloc (.cells #[.int .i64 b.W, .int .u64 b.V, .int .u64 b.X] 41)).drew).grewB hg8 (fun k hk => .inl (hoAh.out ▸ hk))
          subst hy8
          have hV8 : Rep.Own kBits 41 y8.val B NoB (.slice AV vals.length cV) vals := hV7b.step (fun k hk hl => hg8.by_.block k hl (fun e => hk.elim (fun h => h.elim) (fun h => hh.out.n3 k e.symm h)))
          have n8 : ∀ k, vA'.ownBlock = some k → (Value.slice AV vals.length cV).ownBlock ≠ some k := fun k hk hk2 => by
            rcases hg8.at_ with h | h
            · exact hh.out.n3 k (h ▸ hk) hk2
            · have q1 := h k hk
              have q2 := l2 k (hoVh.out ▸ hk2)
              simp at q1
              omega
          have m8 : vA'.ownBlock ≠ some g := fun hk => by
            rcases hg8.at_ with h | h
            · exact hh.out.n1 (h ▸ hk)
            · have q1 := h g hk
              simp at q1
              omega
          have s8 := y8.size
          refine ⟨(by first | exact .inr ⟨y8, rfl⟩ | exact ⟨y8, rfl⟩), ?_⟩
          have h14 : y8.val.heap[(y.val.heap.size + 1)]? = some (.cells #[.int .i64 b.W, .int .u64 b.V, .int .u64 b.X] 41) := (hg8.by_.block _ (Array.getElem?_eq_some_iff.1 h14b).1 (fun e => by have := l1 _ (hoAh.out ▸ e.symm); omega)).trans h14b
          refine anyL_one (i := 15) #[true, true, true, true, true, true, true, true, true, true, true, true, true, true, true, true, false, false, false, false, false, false] (by kernel_rfl) rfl (by decide) (fun Q' hQ' => ?_)
          go_wp2_with (at_builtin; refine wpList_slF kBits_flat rfl (.tmp 38) (.tmp 40) rfl bitsT rfl rfl hV8 (Rep.sl_one (y := b) (c := [.int .i64 b.W, .int .u64 b.V, .int .u64 b.X]) (F := fun k => k = (y.val.heap.size + 1)) h14 (kBits_iff.2 ⟨rfl, hb⟩) rfl) (le_maxLen (by simp; omega)) (by simp; omega) (by first | omega | (simp; omega)) ?_; intro vV' w15 ho15 hg15')
          have hg15 : Grew (y8.val) w15 _ vV' := hg15'
          clear hg15'
          obtain ⟨y15, hy15⟩ := (y8).grewB hg15 (fun k hk => .inr (hoVh.out ▸ hk))
          subst hy15
          have hA15 : Rep.Own (Rep.int .i64) 3 y15.val B NoB vA' (ats ++ [t]) := ho8.step (fun k hk hl => hg15.by_.block k hl (fun e => hk.elim (fun h => h.elim) (fun h => n8 k h e.symm)))
          have n15 : ∀ k, vA'.ownBlock = some k → vV'.ownBlock ≠ some k := fun k hk hk2 => by
            rcases hg15.at_ with h | h
            · exact n8 k hk (h ▸ hk2)
            · have q1 := h k hk2
              have q2 := (ho8.lt k hk).2
              omega
          have m15 : vV'.ownBlock ≠ some g := fun hk => by
            rcases hg15.at_ with h | h
            · exact hh.out.n2 (h ▸ hk)
            · have q1 := h g hk
              try simp at q1
              omega
          refine ⟨(by first | exact .inr ⟨y15, rfl⟩ | exact ⟨y15, rfl⟩), ?_⟩
          have hblk := (y15.block g hgy (fun h => h.elim d1 d2)).trans hblky
          obtain ⟨A1, e1, rfl, hs1⟩ := hA15.sl
          obtain ⟨A2, e2, rfl, hs2⟩ := ho15.sl
          have hfz : ∀ j, y15.val.frozen? ⟨g, j, none⟩ = false := fun j => frozen_of_row _ _ _ _ _ hblk
          have k2 := cell_of_row y15.val g 2 _ _ _ hblk
          have k3 := cell_of_row y15.val g 3 _ _ _ hblk
          simp at k2 k3
          have hgl15 : g < y15.val.heap.size := y15.lt _ hgy
          refine anyL_one (i := 16) #[true, true, true, true, true, true, true, true, true, true, true, true, true, true, true, true, true, false, false, false, false, false] (by kernel_rfl) rfl (by decide) (fun Q' hQ' => ?_)
          go_wp2
          refine ⟨(by first | exact .inr ⟨y15, rfl⟩ | exact ⟨y15, rfl⟩), ?_⟩
          refine anyL_one (i := 17) #[true, true, true, true, true, true, true, true, true, true, true, true, true, true, true, true, true, true, false, false, false, false] (by kernel_rfl) rfl (by decide) (fun Q' hQ' => ?_)
          go_wp2
          refine ⟨(by first | exact .inr ⟨y15, rfl⟩ | exact ⟨y15, rfl⟩), ?_⟩
          refine anyL_one (i := 18) #[true, true, true, true, true, true, true, true, true, true, true, true, true, true, true, true, true, true, true, false, false, false] (by kernel_rfl) rfl (by decide) (fun Q' hQ' => ?_)
          go_wp2
          refine ⟨.inl (by decide), ?_⟩
          refine anyL_one (i := 19) #[true, true, true, true, true, true, true, true, true, true, true, true, true, true, true, true, true, true, true, true, false, false] (by kernel_rfl) rfl (by decide) (fun Q' hQ' => ?_)
          go_wp2
          refine ⟨.inl (by decide), ?_⟩
          refine anyL_one (i := 20) #[true, true, true, true, true, true, true, true, true, true, true, true, true, true, true, true, true, true, true, true, true, false] (by kernel_rfl) rfl (by decide) (fun Q' hQ' => ?_)
          go_wp2
          refine ⟨.inl (by decide), ?_⟩
          refine anyL_one (i := 21) #[true, true, true, true, true, true, true, true, true, true, true, true, true, true, true, true, true, true, true, true, true, true] (by kernel_rfl) rfl (by decide) (fun Q' hQ' => ?_)
          go_wp2
          refine ⟨.inl (by decide), ?_⟩
          refine anyL_end (by kernel_rfl) ?_
          go_wp2
          have r1 := heap_setCell_same y15.val g 2 _ _ (.slice A1 (ats ++ [t]).length e1) hblk
          have r2 := heap_setCell_same _ g 3 _ _ (.slice A2 (vals ++ [b]).length e2) r1
          have ro : ∀ k, k ≠ g → (((y15.val.setCell ⟨g, 2, none⟩ (.slice A1 (ats ++ [t]).length e1)).setCell ⟨g, 3, none⟩ (.slice A2 (vals ++ [b]).length e2))).heap[k]? = y15.val.heap[k]? := fun k hk => (Below.heap_setCell _ ⟨g, 3, none⟩ _ k hk).trans (Below.heap_setCell _ ⟨g, 2, none⟩ _ k hk)
          go_end0
          obtain ⟨z1, g1⟩ := (((But.refl w (fun k => B ≤ k)).under ⟨y.val, hW.below⟩).comp y15 (fun k hk h => h.elim (fun h => (hh.out.own1.lt k (hoAh.out.trans h)).1) (fun h => (hh.out.own2.lt k (hoVh.out.trans h)).1))).setCell ⟨g, 2, none⟩ hh.out.gB (.slice A1 (ats ++ [t]).length e1)
          obtain ⟨z2, g2⟩ := z1.setCell ⟨g, 3, none⟩ hh.out.gB (.slice A2 (vals ++ [b]).length e2)
          refine ⟨rfl, .slice A1 (ats ++ [t]).length e1, .slice A2 (vals ++ [b]).length e2, ⟨?_, ?_, ?_, m8, m15, n15, hh.out.gB⟩, z2, ?_⟩
          · simpa using r2
          · unfold addAt
            rw [if_neg hlh.out]
            exact hA15.step (fun k hk _ => by simpa using ro k (fun e => m8 (e ▸ hk.elim (fun h => h.elim) id)))
          · unfold addVal
            rw [if_neg hlh.out]
            exact ho15.step (fun k hk _ => by simpa using ro k (fun e => m15 (e ▸ hk.elim (fun h => h.elim) id)))
          · rw [← g2, ← g1]
            simp
            rfl
      · go_wp2_with fail
        refine ⟨(by first | exact .inr ⟨((But.refl _ _).alloc _).drew, rfl⟩ | exact ⟨((But.refl _ _).alloc _).drew, rfl⟩), ?_⟩
        refine anyL_one (i := 7) #[true, true, true, true, true, true, true, true, false, true, true, true, true, true, true, false, false, false, false, false, false, false] (by kernel_rfl) rfl (by decide) (fun Q' hQ' => ?_)
        go_wp2_with fail
        refine ⟨(by first | exact .inr ⟨(((But.refl _ _).alloc _).alloc _).drew, rfl⟩ | exact ⟨(((But.refl _ _).alloc _).alloc _).drew, rfl⟩), ?_⟩
        have h7b : (((y.val.alloc (.cells #[.int .i64 b.W, .int .u64 b.V, .int .u64 b.X] 41)).alloc (.cells #[.int .i64 t] 3)).drew).heap[(y.val.heap.size + 1)]? = some (.cells #[.int .i64 t] 3) := heap_alloc2_new y.val (.cells #[.int .i64 b.W, .int .u64 b.V, .int .u64 b.X] 41) (.cells #[.int .i64 t] 3)
        have h14b : (((y.val.alloc (.cells #[.int .i64 b.W, .int .u64 b.V, .int .u64 b.X] 41)).alloc (.cells #[.int .i64 t] 3)).drew).heap[y.val.heap.size]? = some (.cells #[.int .i64 b.W, .int .u64 b.V, .int .u64 b.X] 41) := (Below.heap_alloc (y.val.alloc (.cells #[.int .i64 b.W, .int .u64 b.V, .int .u64 b.X] 41)) (.cells #[.int .i64 t] 3) _ (by simp)).trans (heap_alloc_new _ _)
        have hA7b : Rep.Own (Rep.int .i64) 3 (((y.val.alloc (.cells #[.int .i64 b.W, .int .u64 b.V, .int .u64 b.X] 41)).alloc (.cells #[.int .i64 t] 3)).drew) B NoB (.slice AA ats.length cA) ats := hAy.step (fun k _ hl => (Below.heap_alloc (y.val.alloc (.cells #[.int .i64 b.W, .int .u64 b.V, .int .u64 b.X] 41)) (.cells #[.int .i64 t] 3) k (by simp; omega)).trans (Below.heap_alloc y.val (.cells #[.int .i64 b.W, .int .u64 b.V, .int .u64 b.X] 41) k hl))
        have hV7b : Rep.Own kBits 41 (((y.val.alloc (.cells #[.int .i64 b.W, .int .u64 b.V, .int .u64 b.X] 41)).alloc (.cells #[.int .i64 t] 3)).drew) B NoB (.slice AV vals.length cV) vals := hVy.step (fun k _ hl => (Below.heap_alloc (y.val.alloc (.cells #[.int .i64 b.W, .int .u64 b.V, .int .u64 b.X] 41)) (.cells #[.int .i64 t] 3) k (by simp; omega)).trans (Below.heap_alloc y.val (.cells #[.int .i64 b.W, .int .u64 b.V, .int .u64 b.X] 41) k hl))
        refine anyL_one (i := 8) #[true, true, true, true, true, true, true, true, true, true, true, true, true, true, true, false, false, false, false, false, false, false] (by kernel_rfl) rfl (by decide) (fun Q' hQ' => ?_)
        go_wp2_with (at_builtin; refine wpList_slF (Rep.Flat.int _) rfl (.tmp 31) (.tmp 33) rfl intT rfl rfl hA7b (Rep.sl_one (y := t) (c := [.int .i64 t]) (F := fun k => k = (y.val.heap.size + 1)) h7b ⟨rfl, ht⟩ rfl) (le_maxLen (by simp; omega)) (by simp; omega) (by first | omega | (simp; omega)) ?_; intro vA' w8 ho8 hg8')
        have hg8 : Grew (((y.val.alloc (.cells #[.int .i64 b.W, .int .u64 b.V, .int .u64 b.X] 41)).alloc (.cells #[.int .i64 t] 3)).drew) w8 _ vA' := hg8'
        clear hg8'
        obtain ⟨y8, hy8⟩ := ((((But.refl y.val (fun k => oA = some k ∨ oV = some k)).alloc (.cells #[.int .i64 b.W, .int .u64 b.V, .int .u64 b.X] 41)).alloc (.cells #[.int .i64 t] 3)).drew).grewB hg8 (fun k hk => .inl (hoAh.out ▸ hk))
        subst hy8
        have hV8 : Rep.Own kBits 41 y8.val B NoB (.slice AV vals.length cV) vals := hV7b.step (fun k hk hl => hg8.by_.block k hl (fun e => hk.elim (fun h => h.elim) (fun h => hh.out.n3 k e.symm h)))
        have n8 : ∀ k, vA'.ownBlock = some k → (Value.slice AV vals.length cV).ownBlock ≠ some k := fun k hk hk2 => by
          rcases hg8.at_ with h | h
          · exact hh.out.n3 k (h ▸ hk) hk2
          · have q1 := h k hk
            have q2 := l2 k (hoVh.out ▸ hk2)
            simp at q1
            omega
        have m8 : vA'.ownBlock ≠ some g := fun hk => by
          rcases hg8.at_ with h | h
          · exact hh.out.n1 (h ▸ hk)
          · have q1 := h g hk
            simp at q1
            omega
        have s8 := y8.size
        refine ⟨(by first | exact .inr ⟨y8, rfl⟩ | exact ⟨y8, rfl⟩), ?_⟩
        have h14 : y8.val.heap[y.val.heap.size]? = some (.cells #[.int .i64 b.W, .int .u64 b.V, .int .u64 b.X] 41) := (hg8.by_.block _ (Array.getElem?_eq_some_iff.1 h14b).1 (fun e => by have := l1 _ (hoAh.out ▸ e.symm); omega)).trans h14b
        refine anyL_one (i := 15) #[true, true, true, true, true, true, true, true, true, true, true, true, true, true, true, true, false, false, false, false, false, false] (by kernel_rfl) rfl (by decide) (fun Q' hQ' => ?_)
        go_wp2_with (at_builtin; refine wpList_slF kBits_flat rfl (.tmp 38) (.tmp 40) rfl bitsT rfl rfl hV8 (Rep.sl_one (y := b) (c := [.int .i64 b.W, .int .u64 b.V, .int .u64 b.X]) (F := fun k => k = y.val.heap.size) h14 (kBits_iff.2 ⟨rfl, hb⟩) rfl) (le_maxLen (by simp; omega)) (by simp; omega) (by first | omega | (simp; omega)) ?_; intro vV' w15 ho15 hg15')
        have hg15 : Grew (y8.val) w15 _ vV' := hg15'
        clear hg15'
        obtain ⟨y15, hy15⟩ := (y8).grewB hg15 (fun k hk => .inr (hoVh.out ▸ hk))
        subst hy15
        have hA15 : Rep.Own (Rep.int .i64) 3 y15.val B NoB vA' (ats ++ [t]) := ho8.step (fun k hk hl => hg15.by_.block k hl (fun e => hk.elim (fun h => h.elim) (fun h => n8 k h e.symm)))
        have n15 : ∀ k, vA'.ownBlock = some k → vV'.ownBlock ≠ some k := fun k hk hk2 => by
          rcases hg15.at_ with h | h
          · exact n8 k hk (h ▸ hk2)
          · have q1 := h k hk2
            have q2 := (ho8.lt k hk).2
            omega
        have m15 : vV'.ownBlock ≠ some g := fun hk => by
          rcases hg15.at_ with h | h
          · exact hh.out.n2 (h ▸ hk)
          · have q1 := h g hk
            try simp at q1
            omega
        refine ⟨(by first | exact .inr ⟨y15, rfl⟩ | exact ⟨y15, rfl⟩), ?_⟩
        have hblk := (y15.block g hgy (fun h => h.elim d1 d2)).trans hblky
        obtain ⟨A1, e1, rfl, hs1⟩ := hA15.sl
        obtain ⟨A2, e2, rfl, hs2⟩ := ho15.sl
        have hfz : ∀ j, y15.val.frozen? ⟨g, j, none⟩ = false := fun j => frozen_of_row _ _ _ _ _ hblk
        have k2 := cell_of_row y15.val g 2 _ _ _ hblk
        have k3 := cell_of_row y15.val g 3 _ _ _ hblk
        simp at k2 k3
        have hgl15 : g < y15.val.heap.size := y15.lt _ hgy
        refine anyL_one (i := 16) #[true, true, true, true, true, true, true, true, true, true, true, true, true, true, true, true, true, false, false, false, false, false] (by kernel_rfl) rfl (by decide) (fun Q' hQ' => ?_)
        go_wp2
        refine ⟨(by first | exact .inr ⟨y15, rfl⟩ | exact ⟨y15, rfl⟩), ?_⟩
        refine anyL_one (i := 17) #[true, true, true, true, true, true, true, true, true, true, true, true, true, true, true, true, true, true, false, false, false, false] (by kernel_rfl) rfl (by decide) (fun Q' hQ' => ?_)
        go_wp2
        refine ⟨(by first | exact .inr ⟨y15, rfl⟩ | exact ⟨y15, rfl⟩), ?_⟩
        refine anyL_one (i := 18) #[true, true, true, true, true, true, true, true, true, true, true, true, true, true, true, true, true, true, true, false, false, false] (by kernel_rfl) rfl (by decide) (fun Q' hQ' => ?_)
        go_wp2
        refine ⟨.inl (by decide), ?_⟩
        refine anyL_one (i := 19) #[true, true, true, true, true, true, true, true, true, true, true, true, true, true, true, true, true, true, true, true, false, false] (by kernel_rfl) rfl (by decide) (fun Q' hQ' => ?_)
        go_wp2
        refine ⟨.inl (by decide), ?_⟩
        refine anyL_one (i := 20) #[true, true, true, true, true, true, true, true, true, true, true, true, true, true, true, true, true, true, true, true, true, false] (by kernel_rfl) rfl (by decide) (fun Q' hQ' => ?_)
        go_wp2
        refine ⟨.inl (by decide), ?_⟩
        refine anyL_one (i := 21) #[true, true, true, true, true, true, true, true, true, true, true, true, true, true, true, true, true, true, true, true, true, true] (by kernel_rfl) rfl (by decide) (fun Q' hQ' => ?_)
        go_wp2
        refine ⟨.inl (by decide), ?_⟩
        refine anyL_end (by kernel_rfl) ?_
        go_wp2
        have r1 := heap_setCell_same y15.val g 2 _ _ (.slice A1 (ats ++ [t]).length e1) hblk
        have r2 := heap_setCell_same _ g 3 _ _ (.slice A2 (vals ++ [b]).length e2) r1
        have ro : ∀ k, k ≠ g → (((y15.val.setCell ⟨g, 2, none⟩ (.slice A1 (ats ++ [t]).length e1)).setCell ⟨g, 3, none⟩ (.slice A2 (vals ++ [b]).length e2))).heap[k]? = y15.val.heap[k]? := fun k hk => (Below.heap_setCell _ ⟨g, 3, none⟩ _ k hk).trans (Below.heap_setCell _ ⟨g, 2, none⟩ _ k hk)
        go_end0
        obtain ⟨z1, g1⟩ := (((But.refl w (fun k => B ≤ k)).under ⟨y.val, hW.below⟩).comp y15 (fun k hk h => h.elim (fun h => (hh.out.own1.lt k (hoAh.out.trans h)).1) (fun h => (hh.out.own2.lt k (hoVh.out.trans h)).1))).setCell ⟨g, 2, none⟩ hh.out.gB (.slice A1 (ats ++ [t]).length e1)
        obtain ⟨z2, g2⟩ := z1.setCell ⟨g, 3, none⟩ hh.out.gB (.slice A2 (vals ++ [b]).length e2)
        refine ⟨rfl, .slice A1 (ats ++ [t]).length e1, .slice A2 (vals ++ [b]).length e2, ⟨?_, ?_, ?_, m8, m15, n15, hh.out.gB⟩, z2, ?_⟩
        · simpa using r2
        · unfold addAt
          rw [if_neg hlh.out]
          exact hA15.step (fun k hk _ => by simpa using ro k (fun e => m8 (e ▸ hk.elim (fun h => h.elim) id)))
        · unfold addVal
          rw [if_neg hlh.out]
          exact ho15.step (fun k hk _ => by simpa using ro k (fun e => m15 (e ▸ hk.elim (fun h => h.elim) id)))
        · rw [← g2, ← g1]
          simp
          rfl
end Go.Proofs.Ytabhafllkhoefaa
