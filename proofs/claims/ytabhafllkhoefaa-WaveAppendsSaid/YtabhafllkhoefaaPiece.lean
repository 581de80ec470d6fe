/- The reference's Piece: a wave from one time to another one. -/
import Derived.Test.YtabhafllkhoefaaShown
import Derived.Test.YtabhafllkhoefaaCalled
namespace Go.Proofs.Ytabhafllkhoefaa
open Go.RowKit
set_option maxRecDepth 100000

def inCut (f tq t : Int) : Bool := decide (f < t) && decide (t ≤ tq)
def cutT (f tq : Int) : List Int → List Int
  | [] => []
  | t :: r => if inCut f tq t then (t - f) :: cutT f tq r else cutT f tq r
def cutV (l : Line) (f tq : Int) : List Int → List Bits
  | [] => []
  | t :: r => if inCut f tq t then had l t :: cutV l f tq r else cutV l f tq r
def cutLine (l : Line) (f tq : Int) : Line :=
  ⟨l.Name, l.W, (merge [] [] (0 :: cutT f tq l.At) (had l f :: cutV l f tq l.At)).1, (merge [] [] (0 :: cutT f tq l.At) (had l f :: cutV l f tq l.At)).2⟩
def cutOf (x : Wave) (f tq : Int) : Wave := ⟨tq - f, x.Lines.map (fun l => cutLine l f tq)⟩
theorem cutT_len (f tq : Int) : ∀ ts, (cutT f tq ts).length ≤ ts.length
  | [] => by simp [cutT]
  | t :: r => by
    have := cutT_len f tq r
    rw [cutT]
    split <;> simp <;> omega
theorem cutV_len (l : Line) (f tq : Int) : ∀ ts, (cutV l f tq ts).length = (cutT f tq ts).length
  | [] => by simp [cutT, cutV]
  | t :: r => by
    have := cutV_len l f tq r
    rw [cutT, cutV]
    split <;> simp [this]

/-- A wave in the making: its box at block g, its row the call's own. -/
structure WBox (w : World) (B g : Nat) (E : Int) (lines : List Line) (v : Value) : Prop where
  blk : w.heap[g]? = some (.cells #[.int .i64 E, v] 24 (0, 0))
  own : ∃ F, Rep.Own kLine 50 w B F v lines ∧ ∀ k, F k → B ≤ k ∧ k < w.heap.size ∧ k ≠ g
  n1 : v.ownBlock ≠ some g
  gB : B ≤ g
theorem WBox.step {w w1 : World} {B g : Nat} {E : Int} {lines : List Line} {v : Value} (h : WBox w B g E lines v) (hb : Below w.heap.size w w1) : WBox w1 B g E lines v := by
  obtain ⟨F, h1, h2⟩ := h.own
  exact ⟨(hb.block g (Array.getElem?_eq_some_iff.1 h.blk).1).trans h.blk, ⟨F, h1.below hb, fun k hk => ⟨(h2 k hk).1, Nat.lt_of_lt_of_le (h2 k hk).2.1 hb.size, (h2 k hk).2.2⟩⟩, h.n1, h.gB⟩
theorem Rep.Own.addF {α : Type} {d : Rep α} {e : TypeId} {w : World} {B : Nat} {F F' : Nat → Prop} {v : Value} {xs : List α} (h : Rep.Own d e w B F v xs) (hF : ∀ k, F k → F' k) (hv : ∀ k, v.ownBlock = some k → ¬ F' k) : Rep.Own d e w B F' v xs := by
  obtain ⟨cs, h1, h2, _⟩ := h
  exact ⟨cs, h1, h2.step (fun k hk _ => ⟨hF k hk, rfl⟩), hv⟩
theorem info_line : (Try.prog.info? 50).map (fun i => (i.zero, i.size, i.bytes)) = some (some (.agg #[.string ⟨#[]⟩, .int .i64 0, .slice none 0 0, .slice none 0 0]), 4, 72) := by kernel_rfl
theorem linesT : SlT Try.prog 22 50 (.agg #[.string ⟨#[]⟩, .int .i64 0, .slice none 0 0, .slice none 0 0]) 4 72 := ⟨Try.underlying22, info_line, rfl, by omega⟩

theorem had_ok {l : Line} {A3 : Option Addr} {c3 : Nat} {w : World} {F : Nat → Prop} (h3 : Rep.Sl kBits w F A3 c3 l.Val) (hle : l.At.length ≤ l.Val.length) (t : Int) : BitsOk (had l t) := by
  have key : ∀ (d i : Nat) (b : Bits), BitsOk b → i + d ≤ l.At.length → BitsOk (hadFrom l t d i b) := by
    intro d
    induction d with
    | zero => intro i b hb _; exact hb
    | succ d ih =>
      intro i b hb hi
      rw [hadFrom]
      refine ih (i + 1) _ ?_ (by omega)
      split
      · obtain ⟨u, hu⟩ := get_ex (xs := l.Val) (i := i) (by omega)
        obtain ⟨_, _, _, _, _, _, _, hk⟩ := Rep.rowBits h3.row hu
        rw [List.getD, hu]
        exact hk
      · exact hb
  exact key _ 0 _ Bits.zero_ok (by omega)

/-- A line that is to be put behind a wave in the making. -/
theorem WBox.push {w : World} {B B2 g : Nat} {E : Int} {lines : List Line} {v vA vV : Value} {l : Line} (h : WBox w B g E lines v) (hA : Rep.Own (Rep.int .i64) 3 w B2 NoB vA l.At) (hV : Rep.Own kBits 41 w B2 NoB vV l.Val) (hk : LineOk l)
    (hB2 : ∀ k, v.ownBlock = some k → k < B2) (hg : g < B2) :
    ∃ (F : Nat → Prop) (A2 : Option Addr) (c2 : Nat) (A3 : Option Addr) (c3 : Nat), vA = .slice A2 l.At.length c2 ∧ vV = .slice A3 l.Val.length c3 ∧ Rep.Own kLine 50 w B F v lines ∧ kLine.rel w F l [.string l.Name, .int .i64 l.W, vA, vV] ∧ ∀ k, F k → B ≤ k ∧ k < w.heap.size ∧ k ≠ g := by
  obtain ⟨F, h1, h2⟩ := h.own
  obtain ⟨A2, c2, e2, s2⟩ := hA.sl
  obtain ⟨A3, c3, e3, s3⟩ := hV.sl
  have hlt : ∀ k, (F k ∨ vA.ownBlock = some k ∨ vV.ownBlock = some k) → B ≤ k ∧ k < w.heap.size ∧ k ≠ g := by
    rintro k (hk | hk | hk)
    · exact h2 k hk
    · have := hA.lt k hk; have := h.gB; exact ⟨by omega, by omega, by omega⟩
    · have := hV.lt k hk; have := h.gB; exact ⟨by omega, by omega, by omega⟩
  refine ⟨fun k => F k ∨ vA.ownBlock = some k ∨ vV.ownBlock = some k, A2, c2, A3, c3, e2, e3, h1.addF (fun k hk => .inl hk) ?_, ?_, hlt⟩
  · intro k hk hF
    rcases hF with hF | hF | hF
    · obtain ⟨_, _, _, h3⟩ := h1
      exact h3 k hk hF
    · have := hB2 k hk; have := (hA.lt k hF).1; omega
    · have := hB2 k hk; have := (hV.lt k hF).1; omega
  · exact kLine_iff.2 ⟨A2, c2, A3, c3, by rw [e2, e3], hk, s2.mono (fun k hk _ => hk.elim (fun h => h.elim) (fun h => .inr (.inl h))), s3.mono (fun k hk _ => hk.elim (fun h => h.elim) (fun h => .inr (.inr h)))⟩
/-- Behind the law of append and the store. -/
theorem WBox.done {w w' : World} {B g : Nat} {E : Int} {lines : List Line} {v v' : Value} {l : Line} {F : Nat → Prop} (h : WBox w B g E lines v) (ho : Rep.Own kLine 50 w' B F v' (lines ++ [l])) (hg : Grew w w' v v') (hF : ∀ k, F k → B ≤ k ∧ k < w.heap.size ∧ k ≠ g) :
    w'.heap[g]? = some (.cells #[.int .i64 E, v] 24 (0, 0)) ∧ WBox (w'.setCell ⟨g, 1, none⟩ v') B g E (lines ++ [l]) v' := by
  have hgl := (Array.getElem?_eq_some_iff.1 h.blk).1
  have hblk := (hg.by_.block g hgl (fun e => h.n1 e.symm)).trans h.blk
  have hn : v'.ownBlock ≠ some g := fun hk => by
    rcases hg.at_ with q | q
    · exact h.n1 (q ▸ hk)
    · have := q g hk; omega
  have hsz := hg.by_.size
  refine ⟨hblk, heap_setCell_same w' g 1 _ _ v' hblk, ⟨F, ?_, fun k hk => ⟨(hF k hk).1, by simp; have := (hF k hk).2.1; omega, (hF k hk).2.2⟩⟩, hn, h.gB⟩
  exact ho.step (fun k hk _ => Below.heap_setCell w' ⟨g, 1, none⟩ v' k (fun e => hk.elim (fun h => (hF k h).2.2 e) (fun h => hn (h.trans (congrArg some e)))))

/-- What the walk of a cut needs to know of a line. -/
structure CutOk (l : Line) (E : Int) : Prop where
  le : l.At.length ≤ l.Val.length
  few : l.At.length ≤ 20000
  ok : LineOk l
  range : ∀ t ∈ l.At, 0 ≤ t ∧ t ≤ E

set_option maxHeartbeats 16000000 in
theorem piece_calls (x : Wave) (f tq : Int) (A : Option Addr) (c : Nat) (w : World) (F : Nat → Prop) (h : Rep.Sl kLine w F A c x.Lines) (hf : 0 ≤ f ∧ f ≤ 1099511627776) (hto : 0 ≤ tq ∧ tq ≤ 1099511627776) (hn : x.Lines.length ≤ 160) (hl : ∀ l ∈ x.Lines, CutOk l 1099511627776) :
    Calls Try.prog 25 #[.agg #[.int .i64 x.End, .slice A x.Lines.length c], .int .i64 f, .int .i64 tq] w fun e w' =>
      ∃ A' c', e = .returned (.agg #[.int .i64 (tq - f), .slice A' (cutOf x f tq).Lines.length c']) ∧ Rep.Sl kLine w' (fun k => k < w'.heap.size) A' c' (cutOf x f tq).Lines ∧ Is w w' := by
  have hu := Try.underlying50
  have hu2 := Try.underlying24
  have hu3 := Try.underlying41
  have hm := h.len
  have hf0 := hf.1
  have hf1 := hf.2
  have ht0 := hto.1
  have ht1 := hto.2
  go_enter Try.func25, Try.ntmps25
  go_wp2
  go_loopg [9, 10, 11, 13, 21] x.Lines.length (fun d' _ _ _ _ n wr => ∃ (i : Nat) (vL : Value) (z : Under ((w.alloc (.cells #[.int .i64 x.End, .slice A x.Lines.length c] 24)).alloc (.cells #[.int .i64 0, .slice none 0 0] 24))),
    n = .int .i64 i ∧ wr = z.val ∧ WBox z.val (w.heap.size + 2) (w.heap.size + 2) (tq - f) ((x.Lines.take i).map (fun l => cutLine l f tq)) vL ∧ Aside (i + d' = x.Lines.length))
  case atStart =>
    refine ⟨0, .slice none 0 0, ⟨_, (Below.refl _ _).alloc (Nat.le_refl _) _⟩, rfl, rfl, ⟨?_, ⟨fun _ => False, Rep.Own.nil _ _ _ _ _, fun k hk => hk.elim⟩, by simp [Value.ownBlock], Nat.le_refl _⟩, Nat.zero_add _⟩
    exact heap_alloc3_new w _ _ _
  case round =>
    obtain ⟨i, vL, z, rfl, rfl, hb, hA⟩ := hrel
    by_cases hlt : i < x.Lines.length
    · obtain ⟨l, hx⟩ := get_ex hlt
      obtain ⟨b, o, A2, c2, A3, c3, rfl, hbb, hc0, hc1, hc2, hc3, hk, h2, h3⟩ := Rep.rowLine h.row hx
      obtain ⟨gi, rfl⟩ : ∃ m, gk = m + 1 := ⟨gk - 1, by have := hA.out; omega⟩
      have hcl := hl l (List.mem_of_getElem? hx)
      have hst := Lib.hid hA.out
      have hxh := Lib.hid hx
      have hbh := Lib.hid hb
      have hm2 := h2.len
      have hle := Lib.hid hcl.le
      have hfew := Lib.hid hcl.few
      have hrange := Lib.hid hcl.range
      clear hA hx hcl
      have hWz : Is w z.val := (((Is.refl w).alloc _).alloc _).step z
      replace hc0 := (hWz.below.cell (p := ⟨b, o + i * 4, none⟩) hbb).trans hc0
      replace hc1 := (hWz.below.cell (p := ⟨b, o + i * 4 + 1, none⟩) hbb).trans hc1
      replace hc2 := (hWz.below.cell (p := ⟨b, o + i * 4 + 2, none⟩) hbb).trans hc2
      replace hc3 := (hWz.below.cell (p := ⟨b, o + i * 4 + 3, none⟩) hbb).trans hc3
      have hz0 : w.heap.size < z.val.heap.size := z.lt _ (by simp; omega)
      have hz1 : w.heap.size + 1 < z.val.heap.size := z.lt _ (by simp)
      have hz2 : w.heap.size + 2 < z.val.heap.size := (Array.getElem?_eq_some_iff.1 hb.blk).1
      have hbz : b < z.val.heap.size := by omega
      have hbzn : b ≠ z.val.heap.size := by omega
      have hWL : ∀ o', Is w (z.val.alloc o') := fun o' => hWz.alloc o'
      go_wp2_with (go_at_call 23; refine (had_calls l A2 A3 c2 c3 f _ F hle.out (h2.is ((hWL _).alloc _)) (h3.is ((hWL _).alloc _))).mono ?_; rintro e w1 ⟨rfl, ⟨x1, rfl⟩⟩; have hx1 : z.val.heap.size < x1.val.heap.size := x1.lt _ (by simp; omega); have hx2 : z.val.heap.size + 1 < x1.val.heap.size := x1.lt _ (by simp))
      have hA0 : Rep.Own (Rep.int .i64) 3 (x1.val.alloc (.cells #[.int .i64 (had l f).W, .int .u64 (had l f).V, .int .u64 (had l f).X] 41)) (z.val.heap.size + 1) NoB (.slice (some ⟨z.val.heap.size + 1, 0, none⟩) 1 1) [0] := by
        have h9 := Rep.Own.fresh (d := Rep.int .i64) (e := 3) (w := z.val.alloc (.cells #[.string l.Name, .int .i64 l.W, .slice A2 l.At.length c2, .slice A3 l.Val.length c3] 50)) (base := z.val.heap.size + 1) (F := NoB) (xs := [(0 : Int)]) (c := [.int .i64 0]) (Rep.All.one ⟨rfl, InK.mk64 (by omega)⟩) (by simp) (fun k hk => hk.elim) (by simp)
        simp only [World.size_alloc] at h9
        exact (h9.below x1.ok).below ((Is.refl _).alloc _).below
      have hV0 : Rep.Own kBits 41 (x1.val.alloc (.cells #[.int .i64 (had l f).W, .int .u64 (had l f).V, .int .u64 (had l f).X] 41)) (z.val.heap.size + 1) NoB (.slice (some ⟨x1.val.heap.size, 0, none⟩) 1 1) [had l f] :=
        Rep.Own.fresh (d := kBits) (e := 41) (w := x1.val) (base := z.val.heap.size + 1) (F := NoB) (xs := [had l f]) (c := [.int .i64 (had l f).W, .int .u64 (had l f).V, .int .u64 (had l f).X]) (Rep.All.one (kBits_iff.2 ⟨rfl, had_ok h3 hle.out f⟩)) (by omega) (fun k hk => hk.elim) (by simp)
      go_loopg [10, 11, 13, 33] l.At.length (fun d' vA vV _ n wr => ∃ (j : Nat) (ats : List Int) (vals : List Bits) (y : Under (z.val.alloc (.cells #[.string l.Name, .int .i64 l.W, .slice A2 l.At.length c2, .slice A3 l.Val.length c3] 50))),
        n = .int .i64 j ∧ wr = y.val ∧ Rep.Own (Rep.int .i64) 3 y.val (z.val.heap.size + 1) NoB vA ats ∧ Rep.Own kBits 41 y.val (z.val.heap.size + 1) NoB vV vals ∧ (∀ k, vA.ownBlock = some k → vV.ownBlock ≠ some k) ∧
        Aside (j + d' = l.At.length ∧ ats ++ cutT f tq (l.At.drop j) = 0 :: cutT f tq l.At ∧ vals ++ cutV l f tq (l.At.drop j) = had l f :: cutV l f tq l.At ∧ ats.length ≤ j + 1 ∧ vals.length = ats.length))
      case atStart =>
        obtain ⟨y, hy⟩ : ∃ y : Under (z.val.alloc (.cells #[.string l.Name, .int .i64 l.W, .slice A2 l.At.length c2, .slice A3 l.Val.length c3] 50)), x1.val.alloc (.cells #[.int .i64 (had l f).W, .int .u64 (had l f).V, .int .u64 (had l f).X] 41) = y.val := ((((Is.refl _).alloc _).step x1).alloc _)
        rw [hy] at hA0 hV0
        exact ⟨0, [0], [had l f], y, rfl, hy, hA0, hV0, fun k hk hk2 => by simp [Value.ownBlock] at hk hk2; omega, by omega, rfl, rfl, by simp, rfl⟩
      case round =>
        obtain ⟨j, ats, vals, y, rfl, rfl, hoA, hoV, n3, hA⟩ := hrel
        clear hA0 hV0
        have hyL : y.val.heap[z.val.heap.size]? = some (.cells #[.string l.Name, .int .i64 l.W, .slice A2 l.At.length c2, .slice A3 l.Val.length c3] 50 (0, 0)) := (y.ok.block _ (by simp)).trans (heap_alloc_new _ _)
        have g0 := cell_of_row y.val z.val.heap.size 0 _ _ _ hyL
        have g1 := cell_of_row y.val z.val.heap.size 1 _ _ _ hyL
        have g2 := cell_of_row y.val z.val.heap.size 2 _ _ _ hyL
        have g3 := cell_of_row y.val z.val.heap.size 3 _ _ _ hyL
        simp at g0 g1 g2 g3
        have hyz : z.val.heap.size < y.val.heap.size := y.lt _ (by simp)
        have hWy : Is w y.val := (hWL _).step y
        by_cases hlj : j < l.At.length
        · obtain ⟨t, hta⟩ := get_ex hlj
          have hr := hrange.out t (List.mem_of_getElem? hta)
          have hr0 := hr.1
          have hr1 := hr.2
          obtain ⟨b2, o2, rfl, hb2, hct, hkt⟩ := Rep.rowInt h2.row hta
          replace hct := (hWy.below.cell (p := ⟨b2, o2 + j, none⟩) hb2).trans hct
          have hb2y : b2 < y.val.heap.size := by omega
          obtain ⟨gk, rfl⟩ : ∃ m, gk = m + 1 := ⟨gk - 1, by have := hA.out.1; omega⟩
          have hstj := Lib.hid hA.out
          have hta2 := Lib.hid hta
          clear hA hta hr
          by_cases hc : inCut f tq t = true
          · have hc' := hc
            simp only [inCut, Bool.and_eq_true, decide_eq_true_eq] at hc'
            have q1 := hc'.1
            have q2 := hc'.2
            have hch := Lib.hid hc
            clear hc hc'
            obtain ⟨oA, hoAe⟩ : ∃ oA, u10.ownBlock = oA := ⟨_, rfl⟩
            obtain ⟨oV, hoVe⟩ : ∃ oV, u11.ownBlock = oV := ⟨_, rfl⟩
            have la : ∀ k, oA = some k → z.val.heap.size + 1 ≤ k ∧ k < y.val.heap.size := fun k hk => hoA.lt k (hoAe.trans hk)
            have lv : ∀ k, oV = some k → z.val.heap.size + 1 ≤ k ∧ k < y.val.heap.size := fun k hk => hoV.lt k (hoVe.trans hk)
            have hGk : ∀ k, (oA = some k ∨ oV = some k) → z.val.heap.size + 1 ≤ k := fun k hk => hk.elim (fun h => (la k h).1) (fun h => (lv k h).1)
            have d1 : ¬ oA = some z.val.heap.size := fun e => by have := la _ e; omega
            have d2 : ¬ oV = some z.val.heap.size := fun e => by have := lv _ e; omega
            have w1 : wrap64 (t - f) = t - f := by unfold wrap64; omega
            have hlenA : ats.length ≤ 20001 := by have := hstj.out.2.2.2.1; have := hfew.out; omega
            have hlenV : vals.length ≤ 20001 := by have := hstj.out.2.2.2.2; omega
            have hby : z.val.heap.size + 1 ≤ y.val.heap.size := by omega
            have hoAh := Lib.hid hoAe
            have hoVh := Lib.hid hoVe
            clear hoAe hoVe
            go_wp2
            refine wp_region_splitT (fun w' => ∃ z' : But y.val (fun k => oA = some k ∨ oV = some k), w' = z'.val) [true, true, true, true, false, false, true, true, true, false, false, false, false, false] (by kernel_rfl) (by kernel_rfl) (by decide) ⟨(But.refl _ _).drew, rfl⟩ (fun _ _ d _ _ h => by cases d <;> exact h) ?_
            simp only [pickB, dropB]
            repeat (go_big_quiet_step (fail))
            refine wpQuiet_nil ?_
            refine wpListT_step (fun Q' hQ' => ?_)
            go_wp2_with fail
            refine ⟨⟨((But.refl _ _).alloc _).drew, rfl⟩, ?_⟩
            have h7 : (y.val.alloc (.cells #[.int .i64 (t - f)] 3)).drew.heap[y.val.heap.size]? = some (.cells #[.int .i64 (t - f)] 3 (0, 0)) := heap_alloc_new _ _
            have hA7 : Rep.Own (Rep.int .i64) 3 (y.val.alloc (.cells #[.int .i64 (t - f)] 3)).drew (z.val.heap.size + 1) NoB u10 ats := hoA.step (fun k _ hl => Below.heap_alloc y.val _ k hl)
            have hV7 : Rep.Own kBits 41 (y.val.alloc (.cells #[.int .i64 (t - f)] 3)).drew (z.val.heap.size + 1) NoB u11 vals := hoV.step (fun k _ hl => Below.heap_alloc y.val _ k hl)
            refine wpListT_step (fun Q' hQ' => ?_)
            go_wp2_with (at_builtin; refine wpList_slF (Rep.Flat.int _) rfl (.tmp 45) (.tmp 49) rfl intT rfl rfl hA7 (Rep.sl_one (y := t - f) (c := [.int .i64 (t - f)]) (F := fun k => k = y.val.heap.size) h7 ⟨rfl, InK.mk64 (by omega)⟩ rfl) (le_maxLen (by simp; omega)) (by simp; omega) (by simp; omega) ?_; intro vA' w8 ho8 hg8')
            have hg8 : Grew (y.val.alloc (.cells #[.int .i64 (t - f)] 3)).drew w8 _ vA' := hg8'
            clear hg8'
            obtain ⟨y8, hy8⟩ := (((But.refl y.val (fun k => oA = some k ∨ oV = some k)).alloc (.cells #[.int .i64 (t - f)] 3)).drew).grewB hg8 (fun k hk => .inl (hoAh.out ▸ hk))
            subst hy8
            have hV8 : Rep.Own kBits 41 y8.val (z.val.heap.size + 1) NoB u11 vals := hV7.step (fun k hk hl => hg8.by_.block k hl (fun e => hk.elim (fun h => h.elim) (fun h => n3 k e.symm h)))
            have n8 : ∀ k, vA'.ownBlock = some k → u11.ownBlock ≠ some k := fun k hk hk2 => by
              rcases hg8.at_ with h | h
              · exact n3 k (h ▸ hk) hk2
              · have q1 := h k hk
                have q2 := lv k (hoVh.out ▸ hk2)
                simp at q1
                omega
            have s8 := y8.size
            have hW8 : Is w y8.val := y8.is hWy (fun k hk => by have := hGk k hk; omega)
            have hL8 : y8.val.heap[z.val.heap.size]? = some (.cells #[.string l.Name, .int .i64 l.W, .slice (some ⟨b2, o2, none⟩) l.At.length c2, .slice A3 l.Val.length c3] 50 (0, 0)) := (y8.block _ hyz (fun h => h.elim d1 d2)).trans hyL
            refine ⟨⟨y8, rfl⟩, ?_⟩
            refine wpListT_step (fun Q' hQ' => ?_)
            go_wp2_with (go_at_call 23; refine (had_calls l (some ⟨b2, o2, none⟩) A3 c2 c3 t _ F hle.out (h2.is hW8) (h3.is hW8)).mono ?_; rintro e w9 ⟨rfl, ⟨x9, rfl⟩⟩)
            have hA9 : Rep.Own (Rep.int .i64) 3 x9.val (z.val.heap.size + 1) NoB vA' (ats ++ [t - f]) := ho8.below x9.ok
            have hV9 : Rep.Own kBits 41 x9.val (z.val.heap.size + 1) NoB u11 vals := hV8.below x9.ok
            have s9 := x9.size
            refine ⟨⟨y8.under x9, rfl⟩, ?_⟩
            refine wpListT_step (fun Q' hQ' => ?_)
            go_wp2_with fail
            refine ⟨⟨(y8.under x9).alloc _, rfl⟩, ?_⟩
            have h14 : (x9.val.alloc (.cells #[.int .i64 (had l t).W, .int .u64 (had l t).V, .int .u64 (had l t).X] 41)).heap[x9.val.heap.size]? = some (.cells #[.int .i64 (had l t).W, .int .u64 (had l t).V, .int .u64 (had l t).X] 41 (0, 0)) := heap_alloc_new _ _
            have hA14 : Rep.Own (Rep.int .i64) 3 (x9.val.alloc (.cells #[.int .i64 (had l t).W, .int .u64 (had l t).V, .int .u64 (had l t).X] 41)) (z.val.heap.size + 1) NoB vA' (ats ++ [t - f]) := hA9.step (fun k _ hl => Below.heap_alloc x9.val _ k hl)
            have hV14 : Rep.Own kBits 41 (x9.val.alloc (.cells #[.int .i64 (had l t).W, .int .u64 (had l t).V, .int .u64 (had l t).X] 41)) (z.val.heap.size + 1) NoB u11 vals := hV9.step (fun k _ hl => Below.heap_alloc x9.val _ k hl)
            refine wpListT_step (fun Q' hQ' => ?_)
            go_wp2_with (at_builtin; refine wpList_slF kBits_flat rfl (.tmp 51) (.tmp 55) rfl bitsT rfl rfl hV14 (Rep.sl_one (y := had l t) (c := [.int .i64 (had l t).W, .int .u64 (had l t).V, .int .u64 (had l t).X]) (F := fun k => k = x9.val.heap.size) h14 (kBits_iff.2 ⟨rfl, had_ok h3 hle.out t⟩) rfl) (le_maxLen (by simp; omega)) (by simp; omega) (by simp; omega) ?_; intro vV' w15 ho15 hg15')
            have hg15 : Grew (x9.val.alloc (.cells #[.int .i64 (had l t).W, .int .u64 (had l t).V, .int .u64 (had l t).X] 41)) w15 _ vV' := hg15'
            clear hg15'
            obtain ⟨y15, hy15⟩ := ((y8.under x9).alloc (.cells #[.int .i64 (had l t).W, .int .u64 (had l t).V, .int .u64 (had l t).X] 41)).grewB hg15 (fun k hk => .inr (hoVh.out ▸ hk))
            subst hy15
            have hA15 : Rep.Own (Rep.int .i64) 3 y15.val (z.val.heap.size + 1) NoB vA' (ats ++ [t - f]) := hA14.step (fun k hk hl => hg15.by_.block k hl (fun e => hk.elim (fun h => h.elim) (fun h => n8 k h e.symm)))
            have n15 : ∀ k, vA'.ownBlock = some k → vV'.ownBlock ≠ some k := fun k hk hk2 => by
              rcases hg15.at_ with h | h
              · exact n8 k hk (h ▸ hk2)
              · have q1 := h k hk2
                have q2 := (hA14.lt k hk).2
                omega
            have hWl : Is (z.val.alloc (.cells #[.string l.Name, .int .i64 l.W, .slice (some ⟨b2, o2, none⟩) l.At.length c2, .slice A3 l.Val.length c3] 50)) y15.val := y15.is (Is.val y) (fun k hk => by have := hGk k hk; simp; omega)
            refine ⟨⟨y15, rfl⟩, ?_⟩
            refine wpListT_step (fun Q' hQ' => ?_)
            go_wp2
            refine ⟨⟨y15, rfl⟩, ?_⟩
            refine wpListT_last (fun Q' hQ' => ?_)
            go_wp2
            go_roundg gk
            case measure => omega
            case rel =>
              obtain ⟨q, hq⟩ := hWl
              refine ⟨j + 1, ats ++ [t - f], vals ++ [had l t], q, by go_num, hq, hq ▸ hA15, hq ▸ ho15, n15, ?_⟩
              have h0 := hstj.out
              refine ⟨by omega, ?_, ?_, by simp; omega, by simp; omega⟩
              · rw [← h0.2.1, drop_cons hta2.out, cutT, if_pos hch.out]
                simp
              · rw [← h0.2.2.1, drop_cons hta2.out, cutV, if_pos hch.out]
                simp
          · have hc' : inCut f tq t = false := by simpa using hc
            have hch := Lib.hid hc'
            have hor : ¬ f < t ∨ ¬ t ≤ tq := by
              by_cases q : f < t
              · exact .inr (fun q2 => hc (by simp [inCut, q, q2]))
              · exact .inl q
            clear hc hc'
            rcases hor with hor | hor
            · go_wp2
              go_roundg gk
              case measure => omega
              case rel => exact ⟨j + 1, ats, vals, y, by go_num, rfl, hoA, hoV, n3, by
                have h0 := hstj.out
                refine ⟨by omega, ?_, ?_, by omega, h0.2.2.2.2⟩
                · rw [← h0.2.1, drop_cons hta2.out, cutT, if_neg (by rw [hch.out]; decide)]
                · rw [← h0.2.2.1, drop_cons hta2.out, cutV, if_neg (by rw [hch.out]; decide)]⟩
            · by_cases q : f < t
              · go_wp2
                go_roundg gk
                case measure => omega
                case rel => exact ⟨j + 1, ats, vals, y, by go_num, rfl, hoA, hoV, n3, by
                  have h0 := hstj.out
                  refine ⟨by omega, ?_, ?_, by omega, h0.2.2.2.2⟩
                  · rw [← h0.2.1, drop_cons hta2.out, cutT, if_neg (by rw [hch.out]; decide)]
                  · rw [← h0.2.2.1, drop_cons hta2.out, cutV, if_neg (by rw [hch.out]; decide)]⟩
              · go_wp2
                go_roundg gk
                case measure => omega
                case rel => exact ⟨j + 1, ats, vals, y, by go_num, rfl, hoA, hoV, n3, by
                  have h0 := hstj.out
                  refine ⟨by omega, ?_, ?_, by omega, h0.2.2.2.2⟩
                  · rw [← h0.2.1, drop_cons hta2.out, cutT, if_neg (by rw [hch.out]; decide)]
                  · rw [← h0.2.2.1, drop_cons hta2.out, cutV, if_neg (by rw [hch.out]; decide)]⟩
        · obtain rfl : j = l.At.length := by have := hA.out.1; omega
          have hAo := hA.out
          rw [drop_end, cutT, cutV, List.append_nil, List.append_nil] at hAo
          have hatsE := hAo.2.1
          have hvalsE := hAo.2.2.1
          have hlenA : ats.length ≤ 20001 := by have := hAo.2.2.2.1; have := hfew.out; omega
          have hlenE := hAo.2.2.2.2
          have hatsh := Lib.hid hatsE
          have hvalsh := Lib.hid hvalsE
          have hlenEh := Lib.hid hlenE
          clear hA hAo hatsE hvalsE hlenE
          obtain ⟨A5, c5, rfl, hs5⟩ := hoA.sl
          obtain ⟨A6, c6, rfl, hs6⟩ := hoV.sl
          obtain ⟨oL, hoL⟩ : ∃ oL, vL.ownBlock = oL := ⟨_, rfl⟩
          obtain ⟨FL, hOwn, hFL⟩ := hb.own
          have ll : ∀ k, oL = some k → w.heap.size + 2 ≤ k ∧ k < z.val.heap.size := fun k hk => hOwn.lt k (hoL.trans hk)
          have d1 : ¬ oL = some z.val.heap.size := fun e => by have := ll _ e; omega
          have d2 : ¬ oL = some (w.heap.size + 2) := hoL ▸ hb.n1
          have hzy : Is z.val y.val := ((Is.refl z.val).alloc _).step y
          have hby := hb.step hzy.below
          have hbblk := hby.blk
          have b0 := cell_of_row y.val (w.heap.size + 2) 0 _ _ _ hbblk
          have b1 := cell_of_row y.val (w.heap.size + 2) 1 _ _ _ hbblk
          simp at b0 b1
          have hb2y : w.heap.size + 2 < y.val.heap.size := by omega
          have hoLh := Lib.hid hoL
          have hbyh := Lib.hid hby
          clear hoL hby
          have e12 : w.heap.size + 1 + 1 = w.heap.size + 2 := rfl
          go_wp2
          refine wp_region_splitT (fun w' => ∃ z' : But y.val (fun k => oL = some k), w' = z'.val) [true, true, true, true, true, true, true, true, false, false, false, false, false] (by kernel_rfl) (by kernel_rfl) (by decide) ⟨(But.refl _ _).drew, rfl⟩ (fun _ _ d _ _ h => by cases d <;> exact h) ?_
          simp only [pickB, dropB]
          repeat (go_big_quiet_step (fail))
          refine wpQuiet_nil ?_
          refine wpListT_step (fun Q' hQ' => ?_)
          go_wp2_with (go_at_call 60; refine (shown_calls l.Name l.W ats vals A5 A6 c5 c6 _ _ _ (hs5.is (Is.refl y.val).drew) (hs6.is (Is.refl y.val).drew) (by have := hlenEh.out; omega) (by omega)).mono ?_; rintro e w8 ⟨vA2, vV2, rfl, ho7, ho8, ⟨x8, rfl⟩⟩)
          have hzx : Is z.val x8.val := (hzy.drew).step x8
          have hA8 : Rep.Own (Rep.int .i64) 3 x8.val (z.val.heap.size + 1) NoB vA2 (cutLine l f tq).At := by
            unfold cutLine
            rw [← hatsh.out, ← hvalsh.out]
            exact ho7.lower (by simp; omega)
          have hV8 : Rep.Own kBits 41 x8.val (z.val.heap.size + 1) NoB vV2 (cutLine l f tq).Val := by
            unfold cutLine
            rw [← hatsh.out, ← hvalsh.out]
            exact ho8.lower (by simp; omega)
          have hbx := hbh.out.step hzx.below
          obtain ⟨FN, A2', c2', A3', c3', rfl, rfl, hOwnF, hrel, hFN⟩ := hbx.push hA8 hV8 hk (fun k hk => by have := ll k (hoLh.out ▸ hk); omega) (by omega)
          have s8 := x8.size
          simp at s8
          have hlenL : ((x.Lines.take i).map (fun l => cutLine l f tq)).length = i := by simp; omega
          have hin : i ≤ 160 := by omega
          have hbxh := Lib.hid hbx
          have hinh := Lib.hid hin
          clear hbx
          refine ⟨⟨((But.refl _ _).drew).under x8, rfl⟩, ?_⟩
          refine wpListT_step (fun Q' hQ' => ?_)
          go_wp2_with fail
          refine ⟨⟨(((But.refl _ _).drew).under x8).alloc _, rfl⟩, ?_⟩
          refine wpListT_step (fun Q' hQ' => ?_)
          go_wp2_with (at_builtin; refine wpList_one rfl (.tmp 59) (.tmp 67) rfl linesT (w0 := x8.val) (c := [.string l.Name, .int .i64 l.W, .slice A2' (cutLine l f tq).At.length c2', .slice A3' (cutLine l f tq).Val.length c3']) (te := 50) rfl rfl hOwnF (y := cutLine l f tq) hrel (fun k hk => (hFN k hk).2.1) (le_maxLen (by rw [hlenL]; omega)) (by rw [hlenL]; omega) (by omega) ?_; intro v' w10 ho10 hg10)
          obtain ⟨hblk10, hW10⟩ := hbxh.out.done ho10 hg10 hFN
          obtain ⟨y10, hy10⟩ := (((But.refl y.val (fun k => oL = some k)).drew).under x8).grewB hg10 (fun k hk => hoLh.out ▸ hk)
          have hIs : Is ((w.alloc (.cells #[.int .i64 x.End, .slice (some ⟨b, o, none⟩) x.Lines.length c] 24)).alloc (.cells #[.int .i64 0, .slice none 0 0] 24)) (w10.setCell ⟨w.heap.size + 2, 1, none⟩ v') := (((Is.val z).trans hzx).grown hg10.by_ (fun k hk => by have := ll k (hoLh.out ▸ hk); simp; omega)).setCell (by simp) _
          subst hy10
          have hlen10 : ((x.Lines.take i).map (fun l => cutLine l f tq) ++ [cutLine l f tq]).length = i + 1 := by rw [List.length_append, hlenL]; rfl
          have hlist : (x.Lines.take i).map (fun l => cutLine l f tq) ++ [cutLine l f tq] = (x.Lines.take (i + 1)).map (fun l => cutLine l f tq) := by rw [List.take_add_one, hxh.out]; simp
          obtain ⟨A10, c10, rfl, hs10⟩ := ho10.sl
          have k1 := cell_of_row y10.val (w.heap.size + 2) 1 _ _ _ hblk10
          simp at k1
          have hfz : ∀ j, y10.val.frozen? ⟨w.heap.size + 2, j, none⟩ = false := fun j => frozen_of_row _ _ _ _ _ hblk10
          have hg10l : w.heap.size + 2 < y10.val.heap.size := (Array.getElem?_eq_some_iff.1 hblk10).1
          rw [hlen10] at hW10 hIs
          have hW10h := Lib.hid hW10
          have hlisth := Lib.hid hlist
          clear hlist hW10 hlenL hbxh hrel hOwnF ho10 hs10 hg10 hzx hA8 hV8
          refine ⟨⟨y10, rfl⟩, ?_⟩
          refine wpListT_step (fun Q' hQ' => ?_)
          go_wp2
          refine ⟨⟨y10, rfl⟩, ?_⟩
          refine wpListT_last (fun Q' hQ' => ?_)
          rw [hlen10]
          go_wp2
          go_roundg gi
          case measure => omega
          case rel =>
            obtain ⟨q, hq⟩ := hIs
            refine ⟨i + 1, .slice A10 (i + 1) c10, q, by go_num, hq, ?_, by have := hst.out; unfold Aside; omega⟩
            rw [← hlisth.out, ← hq]
            exact hW10h.out
    · obtain rfl : i = x.Lines.length := by have := hA.out; omega
      rw [List.take_length] at hb
      have hz0 : w.heap.size < z.val.heap.size := z.lt _ (by simp; omega)
      have hz1 : w.heap.size + 1 < z.val.heap.size := z.lt _ (by simp)
      have hrr : z.val.heap[w.heap.size + 1]? = some (.cells #[.int .i64 0, .slice none 0 0] 24 (0, 0)) := (z.ok.block _ (by simp)).trans (heap_alloc2_new w _ _)
      have hfz : ∀ j, z.val.frozen? ⟨w.heap.size + 1, j, none⟩ = false := fun j => frozen_of_row _ _ _ _ _ hrr
      have w0 := cell_of_row z.val (w.heap.size + 1) 0 _ _ _ hrr
      have w1 := cell_of_row z.val (w.heap.size + 1) 1 _ _ _ hrr
      have b0 := cell_of_row z.val (w.heap.size + 2) 0 _ _ _ hb.blk
      have b1 := cell_of_row z.val (w.heap.size + 2) 1 _ _ _ hb.blk
      simp at w0 w1 b0 b1
      have hzg : w.heap.size + 2 < z.val.heap.size := (Array.getElem?_eq_some_iff.1 hb.blk).1
      have hWz : Is w z.val := (((Is.refl w).alloc _).alloc _).step z
      obtain ⟨FL, hOwn, hFL⟩ := hb.own
      obtain ⟨AL, cL, rfl, hsL⟩ := hOwn.sl
      have hrh := Lib.hid hrr
      have hbl := fun k hk => (hOwn.lt k hk).1
      clear hA hrr hb
      go_wp2
      have hrow := heap_setCell_same _ (w.heap.size + 1) 1 _ _ (.slice AL x.Lines.length cL) (heap_setCell_same z.val (w.heap.size + 1) 0 _ _ (.int .i64 (tq - f)) hrh.out)
      ((try simp only [Exit.inBlock, Exit.then]); refine bodyPost_ret (results_cell_row rfl _ _ (w.heap.size + 1) _ _ _ _ rfl hrow Try.underlying24 rfl (by kernel_rfl)) rfl ?_)
      have hmap : (x.Lines.map (fun l => cutLine l f tq)).length = x.Lines.length := List.length_map _
      refine ⟨AL, cL, ?_, ?_, (hWz.setCell (by simp) _).setCell (by simp) _⟩
      · unfold cutOf
        simp
      · refine hsL.step (fun k hk hl => ⟨by simp; exact hl, (Below.heap_setCell _ ⟨w.heap.size + 1, 1, none⟩ _ k (fun e => ?_)).trans (Below.heap_setCell _ ⟨w.heap.size + 1, 0, none⟩ _ k (fun e => ?_))⟩)
        · rcases hk with hk | hk
          · have := (hFL k hk).1; have e' : k = w.heap.size + 1 := e; omega
          · have := hbl k hk; have e' : k = w.heap.size + 1 := e; omega
        · rcases hk with hk | hk
          · have := (hFL k hk).1; have e' : k = w.heap.size + 1 := e; omega
          · have := hbl k hk; have e' : k = w.heap.size + 1 := e; omega
end Go.Proofs.Ytabhafllkhoefaa
