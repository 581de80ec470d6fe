/- Joined by this session's own program out of its texts: Copy Loads2 Put Places Inject DetInv Read PFx11 PFx19 ListP. -/
import Derived.Test.YtimjccfpobhpeaaL1
import Derived.Test.YtimjccfpobhpeaaL2
import Derived.Test.YtimjccfpobhpeaaL0
import Derived.Laws.ResultCell
import Derived.Laws.Rows
import Derived.RangeFuncBox
import Derived.RangeFuncNested
import Derived.RangeFuncBound
import Derived.RangeFuncCalls
import Derived.RangeFuncLeaves
import Derived.Shelf.Abstract
import Derived.Shelf.RegionOpen
import Derived.WalkKit
import Derived.OwnWalkIn
import Derived.TacticsInMore
import Derived.LoopNIn
import Derived.LoopIn
import Derived.Maps.AppendAt
import Derived.Deep.QuietTactic
import Derived.BigQuiet
import Derived.Lib.Hide
import Derived.Test.YtimjccfpobhpeaaProg
import Derived.OrdersIn
import Derived.Deep.AppendLies
import Derived.Lib.AppendStr
import Derived.Deep.AppendSrc
import Derived.DeepKeys4
import Derived.KernelRfl
namespace Go.Proofs.Ytimjccfpobhpeaa
open Go.RowKit Go.Proofs.YtimjccfpobhpeaaW.PrintWords Go.Proofs.Ytimjccfpobhpeaa.PF
set_option maxRecDepth 100000
theorem heap_alloc2_new (w : World) (A B : Obj) : ((w.alloc A).alloc B).heap[w.heap.size + 1]? = some B := by
  have := heap_alloc_new (w.alloc A) B
  simpa using this
abbrev Gate := S80
abbrev Flop := S82
abbrev kGate := k80
abbrev kFlop := k82
def Under.setCell {w : World} (x : Under w) (p : Addr) (hp : w.heap.size ≤ p.block) (u : Value) : Under w := ⟨x.val.setCell p u, x.ok.setCell hp u⟩
theorem set5 {w : World} {g : Nat} {t : TypeId} {a0 a1 a2 a3 a4 : Value} (u0 u1 u2 u3 u4 : Value) (hb : w.heap[g]? = some (.cells #[a0, a1, a2, a3, a4] t (0, 0))) :
    (((((w.setCell ⟨g, 0, none⟩ u0).setCell ⟨g, 1, none⟩ u1).setCell ⟨g, 2, none⟩ u2).setCell ⟨g, 3, none⟩ u3).setCell ⟨g, 4, none⟩ u4).heap[g]? = some (.cells #[u0, u1, u2, u3, u4] t (0, 0)) ∧
    ∀ k, k ≠ g → (((((w.setCell ⟨g, 0, none⟩ u0).setCell ⟨g, 1, none⟩ u1).setCell ⟨g, 2, none⟩ u2).setCell ⟨g, 3, none⟩ u3).setCell ⟨g, 4, none⟩ u4).heap[k]? = w.heap[k]? := by
  constructor
  · have h0 := heap_setCell_same w g 0 _ _ u0 hb
    have h1 := heap_setCell_same _ g 1 _ _ u1 h0
    have h2 := heap_setCell_same _ g 2 _ _ u2 h1
    have h3 := heap_setCell_same _ g 3 _ _ u3 h2
    have h4 := heap_setCell_same _ g 4 _ _ u4 h3
    simpa using h4
  · intro k hk
    exact ((((Below.heap_setCell _ ⟨g, 4, none⟩ u4 k hk).trans (Below.heap_setCell _ ⟨g, 3, none⟩ u3 k hk)).trans (Below.heap_setCell _ ⟨g, 2, none⟩ u2 k hk)).trans (Below.heap_setCell _ ⟨g, 1, none⟩ u1 k hk)).trans (Below.heap_setCell w ⟨g, 0, none⟩ u0 k hk)
def flagK (w0 : World) : Kd (List Int × Bool) where
  sz := 1
  E := [3]
  K := fun w x cs => (x.2 = true → (Kd.slice 3 (Kd.int .i64)).K w x.1 cs) ∧ (x.2 = false → (Kd.slice 3 (Kd.int .i64)).K w0 x.1 cs)
  M := fun w base ok x cs => (x.2 = true → (Kd.slice 3 (Kd.int .i64)).M w base ok x.1 cs) ∧ (x.2 = false → (Kd.slice 3 (Kd.int .i64)).K w0 x.1 cs)
  K_len := fun {w x cs} h => by
    cases hx : x.2 with
    | true => exact (Kd.slice 3 (Kd.int .i64)).K_len (h.1 hx)
    | false => exact (Kd.slice 3 (Kd.int .i64)).K_len (h.2 hx)
  K_one := fun {w x cs} h => by
    cases hx : x.2 with
    | true => exact (Kd.slice 3 (Kd.int .i64)).K_one (h.1 hx)
    | false => exact (Kd.slice 3 (Kd.int .i64)).K_one (h.2 hx)
  K_below := fun hb h => ⟨fun hx => (Kd.slice 3 (Kd.int .i64)).K_below hb (h.1 hx), h.2⟩
  K_of_M := fun h => ⟨fun hx => (Kd.slice 3 (Kd.int .i64)).K_of_M (h.1 hx), h.2⟩
  M_mono := fun hok h => ⟨fun hx => (Kd.slice 3 (Kd.int .i64)).M_mono hok (h.1 hx), h.2⟩
  M_bound := fun h => ⟨fun hx => (Kd.slice 3 (Kd.int .i64)).M_bound (h.1 hx), h.2⟩
  M_move := fun hm h => ⟨fun hx => (Kd.slice 3 (Kd.int .i64)).M_move hm (h.1 hx), h.2⟩
  M_lower := fun hb h => ⟨fun hx => (Kd.slice 3 (Kd.int .i64)).M_lower hb (h.1 hx), h.2⟩
def kGateM (w0 : World) : Kd (Gate × Bool) := Kd.iso (Kd.pair (Kd.int .i64) (Kd.pair (Kd.int .u64) (flagK w0))) (fun x : Gate × Bool => (x.1.f0, x.1.f1, (x.1.f2, x.2)))
theorem kGateM_old {w0 w : World} {base : Nat} {ok : Nat → Prop} {x : Gate} {cs : List Value} (h : (kGateM w0).M w base ok (x, false) cs) : ∃ A2 c2, cs = [.int .i64 x.f0, .int .u64 x.f1, .slice A2 x.f2.length c2] ∧ (Kd.int .i64).C w0 A2 x.f2.length x.f2 := by
  obtain ⟨_, _, rfl, rfl, ⟨_, _, rfl, rfl, h2⟩⟩ := h
  obtain ⟨A2, c2, rfl, _, hc⟩ := h2.2 rfl
  exact ⟨A2, c2, rfl, hc⟩
theorem kGateM_new {w0 w : World} {base : Nat} {ok : Nat → Prop} {x : Gate} {v : Value} (h : (Kd.int .i64).R 3 w base ok v x.f2) : (kGateM w0).M w base ok (x, true) [.int .i64 x.f0, .int .u64 x.f1, v] :=
  ⟨[_], [_, _], rfl, rfl, [_], [_], rfl, rfl, fun _ => ⟨v, rfl, h⟩, fun h => absurd h (by simp)⟩
theorem kGateM_done {w0 w : World} {base : Nat} {ok : Nat → Prop} {x : Gate} {cs : List Value} (h : (kGateM w0).M w base ok (x, true) cs) : kGate.M w base ok x cs := by
  obtain ⟨_, _, rfl, rfl, ⟨_, _, rfl, rfl, h2⟩⟩ := h
  exact ⟨[_], _, rfl, rfl, [_], _, rfl, rfl, h2.1 rfl⟩
theorem zip_map {α β : Type} (g : α → β) (xs : List α) (j : Nat) {p : β × Nat} (h : (xs.map g).zipIdx[j]? = some p) : ∃ x, xs[j]? = some x ∧ p = (g x, j) := by
  rw [List.getElem?_zipIdx, Nat.zero_add, List.getElem?_map] at h
  cases hx : xs[j]? with
  | none => rw [hx] at h; simp at h
  | some x => rw [hx] at h; simp at h; exact ⟨x, rfl, h.symm⟩
theorem gates_start {w0 w : World} {B : Nat} {ok : Nat → Prop} {v : Value} {xs : List Gate} (h : Kd.R (kGateF w0) 80 w B (fun _ => True) v xs) (hv : ∀ k, v.ownBlock = some k → ok k) :
    Kd.S (kGateM w0) 80 w B ok v (xs.map fun x => (x, false)) := by
  obtain ⟨_, inner, ho, hr⟩ := h
  refine ⟨fun _ => 0, hv, inner, by rw [List.length_zipIdx, List.length_map]; exact ho, ⟨by rw [List.length_zipIdx, List.length_map]; exact hr.1, fun j p hp => ?_⟩⟩
  obtain ⟨x, hx, rfl⟩ := zip_map _ _ _ hp
  obtain ⟨_, _, e1, h1, ⟨_, _, e2, h2, h3⟩⟩ := hr.2 j x hx
  exact ⟨_, _, e1, h1, _, _, e2, h2, fun h => absurd h (by simp), fun _ => h3⟩
theorem gates_end {w0 w : World} {B : Nat} {ok : Nat → Prop} {v : Value} {xs : List Gate} (h : Kd.S (kGateM w0) 80 w B ok v (xs.map fun x => (x, true))) : Kd.S kGate 80 w B ok v xs := by
  obtain ⟨f, hv, inner, ho, hr⟩ := h
  have hl : (List.map (fun x => (x, true)) xs).zipIdx.length = xs.zipIdx.length := by simp
  refine ⟨f, hv, inner, by rw [← hl]; exact ho, ⟨by rw [← hl]; exact hr.1, fun j p hp => ?_⟩⟩
  have hp' : (xs.map id).zipIdx[j]? = some p := by rw [List.map_id]; exact hp
  obtain ⟨x, hx, rfl⟩ := zip_map id xs j hp'
  have := hr.2 j ((x, true), j) (by rw [List.getElem?_zipIdx, List.getElem?_map, hx]; simp)
  exact kGateM_done this
theorem flags_set {l : List Gate} {i : Nat} {x : Gate} (h : l[i]? = some x) : ((l.take i).map (fun x => (x, true)) ++ (l.drop i).map (fun x => (x, false))).set i (x, true) = (l.take (i + 1)).map (fun x => (x, true)) ++ (l.drop (i + 1)).map (fun x => (x, false)) := by
  have hi : i < l.length := (List.getElem?_eq_some_iff.1 h).1
  have hl : ((l.take i).map (fun x => (x, true))).length = i := by rw [List.length_map, List.length_take]; omega
  rw [drop_cons h, List.take_add_one, h, Option.toList_some, List.map_append, List.map_cons]
  generalize hA : (l.take i).map (fun x => (x, true)) = A at *
  subst hl
  rw [List.set_append_right A.length (x, true) (Nat.le_refl _), Nat.sub_self, List.set_cons_zero]
  simp
structure NetV (B : Nat) (w : World) (g : Nat) (v0 v1 v2 v3 v4 : Value) (l0 l1 : List ByteArray) (l2 : List Flop) (l4 : List Int) : Prop where
  blk : w.heap[g]? = some (.cells #[v0, v1, v2, v3, v4] 27 (0, 0))
  gB : B ≤ g
  r0 : Kd.R Kd.string 9 w B (fun _ => True) v0 l0
  r1 : Kd.R Kd.string 9 w B (fun _ => True) v1 l1
  r2 : Kd.R kFlop 82 w B (fun _ => True) v2 l2
  r4 : Kd.R (Kd.int .i64) 3 w B (fun _ => True) v4 l4
  n01 : ∀ k, v0.ownBlock = some k → v1.ownBlock ≠ some k
theorem NetV.below {B : Nat} {w w1 : World} {g : Nat} {v0 v1 v2 v3 v4 : Value} {l0 l1 : List ByteArray} {l2 : List Flop} {l4 : List Int} (h : NetV B w g v0 v1 v2 v3 v4 l0 l1 l2 l4) (hb : Below w.heap.size w w1) : NetV B w1 g v0 v1 v2 v3 v4 l0 l1 l2 l4 :=
  ⟨(hb.block g (Array.getElem?_eq_some_iff.1 h.blk).1).trans h.blk, h.gB, Kd.R_below h.r0 hb, Kd.R_below h.r1 hb, Kd.R_below h.r2 hb, Kd.R_below h.r4 hb, h.n01⟩
theorem NetV.gates {B : Nat} {w w1 : World} {g gg : Nat} {v0 v1 v2 v3 v4 : Value} {l0 l1 : List ByteArray} {l2 : List Flop} {l4 : List Int} (h : NetV B w g v0 v1 v2 v3 v4 l0 l1 l2 l4) {cells : Array Value} (hc : w.heap[gg]? = some (.cells cells 80 (0, 0))) (hg : w.grownBy w1 (some gg)) : NetV B w1 g v0 v1 v2 v3 v4 l0 l1 l2 l4 := by
  have mv : ∀ {α : Type} {d : Kd α} {e : Nat} {v : Value} {xs : List α}, Kd.R d e w B (fun _ => True) v xs → (∀ q, q ∈ e :: d.E → q ≠ 80) → Kd.R d e w1 B (fun _ => True) v xs := fun h ht =>
    Kd.R_mono (Kd.R_step (Kd.R_types h hc ht) (fun k hk hl => hg.block k hl (fun e => hk.2 (by injection e)))) (fun _ _ => trivial)
  have hne : g ≠ gg := by
    rintro rfl
    have := h.blk
    rw [hc] at this
    injection this with this
    injection this with _ this
    exact absurd this (by decide)
  exact ⟨(hg.block g (Array.getElem?_eq_some_iff.1 h.blk).1 (fun e => hne (by injection e))).trans h.blk, h.gB, mv h.r0 (by decide), mv h.r1 (by decide), mv h.r2 (by decide), mv h.r4 (by decide), h.n01⟩
structure CopyV (w0 : World) (B : Nat) (w : World) (g : Nat) (v0 v1 v2 v3 v4 : Value) (l0 l1 : List ByteArray) (l2 : List Flop) (l3 : List Gate) (l4 : List Int) : Prop where
  blk : w.heap[g]? = some (.cells #[v0, v1, v2, v3, v4] 27 (0, 0))
  gB : B ≤ g
  r0 : Kd.R Kd.string 9 w B (fun _ => True) v0 l0
  r1 : Kd.R Kd.string 9 w B (fun _ => True) v1 l1
  r2 : Kd.R kFlop 82 w B (fun _ => True) v2 l2
  r3 : Kd.R (kGateF w0) 80 w B (fun _ => True) v3 l3
  r4 : Kd.R (Kd.int .i64) 3 w B (fun _ => True) v4 l4
  n01 : ∀ k, v0.ownBlock = some k → v1.ownBlock ≠ some k
theorem CopyV.set {w0 : World} {B : Nat} {w : World} {g : Nat} {v0 v1 v2 v3 v4 a0 a1 a2 a3 a4 : Value} {l0 l1 : List ByteArray} {l2 : List Flop} {l3 : List Gate} {l4 : List Int}
    (hb : w.heap[g]? = some (.cells #[a0, a1, a2, a3, a4] 27 (0, 0))) (gB : B ≤ g) (r0 : Kd.R Kd.string 9 w B (fun _ => True) v0 l0) (r1 : Kd.R Kd.string 9 w B (fun _ => True) v1 l1)
    (r2 : Kd.R kFlop 82 w B (fun _ => True) v2 l2) (r3 : Kd.R (kGateF w0) 80 w B (fun _ => True) v3 l3) (r4 : Kd.R (Kd.int .i64) 3 w B (fun _ => True) v4 l4)
    (n01 : ∀ k, v0.ownBlock = some k → v1.ownBlock ≠ some k) :
    CopyV w0 B (((((w.setCell ⟨g, 0, none⟩ v0).setCell ⟨g, 1, none⟩ v1).setCell ⟨g, 2, none⟩ v2).setCell ⟨g, 3, none⟩ v3).setCell ⟨g, 4, none⟩ v4) g v0 v1 v2 v3 v4 l0 l1 l2 l3 l4 := by
  obtain ⟨hs, ho⟩ := set5 v0 v1 v2 v3 v4 hb
  have mv : ∀ {α : Type} {d : Kd α} {e : Nat} {v : Value} {xs : List α}, Kd.R d e w B (fun _ => True) v xs → (∀ q, q ∈ e :: d.E → q ≠ 27) → Kd.R d e _ B (fun _ => True) v xs := fun h ht =>
    Kd.R_mono (Kd.R_step (Kd.R_types h hb ht) (fun k hk _ => ho k hk.2)) (fun _ _ => trivial)
  exact ⟨hs, gB, mv r0 (by decide), mv r1 (by decide), mv r2 (by decide), mv r3 (fun q hq => by have h1 : q ∈ ([80] : List Nat) := hq; clear hq; revert q; decide), mv r4 (by decide), n01⟩
set_option maxHeartbeats 16000000 in
theorem copy_calls (A0 A1 A2 A3 A4 : Option Addr) (c0 c1 c2 c3 c4 : Nat) (l0 l1 : List ByteArray) (l2 : List Flop) (l3 : List Gate) (l4 : List Int) (w : World)
    (h0 : Kd.C Kd.string w A0 l0.length l0) (h1 : Kd.C Kd.string w A1 l1.length l1) (h2 : Kd.C kFlop w A2 l2.length l2) (h3 : Kd.C kGate w A3 l3.length l3) (h4 : Kd.C (Kd.int .i64) w A4 l4.length l4)
    (m0 : l0.length * 16 ≤ 140737488355328) (m1 : l1.length * 16 ≤ 140737488355328) (m2 : l2.length * 48 ≤ 140737488355328) (m3 : l3.length * 40 ≤ 140737488355328) (m4 : l4.length * 8 ≤ 140737488355328) (m5 : ∀ x ∈ l3, x.f2.length * 8 ≤ 140737488355328) :
    Calls Try.prog 29 #[.agg #[.slice A0 l0.length c0, .slice A1 l1.length c1, .slice A2 l2.length c2, .slice A3 l3.length c3, .slice A4 l4.length c4]] w fun e w' => ∃ v0 v1 v2 v3 v4 : Value, e = .returned (.agg #[v0, v1, v2, v3, v4]) ∧
      Kd.R Kd.string 9 w' w.heap.size (fun k => some k ≠ v1.ownBlock) v0 l0 ∧ Kd.R Kd.string 9 w' w.heap.size (fun k => some k ≠ v0.ownBlock) v1 l1 ∧ Kd.R kFlop 82 w' w.heap.size (fun _ => True) v2 l2 ∧
      Kd.S kGate 80 w' w.heap.size (fun k => some k ≠ v4.ownBlock) v3 l3 ∧ Kd.R (Kd.int .i64) 3 w' w.heap.size (fun _ => True) v4 l4 ∧ Below w.heap.size w w' := by
  have hu := Try.underlying27
  have hu0 := Try.underlying22
  have hu2 := Try.underlying23
  have hu3 := Try.underlying24
  have hu4 := Try.underlying25
  have bel : ∀ x : Under ((w.alloc (.cells #[.slice A0 l0.length c0, .slice A1 l1.length c1, .slice A2 l2.length c2, .slice A3 l3.length c3, .slice A4 l4.length c4] 27)).alloc (.cells #[.slice none 0 0, .slice none 0 0, .slice none 0 0, .slice none 0 0, .slice none 0 0] 27)), Below w.heap.size w x.val := fun x => (((Below.refl _ _).alloc (Nat.le_refl _) _).alloc (by simp) _).trans (x.ok.mono (by simp; omega))
  have hsz : ∀ x : Under ((w.alloc (.cells #[.slice A0 l0.length c0, .slice A1 l1.length c1, .slice A2 l2.length c2, .slice A3 l3.length c3, .slice A4 l4.length c4] 27)).alloc (.cells #[.slice none 0 0, .slice none 0 0, .slice none 0 0, .slice none 0 0, .slice none 0 0] 27)), w.heap.size + 2 ≤ x.val.heap.size := fun x => Nat.le_trans (by simp) x.size
  go_enter Try.func29, Try.ntmps29
  go_upto_region 1 with (fail)
  go_cut [3] (fun s wc => ∃ (g : Nat) (v0 v1 v2 v3 v4 : Value) (x : Under ((w.alloc (.cells #[.slice A0 l0.length c0, .slice A1 l1.length c1, .slice A2 l2.length c2, .slice A3 l3.length c3, .slice A4 l4.length c4] 27)).alloc (.cells #[.slice none 0 0, .slice none 0 0, .slice none 0 0, .slice none 0 0, .slice none 0 0] 27))), s = .pointer (some ⟨g, 0, none⟩) ∧ wc = x.val ∧ CopyV w (w.heap.size + 2) x.val g v0 v1 v2 v3 v4 l0 l1 l2 l3 l4)
  case first =>
    refine wp_region_splitA (fun w' => ∃ y : Under ((w.alloc (.cells #[.slice A0 l0.length c0, .slice A1 l1.length c1, .slice A2 l2.length c2, .slice A3 l3.length c3, .slice A4 l4.length c4] 27)).alloc (.cells #[.slice none 0 0, .slice none 0 0, .slice none 0 0, .slice none 0 0, .slice none 0 0] 27)), w' = y.val) [true, true, false, true, true, false, true, true, false, true, true, false, true, true, false, false, false, false] 8 #[true, true, false, true, true, false, true, true, false, true, true, false, true, true, false, false, false, false] (by kernel_rfl) (by kernel_rfl) (by decide) (by decide) ⟨(Under.refl _).drew, rfl⟩ (fun _ _ d _ _ h => by cases d <;> exact h) ?_
    simp only [pickB]
    repeat (go_big_quiet_step (fail))
    refine wpQuiet_nil ?_
    obtain ⟨x0, hx0⟩ : ∃ x : Under ((w.alloc (.cells #[.slice A0 l0.length c0, .slice A1 l1.length c1, .slice A2 l2.length c2, .slice A3 l3.length c3, .slice A4 l4.length c4] 27)).alloc (.cells #[.slice none 0 0, .slice none 0 0, .slice none 0 0, .slice none 0 0, .slice none 0 0] 27)), ((w.alloc (.cells #[.slice A0 l0.length c0, .slice A1 l1.length c1, .slice A2 l2.length c2, .slice A3 l3.length c3, .slice A4 l4.length c4] 27)).alloc (.cells #[.slice none 0 0, .slice none 0 0, .slice none 0 0, .slice none 0 0, .slice none 0 0] 27)).drew = x.val := ⟨(Under.refl _).drew, rfl⟩
    rw [hx0]
    clear hx0
    refine anyT_two (i := 2) (j := 16) #[true, true, true, true, true, false, true, true, false, true, true, false, true, true, false, false, false, false] #[true, true, false, true, true, false, true, true, false, true, true, false, true, true, false, false, true, false] (by kernel_rfl) rfl rfl (by decide) (by decide) (fun Q' hQ' => ?_) (fun Q' hQ' => ?_)
    · skip
      go_wp2_with (go_at_call 30; refine (clone_strs A0 c0 l0 _ (Kd.C_below h0 (bel x0)) m0).mono ?_; rintro e w' ⟨v0, rfl, hv0, hB0⟩; obtain ⟨x1, rfl⟩ : ∃ x : Under ((w.alloc (.cells #[.slice A0 l0.length c0, .slice A1 l1.length c1, .slice A2 l2.length c2, .slice A3 l3.length c3, .slice A4 l4.length c4] 27)).alloc (.cells #[.slice none 0 0, .slice none 0 0, .slice none 0 0, .slice none 0 0, .slice none 0 0] 27)), w' = x.val := ⟨⟨_, x0.ok.trans (hB0.mono x0.size)⟩, rfl⟩; have hlo0 := Kd.R_base hv0; replace hv0 := Kd.R_lower hv0 (hsz x0); clear hB0 hlo0)
      refine ⟨(by first | exact .inr ⟨x1, rfl⟩ | exact ⟨x1, rfl⟩), ?_⟩
      refine anyT_two (i := 5) (j := 16) #[true, true, true, true, true, true, true, true, false, true, true, false, true, true, false, false, false, false] #[true, true, true, true, true, false, true, true, false, true, true, false, true, true, false, false, true, false] (by kernel_rfl) rfl rfl (by decide) (by decide) (fun Q' hQ' => ?_) (fun Q' hQ' => ?_)
      · skip
        have hlt0 := Kd.R_lt hv0
        go_wp2_with (go_at_call 30; refine (clone_strs A1 c1 l1 _ (Kd.C_below h1 (bel x1)) m1).mono ?_; rintro e w' ⟨v1, rfl, hv1, hB1⟩; obtain ⟨x2, rfl⟩ : ∃ x : Under ((w.alloc (.cells #[.slice A0 l0.length c0, .slice A1 l1.length c1, .slice A2 l2.length c2, .slice A3 l3.length c3, .slice A4 l4.length c4] 27)).alloc (.cells #[.slice none 0 0, .slice none 0 0, .slice none 0 0, .slice none 0 0, .slice none 0 0] 27)), w' = x.val := ⟨⟨_, x1.ok.trans (hB1.mono x1.size)⟩, rfl⟩; replace hv0 := Kd.R_below hv0 hB1; have hlo1 := Kd.R_base hv1; replace hv1 := Kd.R_lower hv1 (hsz x1); have n01 : ∀ k, v0.ownBlock = some k → v1.ownBlock ≠ some k := fun k hk e => (by have h5 := hlt0 k hk; have h6 := hlo1 k e; omega); clear hB1 hlo1)
        clear hlt0
        refine ⟨(by first | exact .inr ⟨x2, rfl⟩ | exact ⟨x2, rfl⟩), ?_⟩
        refine anyT_two (i := 8) (j := 16) #[true, true, true, true, true, true, true, true, true, true, true, false, true, true, false, false, false, false] #[true, true, true, true, true, true, true, true, false, true, true, false, true, true, false, false, true, false] (by kernel_rfl) rfl rfl (by decide) (by decide) (fun Q' hQ' => ?_) (fun Q' hQ' => ?_)
        · skip
          go_wp2_with (go_at_call 54; refine (clone_flops A2 c2 l2 _ (Kd.C_below h2 (bel x2)) m2).mono ?_; rintro e w' ⟨v2, rfl, hv2, hB2⟩; obtain ⟨x3, rfl⟩ : ∃ x : Under ((w.alloc (.cells #[.slice A0 l0.length c0, .slice A1 l1.length c1, .slice A2 l2.length c2, .slice A3 l3.length c3, .slice A4 l4.length c4] 27)).alloc (.cells #[.slice none 0 0, .slice none 0 0, .slice none 0 0, .slice none 0 0, .slice none 0 0] 27)), w' = x.val := ⟨⟨_, x2.ok.trans (hB2.mono x2.size)⟩, rfl⟩; replace hv0 := Kd.R_below hv0 hB2; replace hv1 := Kd.R_below hv1 hB2; have hlo2 := Kd.R_base hv2; replace hv2 := Kd.R_lower hv2 (hsz x2); clear hB2 hlo2)
          refine ⟨(by first | exact .inr ⟨x3, rfl⟩ | exact ⟨x3, rfl⟩), ?_⟩
          refine anyT_two (i := 11) (j := 16) #[true, true, true, true, true, true, true, true, true, true, true, true, true, true, false, false, false, false] #[true, true, true, true, true, true, true, true, true, true, true, false, true, true, false, false, true, false] (by kernel_rfl) rfl rfl (by decide) (by decide) (fun Q' hQ' => ?_) (fun Q' hQ' => ?_)
          · skip
            go_wp2_with (go_at_call 55; refine (clone_gates A3 c3 l3 w _ (bel x3) h3 m3).mono ?_; rintro e w' ⟨v3, rfl, hv3, hB3⟩; obtain ⟨x4, rfl⟩ : ∃ x : Under ((w.alloc (.cells #[.slice A0 l0.length c0, .slice A1 l1.length c1, .slice A2 l2.length c2, .slice A3 l3.length c3, .slice A4 l4.length c4] 27)).alloc (.cells #[.slice none 0 0, .slice none 0 0, .slice none 0 0, .slice none 0 0, .slice none 0 0] 27)), w' = x.val := ⟨⟨_, x3.ok.trans (hB3.mono x3.size)⟩, rfl⟩; replace hv0 := Kd.R_below hv0 hB3; replace hv1 := Kd.R_below hv1 hB3; replace hv2 := Kd.R_below hv2 hB3; have hlo3 := Kd.R_base hv3; replace hv3 := Kd.R_lower hv3 (hsz x3); clear hB3 hlo3)
            refine ⟨(by first | exact .inr ⟨x4, rfl⟩ | exact ⟨x4, rfl⟩), ?_⟩
            refine anyT_two (i := 14) (j := 16) #[true, true, true, true, true, true, true, true, true, true, true, true, true, true, true, false, false, false] #[true, true, true, true, true, true, true, true, true, true, true, true, true, true, false, false, true, false] (by kernel_rfl) rfl rfl (by decide) (by decide) (fun Q' hQ' => ?_) (fun Q' hQ' => ?_)
            · skip
              go_wp2_with (go_at_call 56; refine (clone_ints A4 c4 l4 _ (Kd.C_below h4 (bel x4)) m4).mono ?_; rintro e w' ⟨v4, rfl, hv4, hB4⟩; obtain ⟨x5, rfl⟩ : ∃ x : Under ((w.alloc (.cells #[.slice A0 l0.length c0, .slice A1 l1.length c1, .slice A2 l2.length c2, .slice A3 l3.length c3, .slice A4 l4.length c4] 27)).alloc (.cells #[.slice none 0 0, .slice none 0 0, .slice none 0 0, .slice none 0 0, .slice none 0 0] 27)), w' = x.val := ⟨⟨_, x4.ok.trans (hB4.mono x4.size)⟩, rfl⟩; replace hv0 := Kd.R_below hv0 hB4; replace hv1 := Kd.R_below hv1 hB4; replace hv2 := Kd.R_below hv2 hB4; replace hv3 := Kd.R_below hv3 hB4; have hlo4 := Kd.R_base hv4; replace hv4 := Kd.R_lower hv4 (hsz x4); clear hB4 hlo4)
              refine ⟨(by first | exact .inr ⟨x5, rfl⟩ | exact ⟨x5, rfl⟩), ?_⟩
              refine anyT_two (i := 15) (j := 16) #[true, true, true, true, true, true, true, true, true, true, true, true, true, true, true, true, false, false] #[true, true, true, true, true, true, true, true, true, true, true, true, true, true, true, false, true, false] (by kernel_rfl) rfl rfl (by decide) (by decide) (fun Q' hQ' => ?_) (fun Q' hQ' => ?_)
              · skip
                obtain ⟨B0, d0, rfl⟩ := Kd.R_slice hv0
                obtain ⟨B1, d1, rfl⟩ := Kd.R_slice hv1
                obtain ⟨B2, d2, rfl⟩ := Kd.R_slice hv2
                obtain ⟨B3, d3, rfl⟩ := Kd.R_slice hv3
                obtain ⟨B4, d4, rfl⟩ := Kd.R_slice hv4
                go_wp2_with fail
                refine ⟨(by first | exact .inr ⟨x5, rfl⟩ | exact ⟨x5, rfl⟩), ?_⟩
                refine anyT_one (i := 16) #[true, true, true, true, true, true, true, true, true, true, true, true, true, true, true, true, true, false] (by kernel_rfl) rfl (by decide) (fun Q' hQ' => ?_)
                go_wp2_with fail
                have hg := heap_alloc_new x5.val (.cells #[.slice none 0 0, .slice none 0 0, .slice none 0 0, .slice none 0 0, .slice none 0 0] 27)
                have hBa := below_alloc (Below.refl x5.val.heap.size x5.val) (.cells #[.slice none 0 0, .slice none 0 0, .slice none 0 0, .slice none 0 0, .slice none 0 0] 27)
                have hgB := hsz x5
                have hgl : x5.val.heap.size < (x5.val.alloc (.cells #[.slice none 0 0, .slice none 0 0, .slice none 0 0, .slice none 0 0, .slice none 0 0] 27)).heap.size := by simp
                replace hv0 := Kd.R_below hv0 hBa
                replace hv1 := Kd.R_below hv1 hBa
                replace hv2 := Kd.R_below hv2 hBa
                replace hv3 := Kd.R_below hv3 hBa
                replace hv4 := Kd.R_below hv4 hBa
                obtain ⟨x5a, hx5a⟩ : ∃ x : Under ((w.alloc (.cells #[.slice A0 l0.length c0, .slice A1 l1.length c1, .slice A2 l2.length c2, .slice A3 l3.length c3, .slice A4 l4.length c4] 27)).alloc (.cells #[.slice none 0 0, .slice none 0 0, .slice none 0 0, .slice none 0 0, .slice none 0 0] 27)), x5.val.alloc (.cells #[.slice none 0 0, .slice none 0 0, .slice none 0 0, .slice none 0 0, .slice none 0 0] 27) = x.val := ⟨x5.alloc _, rfl⟩
                rw [hx5a] at hg hgl hv0 hv1 hv2 hv3 hv4 ⊢
                clear hx5a hBa
                generalize x5.val.heap.size = g at *
                refine ⟨(by first | exact .inr ⟨x5a, rfl⟩ | exact ⟨x5a, rfl⟩), ?_⟩
                refine anyT_one (i := 17) #[true, true, true, true, true, true, true, true, true, true, true, true, true, true, true, true, true, true] (by kernel_rfl) rfl (by decide) (fun Q' hQ' => ?_)
                have hgW : (((w.alloc (.cells #[.slice A0 l0.length c0, .slice A1 l1.length c1, .slice A2 l2.length c2, .slice A3 l3.length c3, .slice A4 l4.length c4] 27)).alloc (.cells #[.slice none 0 0, .slice none 0 0, .slice none 0 0, .slice none 0 0, .slice none 0 0] 27)).heap.size) ≤ g := by simp; omega
                have hgc0 : x5a.val.cell? ⟨g, 0, none⟩ = some (.slice none 0 0) := (cell_of_row x5a.val g 0 _ _ _ hg).trans rfl
                have hgc1 : x5a.val.cell? ⟨g, 1, none⟩ = some (.slice none 0 0) := (cell_of_row x5a.val g 1 _ _ _ hg).trans rfl
                have hgc2 : x5a.val.cell? ⟨g, 2, none⟩ = some (.slice none 0 0) := (cell_of_row x5a.val g 2 _ _ _ hg).trans rfl
                have hgc3 : x5a.val.cell? ⟨g, 3, none⟩ = some (.slice none 0 0) := (cell_of_row x5a.val g 3 _ _ _ hg).trans rfl
                have hgc4 : x5a.val.cell? ⟨g, 4, none⟩ = some (.slice none 0 0) := (cell_of_row x5a.val g 4 _ _ _ hg).trans rfl
                have hfz : ∀ j, x5a.val.frozen? ⟨g, j, none⟩ = false := fun j => frozen_of_row _ _ _ _ _ hg
                go_wp2_with fail
                refine ⟨(by first | exact .inl rfl | exact by kernel_rfl), ?_⟩
                refine anyT_end (by kernel_rfl) ?_
                go_wp2
                have hcv := CopyV.set hg hgB hv0 hv1 hv2 hv3 hv4 n01
                go_meet
                case rel => exact ⟨g, _, _, _, _, _, ((((x5a.setCell ⟨g, 0, none⟩ hgW _).setCell ⟨g, 1, none⟩ hgW _).setCell ⟨g, 2, none⟩ hgW _).setCell ⟨g, 3, none⟩ hgW _).setCell ⟨g, 4, none⟩ hgW _, rfl, rfl, hcv⟩
              · skip
                go_wp2_with fail
                have hg := heap_alloc_new x5.val (.cells #[.slice none 0 0, .slice none 0 0, .slice none 0 0, .slice none 0 0, .slice none 0 0] 27)
                have hBa := below_alloc (Below.refl x5.val.heap.size x5.val) (.cells #[.slice none 0 0, .slice none 0 0, .slice none 0 0, .slice none 0 0, .slice none 0 0] 27)
                have hgB := hsz x5
                have hgl : x5.val.heap.size < (x5.val.alloc (.cells #[.slice none 0 0, .slice none 0 0, .slice none 0 0, .slice none 0 0, .slice none 0 0] 27)).heap.size := by simp
                replace hv0 := Kd.R_below hv0 hBa
                replace hv1 := Kd.R_below hv1 hBa
                replace hv2 := Kd.R_below hv2 hBa
                replace hv3 := Kd.R_below hv3 hBa
                replace hv4 := Kd.R_below hv4 hBa
                obtain ⟨x5a, hx5a⟩ : ∃ x : Under ((w.alloc (.cells #[.slice A0 l0.length c0, .slice A1 l1.length c1, .slice A2 l2.length c2, .slice A3 l3.length c3, .slice A4 l4.length c4] 27)).alloc (.cells #[.slice none 0 0, .slice none 0 0, .slice none 0 0, .slice none 0 0, .slice none 0 0] 27)), x5.val.alloc (.cells #[.slice none 0 0, .slice none 0 0, .slice none 0 0, .slice none 0 0, .slice none 0 0] 27) = x.val := ⟨x5.alloc _, rfl⟩
                rw [hx5a] at hg hgl hv0 hv1 hv2 hv3 hv4 ⊢
                clear hx5a hBa
                generalize x5.val.heap.size = g at *
                refine ⟨(by first | exact .inr ⟨x5a, rfl⟩ | exact ⟨x5a, rfl⟩), ?_⟩
                refine anyT_one (i := 15) #[true, true, true, true, true, true, true, true, true, true, true, true, true, true, true, true, true, false] (by kernel_rfl) rfl (by decide) (fun Q' hQ' => ?_)
                obtain ⟨B0, d0, rfl⟩ := Kd.R_slice hv0
                obtain ⟨B1, d1, rfl⟩ := Kd.R_slice hv1
                obtain ⟨B2, d2, rfl⟩ := Kd.R_slice hv2
                obtain ⟨B3, d3, rfl⟩ := Kd.R_slice hv3
                obtain ⟨B4, d4, rfl⟩ := Kd.R_slice hv4
                go_wp2_with fail
                refine ⟨(by first | exact .inr ⟨x5a, rfl⟩ | exact ⟨x5a, rfl⟩), ?_⟩
                refine anyT_one (i := 17) #[true, true, true, true, true, true, true, true, true, true, true, true, true, true, true, true, true, true] (by kernel_rfl) rfl (by decide) (fun Q' hQ' => ?_)
                have hgW : (((w.alloc (.cells #[.slice A0 l0.length c0, .slice A1 l1.length c1, .slice A2 l2.length c2, .slice A3 l3.length c3, .slice A4 l4.length c4] 27)).alloc (.cells #[.slice none 0 0, .slice none 0 0, .slice none 0 0, .slice none 0 0, .slice none 0 0] 27)).heap.size) ≤ g := by simp; omega
                have hgc0 : x5a.val.cell? ⟨g, 0, none⟩ = some (.slice none 0 0) := (cell_of_row x5a.val g 0 _ _ _ hg).trans rfl
                have hgc1 : x5a.val.cell? ⟨g, 1, none⟩ = some (.slice none 0 0) := (cell_of_row x5a.val g 1 _ _ _ hg).trans rfl
                have hgc2 : x5a.val.cell? ⟨g, 2, none⟩ = some (.slice none 0 0) := (cell_of_row x5a.val g 2 _ _ _ hg).trans rfl
                have hgc3 : x5a.val.cell? ⟨g, 3, none⟩ = some (.slice none 0 0) := (cell_of_row x5a.val g 3 _ _ _ hg).trans rfl
                have hgc4 : x5a.val.cell? ⟨g, 4, none⟩ = some (.slice none 0 0) := (cell_of_row x5a.val g 4 _ _ _ hg).trans rfl
                have hfz : ∀ j, x5a.val.frozen? ⟨g, j, none⟩ = false := fun j => frozen_of_row _ _ _ _ _ hg
                go_wp2_with fail
                refine ⟨(by first | exact .inl rfl | exact by kernel_rfl), ?_⟩
                refine anyT_end (by kernel_rfl) ?_
                go_wp2
                have hcv := CopyV.set hg hgB hv0 hv1 hv2 hv3 hv4 n01
                go_meet
                case rel => exact ⟨g, _, _, _, _, _, ((((x5a.setCell ⟨g, 0, none⟩ hgW _).setCell ⟨g, 1, none⟩ hgW _).setCell ⟨g, 2, none⟩ hgW _).setCell ⟨g, 3, none⟩ hgW _).setCell ⟨g, 4, none⟩ hgW _, rfl, rfl, hcv⟩
            · skip
              go_wp2_with fail
              have hg := heap_alloc_new x4.val (.cells #[.slice none 0 0, .slice none 0 0, .slice none 0 0, .slice none 0 0, .slice none 0 0] 27)
              have hBa := below_alloc (Below.refl x4.val.heap.size x4.val) (.cells #[.slice none 0 0, .slice none 0 0, .slice none 0 0, .slice none 0 0, .slice none 0 0] 27)
              have hgB := hsz x4
              have hgl : x4.val.heap.size < (x4.val.alloc (.cells #[.slice none 0 0, .slice none 0 0, .slice none 0 0, .slice none 0 0, .slice none 0 0] 27)).heap.size := by simp
              replace hv0 := Kd.R_below hv0 hBa
              replace hv1 := Kd.R_below hv1 hBa
              replace hv2 := Kd.R_below hv2 hBa
              replace hv3 := Kd.R_below hv3 hBa
              obtain ⟨x4a, hx4a⟩ : ∃ x : Under ((w.alloc (.cells #[.slice A0 l0.length c0, .slice A1 l1.length c1, .slice A2 l2.length c2, .slice A3 l3.length c3, .slice A4 l4.length c4] 27)).alloc (.cells #[.slice none 0 0, .slice none 0 0, .slice none 0 0, .slice none 0 0, .slice none 0 0] 27)), x4.val.alloc (.cells #[.slice none 0 0, .slice none 0 0, .slice none 0 0, .slice none 0 0, .slice none 0 0] 27) = x.val := ⟨x4.alloc _, rfl⟩
              rw [hx4a] at hg hgl hv0 hv1 hv2 hv3 ⊢
              clear hx4a hBa
              generalize x4.val.heap.size = g at *
              refine ⟨(by first | exact .inr ⟨x4a, rfl⟩ | exact ⟨x4a, rfl⟩), ?_⟩
              refine anyT_one (i := 14) #[true, true, true, true, true, true, true, true, true, true, true, true, true, true, true, false, true, false] (by kernel_rfl) rfl (by decide) (fun Q' hQ' => ?_)
              go_wp2_with (go_at_call 56; refine (clone_ints A4 c4 l4 _ (Kd.C_below h4 (bel x4a)) m4).mono ?_; rintro e w' ⟨v4, rfl, hv4, hB4⟩; obtain ⟨x5a, rfl⟩ : ∃ x : Under ((w.alloc (.cells #[.slice A0 l0.length c0, .slice A1 l1.length c1, .slice A2 l2.length c2, .slice A3 l3.length c3, .slice A4 l4.length c4] 27)).alloc (.cells #[.slice none 0 0, .slice none 0 0, .slice none 0 0, .slice none 0 0, .slice none 0 0] 27)), w' = x.val := ⟨⟨_, x4a.ok.trans (hB4.mono x4a.size)⟩, rfl⟩; replace hv0 := Kd.R_below hv0 hB4; replace hv1 := Kd.R_below hv1 hB4; replace hv2 := Kd.R_below hv2 hB4; replace hv3 := Kd.R_below hv3 hB4; replace hg := (hB4.block g hgl).trans hg; replace hgl := Nat.lt_of_lt_of_le hgl hB4.size; have hlo4 := Kd.R_base hv4; replace hv4 := Kd.R_lower hv4 (hsz x4a); clear hB4 hlo4)
              refine ⟨(by first | exact .inr ⟨x5a, rfl⟩ | exact ⟨x5a, rfl⟩), ?_⟩
              refine anyT_one (i := 15) #[true, true, true, true, true, true, true, true, true, true, true, true, true, true, true, true, true, false] (by kernel_rfl) rfl (by decide) (fun Q' hQ' => ?_)
              obtain ⟨B0, d0, rfl⟩ := Kd.R_slice hv0
              obtain ⟨B1, d1, rfl⟩ := Kd.R_slice hv1
              obtain ⟨B2, d2, rfl⟩ := Kd.R_slice hv2
              obtain ⟨B3, d3, rfl⟩ := Kd.R_slice hv3
              obtain ⟨B4, d4, rfl⟩ := Kd.R_slice hv4
              go_wp2_with fail
              refine ⟨(by first | exact .inr ⟨x5a, rfl⟩ | exact ⟨x5a, rfl⟩), ?_⟩
              refine anyT_one (i := 17) #[true, true, true, true, true, true, true, true, true, true, true, true, true, true, true, true, true, true] (by kernel_rfl) rfl (by decide) (fun Q' hQ' => ?_)
              have hgW : (((w.alloc (.cells #[.slice A0 l0.length c0, .slice A1 l1.length c1, .slice A2 l2.length c2, .slice A3 l3.length c3, .slice A4 l4.length c4] 27)).alloc (.cells #[.slice none 0 0, .slice none 0 0, .slice none 0 0, .slice none 0 0, .slice none 0 0] 27)).heap.size) ≤ g := by simp; omega
              have hgc0 : x5a.val.cell? ⟨g, 0, none⟩ = some (.slice none 0 0) := (cell_of_row x5a.val g 0 _ _ _ hg).trans rfl
              have hgc1 : x5a.val.cell? ⟨g, 1, none⟩ = some (.slice none 0 0) := (cell_of_row x5a.val g 1 _ _ _ hg).trans rfl
              have hgc2 : x5a.val.cell? ⟨g, 2, none⟩ = some (.slice none 0 0) := (cell_of_row x5a.val g 2 _ _ _ hg).trans rfl
              have hgc3 : x5a.val.cell? ⟨g, 3, none⟩ = some (.slice none 0 0) := (cell_of_row x5a.val g 3 _ _ _ hg).trans rfl
              have hgc4 : x5a.val.cell? ⟨g, 4, none⟩ = some (.slice none 0 0) := (cell_of_row x5a.val g 4 _ _ _ hg).trans rfl
              have hfz : ∀ j, x5a.val.frozen? ⟨g, j, none⟩ = false := fun j => frozen_of_row _ _ _ _ _ hg
              go_wp2_with fail
              refine ⟨(by first | exact .inl rfl | exact by kernel_rfl), ?_⟩
              refine anyT_end (by kernel_rfl) ?_
              go_wp2
              have hcv := CopyV.set hg hgB hv0 hv1 hv2 hv3 hv4 n01
              go_meet
              case rel => exact ⟨g, _, _, _, _, _, ((((x5a.setCell ⟨g, 0, none⟩ hgW _).setCell ⟨g, 1, none⟩ hgW _).setCell ⟨g, 2, none⟩ hgW _).setCell ⟨g, 3, none⟩ hgW _).setCell ⟨g, 4, none⟩ hgW _, rfl, rfl, hcv⟩
          · skip
            go_wp2_with fail
            have hg := heap_alloc_new x3.val (.cells #[.slice none 0 0, .slice none 0 0, .slice none 0 0, .slice none 0 0, .slice none 0 0] 27)
            have hBa := below_alloc (Below.refl x3.val.heap.size x3.val) (.cells #[.slice none 0 0, .slice none 0 0, .slice none 0 0, .slice none 0 0, .slice none 0 0] 27)
            have hgB := hsz x3
            have hgl : x3.val.heap.size < (x3.val.alloc (.cells #[.slice none 0 0, .slice none 0 0, .slice none 0 0, .slice none 0 0, .slice none 0 0] 27)).heap.size := by simp
            replace hv0 := Kd.R_below hv0 hBa
            replace hv1 := Kd.R_below hv1 hBa
            replace hv2 := Kd.R_below hv2 hBa
            obtain ⟨x3a, hx3a⟩ : ∃ x : Under ((w.alloc (.cells #[.slice A0 l0.length c0, .slice A1 l1.length c1, .slice A2 l2.length c2, .slice A3 l3.length c3, .slice A4 l4.length c4] 27)).alloc (.cells #[.slice none 0 0, .slice none 0 0, .slice none 0 0, .slice none 0 0, .slice none 0 0] 27)), x3.val.alloc (.cells #[.slice none 0 0, .slice none 0 0, .slice none 0 0, .slice none 0 0, .slice none 0 0] 27) = x.val := ⟨x3.alloc _, rfl⟩
            rw [hx3a] at hg hgl hv0 hv1 hv2 ⊢
            clear hx3a hBa
            generalize x3.val.heap.size = g at *
            refine ⟨(by first | exact .inr ⟨x3a, rfl⟩ | exact ⟨x3a, rfl⟩), ?_⟩
            refine anyT_one (i := 11) #[true, true, true, true, true, true, true, true, true, true, true, true, true, true, false, false, true, false] (by kernel_rfl) rfl (by decide) (fun Q' hQ' => ?_)
            go_wp2_with (go_at_call 55; refine (clone_gates A3 c3 l3 w _ (bel x3a) h3 m3).mono ?_; rintro e w' ⟨v3, rfl, hv3, hB3⟩; obtain ⟨x4a, rfl⟩ : ∃ x : Under ((w.alloc (.cells #[.slice A0 l0.length c0, .slice A1 l1.length c1, .slice A2 l2.length c2, .slice A3 l3.length c3, .slice A4 l4.length c4] 27)).alloc (.cells #[.slice none 0 0, .slice none 0 0, .slice none 0 0, .slice none 0 0, .slice none 0 0] 27)), w' = x.val := ⟨⟨_, x3a.ok.trans (hB3.mono x3a.size)⟩, rfl⟩; replace hv0 := Kd.R_below hv0 hB3; replace hv1 := Kd.R_below hv1 hB3; replace hv2 := Kd.R_below hv2 hB3; replace hg := (hB3.block g hgl).trans hg; replace hgl := Nat.lt_of_lt_of_le hgl hB3.size; have hlo3 := Kd.R_base hv3; replace hv3 := Kd.R_lower hv3 (hsz x3a); clear hB3 hlo3)
            refine ⟨(by first | exact .inr ⟨x4a, rfl⟩ | exact ⟨x4a, rfl⟩), ?_⟩
            refine anyT_one (i := 14) #[true, true, true, true, true, true, true, true, true, true, true, true, true, true, true, false, true, false] (by kernel_rfl) rfl (by decide) (fun Q' hQ' => ?_)
            go_wp2_with (go_at_call 56; refine (clone_ints A4 c4 l4 _ (Kd.C_below h4 (bel x4a)) m4).mono ?_; rintro e w' ⟨v4, rfl, hv4, hB4⟩; obtain ⟨x5a, rfl⟩ : ∃ x : Under ((w.alloc (.cells #[.slice A0 l0.length c0, .slice A1 l1.length c1, .slice A2 l2.length c2, .slice A3 l3.length c3, .slice A4 l4.length c4] 27)).alloc (.cells #[.slice none 0 0, .slice none 0 0, .slice none 0 0, .slice none 0 0, .slice none 0 0] 27)), w' = x.val := ⟨⟨_, x4a.ok.trans (hB4.mono x4a.size)⟩, rfl⟩; replace hv0 := Kd.R_below hv0 hB4; replace hv1 := Kd.R_below hv1 hB4; replace hv2 := Kd.R_below hv2 hB4; replace hv3 := Kd.R_below hv3 hB4; replace hg := (hB4.block g hgl).trans hg; replace hgl := Nat.lt_of_lt_of_le hgl hB4.size; have hlo4 := Kd.R_base hv4; replace hv4 := Kd.R_lower hv4 (hsz x4a); clear hB4 hlo4)
            refine ⟨(by first | exact .inr ⟨x5a, rfl⟩ | exact ⟨x5a, rfl⟩), ?_⟩
            refine anyT_one (i := 15) #[true, true, true, true, true, true, true, true, true, true, true, true, true, true, true, true, true, false] (by kernel_rfl) rfl (by decide) (fun Q' hQ' => ?_)
            obtain ⟨B0, d0, rfl⟩ := Kd.R_slice hv0
            obtain ⟨B1, d1, rfl⟩ := Kd.R_slice hv1
            obtain ⟨B2, d2, rfl⟩ := Kd.R_slice hv2
            obtain ⟨B3, d3, rfl⟩ := Kd.R_slice hv3
            obtain ⟨B4, d4, rfl⟩ := Kd.R_slice hv4
            go_wp2_with fail
            refine ⟨(by first | exact .inr ⟨x5a, rfl⟩ | exact ⟨x5a, rfl⟩), ?_⟩
            refine anyT_one (i := 17) #[true, true, true, true, true, true, true, true, true, true, true, true, true, true, true, true, true, true] (by kernel_rfl) rfl (by decide) (fun Q' hQ' => ?_)
            have hgW : (((w.alloc (.cells #[.slice A0 l0.length c0, .slice A1 l1.length c1, .slice A2 l2.length c2, .slice A3 l3.length c3, .slice A4 l4.length c4] 27)).alloc (.cells #[.slice none 0 0, .slice none 0 0, .slice none 0 0, .slice none 0 0, .slice none 0 0] 27)).heap.size) ≤ g := by simp; omega
            have hgc0 : x5a.val.cell? ⟨g, 0, none⟩ = some (.slice none 0 0) := (cell_of_row x5a.val g 0 _ _ _ hg).trans rfl
            have hgc1 : x5a.val.cell? ⟨g, 1, none⟩ = some (.slice none 0 0) := (cell_of_row x5a.val g 1 _ _ _ hg).trans rfl
            have hgc2 : x5a.val.cell? ⟨g, 2, none⟩ = some (.slice none 0 0) := (cell_of_row x5a.val g 2 _ _ _ hg).trans rfl
            have hgc3 : x5a.val.cell? ⟨g, 3, none⟩ = some (.slice none 0 0) := (cell_of_row x5a.val g 3 _ _ _ hg).trans rfl
            have hgc4 : x5a.val.cell? ⟨g, 4, none⟩ = some (.slice none 0 0) := (cell_of_row x5a.val g 4 _ _ _ hg).trans rfl
            have hfz : ∀ j, x5a.val.frozen? ⟨g, j, none⟩ = false := fun j => frozen_of_row _ _ _ _ _ hg
            go_wp2_with fail
            refine ⟨(by first | exact .inl rfl | exact by kernel_rfl), ?_⟩
            refine anyT_end (by kernel_rfl) ?_
            go_wp2
            have hcv := CopyV.set hg hgB hv0 hv1 hv2 hv3 hv4 n01
            go_meet
            case rel => exact ⟨g, _, _, _, _, _, ((((x5a.setCell ⟨g, 0, none⟩ hgW _).setCell ⟨g, 1, none⟩ hgW _).setCell ⟨g, 2, none⟩ hgW _).setCell ⟨g, 3, none⟩ hgW _).setCell ⟨g, 4, none⟩ hgW _, rfl, rfl, hcv⟩
        · skip
          go_wp2_with fail
          have hg := heap_alloc_new x2.val (.cells #[.slice none 0 0, .slice none 0 0, .slice none 0 0, .slice none 0 0, .slice none 0 0] 27)
          have hBa := below_alloc (Below.refl x2.val.heap.size x2.val) (.cells #[.slice none 0 0, .slice none 0 0, .slice none 0 0, .slice none 0 0, .slice none 0 0] 27)
          have hgB := hsz x2
          have hgl : x2.val.heap.size < (x2.val.alloc (.cells #[.slice none 0 0, .slice none 0 0, .slice none 0 0, .slice none 0 0, .slice none 0 0] 27)).heap.size := by simp
          replace hv0 := Kd.R_below hv0 hBa
          replace hv1 := Kd.R_below hv1 hBa
          obtain ⟨x2a, hx2a⟩ : ∃ x : Under ((w.alloc (.cells #[.slice A0 l0.length c0, .slice A1 l1.length c1, .slice A2 l2.length c2, .slice A3 l3.length c3, .slice A4 l4.length c4] 27)).alloc (.cells #[.slice none 0 0, .slice none 0 0, .slice none 0 0, .slice none 0 0, .slice none 0 0] 27)), x2.val.alloc (.cells #[.slice none 0 0, .slice none 0 0, .slice none 0 0, .slice none 0 0, .slice none 0 0] 27) = x.val := ⟨x2.alloc _, rfl⟩
          rw [hx2a] at hg hgl hv0 hv1 ⊢
          clear hx2a hBa
          generalize x2.val.heap.size = g at *
          refine ⟨(by first | exact .inr ⟨x2a, rfl⟩ | exact ⟨x2a, rfl⟩), ?_⟩
          refine anyT_one (i := 8) #[true, true, true, true, true, true, true, true, true, true, true, false, true, true, false, false, true, false] (by kernel_rfl) rfl (by decide) (fun Q' hQ' => ?_)
          go_wp2_with (go_at_call 54; refine (clone_flops A2 c2 l2 _ (Kd.C_below h2 (bel x2a)) m2).mono ?_; rintro e w' ⟨v2, rfl, hv2, hB2⟩; obtain ⟨x3a, rfl⟩ : ∃ x : Under ((w.alloc (.cells #[.slice A0 l0.length c0, .slice A1 l1.length c1, .slice A2 l2.length c2, .slice A3 l3.length c3, .slice A4 l4.length c4] 27)).alloc (.cells #[.slice none 0 0, .slice none 0 0, .slice none 0 0, .slice none 0 0, .slice none 0 0] 27)), w' = x.val := ⟨⟨_, x2a.ok.trans (hB2.mono x2a.size)⟩, rfl⟩; replace hv0 := Kd.R_below hv0 hB2; replace hv1 := Kd.R_below hv1 hB2; replace hg := (hB2.block g hgl).trans hg; replace hgl := Nat.lt_of_lt_of_le hgl hB2.size; have hlo2 := Kd.R_base hv2; replace hv2 := Kd.R_lower hv2 (hsz x2a); clear hB2 hlo2)
          refine ⟨(by first | exact .inr ⟨x3a, rfl⟩ | exact ⟨x3a, rfl⟩), ?_⟩
          refine anyT_one (i := 11) #[true, true, true, true, true, true, true, true, true, true, true, true, true, true, false, false, true, false] (by kernel_rfl) rfl (by decide) (fun Q' hQ' => ?_)
          go_wp2_with (go_at_call 55; refine (clone_gates A3 c3 l3 w _ (bel x3a) h3 m3).mono ?_; rintro e w' ⟨v3, rfl, hv3, hB3⟩; obtain ⟨x4a, rfl⟩ : ∃ x : Under ((w.alloc (.cells #[.slice A0 l0.length c0, .slice A1 l1.length c1, .slice A2 l2.length c2, .slice A3 l3.length c3, .slice A4 l4.length c4] 27)).alloc (.cells #[.slice none 0 0, .slice none 0 0, .slice none 0 0, .slice none 0 0, .slice none 0 0] 27)), w' = x.val := ⟨⟨_, x3a.ok.trans (hB3.mono x3a.size)⟩, rfl⟩; replace hv0 := Kd.R_below hv0 hB3; replace hv1 := Kd.R_below hv1 hB3; replace hv2 := Kd.R_below hv2 hB3; replace hg := (hB3.block g hgl).trans hg; replace hgl := Nat.lt_of_lt_of_le hgl hB3.size; have hlo3 := Kd.R_base hv3; replace hv3 := Kd.R_lower hv3 (hsz x3a); clear hB3 hlo3)
          refine ⟨(by first | exact .inr ⟨x4a, rfl⟩ | exact ⟨x4a, rfl⟩), ?_⟩
          refine anyT_one (i := 14) #[true, true, true, true, true, true, true, true, true, true, true, true, true, true, true, false, true, false] (by kernel_rfl) rfl (by decide) (fun Q' hQ' => ?_)
          go_wp2_with (go_at_call 56; refine (clone_ints A4 c4 l4 _ (Kd.C_below h4 (bel x4a)) m4).mono ?_; rintro e w' ⟨v4, rfl, hv4, hB4⟩; obtain ⟨x5a, rfl⟩ : ∃ x : Under ((w.alloc (.cells #[.slice A0 l0.length c0, .slice A1 l1.length c1, .slice A2 l2.length c2, .slice A3 l3.length c3, .slice A4 l4.length c4] 27)).alloc (.cells #[.slice none 0 0, .slice none 0 0, .slice none 0 0, .slice none 0 0, .slice none 0 0] 27)), w' = x.val := ⟨⟨_, x4a.ok.trans (hB4.mono x4a.size)⟩, rfl⟩; replace hv0 := Kd.R_below hv0 hB4; replace hv1 := Kd.R_below hv1 hB4; replace hv2 := Kd.R_below hv2 hB4; replace hv3 := Kd.R_below hv3 hB4; replace hg := (hB4.block g hgl).trans hg; replace hgl := Nat.lt_of_lt_of_le hgl hB4.size; have hlo4 := Kd.R_base hv4; replace hv4 := Kd.R_lower hv4 (hsz x4a); clear hB4 hlo4)
          refine ⟨(by first | exact .inr ⟨x5a, rfl⟩ | exact ⟨x5a, rfl⟩), ?_⟩
          refine anyT_one (i := 15) #[true, true, true, true, true, true, true, true, true, true, true, true, true, true, true, true, true, false] (by kernel_rfl) rfl (by decide) (fun Q' hQ' => ?_)
          obtain ⟨B0, d0, rfl⟩ := Kd.R_slice hv0
          obtain ⟨B1, d1, rfl⟩ := Kd.R_slice hv1
          obtain ⟨B2, d2, rfl⟩ := Kd.R_slice hv2
          obtain ⟨B3, d3, rfl⟩ := Kd.R_slice hv3
          obtain ⟨B4, d4, rfl⟩ := Kd.R_slice hv4
          go_wp2_with fail
          refine ⟨(by first | exact .inr ⟨x5a, rfl⟩ | exact ⟨x5a, rfl⟩), ?_⟩
          refine anyT_one (i := 17) #[true, true, true, true, true, true, true, true, true, true, true, true, true, true, true, true, true, true] (by kernel_rfl) rfl (by decide) (fun Q' hQ' => ?_)
          have hgW : (((w.alloc (.cells #[.slice A0 l0.length c0, .slice A1 l1.length c1, .slice A2 l2.length c2, .slice A3 l3.length c3, .slice A4 l4.length c4] 27)).alloc (.cells #[.slice none 0 0, .slice none 0 0, .slice none 0 0, .slice none 0 0, .slice none 0 0] 27)).heap.size) ≤ g := by simp; omega
          have hgc0 : x5a.val.cell? ⟨g, 0, none⟩ = some (.slice none 0 0) := (cell_of_row x5a.val g 0 _ _ _ hg).trans rfl
          have hgc1 : x5a.val.cell? ⟨g, 1, none⟩ = some (.slice none 0 0) := (cell_of_row x5a.val g 1 _ _ _ hg).trans rfl
          have hgc2 : x5a.val.cell? ⟨g, 2, none⟩ = some (.slice none 0 0) := (cell_of_row x5a.val g 2 _ _ _ hg).trans rfl
          have hgc3 : x5a.val.cell? ⟨g, 3, none⟩ = some (.slice none 0 0) := (cell_of_row x5a.val g 3 _ _ _ hg).trans rfl
          have hgc4 : x5a.val.cell? ⟨g, 4, none⟩ = some (.slice none 0 0) := (cell_of_row x5a.val g 4 _ _ _ hg).trans rfl
          have hfz : ∀ j, x5a.val.frozen? ⟨g, j, none⟩ = false := fun j => frozen_of_row _ _ _ _ _ hg
          go_wp2_with fail
          refine ⟨(by first | exact .inl rfl | exact by kernel_rfl), ?_⟩
          refine anyT_end (by kernel_rfl) ?_
          go_wp2
          have hcv := CopyV.set hg hgB hv0 hv1 hv2 hv3 hv4 n01
          go_meet
          case rel => exact ⟨g, _, _, _, _, _, ((((x5a.setCell ⟨g, 0, none⟩ hgW _).setCell ⟨g, 1, none⟩ hgW _).setCell ⟨g, 2, none⟩ hgW _).setCell ⟨g, 3, none⟩ hgW _).setCell ⟨g, 4, none⟩ hgW _, rfl, rfl, hcv⟩
      · skip
        go_wp2_with fail
        have hg := heap_alloc_new x1.val (.cells #[.slice none 0 0, .slice none 0 0, .slice none 0 0, .slice none 0 0, .slice none 0 0] 27)
        have hBa := below_alloc (Below.refl x1.val.heap.size x1.val) (.cells #[.slice none 0 0, .slice none 0 0, .slice none 0 0, .slice none 0 0, .slice none 0 0] 27)
        have hgB := hsz x1
        have hgl : x1.val.heap.size < (x1.val.alloc (.cells #[.slice none 0 0, .slice none 0 0, .slice none 0 0, .slice none 0 0, .slice none 0 0] 27)).heap.size := by simp
        replace hv0 := Kd.R_below hv0 hBa
        obtain ⟨x1a, hx1a⟩ : ∃ x : Under ((w.alloc (.cells #[.slice A0 l0.length c0, .slice A1 l1.length c1, .slice A2 l2.length c2, .slice A3 l3.length c3, .slice A4 l4.length c4] 27)).alloc (.cells #[.slice none 0 0, .slice none 0 0, .slice none 0 0, .slice none 0 0, .slice none 0 0] 27)), x1.val.alloc (.cells #[.slice none 0 0, .slice none 0 0, .slice none 0 0, .slice none 0 0, .slice none 0 0] 27) = x.val := ⟨x1.alloc _, rfl⟩
        rw [hx1a] at hg hgl hv0 ⊢
        clear hx1a hBa
        generalize x1.val.heap.size = g at *
        refine ⟨(by first | exact .inr ⟨x1a, rfl⟩ | exact ⟨x1a, rfl⟩), ?_⟩
        refine anyT_one (i := 5) #[true, true, true, true, true, true, true, true, false, true, true, false, true, true, false, false, true, false] (by kernel_rfl) rfl (by decide) (fun Q' hQ' => ?_)
        have hlt0 := Kd.R_lt hv0
        go_wp2_with (go_at_call 30; refine (clone_strs A1 c1 l1 _ (Kd.C_below h1 (bel x1a)) m1).mono ?_; rintro e w' ⟨v1, rfl, hv1, hB1⟩; obtain ⟨x2a, rfl⟩ : ∃ x : Under ((w.alloc (.cells #[.slice A0 l0.length c0, .slice A1 l1.length c1, .slice A2 l2.length c2, .slice A3 l3.length c3, .slice A4 l4.length c4] 27)).alloc (.cells #[.slice none 0 0, .slice none 0 0, .slice none 0 0, .slice none 0 0, .slice none 0 0] 27)), w' = x.val := ⟨⟨_, x1a.ok.trans (hB1.mono x1a.size)⟩, rfl⟩; replace hv0 := Kd.R_below hv0 hB1; replace hg := (hB1.block g hgl).trans hg; replace hgl := Nat.lt_of_lt_of_le hgl hB1.size; have hlo1 := Kd.R_base hv1; replace hv1 := Kd.R_lower hv1 (hsz x1a); have n01 : ∀ k, v0.ownBlock = some k → v1.ownBlock ≠ some k := fun k hk e => (by have h5 := hlt0 k hk; have h6 := hlo1 k e; omega); clear hB1 hlo1)
        clear hlt0
        refine ⟨(by first | exact .inr ⟨x2a, rfl⟩ | exact ⟨x2a, rfl⟩), ?_⟩
        refine anyT_one (i := 8) #[true, true, true, true, true, true, true, true, true, true, true, false, true, true, false, false, true, false] (by kernel_rfl) rfl (by decide) (fun Q' hQ' => ?_)
        go_wp2_with (go_at_call 54; refine (clone_flops A2 c2 l2 _ (Kd.C_below h2 (bel x2a)) m2).mono ?_; rintro e w' ⟨v2, rfl, hv2, hB2⟩; obtain ⟨x3a, rfl⟩ : ∃ x : Under ((w.alloc (.cells #[.slice A0 l0.length c0, .slice A1 l1.length c1, .slice A2 l2.length c2, .slice A3 l3.length c3, .slice A4 l4.length c4] 27)).alloc (.cells #[.slice none 0 0, .slice none 0 0, .slice none 0 0, .slice none 0 0, .slice none 0 0] 27)), w' = x.val := ⟨⟨_, x2a.ok.trans (hB2.mono x2a.size)⟩, rfl⟩; replace hv0 := Kd.R_below hv0 hB2; replace hv1 := Kd.R_below hv1 hB2; replace hg := (hB2.block g hgl).trans hg; replace hgl := Nat.lt_of_lt_of_le hgl hB2.size; have hlo2 := Kd.R_base hv2; replace hv2 := Kd.R_lower hv2 (hsz x2a); clear hB2 hlo2)
        refine ⟨(by first | exact .inr ⟨x3a, rfl⟩ | exact ⟨x3a, rfl⟩), ?_⟩
        refine anyT_one (i := 11) #[true, true, true, true, true, true, true, true, true, true, true, true, true, true, false, false, true, false] (by kernel_rfl) rfl (by decide) (fun Q' hQ' => ?_)
        go_wp2_with (go_at_call 55; refine (clone_gates A3 c3 l3 w _ (bel x3a) h3 m3).mono ?_; rintro e w' ⟨v3, rfl, hv3, hB3⟩; obtain ⟨x4a, rfl⟩ : ∃ x : Under ((w.alloc (.cells #[.slice A0 l0.length c0, .slice A1 l1.length c1, .slice A2 l2.length c2, .slice A3 l3.length c3, .slice A4 l4.length c4] 27)).alloc (.cells #[.slice none 0 0, .slice none 0 0, .slice none 0 0, .slice none 0 0, .slice none 0 0] 27)), w' = x.val := ⟨⟨_, x3a.ok.trans (hB3.mono x3a.size)⟩, rfl⟩; replace hv0 := Kd.R_below hv0 hB3; replace hv1 := Kd.R_below hv1 hB3; replace hv2 := Kd.R_below hv2 hB3; replace hg := (hB3.block g hgl).trans hg; replace hgl := Nat.lt_of_lt_of_le hgl hB3.size; have hlo3 := Kd.R_base hv3; replace hv3 := Kd.R_lower hv3 (hsz x3a); clear hB3 hlo3)
        refine ⟨(by first | exact .inr ⟨x4a, rfl⟩ | exact ⟨x4a, rfl⟩), ?_⟩
        refine anyT_one (i := 14) #[true, true, true, true, true, true, true, true, true, true, true, true, true, true, true, false, true, false] (by kernel_rfl) rfl (by decide) (fun Q' hQ' => ?_)
        go_wp2_with (go_at_call 56; refine (clone_ints A4 c4 l4 _ (Kd.C_below h4 (bel x4a)) m4).mono ?_; rintro e w' ⟨v4, rfl, hv4, hB4⟩; obtain ⟨x5a, rfl⟩ : ∃ x : Under ((w.alloc (.cells #[.slice A0 l0.length c0, .slice A1 l1.length c1, .slice A2 l2.length c2, .slice A3 l3.length c3, .slice A4 l4.length c4] 27)).alloc (.cells #[.slice none 0 0, .slice none 0 0, .slice none 0 0, .slice none 0 0, .slice none 0 0] 27)), w' = x.val := ⟨⟨_, x4a.ok.trans (hB4.mono x4a.size)⟩, rfl⟩; replace hv0 := Kd.R_below hv0 hB4; replace hv1 := Kd.R_below hv1 hB4; replace hv2 := Kd.R_below hv2 hB4; replace hv3 := Kd.R_below hv3 hB4; replace hg := (hB4.block g hgl).trans hg; replace hgl := Nat.lt_of_lt_of_le hgl hB4.size; have hlo4 := Kd.R_base hv4; replace hv4 := Kd.R_lower hv4 (hsz x4a); clear hB4 hlo4)
        refine ⟨(by first | exact .inr ⟨x5a, rfl⟩ | exact ⟨x5a, rfl⟩), ?_⟩
        refine anyT_one (i := 15) #[true, true, true, true, true, true, true, true, true, true, true, true, true, true, true, true, true, false] (by kernel_rfl) rfl (by decide) (fun Q' hQ' => ?_)
        obtain ⟨B0, d0, rfl⟩ := Kd.R_slice hv0
        obtain ⟨B1, d1, rfl⟩ := Kd.R_slice hv1
        obtain ⟨B2, d2, rfl⟩ := Kd.R_slice hv2
        obtain ⟨B3, d3, rfl⟩ := Kd.R_slice hv3
        obtain ⟨B4, d4, rfl⟩ := Kd.R_slice hv4
        go_wp2_with fail
        refine ⟨(by first | exact .inr ⟨x5a, rfl⟩ | exact ⟨x5a, rfl⟩), ?_⟩
        refine anyT_one (i := 17) #[true, true, true, true, true, true, true, true, true, true, true, true, true, true, true, true, true, true] (by kernel_rfl) rfl (by decide) (fun Q' hQ' => ?_)
        have hgW : (((w.alloc (.cells #[.slice A0 l0.length c0, .slice A1 l1.length c1, .slice A2 l2.length c2, .slice A3 l3.length c3, .slice A4 l4.length c4] 27)).alloc (.cells #[.slice none 0 0, .slice none 0 0, .slice none 0 0, .slice none 0 0, .slice none 0 0] 27)).heap.size) ≤ g := by simp; omega
        have hgc0 : x5a.val.cell? ⟨g, 0, none⟩ = some (.slice none 0 0) := (cell_of_row x5a.val g 0 _ _ _ hg).trans rfl
        have hgc1 : x5a.val.cell? ⟨g, 1, none⟩ = some (.slice none 0 0) := (cell_of_row x5a.val g 1 _ _ _ hg).trans rfl
        have hgc2 : x5a.val.cell? ⟨g, 2, none⟩ = some (.slice none 0 0) := (cell_of_row x5a.val g 2 _ _ _ hg).trans rfl
        have hgc3 : x5a.val.cell? ⟨g, 3, none⟩ = some (.slice none 0 0) := (cell_of_row x5a.val g 3 _ _ _ hg).trans rfl
        have hgc4 : x5a.val.cell? ⟨g, 4, none⟩ = some (.slice none 0 0) := (cell_of_row x5a.val g 4 _ _ _ hg).trans rfl
        have hfz : ∀ j, x5a.val.frozen? ⟨g, j, none⟩ = false := fun j => frozen_of_row _ _ _ _ _ hg
        go_wp2_with fail
        refine ⟨(by first | exact .inl rfl | exact by kernel_rfl), ?_⟩
        refine anyT_end (by kernel_rfl) ?_
        go_wp2
        have hcv := CopyV.set hg hgB hv0 hv1 hv2 hv3 hv4 n01
        go_meet
        case rel => exact ⟨g, _, _, _, _, _, ((((x5a.setCell ⟨g, 0, none⟩ hgW _).setCell ⟨g, 1, none⟩ hgW _).setCell ⟨g, 2, none⟩ hgW _).setCell ⟨g, 3, none⟩ hgW _).setCell ⟨g, 4, none⟩ hgW _, rfl, rfl, hcv⟩
    · skip
      go_wp2_with fail
      have hg := heap_alloc_new x0.val (.cells #[.slice none 0 0, .slice none 0 0, .slice none 0 0, .slice none 0 0, .slice none 0 0] 27)
      have hBa := below_alloc (Below.refl x0.val.heap.size x0.val) (.cells #[.slice none 0 0, .slice none 0 0, .slice none 0 0, .slice none 0 0, .slice none 0 0] 27)
      have hgB := hsz x0
      have hgl : x0.val.heap.size < (x0.val.alloc (.cells #[.slice none 0 0, .slice none 0 0, .slice none 0 0, .slice none 0 0, .slice none 0 0] 27)).heap.size := by simp
      obtain ⟨x0a, hx0a⟩ : ∃ x : Under ((w.alloc (.cells #[.slice A0 l0.length c0, .slice A1 l1.length c1, .slice A2 l2.length c2, .slice A3 l3.length c3, .slice A4 l4.length c4] 27)).alloc (.cells #[.slice none 0 0, .slice none 0 0, .slice none 0 0, .slice none 0 0, .slice none 0 0] 27)), x0.val.alloc (.cells #[.slice none 0 0, .slice none 0 0, .slice none 0 0, .slice none 0 0, .slice none 0 0] 27) = x.val := ⟨x0.alloc _, rfl⟩
      rw [hx0a] at hg hgl ⊢
      clear hx0a hBa
      generalize x0.val.heap.size = g at *
      refine ⟨(by first | exact .inr ⟨x0a, rfl⟩ | exact ⟨x0a, rfl⟩), ?_⟩
      refine anyT_one (i := 2) #[true, true, true, true, true, false, true, true, false, true, true, false, true, true, false, false, true, false] (by kernel_rfl) rfl (by decide) (fun Q' hQ' => ?_)
      go_wp2_with (go_at_call 30; refine (clone_strs A0 c0 l0 _ (Kd.C_below h0 (bel x0a)) m0).mono ?_; rintro e w' ⟨v0, rfl, hv0, hB0⟩; obtain ⟨x1a, rfl⟩ : ∃ x : Under ((w.alloc (.cells #[.slice A0 l0.length c0, .slice A1 l1.length c1, .slice A2 l2.length c2, .slice A3 l3.length c3, .slice A4 l4.length c4] 27)).alloc (.cells #[.slice none 0 0, .slice none 0 0, .slice none 0 0, .slice none 0 0, .slice none 0 0] 27)), w' = x.val := ⟨⟨_, x0a.ok.trans (hB0.mono x0a.size)⟩, rfl⟩; replace hg := (hB0.block g hgl).trans hg; replace hgl := Nat.lt_of_lt_of_le hgl hB0.size; have hlo0 := Kd.R_base hv0; replace hv0 := Kd.R_lower hv0 (hsz x0a); clear hB0 hlo0)
      refine ⟨(by first | exact .inr ⟨x1a, rfl⟩ | exact ⟨x1a, rfl⟩), ?_⟩
      refine anyT_one (i := 5) #[true, true, true, true, true, true, true, true, false, true, true, false, true, true, false, false, true, false] (by kernel_rfl) rfl (by decide) (fun Q' hQ' => ?_)
      have hlt0 := Kd.R_lt hv0
      go_wp2_with (go_at_call 30; refine (clone_strs A1 c1 l1 _ (Kd.C_below h1 (bel x1a)) m1).mono ?_; rintro e w' ⟨v1, rfl, hv1, hB1⟩; obtain ⟨x2a, rfl⟩ : ∃ x : Under ((w.alloc (.cells #[.slice A0 l0.length c0, .slice A1 l1.length c1, .slice A2 l2.length c2, .slice A3 l3.length c3, .slice A4 l4.length c4] 27)).alloc (.cells #[.slice none 0 0, .slice none 0 0, .slice none 0 0, .slice none 0 0, .slice none 0 0] 27)), w' = x.val := ⟨⟨_, x1a.ok.trans (hB1.mono x1a.size)⟩, rfl⟩; replace hv0 := Kd.R_below hv0 hB1; replace hg := (hB1.block g hgl).trans hg; replace hgl := Nat.lt_of_lt_of_le hgl hB1.size; have hlo1 := Kd.R_base hv1; replace hv1 := Kd.R_lower hv1 (hsz x1a); have n01 : ∀ k, v0.ownBlock = some k → v1.ownBlock ≠ some k := fun k hk e => (by have h5 := hlt0 k hk; have h6 := hlo1 k e; omega); clear hB1 hlo1)
      clear hlt0
      refine ⟨(by first | exact .inr ⟨x2a, rfl⟩ | exact ⟨x2a, rfl⟩), ?_⟩
      refine anyT_one (i := 8) #[true, true, true, true, true, true, true, true, true, true, true, false, true, true, false, false, true, false] (by kernel_rfl) rfl (by decide) (fun Q' hQ' => ?_)
      go_wp2_with (go_at_call 54; refine (clone_flops A2 c2 l2 _ (Kd.C_below h2 (bel x2a)) m2).mono ?_; rintro e w' ⟨v2, rfl, hv2, hB2⟩; obtain ⟨x3a, rfl⟩ : ∃ x : Under ((w.alloc (.cells #[.slice A0 l0.length c0, .slice A1 l1.length c1, .slice A2 l2.length c2, .slice A3 l3.length c3, .slice A4 l4.length c4] 27)).alloc (.cells #[.slice none 0 0, .slice none 0 0, .slice none 0 0, .slice none 0 0, .slice none 0 0] 27)), w' = x.val := ⟨⟨_, x2a.ok.trans (hB2.mono x2a.size)⟩, rfl⟩; replace hv0 := Kd.R_below hv0 hB2; replace hv1 := Kd.R_below hv1 hB2; replace hg := (hB2.block g hgl).trans hg; replace hgl := Nat.lt_of_lt_of_le hgl hB2.size; have hlo2 := Kd.R_base hv2; replace hv2 := Kd.R_lower hv2 (hsz x2a); clear hB2 hlo2)
      refine ⟨(by first | exact .inr ⟨x3a, rfl⟩ | exact ⟨x3a, rfl⟩), ?_⟩
      refine anyT_one (i := 11) #[true, true, true, true, true, true, true, true, true, true, true, true, true, true, false, false, true, false] (by kernel_rfl) rfl (by decide) (fun Q' hQ' => ?_)
      go_wp2_with (go_at_call 55; refine (clone_gates A3 c3 l3 w _ (bel x3a) h3 m3).mono ?_; rintro e w' ⟨v3, rfl, hv3, hB3⟩; obtain ⟨x4a, rfl⟩ : ∃ x : Under ((w.alloc (.cells #[.slice A0 l0.length c0, .slice A1 l1.length c1, .slice A2 l2.length c2, .slice A3 l3.length c3, .slice A4 l4.length c4] 27)).alloc (.cells #[.slice none 0 0, .slice none 0 0, .slice none 0 0, .slice none 0 0, .slice none 0 0] 27)), w' = x.val := ⟨⟨_, x3a.ok.trans (hB3.mono x3a.size)⟩, rfl⟩; replace hv0 := Kd.R_below hv0 hB3; replace hv1 := Kd.R_below hv1 hB3; replace hv2 := Kd.R_below hv2 hB3; replace hg := (hB3.block g hgl).trans hg; replace hgl := Nat.lt_of_lt_of_le hgl hB3.size; have hlo3 := Kd.R_base hv3; replace hv3 := Kd.R_lower hv3 (hsz x3a); clear hB3 hlo3)
      refine ⟨(by first | exact .inr ⟨x4a, rfl⟩ | exact ⟨x4a, rfl⟩), ?_⟩
      refine anyT_one (i := 14) #[true, true, true, true, true, true, true, true, true, true, true, true, true, true, true, false, true, false] (by kernel_rfl) rfl (by decide) (fun Q' hQ' => ?_)
      go_wp2_with (go_at_call 56; refine (clone_ints A4 c4 l4 _ (Kd.C_below h4 (bel x4a)) m4).mono ?_; rintro e w' ⟨v4, rfl, hv4, hB4⟩; obtain ⟨x5a, rfl⟩ : ∃ x : Under ((w.alloc (.cells #[.slice A0 l0.length c0, .slice A1 l1.length c1, .slice A2 l2.length c2, .slice A3 l3.length c3, .slice A4 l4.length c4] 27)).alloc (.cells #[.slice none 0 0, .slice none 0 0, .slice none 0 0, .slice none 0 0, .slice none 0 0] 27)), w' = x.val := ⟨⟨_, x4a.ok.trans (hB4.mono x4a.size)⟩, rfl⟩; replace hv0 := Kd.R_below hv0 hB4; replace hv1 := Kd.R_below hv1 hB4; replace hv2 := Kd.R_below hv2 hB4; replace hv3 := Kd.R_below hv3 hB4; replace hg := (hB4.block g hgl).trans hg; replace hgl := Nat.lt_of_lt_of_le hgl hB4.size; have hlo4 := Kd.R_base hv4; replace hv4 := Kd.R_lower hv4 (hsz x4a); clear hB4 hlo4)
      refine ⟨(by first | exact .inr ⟨x5a, rfl⟩ | exact ⟨x5a, rfl⟩), ?_⟩
      refine anyT_one (i := 15) #[true, true, true, true, true, true, true, true, true, true, true, true, true, true, true, true, true, false] (by kernel_rfl) rfl (by decide) (fun Q' hQ' => ?_)
      obtain ⟨B0, d0, rfl⟩ := Kd.R_slice hv0
      obtain ⟨B1, d1, rfl⟩ := Kd.R_slice hv1
      obtain ⟨B2, d2, rfl⟩ := Kd.R_slice hv2
      obtain ⟨B3, d3, rfl⟩ := Kd.R_slice hv3
      obtain ⟨B4, d4, rfl⟩ := Kd.R_slice hv4
      go_wp2_with fail
      refine ⟨(by first | exact .inr ⟨x5a, rfl⟩ | exact ⟨x5a, rfl⟩), ?_⟩
      refine anyT_one (i := 17) #[true, true, true, true, true, true, true, true, true, true, true, true, true, true, true, true, true, true] (by kernel_rfl) rfl (by decide) (fun Q' hQ' => ?_)
      have hgW : (((w.alloc (.cells #[.slice A0 l0.length c0, .slice A1 l1.length c1, .slice A2 l2.length c2, .slice A3 l3.length c3, .slice A4 l4.length c4] 27)).alloc (.cells #[.slice none 0 0, .slice none 0 0, .slice none 0 0, .slice none 0 0, .slice none 0 0] 27)).heap.size) ≤ g := by simp; omega
      have hgc0 : x5a.val.cell? ⟨g, 0, none⟩ = some (.slice none 0 0) := (cell_of_row x5a.val g 0 _ _ _ hg).trans rfl
      have hgc1 : x5a.val.cell? ⟨g, 1, none⟩ = some (.slice none 0 0) := (cell_of_row x5a.val g 1 _ _ _ hg).trans rfl
      have hgc2 : x5a.val.cell? ⟨g, 2, none⟩ = some (.slice none 0 0) := (cell_of_row x5a.val g 2 _ _ _ hg).trans rfl
      have hgc3 : x5a.val.cell? ⟨g, 3, none⟩ = some (.slice none 0 0) := (cell_of_row x5a.val g 3 _ _ _ hg).trans rfl
      have hgc4 : x5a.val.cell? ⟨g, 4, none⟩ = some (.slice none 0 0) := (cell_of_row x5a.val g 4 _ _ _ hg).trans rfl
      have hfz : ∀ j, x5a.val.frozen? ⟨g, j, none⟩ = false := fun j => frozen_of_row _ _ _ _ _ hg
      go_wp2_with fail
      refine ⟨(by first | exact .inl rfl | exact by kernel_rfl), ?_⟩
      refine anyT_end (by kernel_rfl) ?_
      go_wp2
      have hcv := CopyV.set hg hgB hv0 hv1 hv2 hv3 hv4 n01
      go_meet
      case rel => exact ⟨g, _, _, _, _, _, ((((x5a.setCell ⟨g, 0, none⟩ hgW _).setCell ⟨g, 1, none⟩ hgW _).setCell ⟨g, 2, none⟩ hgW _).setCell ⟨g, 3, none⟩ hgW _).setCell ⟨g, 4, none⟩ hgW _, rfl, rfl, hcv⟩
  case rest =>
    obtain ⟨g, v0, v1, v2, v3, v4, x, rfl, rfl, hV⟩ := hcut
    obtain ⟨B0, d0, rfl⟩ := Kd.R_slice hV.r0
    obtain ⟨B1, d1, rfl⟩ := Kd.R_slice hV.r1
    obtain ⟨B2, d2, rfl⟩ := Kd.R_slice hV.r2
    obtain ⟨B3, d3, rfl⟩ := Kd.R_slice hV.r3
    obtain ⟨B4, d4, rfl⟩ := Kd.R_slice hV.r4
    have n34 : ∀ k, (Value.slice B3 l3.length d3).ownBlock = some k → some k ≠ (Value.slice B4 l4.length d4).ownBlock := by
      intro k hk e
      obtain ⟨_, t3⟩ := Kd.R_typed hV.r3 k hk
      obtain ⟨_, t4⟩ := Kd.R_typed hV.r4 k e.symm
      rw [t3] at t4
      injection t4 with t4
      injection t4 with _ t4
      exact absurd t4 (by decide)
    have hN : NetV (w.heap.size + 2) x.val g (.slice B0 l0.length d0) (.slice B1 l1.length d1) (.slice B2 l2.length d2) (.slice B3 l3.length d3) (.slice B4 l4.length d4) l0 l1 l2 l4 := ⟨hV.blk, hV.gB, hV.r0, hV.r1, hV.r2, hV.r4, hV.n01⟩
    have hG := gates_start (ok := fun k => some k ≠ (Value.slice B4 l4.length d4).ownBlock) hV.r3 n34
    have hm3 : (l3.length : Int) ≤ 9223372036854775807 := by omega
    have hgl := (Array.getElem?_eq_some_iff.1 hV.blk).1
    have hgc3 : x.val.cell? ⟨g, 3, none⟩ = some (.slice B3 l3.length d3) := (cell_of_row x.val g 3 _ _ _ hV.blk).trans rfl
    have hlt4 := Kd.R_lt hV.r4
    have hgB := hV.gB
    clear hV
    go_wp2
    have hgc3h := Lib.hid hgc3
    clear hgc3 hgl
    go_loopg [4, 24] l3.length (fun d _ t wr => ∃ (i : Nat) (y : Under ((w.alloc (.cells #[.slice A0 l0.length c0, .slice A1 l1.length c1, .slice A2 l2.length c2, .slice A3 l3.length c3, .slice A4 l4.length c4] 27)).alloc (.cells #[.slice none 0 0, .slice none 0 0, .slice none 0 0, .slice none 0 0, .slice none 0 0] 27))), t = .int .i64 i ∧ wr = y.val ∧ Aside (i + d = l3.length) ∧
      NetV (w.heap.size + 2) y.val g (.slice B0 l0.length d0) (.slice B1 l1.length d1) (.slice B2 l2.length d2) (.slice B3 l3.length d3) (.slice B4 l4.length d4) l0 l1 l2 l4 ∧
      Kd.S (kGateM w) 80 y.val (w.heap.size + 2) (fun k => some k ≠ (Value.slice B4 l4.length d4).ownBlock) (.slice B3 l3.length d3) ((l3.take i).map (fun x => (x, true)) ++ (l3.drop i).map (fun x => (x, false))) ∧ x.val.heap.size ≤ y.val.heap.size)
    case atStart => exact ⟨0, x, rfl, rfl, by show 0 + l3.length = l3.length; omega, hN, by simpa using hG, Nat.le_refl _⟩
    case round =>
      clear hN hG
      obtain ⟨i, y, rfl, rfl, hi, hN, hG, hxy⟩ := hrel
      have hgl := (Array.getElem?_eq_some_iff.1 hN.blk).1
      have hgc3 : y.val.cell? ⟨g, 3, none⟩ = some (.slice B3 l3.length d3) := (cell_of_row y.val g 3 _ _ _ hN.blk).trans rfl
      by_cases hlt : i < l3.length
      · obtain ⟨gi, hgi⟩ := get_ex hlt
        obtain ⟨gk, rfl⟩ : ∃ m, gk = m + 1 := ⟨gk - 1, by have := hi.out; omega⟩
        have hm5 := m5 gi (List.mem_of_getElem? hgi)
        have hxs : ((l3.take i).map (fun x => (x, true)) ++ (l3.drop i).map (fun x => (x, false)))[i]? = some (gi, false) := by
          rw [List.getElem?_append_right (by simp; omega)]
          simp [hgi, Nat.min_eq_left (Nat.le_of_lt hlt)]
        have hxl : ((l3.take i).map (fun x => (x, true)) ++ (l3.drop i).map (fun x => (x, false))).length = l3.length := by simp; omega
        have hxset := flags_set hgi
        generalize hX : ((l3.take i).map (fun x => (x, true)) ++ (l3.drop i).map (fun x => (x, false))) = X at *
        obtain ⟨g3, cap3, he3, hg3, hg3l, cells3, hg3b⟩ := Kd.S_form hG (by omega)
        simp only [Value.slice.injEq] at he3
        obtain ⟨rfl, -, rfl⟩ := he3
        obtain ⟨oki, c, hcl, hM, hcc, hfr, hoki, hH⟩ := Kd.S_elem hG (gi, false) (i : Int) (by omega) (by omega)
        rw [show X.getD (i : Int).toNat (gi, false) = (gi, false) by simp [List.getD, hxs]] at hM
        obtain ⟨A5, c5, rfl, hC⟩ := kGateM_old hM
        have hci : y.val.cell? ⟨g3, i * 3 + 2, none⟩ = some (.slice A5 gi.f2.length c5) := by
          have := hcc 2 _ rfl
          simpa [kGateM, Kd.iso, Kd.pair, flagK, Kd.int, Kd.scalar] using this
        have hn3 : g ≠ g3 := by
          rintro rfl
          have h5 := hN.blk
          rw [hg3b] at h5
          injection h5 with h5
          injection h5 with _ h5
          exact absurd h5 (by decide)
        have hwid := Kd.H_widen hH
        have hgih := Lib.hid hgi
        have hih := Lib.hid hi.out
        have hxlh := Lib.hid hxl
        have hxseth := Lib.hid hxset
        have hXh := Lib.hid hX
        have hxsh := Lib.hid hxs
        clear hgi hi hxl hxset hX hM hH hcc hxs
        go_wp2
        refine wp_region_splitT (fun w' => ∃ z : Under y.val, w' = z.val) [true, true, true, true, true, true, true, true, true, false, false, false, false] (by kernel_rfl) (by kernel_rfl) (by decide) ⟨(Under.refl _).drew, rfl⟩ (fun _ _ d _ _ h => by cases d <;> exact h) ?_
        simp only [pickB, dropB]
        repeat (go_big_quiet_step (fail))
        refine wpQuiet_nil ?_
        refine wpListT_step (fun Q' hQ' => ?_)
        have hyd : Below y.val.heap.size y.val y.val.drew := below_drew (Below.refl _ _)
        go_wp2_with (go_at_call 56; refine (clone_ints A5 c5 gi.f2 _ (Kd.C_below hC ((bel y).trans (hyd.mono (by have := hsz y; omega)))) hm5).mono ?_; rintro e w' ⟨v5, rfl, hv5, hB5⟩; obtain ⟨z, rfl⟩ : ∃ z : Under y.val, w' = z.val := ⟨⟨_, hyd.trans hB5⟩, rfl⟩)
        refine ⟨⟨z, rfl⟩, ?_⟩
        refine wpListT_step (fun Q' hQ' => ?_)
        go_wp2_with fail
        refine ⟨⟨z, rfl⟩, ?_⟩
        refine wpListT_step (fun Q' hQ' => ?_)
        go_wp2_with fail
        refine ⟨⟨z, rfl⟩, ?_⟩
        refine wpListT_last (fun Q' hQ' => ?_)
        obtain ⟨A6, c6, rfl⟩ := Kd.R_slice hv5
        have hv6 := Kd.R_tight rfl (Kd.R_lower hv5 (show w.heap.size + 2 ≤ y.val.drew.heap.size from hsz y))
        have hB0 : Below (w.heap.size + 2) ((w.alloc (.cells #[.slice A0 l0.length c0, .slice A1 l1.length c1, .slice A2 l2.length c2, .slice A3 l3.length c3, .slice A4 l4.length c4] 27)).alloc (.cells #[.slice none 0 0, .slice none 0 0, .slice none 0 0, .slice none 0 0, .slice none 0 0] 27)) z.val := by
          have h7 : ((w.alloc (.cells #[.slice A0 l0.length c0, .slice A1 l1.length c1, .slice A2 l2.length c2, .slice A3 l3.length c3, .slice A4 l4.length c4] 27)).alloc (.cells #[.slice none 0 0, .slice none 0 0, .slice none 0 0, .slice none 0 0, .slice none 0 0] 27)).heap.size = w.heap.size + 2 := by simp
          have h8 : Below ((w.alloc (.cells #[.slice A0 l0.length c0, .slice A1 l1.length c1, .slice A2 l2.length c2, .slice A3 l3.length c3, .slice A4 l4.length c4] 27)).alloc (.cells #[.slice none 0 0, .slice none 0 0, .slice none 0 0, .slice none 0 0, .slice none 0 0] 27)).heap.size ((w.alloc (.cells #[.slice A0 l0.length c0, .slice A1 l1.length c1, .slice A2 l2.length c2, .slice A3 l3.length c3, .slice A4 l4.length c4] 27)).alloc (.cells #[.slice none 0 0, .slice none 0 0, .slice none 0 0, .slice none 0 0, .slice none 0 0] 27)) z.val := (y.trans z).ok
          rw [h7] at h8
          exact h8
        refine Kd.H_store (kGateM w) (w0 := (w.alloc (.cells #[.slice A0 l0.length c0, .slice A1 l1.length c1, .slice A2 l2.length c2, .slice A3 l3.length c3, .slice A4 l4.length c4] 27)).alloc (.cells #[.slice none 0 0, .slice none 0 0, .slice none 0 0, .slice none 0 0, .slice none 0 0] 27)) (w.heap.size + 2) rfl rfl 25 (.tmp 38) (.tmp 36) rfl 80 (i : Int) 2 X (gi, true) (.slice A6 gi.f2.length c6) [.slice A6 gi.f2.length c6] _ (fun k => some k ≠ (Value.slice B4 l4.length d4).ownBlock) _ _ rfl (by simp [kGateM, Kd.iso, Kd.pair, flagK, Kd.int, Kd.scalar]) rfl rfl (by kernel_rfl) (by simp [Value.oneCell']) (Kd.H_below hwid z.ok) (by omega) (by omega) (by simp [kGateM, Kd.iso, Kd.pair, flagK, Kd.int, Kd.scalar]) (kGateM_new hv6) ?hokp hB0 ?_
        case hokp =>
          intro k hk
          have h7 := Kd.R_base hv5 k hk.symm
          refine .inr ⟨fun e => ?_, h7⟩
          have h8 := hlt4 k e.symm
          have h9 : y.val.drew.heap.size = y.val.heap.size := rfl
          omega
        intro w2 hS2 hB2 hg2
        refine wpList_nil ?_
        refine hQ' _ _ ?_
        go_wp2
        obtain ⟨y2, rfl⟩ : ∃ y2 : Under ((w.alloc (.cells #[.slice A0 l0.length c0, .slice A1 l1.length c1, .slice A2 l2.length c2, .slice A3 l3.length c3, .slice A4 l4.length c4] 27)).alloc (.cells #[.slice none 0 0, .slice none 0 0, .slice none 0 0, .slice none 0 0, .slice none 0 0] 27)), w2 = y2.val := ⟨⟨w2, by rw [show ((w.alloc (.cells #[.slice A0 l0.length c0, .slice A1 l1.length c1, .slice A2 l2.length c2, .slice A3 l3.length c3, .slice A4 l4.length c4] 27)).alloc (.cells #[.slice none 0 0, .slice none 0 0, .slice none 0 0, .slice none 0 0, .slice none 0 0] 27)).heap.size = w.heap.size + 2 by simp]; exact hB2⟩, rfl⟩
        go_roundg gk
        case measure => have := hih.out; omega
        case rel =>
          refine ⟨i + 1, y2, by go_num, rfl, by show i + 1 + gk = l3.length; have := hih.out; omega, NetV.gates (hN.below z.ok) ((z.ok.block g3 hg3l).trans hg3b) hg2, ?_, Nat.le_trans hxy (Nat.le_trans z.size hg2.size)⟩
          rw [← hxseth.out]
          exact hS2
      · obtain rfl : i = l3.length := by have := hi.out; omega
        rw [List.take_length, List.drop_length, List.map_nil, List.append_nil] at hG
        have hGe := gates_end hG
        have hgc0 : y.val.cell? ⟨g, 0, none⟩ = some (.slice B0 l0.length d0) := (cell_of_row y.val g 0 _ _ _ hN.blk).trans rfl
        have hgc1 : y.val.cell? ⟨g, 1, none⟩ = some (.slice B1 l1.length d1) := (cell_of_row y.val g 1 _ _ _ hN.blk).trans rfl
        have hgc2 : y.val.cell? ⟨g, 2, none⟩ = some (.slice B2 l2.length d2) := (cell_of_row y.val g 2 _ _ _ hN.blk).trans rfl
        have hgc4 : y.val.cell? ⟨g, 4, none⟩ = some (.slice B4 l4.length d4) := (cell_of_row y.val g 4 _ _ _ hN.blk).trans rfl
        have hyB : w.heap.size + 1 < y.val.heap.size := by have := hsz y; omega
        have hrb : y.val.heap[w.heap.size + 1]? = some (.cells #[.slice none 0 0, .slice none 0 0, .slice none 0 0, .slice none 0 0, .slice none 0 0] 27 (0, 0)) := (y.ok.block (w.heap.size + 1) (by simp)).trans (heap_alloc2_new w _ _)
        obtain ⟨hrow, hother⟩ := set5 (.slice B0 l0.length d0) (.slice B1 l1.length d1) (.slice B2 l2.length d2) (.slice B3 l3.length d3) (.slice B4 l4.length d4) hrb
        go_wp2
        ((try simp only [Exit.inBlock, Exit.then]); refine bodyPost_ret (results_cell_row rfl _ _ (w.heap.size + 1) _ _ _ _ rfl hrow Try.underlying27 rfl (by kernel_rfl)) rfl ?_)
        have mv : ∀ {α : Type} {d : Kd α} {e : Nat} {v : Value} {xs : List α} {ok : Nat → Prop}, Kd.R d e y.val (w.heap.size + 2) ok v xs → Kd.R d e _ w.heap.size ok v xs := fun h =>
          Kd.R_lower (Kd.R_mono (Kd.R_step (Kd.R_bound h) (fun k hk _ => hother k (by have := hk.2.1; omega))) (fun _ hk => hk.1)) (by omega)
        refine ⟨_, _, _, _, _, rfl, mv (Kd.R_mono (Kd.R_tight rfl hN.r0) (fun k hk e => hN.n01 k hk.symm e.symm)), mv (Kd.R_mono (Kd.R_tight rfl hN.r1) (fun k hk e => hN.n01 k e.symm hk.symm)), mv hN.r2, ?_, mv hN.r4, ?_⟩
        · exact Kd.S_lower (Kd.S_mono (Kd.S_step (Kd.S_bound hGe) (fun k hk _ => hother k (by have := hk.2.1; omega))) (fun _ hk => hk.1)) (by omega)
        · exact (((((bel y).setCell (p := ⟨w.heap.size + 1, 0, none⟩) (by simp) _).setCell (p := ⟨w.heap.size + 1, 1, none⟩) (by simp) _).setCell (p := ⟨w.heap.size + 1, 2, none⟩) (by simp) _).setCell (p := ⟨w.heap.size + 1, 3, none⟩) (by simp) _).setCell (p := ⟨w.heap.size + 1, 4, none⟩) (by simp) _
end Go.Proofs.Ytimjccfpobhpeaa
namespace Go.Proofs.Ytimjccfpobhpeaa
open Go.RowKit Go.Proofs.YtimjccfpobhpeaaW.PrintWords Go.Proofs.Ytimjccfpobhpeaa.PF
set_option maxRecDepth 100000
def pinPlaces (i : Nat) : List Int → Nat → List (Int × Load)
  | [], _ => []
  | net :: r, k => (net, ⟨0, i, k⟩) :: pinPlaces i r (k + 1)
def gatePlaces : List S80 → Nat → List (Int × Load)
  | [], _ => []
  | g :: r, i => pinPlaces i g.f2 0 ++ gatePlaces r (i + 1)
def flopPlaces : List S82 → Nat → List (Int × Load)
  | [], _ => []
  | f :: r, i => (f.f2, ⟨1, i, 0⟩) :: (f.f3, ⟨2, i, 0⟩) :: flopPlaces r (i + 1)
def outPlaces : List Int → Nat → List (Int × Load)
  | [], _ => []
  | net :: r, i => (net, ⟨3, i, 0⟩) :: outPlaces r (i + 1)
def placesOf (l2 : List S82) (l3 : List S80) (l4 : List Int) : List (Int × Load) := gatePlaces l3 0 ++ (flopPlaces l2 0 ++ outPlaces l4 0)
def loadsFrom (rows : List (List Load)) (ps : List (Int × Load)) : List (List Load) := ps.foldl (fun r p => useF r p.1 p.2) rows
structure GoodP (n : Nat) (rows : List (List Load)) (ps : List (Int × Load)) : Prop where
  len : rows.length = n
  rng : ∀ p ∈ ps, 0 ≤ p.1 ∧ p.1 < n
  few : ∀ j, (rows.getD j []).length + ps.length ≤ 1000000000
theorem GoodP.head {n : Nat} {rows : List (List Load)} {p : Int × Load} {ps : List (Int × Load)} (h : GoodP n rows (p :: ps)) : 0 ≤ p.1 ∧ p.1 < rows.length ∧ ((rows.getD p.1.toNat []).length + 1) * 24 ≤ 140737488355328 := by
  have h1 := h.rng p List.mem_cons_self
  have h2 := h.few p.1.toNat
  have h3 := h.len
  rw [List.length_cons] at h2
  exact ⟨h1.1, by omega, by omega⟩
theorem GoodP.tail {n : Nat} {rows : List (List Load)} {p : Int × Load} {ps : List (Int × Load)} (h : GoodP n rows (p :: ps)) : GoodP n (useF rows p.1 p.2) ps := by
  refine ⟨by unfold useF; rw [List.length_set]; exact h.len, fun q hq => h.rng q (List.mem_cons_of_mem _ hq), fun j => ?_⟩
  have h2 := h.few j
  rw [List.length_cons] at h2
  unfold useF
  rw [List.getD_eq_getElem?_getD, List.getElem?_set]
  split
  · rename_i hj
    subst hj
    split
    · simp only [Option.getD_some, List.length_append, List.length_singleton]
      omega
    · simp
      omega
  · rw [← List.getD_eq_getElem?_getD]
    omega
structure Rows70 (W0 : World) (w : World) (g : Nat) (v : Value) (rows : List (List Load)) : Prop where
  blk : w.heap[g]? = some (.cells #[v] 70 (0, 0))
  s : Kd.S (Kd.slice 77 kLoad) 75 w W0.heap.size (fun _ => True) v rows
theorem Rows70.below {W0 w w1 : World} {g : Nat} {v : Value} {rows : List (List Load)} (h : Rows70 W0 w g v rows) (hb : Below w.heap.size w w1) : Rows70 W0 w1 g v rows :=
  ⟨(hb.block g (Array.getElem?_eq_some_iff.1 h.blk).1).trans h.blk, Kd.S_below h.s hb⟩
theorem use_step {W0 : World} (y : Under W0) {n g : Nat} {v : Value} {rows : List (List Load)} {net : Int} {l : Load} {ps : List (Int × Load)} (h : Rows70 W0 y.val g v rows) (hg : GoodP n rows ((net, l) :: ps)) :
    Calls Try.prog 53 #[.int .i64 net, .agg #[.int .i64 l.f0, .int .i64 l.f1, .int .i64 l.f2], .pointer (some ⟨g, 0, none⟩)] y.val fun e w' => e = .returned (.tuple #[]) ∧
      ∃ z : Under W0, w' = z.val ∧ Rows70 W0 z.val g v (useF rows net l) ∧ GoodP n (useF rows net l) ps ∧ y.val.heap.size ≤ z.val.heap.size ∧
      ∀ (k : Nat) (t : TypeId) (cs : Array Value), y.val.heap[k]? = some (.cells cs t (0, 0)) → t ≠ 75 → t ≠ 77 → z.val.heap[k]? = y.val.heap[k]? :=
  (use_calls g W0.heap.size W0 y.val v rows net l h.blk h.s hg.head.1 hg.head.2.1 hg.head.2.2 y.size y.ok).mono fun _ w' ⟨he, hb, hS, hB, hz, hk⟩ => ⟨he, ⟨w', hB⟩, rfl, ⟨hb, hS⟩, hg.tail, hz, hk⟩
theorem kd_gate {w : World} {A : Option Addr} {n : Nat} {xs : List S80} (h : Kd.C k80 w A n xs) {i : Nat} {x : S80} (hx : xs[i]? = some x) :
    ∃ b o A2 c2, A = some ⟨b, o, none⟩ ∧ b < w.heap.size ∧ w.cell? ⟨b, o + i * 3, none⟩ = some (.int .i64 x.f0) ∧ w.cell? ⟨b, o + i * 3 + 1, none⟩ = some (.int .u64 x.f1) ∧ w.cell? ⟨b, o + i * 3 + 2, none⟩ = some (.slice A2 x.f2.length c2) ∧ Kd.C (Kd.int .i64) w A2 x.f2.length x.f2 := by
  obtain ⟨b, o, cs, rfl, hb, _, hK, hc⟩ := kd_at h (by exact Nat.succ_pos _) hx
  obtain ⟨A2, c2, rfl, _, hC⟩ := k80_open hK
  exact ⟨b, o, A2, c2, rfl, hb, hc 0 _ rfl, by have := hc 1 _ rfl; rwa [← Nat.add_assoc] at this, by have := hc 2 _ rfl; rwa [← Nat.add_assoc] at this, hC⟩
theorem kd_flop {w : World} {A : Option Addr} {n : Nat} {xs : List S82} (h : Kd.C k82 w A n xs) {i : Nat} {x : S82} (hx : xs[i]? = some x) :
    ∃ b o, A = some ⟨b, o, none⟩ ∧ b < w.heap.size ∧ w.cell? ⟨b, o + i * 5, none⟩ = some (.string x.f0) ∧ w.cell? ⟨b, o + i * 5 + 1, none⟩ = some (.int .i64 x.f1) ∧ w.cell? ⟨b, o + i * 5 + 2, none⟩ = some (.int .i64 x.f2) ∧ w.cell? ⟨b, o + i * 5 + 3, none⟩ = some (.int .i64 x.f3) ∧ w.cell? ⟨b, o + i * 5 + 4, none⟩ = some (.bool x.f4) := by
  obtain ⟨b, o, cs, rfl, hb, _, hK, hc⟩ := kd_at h (by exact Nat.succ_pos _) hx
  obtain rfl := k82_open hK
  exact ⟨b, o, rfl, hb, hc 0 _ rfl, by have := hc 1 _ rfl; rwa [← Nat.add_assoc] at this, by have := hc 2 _ rfl; rwa [← Nat.add_assoc] at this, by have := hc 3 _ rfl; rwa [← Nat.add_assoc] at this, by have := hc 4 _ rfl; rwa [← Nat.add_assoc] at this⟩
set_option maxHeartbeats 16000000 in
theorem loads_ok (A0 A1 A2 A3 A4 : Option Addr) (n0 n1 c0 c1 c2 c3 c4 : Nat) (l2 : List S82) (l3 : List S80) (l4 : List Int) (w : World) (nets : Nat)
    (h2 : Kd.C k82 w A2 l2.length l2) (h3 : Kd.C k80 w A3 l3.length l3) (h4 : Kd.C (Kd.int .i64) w A4 l4.length l4)
    (HF : ∀ W, Below w.heap.size w W → Calls Try.prog 9 #[.agg #[.slice A0 n0 c0, .slice A1 n1 c1, .slice A2 l2.length c2, .slice A3 l3.length c3, .slice A4 l4.length c4]] W fun e w' => e = .returned (.int .i64 0) ∧ Below W.heap.size W w')
    (HN : ∀ W, Below w.heap.size w W → Calls Try.prog 52 #[.agg #[.slice A0 n0 c0, .slice A1 n1 c1, .slice A2 l2.length c2, .slice A3 l3.length c3, .slice A4 l4.length c4]] W fun e w' => e = .returned (.int .i64 nets) ∧ Below W.heap.size W w')
    (hgood : GoodP nets (List.replicate nets []) (placesOf l2 l3 l4)) (hn : nets ≤ 1000000000) :
    Calls Try.prog 27 #[.agg #[.slice A0 n0 c0, .slice A1 n1 c1, .slice A2 l2.length c2, .slice A3 l3.length c3, .slice A4 l4.length c4]] w fun e w' => ∃ v, e = .returned (.tuple #[v, .int .i64 0]) ∧
      Kd.S (Kd.slice 77 kLoad) 75 w' w.heap.size (fun _ => True) v (loadsFrom (List.replicate nets []) (placesOf l2 l3 l4)) ∧ Below w.heap.size w w' := by
  have hu := Try.underlying27
  have hu2 := Try.underlying23
  have hu3 := Try.underlying24
  have hu4 := Try.underlying25
  have hu5 := Try.underlying77
  have hu6 := Try.underlying80
  have hu7 := Try.underlying82
  have hW0 : Below w.heap.size w (w.alloc (.cells #[.slice A0 n0 c0, .slice A1 n1 c1, .slice A2 l2.length c2, .slice A3 l3.length c3, .slice A4 l4.length c4] 27)) := (Below.refl _ _).alloc (Nat.le_refl _) _
  have bel : ∀ x : Under (w.alloc (.cells #[.slice A0 n0 c0, .slice A1 n1 c1, .slice A2 l2.length c2, .slice A3 l3.length c3, .slice A4 l4.length c4] 27)), Below w.heap.size w x.val := fun x => hW0.trans (x.ok.mono (by simp))
  have hsz : ∀ x : Under (w.alloc (.cells #[.slice A0 n0 c0, .slice A1 n1 c1, .slice A2 l2.length c2, .slice A3 l3.length c3, .slice A4 l4.length c4] 27)), w.heap.size < x.val.heap.size := fun x => Nat.lt_of_lt_of_le (by simp) x.size
  have hm2 := (kd_len h2).2
  have hm3 := (kd_len h3).2
  have hm4 := (kd_len h4).2
  go_enter Try.func27, Try.ntmps27
  go_wp2_with (first
    | (go_at_call 9; refine (HF _ hW0).mono ?_; rintro e w1 ⟨rfl, hB1⟩; obtain ⟨x1, rfl⟩ : ∃ x : Under (w.alloc (.cells #[.slice A0 n0 c0, .slice A1 n1 c1, .slice A2 l2.length c2, .slice A3 l3.length c3, .slice A4 l4.length c4] 27)), w1 = x.val := ⟨⟨w1, hB1⟩, rfl⟩; clear hB1)
    | (go_at_call 52; refine (HN _ (bel x1)).mono ?_; rintro e w2 ⟨rfl, hB2⟩; obtain ⟨x2, rfl⟩ : ∃ x : Under (w.alloc (.cells #[.slice A0 n0 c0, .slice A1 n1 c1, .slice A2 l2.length c2, .slice A3 l3.length c3, .slice A4 l4.length c4] 27)), w2 = x.val := ⟨⟨w2, x1.ok.trans (hB2.mono x1.size)⟩, rfl⟩; clear hB2)
    | ((with_reducible refine gate_dst (N := 22) rfl ?_); refine Kd.S_make (Kd.slice 77 kLoad) (w0 := w.alloc (.cells #[.slice A0 n0 c0, .slice A1 n1 c1, .slice A2 l2.length c2, .slice A3 l3.length c3, .slice A4 l4.length c4] 27)) (w.alloc (.cells #[.slice A0 n0 c0, .slice A1 n1 c1, .slice A2 l2.length c2, .slice A3 l3.length c3, .slice A4 l4.length c4] 27)).heap.size 75 rfl (N := 22) rfl 70 (.tmp 21) (.tmp 21) rfl (nets : Int) rfl rfl Try.underlying70 (.slice none 0 0) 24 (by kernel_rfl) rfl (by exact Nat.succ_pos _) (by decide) [] (ok := fun _ => True) (okp := fun _ => False) ⟨_, rfl, Kd.R_nil _ _ _ _ _⟩ (fun _ h => h.elim) trivial (by omega) (by simp; omega) x2.ok x2.size ?_; intro v3 w3 hS3 hB3 hg3 _; obtain ⟨x3, rfl⟩ : ∃ x : Under (w.alloc (.cells #[.slice A0 n0 c0, .slice A1 n1 c1, .slice A2 l2.length c2, .slice A3 l3.length c3, .slice A4 l4.length c4] 27)), w3 = x.val := ⟨⟨w3, hB3⟩, rfl⟩; rw [Int.toNat_natCast] at hS3; obtain ⟨B3, d3, rfl⟩ := Kd.S_slice hS3; rw [List.length_replicate] at hS3))
  have hg5l : x3.val.heap.size < (x3.val.alloc (.cells #[.slice B3 nets d3] 70)).heap.size := by simp
  have hg5s := hsz x3
  have hg5b := x3.size
  generalize hg5 : x3.val.heap.size = g5 at *
  have hR0 : Rows70 (w.alloc (.cells #[.slice A0 n0 c0, .slice A1 n1 c1, .slice A2 l2.length c2, .slice A3 l3.length c3, .slice A4 l4.length c4] 27)) (x3.val.alloc (.cells #[.slice B3 nets d3] 70)) g5 (.slice B3 nets d3) (List.replicate nets []) := ⟨by rw [← hg5]; exact heap_alloc_new _ _, Kd.S_alloc hS3 _⟩
  have hgoodh := Lib.hid hgood
  have hg5h := Lib.hid hg5
  clear hS3 hB3 hg3 hg5 hgood
  go_loopg [7, 8, 9, 10, 27] l3.length (fun d _ _ _ _ t wr => ∃ (i : Nat) (y : Under (w.alloc (.cells #[.slice A0 n0 c0, .slice A1 n1 c1, .slice A2 l2.length c2, .slice A3 l3.length c3, .slice A4 l4.length c4] 27))) (rows : List (List Load)), t = .int .i64 i ∧ wr = y.val ∧ Aside (i + d = l3.length) ∧ Rows70 (w.alloc (.cells #[.slice A0 n0 c0, .slice A1 n1 c1, .slice A2 l2.length c2, .slice A3 l3.length c3, .slice A4 l4.length c4] 27)) y.val g5 (.slice B3 nets d3) rows ∧
    GoodP nets rows (gatePlaces (l3.drop i) i ++ (flopPlaces l2 0 ++ outPlaces l4 0)) ∧ Aside (loadsFrom rows (gatePlaces (l3.drop i) i ++ (flopPlaces l2 0 ++ outPlaces l4 0)) = loadsFrom (List.replicate nets []) (placesOf l2 l3 l4)))
  case atStart => exact ⟨0, x3.alloc _, _, rfl, rfl, by show 0 + l3.length = l3.length; omega, hR0, hgoodh.out, rfl⟩
  case round =>
    clear hR0
    obtain ⟨i, y, rows, rfl, rfl, hi, hR, hG, hL⟩ := hrel
    have hyl := hsz y
    have hgy := Array.getElem?_eq_some_iff.1 hR.blk |>.1
    by_cases hlt : i < l3.length
    · obtain ⟨gi, hgi⟩ := get_ex hlt
      obtain ⟨b, ob, A5, c5, rfl, hb, hk0, hk1, hk2, hC⟩ := kd_gate h3 hgi
      obtain ⟨gO, rfl⟩ : ∃ m, gk = m + 1 := ⟨gk - 1, by have := hi.out; omega⟩
      have hbl : b ≤ w.heap.size := by omega
      have hbn : b ≠ w.heap.size := by omega
      have hby : b < y.val.heap.size := by omega
      have hm5 := (kd_len hC).2
      rw [drop_cons hgi, gatePlaces, List.append_assoc] at hG hL
      have hih := Lib.hid hi.out
      have hLh := Lib.hid hL.out
      have hgih := Lib.hid hgi
      clear hi hL hgi
      go_wp2
      go_loopg [9, 10, 35] gi.f2.length (fun d _ _ t wr => ∃ (k : Nat) (y : Under (w.alloc (.cells #[.slice A0 n0 c0, .slice A1 n1 c1, .slice A2 l2.length c2, .slice (some ⟨b, ob, none⟩) l3.length c3, .slice A4 l4.length c4] 27))) (rows : List (List Load)), t = .int .i64 k ∧ wr = y.val ∧ Aside (k + d = gi.f2.length) ∧ Rows70 (w.alloc (.cells #[.slice A0 n0 c0, .slice A1 n1 c1, .slice A2 l2.length c2, .slice (some ⟨b, ob, none⟩) l3.length c3, .slice A4 l4.length c4] 27)) y.val g5 (.slice B3 nets d3) rows ∧
        GoodP nets rows (pinPlaces i (gi.f2.drop k) k ++ (gatePlaces (l3.drop (i + 1)) (i + 1) ++ (flopPlaces l2 0 ++ outPlaces l4 0))) ∧ Aside (loadsFrom rows (pinPlaces i (gi.f2.drop k) k ++ (gatePlaces (l3.drop (i + 1)) (i + 1) ++ (flopPlaces l2 0 ++ outPlaces l4 0))) = loadsFrom (List.replicate nets []) (placesOf l2 l3 l4)))
      case atStart => exact ⟨0, y.alloc _, rows, rfl, rfl, by show 0 + gi.f2.length = gi.f2.length; omega, hR.below (below_alloc (Below.refl _ _) _), hG, hLh.out⟩
      case round =>
        clear hR hG hLh hyl hgy hby
        obtain ⟨k, y, rows, rfl, rfl, hk, hR, hG, hL⟩ := hrel
        have hyl := hsz y
        by_cases hlk : k < gi.f2.length
        · obtain ⟨net, hnet⟩ := get_ex hlk
          obtain ⟨b2, o2, rfl, hb2, hkn⟩ := kd_int hC hnet
          obtain ⟨gI, rfl⟩ : ∃ m, gk = m + 1 := ⟨gk - 1, by have := hk.out; omega⟩
          have hbl2 : b2 ≤ w.heap.size := by omega
          have hbn2 : b2 ≠ w.heap.size := by omega
          have hby2 : b2 < y.val.heap.size := by omega
          rw [drop_cons hnet, pinPlaces, List.cons_append] at hG hL
          have hkh := Lib.hid hk.out
          have hLh := Lib.hid hL.out
          clear hk hL hnet
          go_wp2_with (go_at_call 53; refine (use_step y hR hG).mono ?_; rintro e w' ⟨rfl, z, rfl, hRz, hGz, -, -⟩)
          go_roundg gI
          case measure => have := hkh.out; omega
          case rel => exact ⟨k + 1, z, _, by go_num, rfl, by show k + 1 + gI = gi.f2.length; have := hkh.out; omega, hRz, hGz, hLh.out⟩
        · obtain rfl : k = gi.f2.length := by have := hk.out; omega
          rw [drop_end, pinPlaces, List.nil_append] at hG hL
          have hLh := Lib.hid hL.out
          clear hk hL
          go_wp2
          go_roundg gO
          case measure => have := hih.out; omega
          case rel => exact ⟨i + 1, y, _, by go_num, rfl, by show i + 1 + gO = l3.length; have := hih.out; omega, hR, hG, hLh.out⟩
    · obtain rfl : i = l3.length := by have := hi.out; omega
      rw [drop_end, gatePlaces, List.nil_append] at hG hL
      have hLh0 := Lib.hid hL.out
      clear hi hL
      go_wp2
      go_loopg [11, 12, 51] l2.length (fun d _ _ t wr => ∃ (i : Nat) (y : Under (w.alloc (.cells #[.slice A0 n0 c0, .slice A1 n1 c1, .slice A2 l2.length c2, .slice A3 l3.length c3, .slice A4 l4.length c4] 27))) (rows : List (List Load)), t = .int .i64 i ∧ wr = y.val ∧ Aside (i + d = l2.length) ∧ Rows70 (w.alloc (.cells #[.slice A0 n0 c0, .slice A1 n1 c1, .slice A2 l2.length c2, .slice A3 l3.length c3, .slice A4 l4.length c4] 27)) y.val g5 (.slice B3 nets d3) rows ∧
        GoodP nets rows (flopPlaces (l2.drop i) i ++ outPlaces l4 0) ∧ Aside (loadsFrom rows (flopPlaces (l2.drop i) i ++ outPlaces l4 0) = loadsFrom (List.replicate nets []) (placesOf l2 l3 l4)))
      case atStart => exact ⟨0, y, rows, rfl, rfl, by show 0 + l2.length = l2.length; omega, hR, hG, hLh0.out⟩
      case round =>
        clear hR hG hLh0 hyl hgy
        obtain ⟨i, y, rows, rfl, rfl, hi, hR, hG, hL⟩ := hrel
        have hyl := hsz y
        have hgy := Array.getElem?_eq_some_iff.1 hR.blk |>.1
        by_cases hlt2 : i < l2.length
        · obtain ⟨fi, hfi⟩ := get_ex hlt2
          obtain ⟨b, ob, rfl, hb, hk0, hk1, hk2, hk3, hk4⟩ := kd_flop h2 hfi
          obtain ⟨gO, rfl⟩ : ∃ m, gk = m + 1 := ⟨gk - 1, by have := hi.out; omega⟩
          have hbl : b ≤ w.heap.size := by omega
          have hbn : b ≠ w.heap.size := by omega
          have hby : b < y.val.heap.size := by omega
          rw [drop_cons hfi, flopPlaces, List.cons_append, List.cons_append] at hG hL
          have hih := Lib.hid hi.out
          have hLh := Lib.hid hL.out
          clear hi hL hfi
          have hR1 := hR.below (below_alloc (Below.refl _ _) (.cells #[.string fi.f0, .int .i64 fi.f1, .int .i64 fi.f2, .int .i64 fi.f3, .bool fi.f4] 82))
          go_wp2_with (first
            | (go_at_call 53; refine (use_step z1 hRz1 hGz1).mono ?_; rintro e w' ⟨rfl, z2, rfl, hRz2, hGz2, -, -⟩)
            | (go_at_call 53; refine (use_step (y.alloc (.cells #[.string fi.f0, .int .i64 fi.f1, .int .i64 fi.f2, .int .i64 fi.f3, .bool fi.f4] 82)) hR1 hG).mono ?_; rintro e w' ⟨rfl, z1, rfl, hRz1, hGz1, hz1s, hz1k⟩; have hz1b := (hz1k y.val.heap.size _ _ (heap_alloc_new _ _) (by decide) (by decide)).trans (heap_alloc_new _ _); have hz1c : z1.val.cell? ⟨y.val.heap.size, 3, none⟩ = some (.int .i64 fi.f3) := (cell_of_row _ _ 3 _ _ _ hz1b).trans rfl; clear hz1b hz1k hz1s))
          go_roundg gO
          case measure => have := hih.out; omega
          case rel => exact ⟨i + 1, z2, _, by go_num, rfl, by show i + 1 + gO = l2.length; have := hih.out; omega, hRz2, hGz2, hLh.out⟩
        · obtain rfl : i = l2.length := by have := hi.out; omega
          rw [drop_end, flopPlaces, List.nil_append] at hG hL
          have hLh1 := Lib.hid hL.out
          clear hi hL
          go_wp2
          go_loopg [13, 14, 72] l4.length (fun d _ _ t wr => ∃ (i : Nat) (y : Under (w.alloc (.cells #[.slice A0 n0 c0, .slice A1 n1 c1, .slice A2 l2.length c2, .slice A3 l3.length c3, .slice A4 l4.length c4] 27))) (rows : List (List Load)), t = .int .i64 i ∧ wr = y.val ∧ Aside (i + d = l4.length) ∧ Rows70 (w.alloc (.cells #[.slice A0 n0 c0, .slice A1 n1 c1, .slice A2 l2.length c2, .slice A3 l3.length c3, .slice A4 l4.length c4] 27)) y.val g5 (.slice B3 nets d3) rows ∧
            GoodP nets rows (outPlaces (l4.drop i) i) ∧ Aside (loadsFrom rows (outPlaces (l4.drop i) i) = loadsFrom (List.replicate nets []) (placesOf l2 l3 l4)))
          case atStart => exact ⟨0, y, rows, rfl, rfl, by show 0 + l4.length = l4.length; omega, hR, hG, hLh1.out⟩
          case round =>
            clear hR hG hLh1 hyl hgy
            obtain ⟨i, y, rows, rfl, rfl, hi, hR, hG, hL⟩ := hrel
            have hyl := hsz y
            have hgy := Array.getElem?_eq_some_iff.1 hR.blk |>.1
            by_cases hlt4 : i < l4.length
            · obtain ⟨net, hnet⟩ := get_ex hlt4
              obtain ⟨b, ob, rfl, hb, hkn⟩ := kd_int h4 hnet
              obtain ⟨gO, rfl⟩ : ∃ m, gk = m + 1 := ⟨gk - 1, by have := hi.out; omega⟩
              have hbl : b ≤ w.heap.size := by omega
              have hbn : b ≠ w.heap.size := by omega
              have hby : b < y.val.heap.size := by omega
              rw [drop_cons hnet, outPlaces] at hG hL
              have hih := Lib.hid hi.out
              have hLh := Lib.hid hL.out
              clear hi hL hnet
              go_wp2_with (go_at_call 53; refine (use_step y hR hG).mono ?_; rintro e w' ⟨rfl, z, rfl, hRz, hGz, -, -⟩)
              go_roundg gO
              case measure => have := hih.out; omega
              case rel => exact ⟨i + 1, z, _, by go_num, rfl, by show i + 1 + gO = l4.length; have := hih.out; omega, hRz, hGz, hLh.out⟩
            · obtain rfl : i = l4.length := by have := hi.out; omega
              rw [drop_end, outPlaces] at hL
              have hLh2 := Lib.hid hL.out
              have hcv : y.val.cell? ⟨g5, 0, none⟩ = some (.slice B3 nets d3) := (cell_of_row _ _ 0 _ _ _ hR.blk).trans rfl
              clear hi hL hG
              go_wp2
              go_ret2
              refine ⟨_, rfl, ?_, bel y⟩
              rw [← hLh2.out]
              exact Kd.S_lower hR.s (by simp)
end Go.Proofs.Ytimjccfpobhpeaa
namespace Go.Proofs.Ytimjccfpobhpeaa
open Go.RowKit Go.Proofs.YtimjccfpobhpeaaW.PrintWords Go.Proofs.Ytimjccfpobhpeaa.PF
set_option maxRecDepth 100000
structure NetR (T : Nat → Prop) (B : Nat) (w : World) (v0 v1 v2 v3 v4 : Value) (l0 l1 : List ByteArray) (l2 : List Flop) (l3 : List Gate) (l4 : List Int) : Prop where
  r0 : Kd.R Kd.string 9 w B (fun k => T k ∧ some k ≠ v1.ownBlock) v0 l0
  r1 : Kd.R Kd.string 9 w B (fun k => T k ∧ some k ≠ v0.ownBlock) v1 l1
  r2 : Kd.R kFlop 82 w B T v2 l2
  r3 : Kd.S kGate 80 w B (fun k => T k ∧ some k ≠ v4.ownBlock) v3 l3
  r4 : Kd.R (Kd.int .i64) 3 w B T v4 l4
section
variable {T : Nat → Prop} {B : Nat} {w w1 : World} {v0 v1 v2 v3 v4 : Value} {l0 l1 : List ByteArray} {l2 : List Flop} {l3 : List Gate} {l4 : List Int}
theorem NetR.below (h : NetR T B w v0 v1 v2 v3 v4 l0 l1 l2 l3 l4) (hb : Below w.heap.size w w1) : NetR T B w1 v0 v1 v2 v3 v4 l0 l1 l2 l3 l4 :=
  ⟨Kd.R_below h.r0 hb, Kd.R_below h.r1 hb, Kd.R_below h.r2 hb, Kd.S_below h.r3 hb, Kd.R_below h.r4 hb⟩
theorem NetR.lower {B' : Nat} (h : NetR T B w v0 v1 v2 v3 v4 l0 l1 l2 l3 l4) (hb : B' ≤ B) : NetR T B' w v0 v1 v2 v3 v4 l0 l1 l2 l3 l4 :=
  ⟨Kd.R_lower h.r0 hb, Kd.R_lower h.r1 hb, Kd.R_lower h.r2 hb, Kd.S_lower h.r3 hb, Kd.R_lower h.r4 hb⟩
theorem NetR.vars (h : NetR T B w v0 v1 v2 v3 v4 l0 l1 l2 l3 l4) (hm : ∀ k, k < w.heap.size → B ≤ k → w1.heap[k]? = w.heap[k]?) : NetR T B w1 v0 v1 v2 v3 v4 l0 l1 l2 l3 l4 := by
  have mv : ∀ {α : Type} {d : Kd α} {e : Nat} {v : Value} {xs : List α} {ok : Nat → Prop}, Kd.R d e w B ok v xs → Kd.R d e w1 B ok v xs := fun h =>
    Kd.R_mono (Kd.R_step (Kd.R_bound h) (fun k hk hl => hm k hl hk.2.1)) (fun _ hk => hk.1)
  exact ⟨mv h.r0, mv h.r1, mv h.r2, Kd.S_mono (Kd.S_step (Kd.S_bound h.r3) (fun k hk hl => hm k hl hk.2.1)) (fun _ hk => hk.1), mv h.r4⟩
theorem mvT {α : Type} {d : Kd α} {e gi t : Nat} {v : Value} {xs : List α} {ok : Nat → Prop} {cells : Array Value} (h : Kd.R d e w B ok v xs) (hc : w.heap[gi]? = some (.cells cells t (0, 0))) (ht : ∀ q, q ∈ e :: d.E → q ≠ t) (hg : w.grownBy w1 (some gi)) : Kd.R d e w1 B ok v xs :=
  Kd.R_mono (Kd.R_step (Kd.R_types h hc ht) (fun k hk hl => hg.block k hl (fun e => hk.2 (by injection e)))) (fun _ hk => hk.1)
theorem ne_typed {g gi t t' : Nat} {cs cs' : Array Value} (h : w.heap[g]? = some (.cells cs t (0, 0))) (h' : w.heap[gi]? = some (.cells cs' t' (0, 0))) (ht : t ≠ t') : g ≠ gi := by
  rintro rfl
  rw [h] at h'
  injection h' with h'
  injection h' with _ h'
  exact ht h'
theorem flop_set {g c2 : Nat} (h : Kd.R kFlop 82 w B T (.slice (some ⟨g, 0, none⟩) l2.length c2) l2) {i : Nat} {x : Flop} (hx : l2[i]? = some x) (j : Nat) (hj : j = 2 ∨ j = 3) (val : Int) :
    w.cell? ⟨g, i * 5 + j, none⟩ = some (.int .i64 (if j = 2 then x.f2 else x.f3)) ∧ w.frozen? ⟨g, i * 5 + j, none⟩ = false ∧
      Kd.R kFlop 82 (w.setCell ⟨g, i * 5 + j, none⟩ (.int .i64 val)) B T (.slice (some ⟨g, 0, none⟩) l2.length c2) (l2.set i (if j = 2 then ⟨x.f0, x.f1, val, x.f3, x.f4⟩ else ⟨x.f0, x.f1, x.f2, val, x.f4⟩)) ∧
      w.grownBy (w.setCell ⟨g, i * 5 + j, none⟩ (.int .i64 val)) (some g) := by
  have hi : i < l2.length := (List.getElem?_eq_some_iff.1 hx).1
  obtain ⟨c, hcl, hM, hcc, hfr⟩ := Kd.R_elem h x (i : Int) (by omega) (by omega)
  rw [show l2.getD (i : Int).toNat x = x by simp [List.getD, hx]] at hM
  obtain rfl := k82_openM hM
  have hseg := fun (x' : Flop) (hM' : kFlop.M w B (fun _ => False) x' _) => Kd.R_seg h (i : Int) (by omega) (by omega) (c := [.string x.f0, .int .i64 x.f1, .int .i64 x.f2, .int .i64 x.f3, .bool x.f4]) (seg := [.int .i64 val]) (j := j) hcl hcc (by rcases hj with rfl | rfl; exact (by show 2 + 1 ≤ 5; decide); exact (by show 3 + 1 ≤ 5; decide)) (x' := x') hM' (fun _ hk => hk.elim)
  rcases hj with rfl | rfl
  · obtain ⟨h1, h2⟩ := hseg ⟨x.f0, x.f1, val, x.f3, x.f4⟩ (k82_mkM _ _ _ _)
    exact ⟨hcc 2 _ rfl, hfr 2, h1, h2⟩
  · obtain ⟨h1, h2⟩ := hseg ⟨x.f0, x.f1, x.f2, val, x.f4⟩ (k82_mkM _ _ _ _)
    exact ⟨hcc 3 _ rfl, hfr 3, h1, h2⟩
theorem NetR.pin (h : NetR T B w v0 v1 v2 v3 v4 l0 l1 l2 l3 l4) {i k : Nat} {x : Gate} (hx : l3[i]? = some x) (hk : k < x.f2.length) :
    ∃ g3 c3 gi ci, v3 = .slice (some ⟨g3, 0, none⟩) l3.length c3 ∧ w.cell? ⟨g3, i * 3 + 2, none⟩ = some (.slice (some ⟨gi, 0, none⟩) x.f2.length ci) ∧ w.cell? ⟨gi, k, none⟩ = some (.int .i64 (x.f2.getD k 0)) ∧ w.frozen? ⟨gi, k, none⟩ = false ∧
      g3 < w.heap.size ∧ gi < w.heap.size ∧ B ≤ g3 ∧ B ≤ gi ∧ T gi ∧ (∃ cs, w.heap[g3]? = some (.cells cs 80 (0, 0))) ∧ (∃ cs, w.heap[gi]? = some (.cells cs 3 (0, 0))) ∧
      ∀ val, NetR T B (w.setCell ⟨gi, k, none⟩ (.int .i64 val)) v0 v1 v2 v3 v4 l0 l1 l2 (l3.set i ⟨x.f0, x.f1, x.f2.set k val⟩) l4 := by
  have hi : i < l3.length := (List.getElem?_eq_some_iff.1 hx).1
  obtain ⟨g3, c3, rfl, hg3, hg3l, hg3c⟩ := Kd.S_form h.r3 (by omega)
  obtain ⟨oki, c, hcl, hM, hcc, hoki, hback⟩ := Kd.S_borrow h.r3 x (i : Int) (by omega) (by omega)
  rw [show l3.getD (i : Int).toNat x = x by simp [List.getD, hx]] at hM
  obtain ⟨u2, rfl, hR⟩ := k80_openM hM
  obtain ⟨gi, ci, rfl, hgi, hgil, hgic⟩ := Kd.R_form hR (by omega)
  obtain ⟨hcell, hfr⟩ := Kd.R_cell (0 : Int) hR (k : Int) (by omega) (by omega)
  refine ⟨g3, c3, gi, ci, rfl, ?_, hcell, hfr, hg3l, hgil, hg3, hgi, (hoki gi (hR.1 gi (by simp [Value.ownBlock]))).1.1, hg3c, hgic, fun val => ?_⟩
  · have := hcc 2 _ rfl
    simp only [Addr.add_lit, Nat.zero_add] at this
    exact this
  obtain ⟨hR2, hg2⟩ := Kd.R_put hR (k : Int) val
  have hgio : oki gi := hR.1 gi (by simp [Value.ownBlock])
  obtain ⟨cs, hgc⟩ := hgic
  have hS := hback (x' := ⟨x.f0, x.f1, x.f2.set k val⟩) hg2 (fun k hk => by injection hk with hk; subst hk; exact hgio) (k80_mkM _ _ _ ⟨x.f0, x.f1, x.f2.set k val⟩ (by rw [Int.toNat_natCast] at hR2; exact hR2))
  refine ⟨mvT h.r0 hgc (by decide) hg2, mvT h.r1 hgc (by decide) hg2, mvT h.r2 hgc (by decide) hg2, hS, ?_⟩
  exact Kd.R_mono (Kd.R_step (Kd.R_tight rfl h.r4) (fun k hk hl => hg2.block k hl (fun e => (hoki gi hgio).1.2 (by rw [← e, hk])))) (fun k hk => h.r4.1 k hk.symm)
theorem NetR.flop (h : NetR T B w v0 v1 v2 v3 v4 l0 l1 l2 l3 l4) {i : Nat} {x : Flop} (hx : l2[i]? = some x) :
    ∃ g2 c2, v2 = .slice (some ⟨g2, 0, none⟩) l2.length c2 ∧ g2 < w.heap.size ∧ B ≤ g2 ∧ T g2 ∧ (∃ cs, w.heap[g2]? = some (.cells cs 82 (0, 0))) ∧
      w.cell? ⟨g2, i * 5 + 2, none⟩ = some (.int .i64 x.f2) ∧ w.cell? ⟨g2, i * 5 + 3, none⟩ = some (.int .i64 x.f3) ∧ w.frozen? ⟨g2, i * 5 + 2, none⟩ = false ∧ w.frozen? ⟨g2, i * 5 + 3, none⟩ = false ∧
      ∀ val, NetR T B (w.setCell ⟨g2, i * 5 + 2, none⟩ (.int .i64 val)) v0 v1 v2 v3 v4 l0 l1 (l2.set i ⟨x.f0, x.f1, val, x.f3, x.f4⟩) l3 l4 ∧
        NetR T B (w.setCell ⟨g2, i * 5 + 3, none⟩ (.int .i64 val)) v0 v1 v2 v3 v4 l0 l1 (l2.set i ⟨x.f0, x.f1, x.f2, val, x.f4⟩) l3 l4 := by
  have hi : i < l2.length := (List.getElem?_eq_some_iff.1 hx).1
  obtain ⟨g2, c2, rfl, hg2, hg2l, cs, hgc⟩ := Kd.R_form h.r2 (by omega)
  have h2 := fun val => flop_set h.r2 hx 2 (.inl rfl) val
  have h3 := fun val => flop_set h.r2 hx 3 (.inr rfl) val
  refine ⟨g2, c2, rfl, hg2l, hg2, h.r2.1 g2 (by simp [Value.ownBlock]), ⟨cs, hgc⟩, (h2 0).1, (h3 0).1, (h2 0).2.1, (h3 0).2.1, fun val => ⟨?_, ?_⟩⟩
  · have hg := (h2 val).2.2.2
    refine ⟨mvT h.r0 hgc (by decide) hg, mvT h.r1 hgc (by decide) hg, (h2 val).2.2.1, ?_, mvT h.r4 hgc (by decide) hg⟩
    exact Kd.S_mono (Kd.S_step (Kd.S_types h.r3 hgc (by decide)) (fun k hk hl => hg.block k hl (fun e => hk.2 (by injection e)))) (fun _ hk => hk.1)
  · have hg := (h3 val).2.2.2
    refine ⟨mvT h.r0 hgc (by decide) hg, mvT h.r1 hgc (by decide) hg, (h3 val).2.2.1, ?_, mvT h.r4 hgc (by decide) hg⟩
    exact Kd.S_mono (Kd.S_step (Kd.S_types h.r3 hgc (by decide)) (fun k hk hl => hg.block k hl (fun e => hk.2 (by injection e)))) (fun _ hk => hk.1)
theorem NetR.out (h : NetR T B w v0 v1 v2 v3 v4 l0 l1 l2 l3 l4) {i : Nat} (hi : i < l4.length) :
    ∃ g4 c4, v4 = .slice (some ⟨g4, 0, none⟩) l4.length c4 ∧ g4 < w.heap.size ∧ B ≤ g4 ∧ T g4 ∧ (∃ cs, w.heap[g4]? = some (.cells cs 3 (0, 0))) ∧
      w.cell? ⟨g4, i, none⟩ = some (.int .i64 (l4.getD i 0)) ∧ w.frozen? ⟨g4, i, none⟩ = false ∧
      ∀ val, NetR T B (w.setCell ⟨g4, i, none⟩ (.int .i64 val)) v0 v1 v2 v3 v4 l0 l1 l2 l3 (l4.set i val) := by
  obtain ⟨g4, c4, rfl, hg4, hg4l, cs, hgc⟩ := Kd.R_form h.r4 (by omega)
  obtain ⟨hcell, hfr⟩ := Kd.R_cell (0 : Int) h.r4 (i : Int) (by omega) (by omega)
  refine ⟨g4, c4, rfl, hg4l, hg4, h.r4.1 g4 (by simp [Value.ownBlock]), ⟨cs, hgc⟩, hcell, hfr, fun val => ?_⟩
  obtain ⟨hR2, hg2⟩ := Kd.R_put h.r4 (i : Int) val
  refine ⟨mvT h.r0 hgc (by decide) hg2, mvT h.r1 hgc (by decide) hg2, mvT h.r2 hgc (by decide) hg2, ?_, by rw [Int.toNat_natCast] at hR2; exact hR2⟩
  exact Kd.S_step h.r3 (fun k hk hl => hg2.block k hl (fun e => hk.2 (by rw [e]; simp [Value.ownBlock])))
end
end Go.Proofs.Ytimjccfpobhpeaa
namespace Go.Proofs.Ytimjccfpobhpeaa
open Go.RowKit Go.Proofs.YtimjccfpobhpeaaW.PrintWords Go.Proofs.Ytimjccfpobhpeaa.PF
abbrev GateS := S80
abbrev FlopS := S82
structure NetP where
  fl : List FlopS
  ga : List GateS
  ou : List Int
def putOne (s : NetP) (l : Load) (v : Int) : NetP :=
  if l.f0 = 0 then { s with ga := s.ga.modify l.f1.toNat fun x => ⟨x.f0, x.f1, x.f2.set l.f2.toNat v⟩ }
  else if l.f0 = 1 then { s with fl := s.fl.modify l.f1.toNat fun x => ⟨x.f0, x.f1, v, x.f3, x.f4⟩ }
  else if l.f0 = 2 then { s with fl := s.fl.modify l.f1.toNat fun x => ⟨x.f0, x.f1, x.f2, v, x.f4⟩ }
  else { s with ou := s.ou.set l.f1.toNat v }
def injectF (load v : Int) : List Load → Nat → NetP → NetP
  | [], _, s => s
  | l :: r, i, s => injectF load v r (i + 1) (if 0 ≤ load ∧ load ≠ i then s else putOne s l v)
def ValidL (s : NetP) (l : Load) : Prop :=
  (l.f0 = 0 ∧ ∃ (i k : Nat) (x : GateS), l.f1 = i ∧ l.f2 = k ∧ s.ga[i]? = some x ∧ k < x.f2.length) ∨ (l.f0 = 1 ∧ ∃ (i : Nat) (x : FlopS), l.f1 = i ∧ s.fl[i]? = some x) ∨ (l.f0 = 2 ∧ ∃ (i : Nat) (x : FlopS), l.f1 = i ∧ s.fl[i]? = some x) ∨ (l.f0 = 3 ∧ ∃ i : Nat, l.f1 = i ∧ i < s.ou.length)
structure Shape (s s' : NetP) : Prop where
  fl : s'.fl.length = s.fl.length
  ou : s'.ou.length = s.ou.length
  ga : ∀ (i : Nat) (x : GateS), s.ga[i]? = some x → ∃ x', s'.ga[i]? = some x' ∧ x'.f2.length = x.f2.length
theorem Shape.refl (s : NetP) : Shape s s := ⟨rfl, rfl, fun _ x h => ⟨x, h, rfl⟩⟩
theorem Shape.trans {s s' s'' : NetP} (h : Shape s s') (k : Shape s' s'') : Shape s s'' := ⟨k.fl.trans h.fl, k.ou.trans h.ou, fun i x hx => by
  obtain ⟨x', h1, h2⟩ := h.ga i x hx
  obtain ⟨x'', h3, h4⟩ := k.ga i x' h1
  exact ⟨x'', h3, h4.trans h2⟩⟩
theorem ValidL.shape {s s' : NetP} {l : Load} (h : ValidL s l) (k : Shape s s') : ValidL s' l := by
  rcases h with ⟨h0, i, kk, x, h1, h2, h3, h4⟩ | ⟨h0, i, x, h1, h2⟩ | ⟨h0, i, x, h1, h2⟩ | ⟨h0, i, h1, h2⟩
  · obtain ⟨x', h5, h6⟩ := k.ga i x h3
    exact .inl ⟨h0, i, kk, x', h1, h2, h5, by omega⟩
  · have hl := (List.getElem?_eq_some_iff.1 h2).1
    exact .inr (.inl ⟨h0, i, s'.fl[i]'(by rw [k.fl]; exact hl), h1, List.getElem?_eq_getElem _⟩)
  · have hl := (List.getElem?_eq_some_iff.1 h2).1
    exact .inr (.inr (.inl ⟨h0, i, s'.fl[i]'(by rw [k.fl]; exact hl), h1, List.getElem?_eq_getElem _⟩))
  · exact .inr (.inr (.inr ⟨h0, i, h1, by rw [k.ou]; exact h2⟩))
theorem putOne_shape (s : NetP) (l : Load) (v : Int) : Shape s (putOne s l v) := by
  unfold putOne
  split
  · refine ⟨rfl, rfl, fun i x hx => ?_⟩
    simp only [List.getElem?_modify, hx, Option.map_eq_map, Option.map_some]
    split
    · exact ⟨_, rfl, by simp⟩
    · exact ⟨_, rfl, rfl⟩
  · split
    · exact ⟨by simp, rfl, fun _ x h => ⟨x, h, rfl⟩⟩
    · split
      · exact ⟨by simp, rfl, fun _ x h => ⟨x, h, rfl⟩⟩
      · exact ⟨rfl, by simp, fun _ x h => ⟨x, h, rfl⟩⟩
theorem modify_at {α : Type} {xs : List α} {i : Nat} {x : α} (f : α → α) (h : xs[i]? = some x) : xs.modify i f = xs.set i (f x) := by
  apply List.ext_getElem?
  intro j
  rw [List.getElem?_modify, List.getElem?_set]
  obtain ⟨hi, rfl⟩ := List.getElem?_eq_some_iff.1 h
  by_cases hj : i = j
  · subst hj
    simp [hi]
  · simp [hj]
theorem pinPlaces_mem {i : Nat} {p : Int × Load} : ∀ {xs : List Int} {k : Nat}, p ∈ pinPlaces i xs k → ∃ j net, xs[j]? = some net ∧ p = (net, ⟨0, i, (k + j : Nat)⟩)
  | [], k, h => by simp [pinPlaces] at h
  | net :: r, k, h => by
    rw [pinPlaces] at h
    rcases List.mem_cons.1 h with rfl | h
    · exact ⟨0, net, rfl, rfl⟩
    · obtain ⟨j, n2, h1, h2⟩ := pinPlaces_mem h
      exact ⟨j + 1, n2, h1, by rw [h2]; congr 3; omega⟩
theorem gatePlaces_mem {p : Int × Load} : ∀ {xs : List GateS} {i : Nat}, p ∈ gatePlaces xs i → ∃ (j k : Nat) (x : GateS) (net : Int), xs[j]? = some x ∧ x.f2[k]? = some net ∧ p = (net, ⟨0, (i + j : Nat), k⟩)
  | [], i, h => by simp [gatePlaces] at h
  | x :: r, i, h => by
    rw [gatePlaces] at h
    rcases List.mem_append.1 h with h | h
    · obtain ⟨j, net, h1, h2⟩ := pinPlaces_mem h
      exact ⟨0, j, x, net, rfl, h1, by rw [h2]; simp⟩
    · obtain ⟨j, k, y, net, h1, h2, h3⟩ := gatePlaces_mem h
      exact ⟨j + 1, k, y, net, h1, h2, by rw [h3]; congr 3; omega⟩
theorem flopPlaces_mem {p : Int × Load} : ∀ {xs : List FlopS} {i : Nat}, p ∈ flopPlaces xs i → ∃ (j : Nat) (x : FlopS), xs[j]? = some x ∧ (p = (x.f2, ⟨1, (i + j : Nat), 0⟩) ∨ p = (x.f3, ⟨2, (i + j : Nat), 0⟩))
  | [], i, h => by simp [flopPlaces] at h
  | x :: r, i, h => by
    rw [flopPlaces] at h
    rcases List.mem_cons.1 h with rfl | h
    · exact ⟨0, x, rfl, .inl rfl⟩
    rcases List.mem_cons.1 h with rfl | h
    · exact ⟨0, x, rfl, .inr rfl⟩
    · obtain ⟨j, y, h1, h2⟩ := flopPlaces_mem h
      have e : i + 1 + j = i + (j + 1) := by omega
      rw [e] at h2
      exact ⟨j + 1, y, h1, h2⟩
theorem outPlaces_mem {p : Int × Load} : ∀ {xs : List Int} {i : Nat}, p ∈ outPlaces xs i → ∃ (j : Nat) (net : Int), xs[j]? = some net ∧ p = (net, ⟨3, (i + j : Nat), 0⟩)
  | [], i, h => by simp [outPlaces] at h
  | x :: r, i, h => by
    rw [outPlaces] at h
    rcases List.mem_cons.1 h with rfl | h
    · exact ⟨0, x, rfl, rfl⟩
    · obtain ⟨j, y, h1, h2⟩ := outPlaces_mem h
      have e : i + 1 + j = i + (j + 1) := by omega
      rw [e] at h2
      exact ⟨j + 1, y, h1, h2⟩
theorem placesOf_valid {l2 : List FlopS} {l3 : List GateS} {l4 : List Int} {p : Int × Load} (h : p ∈ placesOf l2 l3 l4) : ValidL ⟨l2, l3, l4⟩ p.2 := by
  unfold placesOf at h
  rcases List.mem_append.1 h with h | h
  · obtain ⟨j, k, x, net, h1, h2, rfl⟩ := gatePlaces_mem h
    exact .inl ⟨rfl, j, k, x, by simp, rfl, h1, (List.getElem?_eq_some_iff.1 h2).1⟩
  rcases List.mem_append.1 h with h | h
  · obtain ⟨j, x, h1, rfl | rfl⟩ := flopPlaces_mem h
    · exact .inr (.inl ⟨rfl, j, x, by simp, h1⟩)
    · exact .inr (.inr (.inl ⟨rfl, j, x, by simp, h1⟩))
  · obtain ⟨j, net, h1, rfl⟩ := outPlaces_mem h
    exact .inr (.inr (.inr ⟨rfl, j, by simp, (List.getElem?_eq_some_iff.1 h1).1⟩))
theorem loadsFrom_row (ps : List (Int × Load)) : ∀ (rows : List (List Load)), (∀ p ∈ ps, 0 ≤ p.1 ∧ p.1 < rows.length) → ∀ j, j < rows.length → (loadsFrom rows ps).getD j [] = rows.getD j [] ++ (ps.filter fun p => decide (p.1 = (j : Int))).map (·.2) := by
  induction ps with
  | nil => intro rows _ j _; simp [loadsFrom]
  | cons p ps ih =>
    intro rows hr j hj
    have h1 := hr p List.mem_cons_self
    have hl : (useF rows p.1 p.2).length = rows.length := by unfold useF; rw [List.length_set]
    show (loadsFrom (useF rows p.1 p.2) ps).getD j [] = _
    rw [ih (useF rows p.1 p.2) (fun q hq => by rw [hl]; exact hr q (List.mem_cons_of_mem _ hq)) j (by omega), List.filter_cons]
    by_cases hp : p.1 = (j : Int)
    · rw [decide_eq_true hp, if_pos rfl]
      have : p.1.toNat = j := by omega
      unfold useF
      rw [this, List.getD_eq_getElem?_getD, List.getElem?_set, if_pos rfl, if_pos hj]
      simp
    · rw [decide_eq_false hp, if_neg (by decide)]
      have : p.1.toNat ≠ j := by omega
      unfold useF
      rw [List.getD_eq_getElem?_getD, List.getElem?_set, if_neg this, ← List.getD_eq_getElem?_getD]
theorem loadsFrom_len (ps : List (Int × Load)) : ∀ (rows : List (List Load)), (loadsFrom rows ps).length = rows.length := by
  induction ps with
  | nil => intro rows; rfl
  | cons p ps ih =>
    intro rows
    show (loadsFrom (useF rows p.1 p.2) ps).length = _
    rw [ih]
    unfold useF
    rw [List.length_set]
end Go.Proofs.Ytimjccfpobhpeaa
namespace Go.Proofs.Ytimjccfpobhpeaa
open Go.RowKit Go.Proofs.YtimjccfpobhpeaaW.PrintWords Go.Proofs.Ytimjccfpobhpeaa.PF
set_option maxRecDepth 100000
theorem results_cell_tmp_row {P : Program} {fn : Func} {p u : Tmp} {ty : TypeId} (h : fn.results = #[.cell p ty, .tmp u]) (tmps : Array Value) (w : World) (g : Nat) (t : TypeId) (cs : Array Value) (fr : Nat × Nat) (d : TypeDesc)
    (hp : tmps.getD p undef = .pointer (some ⟨g, 0, none⟩)) (hg : w.heap[g]? = some (.cells cs t fr))
    (hu : P.underlying ty = some d) (hd : (match d with | .struct _ | .array _ _ => true | _ => false) = true) (hi : (P.info? ty).map (·.size) = some cs.size) :
    (results fn tmps).run P w = .ok (.tuple #[.agg cs, tmps.getD u undef]) w := by
  rw [results_cell_tmp h, hp]
  simp [asAddr, run_loadVar_row w g t ty cs fr d hg hu hd hi]
theorem kd_load {w : World} {A : Option Addr} {n : Nat} {xs : List Load} (h : Kd.C kLoad w A n xs) {i : Nat} {x : Load} (hx : xs[i]? = some x) :
    ∃ b o, A = some ⟨b, o, none⟩ ∧ b < w.heap.size ∧ w.cell? ⟨b, o + i * 3, none⟩ = some (.int .i64 x.f0) ∧ w.cell? ⟨b, o + i * 3 + 1, none⟩ = some (.int .i64 x.f1) ∧ w.cell? ⟨b, o + i * 3 + 2, none⟩ = some (.int .i64 x.f2) := by
  obtain ⟨b, o, cs, rfl, hb, _, hK, hc⟩ := kd_at h (by exact Nat.succ_pos _) hx
  obtain rfl := k77_open hK
  exact ⟨b, o, rfl, hb, hc 0 _ rfl, by have := hc 1 _ rfl; rwa [← Nat.add_assoc] at this, by have := hc 2 _ rfl; rwa [← Nat.add_assoc] at this⟩
theorem kd_rows {w : World} {A : Option Addr} {n : Nat} {xs : List (List Load)} (h : Kd.C (Kd.slice 77 kLoad) w A n xs) {i : Nat} {x : List Load} (hx : xs[i]? = some x) :
    ∃ b o A2 c2, A = some ⟨b, o, none⟩ ∧ b < w.heap.size ∧ w.cell? ⟨b, o + i, none⟩ = some (.slice A2 x.length c2) ∧ Kd.C kLoad w A2 x.length x := by
  obtain ⟨b, o, cs, rfl, hb, _, hK, hc⟩ := kd_at h (by exact Nat.succ_pos _) hx
  obtain ⟨A2, c2, rfl, _, hC⟩ := hK
  refine ⟨b, o, A2, c2, rfl, hb, ?_, hC⟩
  have := hc 0 _ rfl
  simpa [Kd.slice] using this
theorem heap_alloc3_new (w : World) (A B C : Obj) : (((w.alloc A).alloc B).alloc C).heap[w.heap.size + 1 + 1]? = some C := by
  have := heap_alloc_new ((w.alloc A).alloc B) C
  simpa using this
theorem NetR.nil (B : Nat) (w : World) : NetR (fun _ => True) B w (.slice none 0 0) (.slice none 0 0) (.slice none 0 0) (.slice none 0 0) (.slice none 0 0) [] [] [] [] [] :=
  ⟨Kd.R_nil _ _ _ _ _, Kd.R_nil _ _ _ _ _, Kd.R_nil _ _ _ _ _, Kd.S_nil _ _ _ _ _, Kd.R_nil _ _ _ _ _⟩
set_option maxHeartbeats 16000000 in
theorem inject_err1 (A0 A1 A2 A3 A4 : Option Addr) (c0 c1 c2 c3 c4 : Nat) (l0 l1 : List ByteArray) (l2 : List Flop) (l3 : List Gate) (l4 : List Int) (net : Int) (load : Int) (one : Bool) (w : World)
    (err : Int) (he : err ≠ 0) (HL : ∀ W, Below w.heap.size w W → Calls Try.prog 27 #[.agg #[.slice A0 l0.length c0, .slice A1 l1.length c1, .slice A2 l2.length c2, .slice A3 l3.length c3, .slice A4 l4.length c4]] W fun e w' => ∃ v, e = .returned (.tuple #[v, .int .i64 err]) ∧ Below W.heap.size W w') :
    Calls Try.prog 8 #[.agg #[.slice A0 l0.length c0, .slice A1 l1.length c1, .slice A2 l2.length c2, .slice A3 l3.length c3, .slice A4 l4.length c4], .agg #[.int .i64 net, .int .i64 load, .bool one]] w fun e w' => ∃ v0 v1 v2 v3 v4 : Value, e = .returned (.tuple #[.agg #[v0, v1, v2, v3, v4], .int .i64 err]) ∧ NetR (fun _ => True) w.heap.size w' v0 v1 v2 v3 v4 [] [] [] [] [] ∧ Below w.heap.size w w' := by
  have hu := Try.underlying27
  have huF := Try.underlying29
  have hW0 : Below w.heap.size w (((w.alloc (.cells #[.slice A0 l0.length c0, .slice A1 l1.length c1, .slice A2 l2.length c2, .slice A3 l3.length c3, .slice A4 l4.length c4] 27)).alloc (.cells #[.int .i64 net, .int .i64 load, .bool one] 29)).alloc (.cells #[.slice none 0 0, .slice none 0 0, .slice none 0 0, .slice none 0 0, .slice none 0 0] 27)) := (((Below.refl _ _).alloc (Nat.le_refl _) _).alloc (by simp) _).alloc (by simp; omega) _
  have bel : ∀ x : Under (((w.alloc (.cells #[.slice A0 l0.length c0, .slice A1 l1.length c1, .slice A2 l2.length c2, .slice A3 l3.length c3, .slice A4 l4.length c4] 27)).alloc (.cells #[.int .i64 net, .int .i64 load, .bool one] 29)).alloc (.cells #[.slice none 0 0, .slice none 0 0, .slice none 0 0, .slice none 0 0, .slice none 0 0] 27)), Below w.heap.size w x.val := fun x => hW0.trans (x.ok.mono (by simp; omega))
  have hW0s : (((w.alloc (.cells #[.slice A0 l0.length c0, .slice A1 l1.length c1, .slice A2 l2.length c2, .slice A3 l3.length c3, .slice A4 l4.length c4] 27)).alloc (.cells #[.int .i64 net, .int .i64 load, .bool one] 29)).alloc (.cells #[.slice none 0 0, .slice none 0 0, .slice none 0 0, .slice none 0 0, .slice none 0 0] 27)).heap.size = w.heap.size + 3 := by simp
  have hsz : ∀ x : Under (((w.alloc (.cells #[.slice A0 l0.length c0, .slice A1 l1.length c1, .slice A2 l2.length c2, .slice A3 l3.length c3, .slice A4 l4.length c4] 27)).alloc (.cells #[.int .i64 net, .int .i64 load, .bool one] 29)).alloc (.cells #[.slice none 0 0, .slice none 0 0, .slice none 0 0, .slice none 0 0, .slice none 0 0] 27)), w.heap.size + 2 < x.val.heap.size := fun x => Nat.lt_of_lt_of_le (by simp) x.size
  have hrb : ∀ x : Under (((w.alloc (.cells #[.slice A0 l0.length c0, .slice A1 l1.length c1, .slice A2 l2.length c2, .slice A3 l3.length c3, .slice A4 l4.length c4] 27)).alloc (.cells #[.int .i64 net, .int .i64 load, .bool one] 29)).alloc (.cells #[.slice none 0 0, .slice none 0 0, .slice none 0 0, .slice none 0 0, .slice none 0 0] 27)), x.val.heap[w.heap.size + 1 + 1]? = some (.cells #[.slice none 0 0, .slice none 0 0, .slice none 0 0, .slice none 0 0, .slice none 0 0] 27 (0, 0)) := fun x => (x.ok.block (w.heap.size + 1 + 1) (by simp)).trans (heap_alloc3_new w _ _ _)
  have q1 : (err != 0) = true := by simpa using he
  have hWx := hsz
  go_enter Try.func8, Try.ntmps8
  go_wp2_with (go_at_call 27; refine (HL _ hW0).mono ?_; rintro e w1 ⟨v, rfl, hB1⟩; obtain ⟨x1, rfl⟩ : ∃ x : Under (((w.alloc (.cells #[.slice A0 l0.length c0, .slice A1 l1.length c1, .slice A2 l2.length c2, .slice A3 l3.length c3, .slice A4 l4.length c4] 27)).alloc (.cells #[.int .i64 net, .int .i64 load, .bool one] 29)).alloc (.cells #[.slice none 0 0, .slice none 0 0, .slice none 0 0, .slice none 0 0, .slice none 0 0] 27)), w1 = x.val := ⟨⟨w1, hB1⟩, rfl⟩; have hs1 := hsz x1)
  ((try simp only [Exit.inBlock, Exit.then]); refine bodyPost_ret (results_cell_tmp_row rfl _ _ (w.heap.size + 1 + 1) _ _ _ _ rfl (set5 (.slice none 0 0) (.slice none 0 0) (.slice none 0 0) (.slice none 0 0) (.slice none 0 0) (hrb x1)).1 Try.underlying27 rfl (by kernel_rfl)) rfl ?_)
  exact ⟨_, _, _, _, _, rfl, NetR.nil _ _, (((((bel x1).setCell (p := ⟨w.heap.size + 1 + 1, 0, none⟩) (by simp; omega) _).setCell (p := ⟨w.heap.size + 1 + 1, 1, none⟩) (by simp; omega) _).setCell (p := ⟨w.heap.size + 1 + 1, 2, none⟩) (by simp; omega) _).setCell (p := ⟨w.heap.size + 1 + 1, 3, none⟩) (by simp; omega) _).setCell (p := ⟨w.heap.size + 1 + 1, 4, none⟩) (by simp; omega) _⟩
set_option maxHeartbeats 16000000 in
theorem inject_err2 (A0 A1 A2 A3 A4 : Option Addr) (c0 c1 c2 c3 c4 : Nat) (l0 l1 : List ByteArray) (l2 : List Flop) (l3 : List Gate) (l4 : List Int) (net : Int) (load : Int) (one : Bool) (w : World)
    (rows : List (List Load)) (err : Int) (he : err ≠ 0) (HL : ∀ W, Below w.heap.size w W → Calls Try.prog 27 #[.agg #[.slice A0 l0.length c0, .slice A1 l1.length c1, .slice A2 l2.length c2, .slice A3 l3.length c3, .slice A4 l4.length c4]] W fun e w' => ∃ v, e = .returned (.tuple #[v, .int .i64 0]) ∧ Kd.S (Kd.slice 77 kLoad) 75 w' W.heap.size (fun _ => True) v rows ∧ Below W.heap.size W w')
    (HC : ∀ W v, Kd.S (Kd.slice 77 kLoad) 75 W (w.heap.size + 3) (fun _ => True) v rows → Calls Try.prog 28 #[v, .agg #[.int .i64 net, .int .i64 load, .bool one]] W fun e w' => e = .returned (.int .i64 err) ∧ Below W.heap.size W w') :
    Calls Try.prog 8 #[.agg #[.slice A0 l0.length c0, .slice A1 l1.length c1, .slice A2 l2.length c2, .slice A3 l3.length c3, .slice A4 l4.length c4], .agg #[.int .i64 net, .int .i64 load, .bool one]] w fun e w' => ∃ v0 v1 v2 v3 v4 : Value, e = .returned (.tuple #[.agg #[v0, v1, v2, v3, v4], .int .i64 err]) ∧ NetR (fun _ => True) w.heap.size w' v0 v1 v2 v3 v4 [] [] [] [] [] ∧ Below w.heap.size w w' := by
  have hu := Try.underlying27
  have huF := Try.underlying29
  have hW0 : Below w.heap.size w (((w.alloc (.cells #[.slice A0 l0.length c0, .slice A1 l1.length c1, .slice A2 l2.length c2, .slice A3 l3.length c3, .slice A4 l4.length c4] 27)).alloc (.cells #[.int .i64 net, .int .i64 load, .bool one] 29)).alloc (.cells #[.slice none 0 0, .slice none 0 0, .slice none 0 0, .slice none 0 0, .slice none 0 0] 27)) := (((Below.refl _ _).alloc (Nat.le_refl _) _).alloc (by simp) _).alloc (by simp; omega) _
  have bel : ∀ x : Under (((w.alloc (.cells #[.slice A0 l0.length c0, .slice A1 l1.length c1, .slice A2 l2.length c2, .slice A3 l3.length c3, .slice A4 l4.length c4] 27)).alloc (.cells #[.int .i64 net, .int .i64 load, .bool one] 29)).alloc (.cells #[.slice none 0 0, .slice none 0 0, .slice none 0 0, .slice none 0 0, .slice none 0 0] 27)), Below w.heap.size w x.val := fun x => hW0.trans (x.ok.mono (by simp; omega))
  have hW0s : (((w.alloc (.cells #[.slice A0 l0.length c0, .slice A1 l1.length c1, .slice A2 l2.length c2, .slice A3 l3.length c3, .slice A4 l4.length c4] 27)).alloc (.cells #[.int .i64 net, .int .i64 load, .bool one] 29)).alloc (.cells #[.slice none 0 0, .slice none 0 0, .slice none 0 0, .slice none 0 0, .slice none 0 0] 27)).heap.size = w.heap.size + 3 := by simp
  have hsz : ∀ x : Under (((w.alloc (.cells #[.slice A0 l0.length c0, .slice A1 l1.length c1, .slice A2 l2.length c2, .slice A3 l3.length c3, .slice A4 l4.length c4] 27)).alloc (.cells #[.int .i64 net, .int .i64 load, .bool one] 29)).alloc (.cells #[.slice none 0 0, .slice none 0 0, .slice none 0 0, .slice none 0 0, .slice none 0 0] 27)), w.heap.size + 2 < x.val.heap.size := fun x => Nat.lt_of_lt_of_le (by simp) x.size
  have hrb : ∀ x : Under (((w.alloc (.cells #[.slice A0 l0.length c0, .slice A1 l1.length c1, .slice A2 l2.length c2, .slice A3 l3.length c3, .slice A4 l4.length c4] 27)).alloc (.cells #[.int .i64 net, .int .i64 load, .bool one] 29)).alloc (.cells #[.slice none 0 0, .slice none 0 0, .slice none 0 0, .slice none 0 0, .slice none 0 0] 27)), x.val.heap[w.heap.size + 1 + 1]? = some (.cells #[.slice none 0 0, .slice none 0 0, .slice none 0 0, .slice none 0 0, .slice none 0 0] 27 (0, 0)) := fun x => (x.ok.block (w.heap.size + 1 + 1) (by simp)).trans (heap_alloc3_new w _ _ _)
  have q1 : (err != 0) = true := by simpa using he
  go_enter Try.func8, Try.ntmps8
  go_wp2_with (first
    | (go_at_call 27; refine (HL _ hW0).mono ?_; rintro e w1 ⟨v, rfl, hS1, hB1⟩; obtain ⟨x1, rfl⟩ : ∃ x : Under (((w.alloc (.cells #[.slice A0 l0.length c0, .slice A1 l1.length c1, .slice A2 l2.length c2, .slice A3 l3.length c3, .slice A4 l4.length c4] 27)).alloc (.cells #[.int .i64 net, .int .i64 load, .bool one] 29)).alloc (.cells #[.slice none 0 0, .slice none 0 0, .slice none 0 0, .slice none 0 0, .slice none 0 0] 27)), w1 = x.val := ⟨⟨w1, hB1⟩, rfl⟩; have hs1 := hsz x1; have hS1' := Kd.S_lower (base' := w.heap.size + 3) hS1 (Nat.le_of_eq hW0s.symm); have hs1a : w.heap.size < x1.val.heap.size := (by omega); have hs1b : w.heap.size + 1 < x1.val.heap.size := (by omega))
    | (go_at_call 28; refine (HC _ _ hS1').mono ?_; rintro e w2 ⟨rfl, hB2⟩; obtain ⟨x2, rfl⟩ : ∃ x : Under (((w.alloc (.cells #[.slice A0 l0.length c0, .slice A1 l1.length c1, .slice A2 l2.length c2, .slice A3 l3.length c3, .slice A4 l4.length c4] 27)).alloc (.cells #[.int .i64 net, .int .i64 load, .bool one] 29)).alloc (.cells #[.slice none 0 0, .slice none 0 0, .slice none 0 0, .slice none 0 0, .slice none 0 0] 27)), w2 = x.val := ⟨⟨w2, x1.ok.trans (hB2.mono x1.size)⟩, rfl⟩; have hs2 := hsz x2))
  ((try simp only [Exit.inBlock, Exit.then]); refine bodyPost_ret (results_cell_tmp_row rfl _ _ (w.heap.size + 1 + 1) _ _ _ _ rfl (set5 (.slice none 0 0) (.slice none 0 0) (.slice none 0 0) (.slice none 0 0) (.slice none 0 0) (hrb x2)).1 Try.underlying27 rfl (by kernel_rfl)) rfl ?_)
  exact ⟨_, _, _, _, _, rfl, NetR.nil _ _, (((((bel x2).setCell (p := ⟨w.heap.size + 1 + 1, 0, none⟩) (by simp; omega) _).setCell (p := ⟨w.heap.size + 1 + 1, 1, none⟩) (by simp; omega) _).setCell (p := ⟨w.heap.size + 1 + 1, 2, none⟩) (by simp; omega) _).setCell (p := ⟨w.heap.size + 1 + 1, 3, none⟩) (by simp; omega) _).setCell (p := ⟨w.heap.size + 1 + 1, 4, none⟩) (by simp; omega) _⟩
end Go.Proofs.Ytimjccfpobhpeaa
namespace Go.Proofs.Ytimjccfpobhpeaa
open Go.RowKit Go.Shelf
set_option maxRecDepth 100000
attribute [local go_sem] Oper.semAt_some
variable {α β : Type} {B : Nat} {f : β → List Bool}
instance (w : World) (G : Nat → Prop) : Nonempty (But w G) := ⟨But.refl w G⟩
end Go.Proofs.Ytimjccfpobhpeaa
namespace Go.Proofs.Ytimjccfpobhpeaa
open Go.RowKit Go.Proofs.YtimjccfpobhpeaaW.PrintWords Go.Proofs.Ytimjccfpobhpeaa.PF
open Go.ChangeMaps (setBlock)
set_option maxRecDepth 100000
abbrev FaultS := S29
end Go.Proofs.Ytimjccfpobhpeaa
namespace Go.Proofs.Ytimjccfpobhpeaa.PF
open Go.RowKit Go.Proofs.YtimjccfpobhpeaaW.PrintWords Go.Proofs.YtimjccfpobhpeaaW.PrintLast Go.Proofs.YtimjccfpobhpeaaW.PrintMore
set_option linter.unusedVariables false
set_option linter.unusedSimpArgs false
def netsOf (l0 : List ByteArray) (l2 : List S82) (l3 : List S80) : Nat := 2 + l0.length + l2.length + l3.length
def loadsFit (l0 : List ByteArray) (l2 : List S82) (l3 : List S80) (l4 : List Int) : Bool :=
  decide (netsOf l0 l2 l3 ≤ 1000000000) && decide ((placesOf l2 l3 l4).length ≤ 1000000000) && (placesOf l2 l3 l4).all fun p => decide (0 ≤ p.1) && decide (p.1 < (netsOf l0 l2 l3 : Int))
def loadsOf (l0 : List ByteArray) (l2 : List S82) (l3 : List S80) (l4 : List Int) : List (List S77) := loadsFrom (List.replicate (netsOf l0 l2 l3) []) (placesOf l2 l3 l4)
theorem loadsFit_good {l0 : List ByteArray} {l2 : List S82} {l3 : List S80} {l4 : List Int} (h : loadsFit l0 l2 l3 l4 = true) : GoodP (netsOf l0 l2 l3) (List.replicate (netsOf l0 l2 l3) []) (placesOf l2 l3 l4) ∧ netsOf l0 l2 l3 ≤ 1000000000 := by
  simp only [loadsFit, Bool.and_eq_true, decide_eq_true_eq, List.all_eq_true] at h
  obtain ⟨⟨h1, h2⟩, h3⟩ := h
  refine ⟨⟨List.length_replicate, fun p hp => h3 p hp, fun j => ?_⟩, h1⟩
  have : ((List.replicate (netsOf l0 l2 l3) ([] : List S77)).getD j []).length = 0 := by
    rw [List.getD_eq_getElem?_getD, List.getElem?_replicate]
    split <;> rfl
  omega
theorem netlist_Nets.of {l0_0 l0_1 : List ByteArray} {l0_2 : List S82} {l0_3 : List S80} {l0_4 : List Int} (h : netsOf l0_0 l0_2 l0_3 ≤ 1000000000) : netlist_Nets.f l0_0 l0_1 l0_2 l0_3 l0_4 = some (netsOf l0_0 l0_2 l0_3 : Int) := by
  unfold netsOf at h ⊢
  unfold netlist_Nets.f netlist_First.f
  simp only [Option.bind_some, Option.some.injEq]
  unfold wrap64
  omega
def netlist_Loads.f (k : Nat) (l0_0 : List ByteArray) (l0_1 : List ByteArray) (l0_2 : List (S82)) (l0_3 : List (S80)) (l0_4 : List Int) : Option ((List (List (S77))) × Int) := (netlist_Form.f k l0_0 l0_1 l0_2 l0_3 l0_4).bind fun e => if e = 0 then (if loadsFit l0_0 l0_2 l0_3 l0_4 = true then some (loadsOf l0_0 l0_2 l0_3 l0_4, 0) else none) else some ([], e)
theorem netlist_Loads.mono : ∀ a0 a1 a2 a3 a4 k, LeO (netlist_Loads.f k a0 a1 a2 a3 a4) (netlist_Loads.f (k + 1) a0 a1 a2 a3 a4) := fun a0 a1 a2 a3 a4 k => LeO.bind (netlist_Form.mono a0 a1 a2 a3 a4 k) (fun _ => LeO.refl _)
set_option maxHeartbeats 2000000 in
theorem netlist_Loads.calls (k : Nat) (A0_0 : Option Addr) (c0_0 : Nat) (l0_0 : List ByteArray) (A0_1 : Option Addr) (c0_1 : Nat) (l0_1 : List ByteArray) (A0_2 : Option Addr) (c0_2 : Nat) (l0_2 : List (S82)) (A0_3 : Option Addr) (c0_3 : Nat) (l0_3 : List (S80)) (A0_4 : Option Addr) (c0_4 : Nat) (l0_4 : List Int) (r1 : List (List (S77))) (r2 : Int) (w : World) (hr0_0 : Kd.C Kd.string w A0_0 l0_0.length l0_0) (hc0_0 : l0_0.length ≤ c0_0) (hr0_1 : Kd.C Kd.string w A0_1 l0_1.length l0_1) (hc0_1 : l0_1.length ≤ c0_1) (hr0_2 : Kd.C k82 w A0_2 l0_2.length l0_2) (hc0_2 : l0_2.length ≤ c0_2) (hr0_3 : Kd.C k80 w A0_3 l0_3.length l0_3) (hc0_3 : l0_3.length ≤ c0_3) (hr0_4 : Kd.C (Kd.int .i64) w A0_4 l0_4.length l0_4) (hc0_4 : l0_4.length ≤ c0_4) (h : netlist_Loads.f k l0_0 l0_1 l0_2 l0_3 l0_4 = some (r1, r2)) :
    Calls Try.prog 27 #[.agg #[.slice A0_0 l0_0.length c0_0, .slice A0_1 l0_1.length c0_1, .slice A0_2 l0_2.length c0_2, .slice A0_3 l0_3.length c0_3, .slice A0_4 l0_4.length c0_4]] w fun e w' => ∃ v0_ : Value, e = .returned (.tuple #[v0_, .int .i64 r2]) ∧ Kd.S (Kd.slice 77 k77) 75 w' w.heap.size (fun _ => True) v0_ r1 ∧ Below w.heap.size w w' := by
  unfold netlist_Loads.f at h
  obtain ⟨e, he, h2⟩ := Option.bind_eq_some_iff.1 h
  have HF : ∀ W, Below w.heap.size w W → Calls Try.prog 9 #[.agg #[.slice A0_0 l0_0.length c0_0, .slice A0_1 l0_1.length c0_1, .slice A0_2 l0_2.length c0_2, .slice A0_3 l0_3.length c0_3, .slice A0_4 l0_4.length c0_4]] W fun e' w' => e' = .returned (.int .i64 e) ∧ Below W.heap.size W w' := fun W hW =>
    netlist_Form.calls k A0_0 c0_0 l0_0 A0_1 c0_1 l0_1 A0_2 c0_2 l0_2 A0_3 c0_3 l0_3 A0_4 c0_4 l0_4 e W (Kd.C_below hr0_0 hW) hc0_0 (Kd.C_below hr0_1 hW) hc0_1 (Kd.C_below hr0_2 hW) hc0_2 (Kd.C_below hr0_3 hW) hc0_3 (Kd.C_below hr0_4 hW) hc0_4 he
  by_cases h0 : e = 0
  · subst h0
    rw [if_pos rfl] at h2
    by_cases hf : loadsFit l0_0 l0_2 l0_3 l0_4 = true
    · rw [if_pos hf] at h2
      simp only [Option.some.injEq, Prod.mk.injEq] at h2
      obtain ⟨rfl, rfl⟩ := h2
      obtain ⟨hg, hn⟩ := loadsFit_good hf
      exact loads_ok A0_0 A0_1 A0_2 A0_3 A0_4 _ _ c0_0 c0_1 c0_2 c0_3 c0_4 l0_2 l0_3 l0_4 w _ hr0_2 hr0_3 hr0_4 HF (fun W hW =>
        netlist_Nets.calls A0_0 c0_0 l0_0 A0_1 c0_1 l0_1 A0_2 c0_2 l0_2 A0_3 c0_3 l0_3 A0_4 c0_4 l0_4 _ W (Kd.C_below hr0_0 hW) hc0_0 (Kd.C_below hr0_1 hW) hc0_1 (Kd.C_below hr0_2 hW) hc0_2 (Kd.C_below hr0_3 hW) hc0_3 (Kd.C_below hr0_4 hW) hc0_4 (netlist_Nets.of hn)) hg hn
    · rw [if_neg hf] at h2
      cases h2
  · rw [if_neg h0] at h2
    simp only [Option.some.injEq, Prod.mk.injEq] at h2
    obtain ⟨rfl, rfl⟩ := h2
    have hW0 : Below w.heap.size w (w.alloc (.cells #[.slice A0_0 l0_0.length c0_0, .slice A0_1 l0_1.length c0_1, .slice A0_2 l0_2.length c0_2, .slice A0_3 l0_3.length c0_3, .slice A0_4 l0_4.length c0_4] 27)) := (Below.refl _ _).alloc (Nat.le_refl _) _
    have hu := Try.underlying27
    have q1 : (e != 0) = true := by simpa using h0
    have HF1 := HF _ hW0
    clear h h0 he HF
    go_enter Try.func27, Try.ntmps27
    go_wp2_with (go_at_call 9; refine HF1.mono ?_; rintro e' w1 ⟨rfl, hB1⟩)
    go_ret2
    exact ⟨_, rfl, Kd.S_nil _ _ _ _ _, hW0.trans (hB1.mono (by simp))⟩
end Go.Proofs.Ytimjccfpobhpeaa.PF
namespace Go.Proofs.Ytimjccfpobhpeaa.PF
open Go.RowKit Go.Proofs.YtimjccfpobhpeaaW.PrintWords Go.Proofs.YtimjccfpobhpeaaW.PrintLast Go.Proofs.YtimjccfpobhpeaaW.PrintMore
set_option linter.unusedVariables false
set_option linter.unusedSimpArgs false
mutual
def fault_List.l0 : Nat → List (List (S77)) → List (S29) → Int → Option ((List (S29)) × Int)
  | 0, _, _, _ => none
  | k + 1, x4, x6, x7 => if x7 < (x4.length : Int) then (if 0 ≤ x7 then (fault_List.l1 k x4 x6 x7 ((rd_L12 x4 x7).length : Int) (-1)) else (none)) else (some (x6, 0))
def fault_List.l1 : Nat → List (List (S77)) → List (S29) → Int → Int → Int → Option ((List (S29)) × Int)
  | 0, _, _, _, _, _ => none
  | k + 1, x4, x6, x7, x8, x9 => if x9 < x8 then (if x8 > 0 then (if x9 < 0 then ((some (([(⟨x7, x9, false⟩ : S29), (⟨x7, x9, true⟩ : S29)] : List (S29)) : List (S29))).bind fun y141 => (if x6.length + y141.length < 5864062014805 then (fault_List.l1 k x4 (x6 ++ y141) x7 x8 (wrap64 (x9 + 1))) else (none))) else (if x8 > 1 then ((some (([(⟨x7, x9, false⟩ : S29), (⟨x7, x9, true⟩ : S29)] : List (S29)) : List (S29))).bind fun y147 => (if x6.length + y147.length < 5864062014805 then (fault_List.l1 k x4 (x6 ++ y147) x7 x8 (wrap64 (x9 + 1))) else (none))) else (fault_List.l1 k x4 x6 x7 x8 (wrap64 (x9 + 1))))) else (fault_List.l1 k x4 x6 x7 x8 (wrap64 (x9 + 1)))) else (fault_List.l0 k x4 x6 (wrap64 (x7 + 1)))
end
def fault_List.f (k : Nat) (l0_0 : List ByteArray) (l0_1 : List ByteArray) (l0_2 : List (S82)) (l0_3 : List (S80)) (l0_4 : List Int) : Option ((List (S29)) × Int) := (netlist_Loads.f k l0_0 l0_1 l0_2 l0_3 l0_4).bind fun bt136 => (if bt136.2 = 0 then (fault_List.l0 k bt136.1 ([] : List (S29)) 2) else (some (([] : List (S29)), bt136.2)))
theorem fault_List.mono_l : ∀ k, (∀ y0 y1 y2, LeO (fault_List.l0 k y0 y1 y2) (fault_List.l0 (k + 1) y0 y1 y2)) ∧ (∀ y0 y1 y2 y3 y4, LeO (fault_List.l1 k y0 y1 y2 y3 y4) (fault_List.l1 (k + 1) y0 y1 y2 y3 y4))
  | 0 => ⟨fun _ _ _ r h => by simp [fault_List.l0] at h, fun _ _ _ _ _ r h => by simp [fault_List.l1] at h⟩
  | k + 1 => by
    obtain ⟨ih0, ih1⟩ := fault_List.mono_l k
    refine ⟨?_, ?_⟩
    · intro y0 y1 y2
      unfold fault_List.l0
      repeat' first
      | (with_reducible exact ih0 _ _ _)
      | (with_reducible exact ih1 _ _ _ _ _)
      | (with_reducible exact netlist_Loads.mono _ _ _ _ _ _)
      | (with_reducible exact LeO.refl _)
      | (with_reducible exact LeO.none _)
      | (with_reducible refine LeO.ite ?_ ?_)
      | (with_reducible refine LeO.bind ?_ (fun _ => ?_))
      | exact ih0 _ _ _
      | exact ih1 _ _ _ _ _
      | exact netlist_Loads.mono _ _ _ _ _ _
      | exact LeO.none _
      | refine LeO.ite ?_ ?_
      | refine LeO.bind ?_ (fun _ => ?_)
    · intro y0 y1 y2 y3 y4
      unfold fault_List.l1
      repeat' first
      | (with_reducible exact ih0 _ _ _)
      | (with_reducible exact ih1 _ _ _ _ _)
      | (with_reducible exact netlist_Loads.mono _ _ _ _ _ _)
      | (with_reducible exact LeO.refl _)
      | (with_reducible exact LeO.none _)
      | (with_reducible refine LeO.ite ?_ ?_)
      | (with_reducible refine LeO.bind ?_ (fun _ => ?_))
      | exact ih0 _ _ _
      | exact ih1 _ _ _ _ _
      | exact netlist_Loads.mono _ _ _ _ _ _
      | exact LeO.none _
      | refine LeO.ite ?_ ?_
      | refine LeO.bind ?_ (fun _ => ?_)
theorem fault_List.mono : ∀ a0 a1 a2 a3 a4 k, LeO (fault_List.f k a0 a1 a2 a3 a4) (fault_List.f (k + 1) a0 a1 a2 a3 a4) := by
  intro a0 a1 a2 a3 a4 k
  obtain ⟨ih0, ih1⟩ := fault_List.mono_l k
  unfold fault_List.f
  repeat' first
      | (with_reducible exact ih0 _ _ _)
      | (with_reducible exact ih1 _ _ _ _ _)
      | (with_reducible exact netlist_Loads.mono _ _ _ _ _ _)
      | (with_reducible exact LeO.refl _)
      | (with_reducible exact LeO.none _)
      | (with_reducible refine LeO.ite ?_ ?_)
      | (with_reducible refine LeO.bind ?_ (fun _ => ?_))
      | exact ih0 _ _ _
      | exact ih1 _ _ _ _ _
      | exact netlist_Loads.mono _ _ _ _ _ _
      | exact LeO.none _
      | refine LeO.ite ?_ ?_
      | refine LeO.bind ?_ (fun _ => ?_)
set_option maxHeartbeats 8000000 in
set_option maxRecDepth 100000 in
theorem fault_List.calls (k : Nat) (A0_0 : Option Addr) (c0_0 : Nat) (l0_0 : List ByteArray) (A0_1 : Option Addr) (c0_1 : Nat) (l0_1 : List ByteArray) (A0_2 : Option Addr) (c0_2 : Nat) (l0_2 : List (S82)) (A0_3 : Option Addr) (c0_3 : Nat) (l0_3 : List (S80)) (A0_4 : Option Addr) (c0_4 : Nat) (l0_4 : List Int) (r1 : List (S29)) (r2 : Int) (w : World) (hr0_0 : Kd.C Kd.string w A0_0 l0_0.length l0_0) (hc0_0 : l0_0.length ≤ c0_0) (hr0_1 : Kd.C Kd.string w A0_1 l0_1.length l0_1) (hc0_1 : l0_1.length ≤ c0_1) (hr0_2 : Kd.C k82 w A0_2 l0_2.length l0_2) (hc0_2 : l0_2.length ≤ c0_2) (hr0_3 : Kd.C k80 w A0_3 l0_3.length l0_3) (hc0_3 : l0_3.length ≤ c0_3) (hr0_4 : Kd.C (Kd.int .i64) w A0_4 l0_4.length l0_4) (hc0_4 : l0_4.length ≤ c0_4) (h : fault_List.f k l0_0 l0_1 l0_2 l0_3 l0_4 = some (r1, r2)) :
    Calls Try.prog 14 #[.agg #[.slice A0_0 l0_0.length c0_0, .slice A0_1 l0_1.length c0_1, .slice A0_2 l0_2.length c0_2, .slice A0_3 l0_3.length c0_3, .slice A0_4 l0_4.length c0_4]] w fun e w' => ∃ v0_ : Value, e = .returned (.tuple #[v0_, .int .i64 r2]) ∧ Kd.R k29 29 w' w.heap.size (fun _ => True) v0_ r1 ∧ Below w.heap.size w w' := by
  have hu27 := Try.underlying27
  have hu29 := Try.underlying29
  have HR0_0 := Aside0.mk hr0_0
  have HC0_0 := Aside0.mk hc0_0
  clear hr0_0 hc0_0
  have HR0_1 := Aside0.mk hr0_1
  have HC0_1 := Aside0.mk hc0_1
  clear hr0_1 hc0_1
  have HR0_2 := Aside0.mk hr0_2
  have HC0_2 := Aside0.mk hc0_2
  clear hr0_2 hc0_2
  have HR0_3 := Aside0.mk hr0_3
  have HC0_3 := Aside0.mk hc0_3
  clear hr0_3 hc0_3
  have HR0_4 := Aside0.mk hr0_4
  have HC0_4 := Aside0.mk hc0_4
  clear hr0_4 hc0_4
  have HB := Aside0.mk (Below.refl w.heap.size w)
  have H : ((netlist_Loads.f k l0_0 l0_1 l0_2 l0_3 l0_4).bind fun bt136 => (if bt136.2 = 0 then (fault_List.l0 k bt136.1 ([] : List (S29)) 2) else (some (([] : List (S29)), bt136.2)))) = some (r1, r2) := h
  clear h
  replace H := Option.bind_eq_some_iff.mp H
  obtain ⟨⟨t136, t139⟩, A20, H⟩ := H
  replace H : (if t139 = 0 then (fault_List.l0 k t136 ([] : List (S29)) 2) else (some (([] : List (S29)), t139))) = some (r1, r2) := H
  have A2 := Aside0.mk A20
  clear A20
  by_cases c3 : t139 = 0
  · rw [if_pos c3] at H
    have c3b0 : (t139 == 0) = true := beq_iff_eq.mpr c3
    have c3b1 : (t139 != 0) = false := bne_eq_false_iff_eq.mpr c3
    clear c3
    have H' := Aside0.mk H
    clear H
    go_enter Try.func14, Try.ntmps14
    go_wp2_with (first | ((with_reducible refine gate_dst (N := 1) rfl ?_); refine box_event ?hg (N := 1) ?hd (cs := #[.slice A0_0 l0_0.length c0_0, .slice A0_1 l0_1.length c0_1, .slice A0_2 l0_2.length c0_2, .slice A0_3 l0_3.length c0_3, .slice A0_4 l0_4.length c0_4]) (t := 27) ?hr ?_; (case hd => rfl); (case hg => rfl); (case hr => first | (go_simp; done) | (go_simp; rfl)); intro gb135 hg w4 hbox hb; have n0_ := Aside0.mk (below_step (by repeat (first | (with_reducible first | exact HB.out | apply below_alloc | apply pw_below_drewN | apply below_drew1) | exact HB.out)) hb); have n1_ := Aside0.mk (hbox); have n2_ := Aside0.mk ((by rw [hg]; exact (below_size (by repeat (first | (with_reducible first | exact HB.out | apply below_alloc | apply pw_below_drewN | apply below_drew1) | exact HB.out))) : w.heap.size ≤ gb135)); have n3_ := Aside0.mk ((by rw [hg]; exact (below_size (by repeat (first | (with_reducible first | exact HB.out | apply below_alloc | apply pw_below_drewN | apply below_drew1) | exact HB.out))) : w.heap.size ≤ gb135)); clear HB; have HB := n0_; have BK135 := n1_; have GW135 := n2_; have GE135 := n3_; clear n0_ n1_ n2_ n3_; clear hb hbox hg; have hcz5_0 : w4.cell? ⟨gb135, 0, none⟩ = some (.slice A0_0 l0_0.length c0_0) := (blk_cell BK135.out 0).trans rfl; have hcz5_1 : w4.cell? ⟨gb135, 1, none⟩ = some (.slice A0_1 l0_1.length c0_1) := (blk_cell BK135.out 1).trans rfl; have hcz5_2 : w4.cell? ⟨gb135, 2, none⟩ = some (.slice A0_2 l0_2.length c0_2) := (blk_cell BK135.out 2).trans rfl; have hcz5_3 : w4.cell? ⟨gb135, 3, none⟩ = some (.slice A0_3 l0_3.length c0_3) := (blk_cell BK135.out 3).trans rfl; have hcz5_4 : w4.cell? ⟨gb135, 4, none⟩ = some (.slice A0_4 l0_4.length c0_4) := (blk_cell BK135.out 4).trans rfl; have hfz5_0 := blk_frozen BK135.out 0; have hfz5_1 := blk_frozen BK135.out 1; have hfz5_2 := blk_frozen BK135.out 2; have hfz5_3 := blk_frozen BK135.out 3; have hfz5_4 := blk_frozen BK135.out 4) | ((with_reducible refine gate_callee (f := 27) rfl ?_); refine goesL_ (some 12) rfl rfl Try.func27 (by kernel_rfl) rfl #[.agg #[.slice A0_0 l0_0.length c0_0, .slice A0_1 l0_1.length c0_1, .slice A0_2 l0_2.length c0_2, .slice A0_3 l0_3.length c0_3, .slice A0_4 l0_4.length c0_4]] rfl (by (try simp only [List.map_toArray, List.map_cons, List.map_nil]); first | done | rfl | (simp only [List.length_drop, List.length_take]; rfl)) ?_; (with_reducible refine (netlist_Loads.calls k _ _ l0_0 _ _ l0_1 _ _ l0_2 _ _ l0_3 _ _ l0_4 t136 t139 _ ?side1 ?side2 ?side3 ?side4 ?side5 ?side6 ?side7 ?side8 ?side9 ?side10 A2.out).mono ?_); (case side1 => repeat (first | exact (Kd.C_below HR0_0.out HB.out) | (with_reducible refine Kd.C_alloc ?_ _) | (with_reducible refine Kd.C_drewN ?_ _) | (with_reducible refine Kd.C_drew ?_))); (case side2 => exact HC0_0.out); (case side3 => repeat (first | exact (Kd.C_below HR0_1.out HB.out) | (with_reducible refine Kd.C_alloc ?_ _) | (with_reducible refine Kd.C_drewN ?_ _) | (with_reducible refine Kd.C_drew ?_))); (case side4 => exact HC0_1.out); (case side5 => repeat (first | exact (Kd.C_below HR0_2.out HB.out) | (with_reducible refine Kd.C_alloc ?_ _) | (with_reducible refine Kd.C_drewN ?_ _) | (with_reducible refine Kd.C_drew ?_))); (case side6 => exact HC0_2.out); (case side7 => repeat (first | exact (Kd.C_below HR0_3.out HB.out) | (with_reducible refine Kd.C_alloc ?_ _) | (with_reducible refine Kd.C_drewN ?_ _) | (with_reducible refine Kd.C_drew ?_))); (case side8 => exact HC0_3.out); (case side9 => repeat (first | exact (Kd.C_below HR0_4.out HB.out) | (with_reducible refine Kd.C_alloc ?_ _) | (with_reducible refine Kd.C_drewN ?_ _) | (with_reducible refine Kd.C_drew ?_))); (case side10 => exact HC0_4.out); rintro e w6 ⟨v137, rfl, ho0, hb⟩; refine ⟨_, rfl, ?_⟩; have n0_ := Aside0.mk (Kd.S_lower ho0 (below_size (by repeat (first | (with_reducible first | exact HB.out | apply below_alloc | apply pw_below_drewN | apply below_drew1 | refine below_set ?_ GE135.out) | exact HB.out)))); have n1_ := Aside0.mk (blk_below (g := gb135) (o := .cells #[.slice A0_0 l0_0.length c0_0, .slice A0_1 l0_1.length c0_1, .slice A0_2 l0_2.length c0_2, .slice A0_3 l0_3.length c0_3, .slice A0_4 l0_4.length c0_4] 27 (0, 0)) (by (with_reducible repeat (first | refine blk_drewN ?_ _ | refine blk_drew ?_ | refine blk_alloc ?_ _)); exact BK135.out) hb); have n2_ := Aside0.mk (below_step (by repeat (first | (with_reducible first | exact HB.out | apply below_alloc | apply pw_below_drewN | apply below_drew1 | refine below_set ?_ GE135.out) | exact HB.out)) hb); clear BK135; clear HB; have HO138 := n0_; have BK135 := n1_; have HB := n2_; clear n0_ n1_ n2_; (try clear hb); (try clear hb2); (try clear hk); (try clear hi); (try clear ho0)))
    go_loopg [6, 7] k (fun kq v6 v7 w' => ∃ (x6_1 : List (S29)) (x7_1 : Int), v7 = .int .i64 x7_1 ∧ Aside0 (fault_List.l0 kq t136 x6_1 x7_1 = some (r1, r2)) ∧ Aside0 (kq ≤ k) ∧ Aside0 (Kd.S (Kd.slice 77 k77) 75 w' w.heap.size (fun _ => True) v137 t136) ∧ Aside0 (Kd.R k29 29 w' w.heap.size (fun _ => True) v6 x6_1) ∧ Aside0 (w'.heap[gb135]? = some (.cells #[(.slice A0_0 l0_0.length c0_0), (.slice A0_1 l0_1.length c0_1), (.slice A0_2 l0_2.length c0_2), (.slice A0_3 l0_3.length c0_3), (.slice A0_4 l0_4.length c0_4)] 27 (0, 0))) ∧ Aside0 (Below w.heap.size w w'))
    case atStart => exact ⟨(([] : List (S29))), (2), (by first | rfl | (simp; done) | (simp [*]; done)), H', ⟨Nat.le_refl _⟩, ⟨by (with_reducible repeat (first | apply Kd.S_alloc | apply Kd.S_drewN | apply Kd.S_drew)); exact HO138.out⟩, ⟨by first | exact Kd.R_nil _ _ _ _ _ | exact Kd.N_nil _ _ _ _ _ | exact Kd.V_nil _ _ _ _ _ | exact Kd.Q_nil _ _ _ _ _ | exact Kd.S_nil _ _ _ _ _⟩, ⟨by (with_reducible repeat (first | refine blk_drewN ?_ _ | refine blk_drew ?_ | refine blk_alloc ?_ _)); exact BK135.out⟩, ⟨by repeat (first | (with_reducible first | exact HB.out | apply below_alloc | apply pw_below_drewN | apply below_drew1 | refine below_set ?_ GE135.out) | exact HB.out)⟩⟩
    case round =>
      clear H'
      try clear c1
      try clear c2
      try clear p2
      try clear c3
      try clear c3b0
      try clear c3b1
      try clear hcz5_0
      try clear hcz5_1
      try clear hcz5_2
      try clear hcz5_3
      try clear hcz5_4
      try clear hfz5_0
      try clear hfz5_1
      try clear hfz5_2
      try clear hfz5_3
      try clear hfz5_4
      obtain ⟨x6_1, x7_1, rfl, HA, HK1, HO_4, HO_6, BK135, HB⟩ := hrel
      cases gk with
      | zero => exact absurd HA.out (by simp [fault_List.l0])
      | succ k1 =>
        have H := HA.out
        clear HA
        simp only [fault_List.l0] at H
        by_cases c7 : x7_1 < (t136.length : Int)
        · rw [if_pos c7] at H
          have c7b0 : decide (x7_1 < (t136.length : Int)) = true := decide_eq_true c7
          clear c7
          by_cases c8 : 0 ≤ x7_1
          · rw [if_pos c8] at H
            have c8b0 : decide (0 ≤ x7_1) = true := decide_eq_true c8
            clear c8
            have H' := Aside0.mk H
            clear H
            obtain ⟨Ao9, co9, eo9⟩ := Kd.S_slice HO_4.out
            subst eo9
            have p140 : 0 ≤ (x7_1 : Int) := of_decide_eq_true (by first | (with_reducible assumption) | assumption)
            have q140 : x7_1 < (t136.length : Int) := of_decide_eq_true (by first | (with_reducible assumption) | assumption)
            obtain ⟨ad140, A140_0, c140_0, e140, hx140_0, hl140_0, hi140_0⟩ := at_L12 (Kd.S_reads' HO_4.out).2.2 x7_1 p140 q140
            cases e140
            obtain ⟨ce140, hce140, hMe140, hcc140⟩ := Kd.S_get HO_4.out [] x7_1 p140 (by first | exact q140 | exact of_decide_eq_true (by first | (with_reducible assumption) | assumption) | (have e_ := (Kd.S_reads' HO_4.out).1; omega))
            obtain ⟨ve140_0, rfl, ge140_0⟩ := hMe140
            have hv140_0 := hcc140 0 _ rfl
            rw [Nat.add_zero, show ((Kd.slice 77 k77)).sz = 1 from rfl, Nat.mul_one] at hv140_0
            replace hv140_0 := Option.some.inj (hv140_0.symm.trans hx140_0)
            rw [hv140_0] at ge140_0
            have HL140_0 := Aside0.mk (show Kd.R k77 77 _ _ _ _ (rd_L12 t136 x7_1) from ge140_0)
            clear hv140_0 ge140_0
            clear hcc140 hce140
            have HR140_0 := Aside0.mk hi140_0
            have HC140_0 := Aside0.mk hl140_0
            clear hi140_0 hl140_0
            replace p140 := eq_true p140
            replace q140 := eq_true q140
            go_wp2
            go_loopg [6, 9] k1 (fun kq v6 v9 w' => ∃ (x6_2 : List (S29)) (x9_2 : Int), v9 = .int .i64 x9_2 ∧ Aside0 (fault_List.l1 kq t136 x6_2 x7_1 ((rd_L12 t136 x7_1).length : Int) x9_2 = some (r1, r2)) ∧ Aside0 (kq ≤ k1) ∧ Aside0 (Kd.S (Kd.slice 77 k77) 75 w' w.heap.size (fun _ => True) (.slice (some ad140) t136.length co9) t136) ∧ Aside0 (Kd.R k29 29 w' w.heap.size (fun _ => True) v6 x6_2) ∧ Aside0 (w'.heap[gb135]? = some (.cells #[(.slice A0_0 l0_0.length c0_0), (.slice A0_1 l0_1.length c0_1), (.slice A0_2 l0_2.length c0_2), (.slice A0_3 l0_3.length c0_3), (.slice A0_4 l0_4.length c0_4)] 27 (0, 0))) ∧ Aside0 (Below w.heap.size w w'))
            case atStart => exact ⟨(x6_1), ((-1)), (by first | rfl | (simp; done) | (simp [*]; done)), H', ⟨Nat.le_refl _⟩, ⟨by (with_reducible repeat (first | apply Kd.S_alloc | apply Kd.S_drewN | apply Kd.S_drew)); exact HO_4.out⟩, ⟨by (with_reducible repeat (first | apply Kd.R_alloc | apply Kd.R_drewN | apply Kd.R_drew)); exact HO_6.out⟩, ⟨by (with_reducible repeat (first | refine blk_drewN ?_ _ | refine blk_drew ?_ | refine blk_alloc ?_ _)); exact BK135.out⟩, ⟨by repeat (first | (with_reducible first | exact HB.out | apply below_alloc | apply pw_below_drewN | apply below_drew1 | refine below_set ?_ GE135.out) | exact HB.out)⟩⟩
            case round =>
              clear H'
              try clear c1
              try clear p1
              try clear q1
              try clear hx1
              try clear c2
              try clear p2
              try clear c3
              try clear c3b0
              try clear c3b1
              try clear c7
              try clear c7b0
              try clear c8
              try clear c8b0
              try clear hcz5_0
              try clear hcz5_1
              try clear hcz5_2
              try clear hcz5_3
              try clear hcz5_4
              try clear hfz5_0
              try clear hfz5_1
              try clear hfz5_2
              try clear hfz5_3
              try clear hfz5_4
              try clear hx140_0
              try clear p140
              try clear p2
              try clear q140
              obtain ⟨x6_2, x9_2, rfl, HA, HK2, HO_4, HO_6, BK135, HB⟩ := hrel
              cases gk with
              | zero => exact absurd HA.out (by simp [fault_List.l1])
              | succ k2 =>
                have H := HA.out
                clear HA
                simp only [fault_List.l1] at H
                by_cases c10 : x9_2 < ((rd_L12 t136 x7_1).length : Int)
                · rw [if_pos c10] at H
                  have c10b0 : decide (x9_2 < ((rd_L12 t136 x7_1).length : Int)) = true := decide_eq_true c10
                  clear c10
                  by_cases c11 : ((rd_L12 t136 x7_1).length : Int) > 0
                  · rw [if_pos c11] at H
                    have c11b0 : decide (0 < ((rd_L12 t136 x7_1).length : Int)) = true := decide_eq_true c11
                    have c11b1 : decide (0 < (rd_L12 t136 x7_1).length) = true := decide_eq_true (by omega)
                    clear c11
                    by_cases c12 : x9_2 < 0
                    · rw [if_pos c12] at H
                      have c12b0 : decide (x9_2 < 0) = true := decide_eq_true c12
                      clear c12
                      obtain ⟨y141, hy141⟩ : ∃ y_ : List (S29), y_ = (([(⟨x7_1, x9_2, false⟩ : S29), (⟨x7_1, x9_2, true⟩ : S29)] : List (S29))) := ⟨_, rfl⟩
                      replace H : (if x6_2.length + y141.length < 5864062014805 then (fault_List.l1 k2 t136 (x6_2 ++ y141) x7_1 ((rd_L12 t136 x7_1).length : Int) (wrap64 (x9_2 + 1))) else (none)) = some (r1, r2) := by first | (rw [hy141]; with_reducible exact H) | (have H2_ := (Option.bind_some _ _).symm.trans H; rw [hy141]; with_reducible exact H2_) | (have H2_ := (Option.bind_some _ _).symm.trans H; with_reducible exact H2_) | with_reducible exact H | (rw [hy141]; exact H) | exact H
                      have Ny141 := Aside0.mk hy141
                      clear hy141
                      by_cases c13 : x6_2.length + y141.length < 5864062014805
                      · rw [if_pos c13] at H
                        have LMc13 := Aside0.mk c13
                        clear c13
                        obtain ⟨y144, hy144⟩ : ∃ y_ : List (S29), y_ = (x6_2 ++ y141) := ⟨_, rfl⟩
                        replace H : (fault_List.l1 k2 t136 y144 x7_1 ((rd_L12 t136 x7_1).length : Int) (wrap64 (x9_2 + 1))) = some (r1, r2) := by first | (rw [hy144]; with_reducible exact H) | (have H2_ := (Option.bind_some _ _).symm.trans H; rw [hy144]; with_reducible exact H2_) | (have H2_ := (Option.bind_some _ _).symm.trans H; with_reducible exact H2_) | with_reducible exact H | (rw [hy144]; exact H) | exact H
                        have Ny144 := Aside0.mk hy144
                        clear hy144
                        have H' := Aside0.mk H
                        clear H
                        go_wp2_with (first | ((with_reducible refine gate_dst (N := 51) rfl ?_); refine Kd.R_lit k29 _ 29 ?hg (N := 51) ?hd (xs := ([(⟨x7_1, x9_2, false⟩ : S29), (⟨x7_1, x9_2, true⟩ : S29)] : List (S29))) (inner := [.int .i64 x7_1, .int .i64 x9_2, .bool false, .int .i64 x7_1, .int .i64 x9_2, .bool true]) (ok := fun _ => True) (okp := fun _ => True) ?hr ?hp (fun _ hk => hk) trivial (Below.refl _ _) (Nat.le_refl _) (by simp) ?_; (case hd => rfl); (case hg => rfl); (case hr => first | (go_simp; done) | (go_simp; rfl)); (case hp => exact (Reps.c3 (show Kd.M k29 _ _ _ (⟨x7_1, x9_2, false⟩ : S29) [.int .i64 x7_1, .int .i64 x9_2, .bool false] from (k29_mkM _ _ _ (⟨x7_1, x9_2, false⟩ : S29) )) (Reps.c3 (show Kd.M k29 _ _ _ (⟨x7_1, x9_2, true⟩ : S29) [.int .i64 x7_1, .int .i64 x9_2, .bool true] from (k29_mkM _ _ _ (⟨x7_1, x9_2, true⟩ : S29) )) (Reps.none _ _)))); intro v142 w14 ho15 hb hg_ hnew_; clear hg_ hnew_; (first | rw [← Ny141.out] at ho15 | (simp only [Int.reduceToNat] at ho15; rw [← Ny141.out] at ho15)); have n0_ := Aside0.mk (Kd.S_below (by (with_reducible repeat (first | apply Kd.S_alloc | apply Kd.S_drewN | apply Kd.S_drew)); exact HO_4.out) hb); have n1_ := Aside0.mk (Kd.R_elder' (by (with_reducible repeat (first | apply Kd.R_alloc | apply Kd.R_drewN | apply Kd.R_drew)); exact HO_6.out) (Kd.R_base ho15) hb); have n2_ := Aside0.mk (Kd.R_lower (Kd.R_new' ho15 (Kd.R_lt (by (with_reducible repeat (first | apply Kd.R_alloc | apply Kd.R_drewN | apply Kd.R_drew)); exact HO_6.out))) (below_size (by repeat (first | (with_reducible first | exact HB.out | apply below_alloc | apply pw_below_drewN | apply below_drew1 | refine below_set ?_ GE135.out) | exact HB.out)))); have n3_ := Aside0.mk (blk_below (g := gb135) (o := .cells #[.slice A0_0 l0_0.length c0_0, .slice A0_1 l0_1.length c0_1, .slice A0_2 l0_2.length c0_2, .slice A0_3 l0_3.length c0_3, .slice A0_4 l0_4.length c0_4] 27 (0, 0)) (by (with_reducible repeat (first | refine blk_drewN ?_ _ | refine blk_drew ?_ | refine blk_alloc ?_ _)); exact BK135.out) hb); have n4_ := Aside0.mk (below_step (by repeat (first | (with_reducible first | exact HB.out | apply below_alloc | apply pw_below_drewN | apply below_drew1 | refine below_set ?_ GE135.out) | exact HB.out)) hb); clear HO_4; clear HO_6; clear BK135; clear HB; have HO_4 := n0_; have HO_6 := n1_; have HO143 := n2_; have BK135 := n3_; have HB := n4_; clear n0_ n1_ n2_ n3_ n4_; clear hb ho15; obtain ⟨Ao17, co17, eo17⟩ := Kd.R_slice HO143.out; subst eo17) | ((with_reducible refine gate_builtin (b := .append) (xs := #[.tmp 44, .tmp 51]) rfl ?_); at_builtin; refine Kd.R_append_rows k29 (w0 := w) w.heap.size rfl (.tmp 44) (.tmp 51) 39 29 (.agg #[(.int .i64 0), (.int .i64 0), (.bool false)]) 24 rfl Try.underlying39 info29 rfl (by decide) (by omega) u6 x6_2 y141 _ _ _ (fun k_ => some k_ ≠ (.slice Ao17 y141.length co17 : Value).ownBlock) (fun _ => False) rfl rfl ?aO ?aR (fun _ _ h => h) (fun _ h => h.elim) ?aF ?aB ?aS ?aL ?_; (case aR => repeat (first | exact (Kd.R_reads' HO143.out).2.2 | (with_reducible refine Kd.C_alloc ?_ _) | (with_reducible refine Kd.C_drewN ?_ _) | (with_reducible refine Kd.C_drew ?_))); (case aB => exact (by repeat (first | (with_reducible first | exact HB.out | apply below_alloc | apply pw_below_drewN | apply below_drew1 | refine below_set ?_ GE135.out) | exact HB.out))); (case aF => exact (fun k_ hk => Kd.fresh' (Kd.R_lt (by (with_reducible repeat (first | apply Kd.R_alloc | apply Kd.R_drewN | apply Kd.R_drew)); exact HO143.out)) k_ hk)); (case aO => exact (by (with_reducible repeat (first | apply Kd.R_alloc | apply Kd.R_drewN | apply Kd.R_drew)); exact Kd.R_mono HO_6.out (fun _ hk => hk.2))); (case aS => exact (below_size (by repeat (first | (with_reducible first | exact HB.out | apply below_alloc | apply pw_below_drewN | apply below_drew1 | refine below_set ?_ GE135.out) | exact HB.out)))); (case aL => have := LMc13.out; omega); intro v145 w16 ho hb hg hat; rw [← Ny144.out] at ho; have n0_ := Aside0.mk (Kd.S_over' (by (with_reducible repeat (first | apply Kd.S_alloc | apply Kd.S_drewN | apply Kd.S_drew)); exact HO_4.out) (Kd.R_typed (by (with_reducible repeat (first | apply Kd.R_alloc | apply Kd.R_drewN | apply Kd.R_drew)); exact HO_6.out)) (by decide) hg); have n1_ := Aside0.mk (blk_grown (g := gb135) (o := .cells #[.slice A0_0 l0_0.length c0_0, .slice A0_1 l0_1.length c0_1, .slice A0_2 l0_2.length c0_2, .slice A0_3 l0_3.length c0_3, .slice A0_4 l0_4.length c0_4] 27 (0, 0)) (by (with_reducible repeat (first | refine blk_drewN ?_ _ | refine blk_drew ?_ | refine blk_alloc ?_ _)); exact BK135.out) hg (Kd.R_ne HO_6.out BK135.out (by decide))); have n2_ := Aside0.mk (Kd.R_after (ok := (fun _ => True)) (by (with_reducible repeat (first | apply Kd.R_alloc | apply Kd.R_drewN | apply Kd.R_drew)); exact HO143.out) hg hat); have n3_ := Aside0.mk (hb); have n4_ := Aside0.mk (ho); clear HO_4; clear BK135; clear HO143; clear HB; clear HO_6; have HO_4 := n0_; have BK135 := n1_; have HO143 := n2_; have HB := n3_; have HO146 := n4_; clear n0_ n1_ n2_ n3_ n4_; clear ho hb hg hat))
                        go_roundg k2
                        case measure => have := HK1.out; have := HK2.out; omega
                        case rel => exact ⟨(y144), (wrap64 (x9_2 + 1)), (by first | rfl | (simp; done) | (simp [*]; done)), H', ⟨by have := HK1.out; have := HK2.out; omega⟩, ⟨by (with_reducible repeat (first | apply Kd.S_alloc | apply Kd.S_drewN | apply Kd.S_drew)); exact HO_4.out⟩, ⟨by (with_reducible repeat (first | apply Kd.R_alloc | apply Kd.R_drewN | apply Kd.R_drew)); exact Kd.R_mono HO146.out (fun _ hk => trivial)⟩, ⟨by (with_reducible repeat (first | refine blk_drewN ?_ _ | refine blk_drew ?_ | refine blk_alloc ?_ _)); exact BK135.out⟩, ⟨by repeat (first | (with_reducible first | exact HB.out | apply below_alloc | apply pw_below_drewN | apply below_drew1 | refine below_set ?_ GE135.out) | exact HB.out)⟩⟩
                      · rw [if_neg c13] at H
                        exact absurd H (by simp)
                    · rw [if_neg c12] at H
                      have c12b0 : decide (x9_2 < 0) = false := decide_eq_false c12
                      clear c12
                      by_cases c18 : ((rd_L12 t136 x7_1).length : Int) > 1
                      · rw [if_pos c18] at H
                        have c18b0 : decide (1 < ((rd_L12 t136 x7_1).length : Int)) = true := decide_eq_true c18
                        have c18b1 : decide (1 < (rd_L12 t136 x7_1).length) = true := decide_eq_true (by omega)
                        clear c18
                        obtain ⟨y147, hy147⟩ : ∃ y_ : List (S29), y_ = (([(⟨x7_1, x9_2, false⟩ : S29), (⟨x7_1, x9_2, true⟩ : S29)] : List (S29))) := ⟨_, rfl⟩
                        replace H : (if x6_2.length + y147.length < 5864062014805 then (fault_List.l1 k2 t136 (x6_2 ++ y147) x7_1 ((rd_L12 t136 x7_1).length : Int) (wrap64 (x9_2 + 1))) else (none)) = some (r1, r2) := by first | (rw [hy147]; with_reducible exact H) | (have H2_ := (Option.bind_some _ _).symm.trans H; rw [hy147]; with_reducible exact H2_) | (have H2_ := (Option.bind_some _ _).symm.trans H; with_reducible exact H2_) | with_reducible exact H | (rw [hy147]; exact H) | exact H
                        have Ny147 := Aside0.mk hy147
                        clear hy147
                        by_cases c19 : x6_2.length + y147.length < 5864062014805
                        · rw [if_pos c19] at H
                          have LMc19 := Aside0.mk c19
                          clear c19
                          obtain ⟨y150, hy150⟩ : ∃ y_ : List (S29), y_ = (x6_2 ++ y147) := ⟨_, rfl⟩
                          replace H : (fault_List.l1 k2 t136 y150 x7_1 ((rd_L12 t136 x7_1).length : Int) (wrap64 (x9_2 + 1))) = some (r1, r2) := by first | (rw [hy150]; with_reducible exact H) | (have H2_ := (Option.bind_some _ _).symm.trans H; rw [hy150]; with_reducible exact H2_) | (have H2_ := (Option.bind_some _ _).symm.trans H; with_reducible exact H2_) | with_reducible exact H | (rw [hy150]; exact H) | exact H
                          have Ny150 := Aside0.mk hy150
                          clear hy150
                          have H' := Aside0.mk H
                          clear H
                          go_wp2_with (first | ((with_reducible refine gate_dst (N := 51) rfl ?_); refine Kd.R_lit k29 _ 29 ?hg (N := 51) ?hd (xs := ([(⟨x7_1, x9_2, false⟩ : S29), (⟨x7_1, x9_2, true⟩ : S29)] : List (S29))) (inner := [.int .i64 x7_1, .int .i64 x9_2, .bool false, .int .i64 x7_1, .int .i64 x9_2, .bool true]) (ok := fun _ => True) (okp := fun _ => True) ?hr ?hp (fun _ hk => hk) trivial (Below.refl _ _) (Nat.le_refl _) (by simp) ?_; (case hd => rfl); (case hg => rfl); (case hr => first | (go_simp; done) | (go_simp; rfl)); (case hp => exact (Reps.c3 (show Kd.M k29 _ _ _ (⟨x7_1, x9_2, false⟩ : S29) [.int .i64 x7_1, .int .i64 x9_2, .bool false] from (k29_mkM _ _ _ (⟨x7_1, x9_2, false⟩ : S29) )) (Reps.c3 (show Kd.M k29 _ _ _ (⟨x7_1, x9_2, true⟩ : S29) [.int .i64 x7_1, .int .i64 x9_2, .bool true] from (k29_mkM _ _ _ (⟨x7_1, x9_2, true⟩ : S29) )) (Reps.none _ _)))); intro v148 w20 ho21 hb hg_ hnew_; clear hg_ hnew_; (first | rw [← Ny147.out] at ho21 | (simp only [Int.reduceToNat] at ho21; rw [← Ny147.out] at ho21)); have n0_ := Aside0.mk (Kd.S_below (by (with_reducible repeat (first | apply Kd.S_alloc | apply Kd.S_drewN | apply Kd.S_drew)); exact HO_4.out) hb); have n1_ := Aside0.mk (Kd.R_elder' (by (with_reducible repeat (first | apply Kd.R_alloc | apply Kd.R_drewN | apply Kd.R_drew)); exact HO_6.out) (Kd.R_base ho21) hb); have n2_ := Aside0.mk (Kd.R_lower (Kd.R_new' ho21 (Kd.R_lt (by (with_reducible repeat (first | apply Kd.R_alloc | apply Kd.R_drewN | apply Kd.R_drew)); exact HO_6.out))) (below_size (by repeat (first | (with_reducible first | exact HB.out | apply below_alloc | apply pw_below_drewN | apply below_drew1 | refine below_set ?_ GE135.out) | exact HB.out)))); have n3_ := Aside0.mk (blk_below (g := gb135) (o := .cells #[.slice A0_0 l0_0.length c0_0, .slice A0_1 l0_1.length c0_1, .slice A0_2 l0_2.length c0_2, .slice A0_3 l0_3.length c0_3, .slice A0_4 l0_4.length c0_4] 27 (0, 0)) (by (with_reducible repeat (first | refine blk_drewN ?_ _ | refine blk_drew ?_ | refine blk_alloc ?_ _)); exact BK135.out) hb); have n4_ := Aside0.mk (below_step (by repeat (first | (with_reducible first | exact HB.out | apply below_alloc | apply pw_below_drewN | apply below_drew1 | refine below_set ?_ GE135.out) | exact HB.out)) hb); clear HO_4; clear HO_6; clear BK135; clear HB; have HO_4 := n0_; have HO_6 := n1_; have HO149 := n2_; have BK135 := n3_; have HB := n4_; clear n0_ n1_ n2_ n3_ n4_; clear hb ho21; obtain ⟨Ao23, co23, eo23⟩ := Kd.R_slice HO149.out; subst eo23) | ((with_reducible refine gate_builtin (b := .append) (xs := #[.tmp 44, .tmp 51]) rfl ?_); at_builtin; refine Kd.R_append_rows k29 (w0 := w) w.heap.size rfl (.tmp 44) (.tmp 51) 39 29 (.agg #[(.int .i64 0), (.int .i64 0), (.bool false)]) 24 rfl Try.underlying39 info29 rfl (by decide) (by omega) u6 x6_2 y147 _ _ _ (fun k_ => some k_ ≠ (.slice Ao23 y147.length co23 : Value).ownBlock) (fun _ => False) rfl rfl ?aO ?aR (fun _ _ h => h) (fun _ h => h.elim) ?aF ?aB ?aS ?aL ?_; (case aR => repeat (first | exact (Kd.R_reads' HO149.out).2.2 | (with_reducible refine Kd.C_alloc ?_ _) | (with_reducible refine Kd.C_drewN ?_ _) | (with_reducible refine Kd.C_drew ?_))); (case aB => exact (by repeat (first | (with_reducible first | exact HB.out | apply below_alloc | apply pw_below_drewN | apply below_drew1 | refine below_set ?_ GE135.out) | exact HB.out))); (case aF => exact (fun k_ hk => Kd.fresh' (Kd.R_lt (by (with_reducible repeat (first | apply Kd.R_alloc | apply Kd.R_drewN | apply Kd.R_drew)); exact HO149.out)) k_ hk)); (case aO => exact (by (with_reducible repeat (first | apply Kd.R_alloc | apply Kd.R_drewN | apply Kd.R_drew)); exact Kd.R_mono HO_6.out (fun _ hk => hk.2))); (case aS => exact (below_size (by repeat (first | (with_reducible first | exact HB.out | apply below_alloc | apply pw_below_drewN | apply below_drew1 | refine below_set ?_ GE135.out) | exact HB.out)))); (case aL => have := LMc19.out; omega); intro v151 w22 ho hb hg hat; rw [← Ny150.out] at ho; have n0_ := Aside0.mk (Kd.S_over' (by (with_reducible repeat (first | apply Kd.S_alloc | apply Kd.S_drewN | apply Kd.S_drew)); exact HO_4.out) (Kd.R_typed (by (with_reducible repeat (first | apply Kd.R_alloc | apply Kd.R_drewN | apply Kd.R_drew)); exact HO_6.out)) (by decide) hg); have n1_ := Aside0.mk (blk_grown (g := gb135) (o := .cells #[.slice A0_0 l0_0.length c0_0, .slice A0_1 l0_1.length c0_1, .slice A0_2 l0_2.length c0_2, .slice A0_3 l0_3.length c0_3, .slice A0_4 l0_4.length c0_4] 27 (0, 0)) (by (with_reducible repeat (first | refine blk_drewN ?_ _ | refine blk_drew ?_ | refine blk_alloc ?_ _)); exact BK135.out) hg (Kd.R_ne HO_6.out BK135.out (by decide))); have n2_ := Aside0.mk (Kd.R_after (ok := (fun _ => True)) (by (with_reducible repeat (first | apply Kd.R_alloc | apply Kd.R_drewN | apply Kd.R_drew)); exact HO149.out) hg hat); have n3_ := Aside0.mk (hb); have n4_ := Aside0.mk (ho); clear HO_4; clear BK135; clear HO149; clear HB; clear HO_6; have HO_4 := n0_; have BK135 := n1_; have HO149 := n2_; have HB := n3_; have HO152 := n4_; clear n0_ n1_ n2_ n3_ n4_; clear ho hb hg hat))
                          go_roundg k2
                          case measure => have := HK1.out; have := HK2.out; omega
                          case rel => exact ⟨(y150), (wrap64 (x9_2 + 1)), (by first | rfl | (simp; done) | (simp [*]; done)), H', ⟨by have := HK1.out; have := HK2.out; omega⟩, ⟨by (with_reducible repeat (first | apply Kd.S_alloc | apply Kd.S_drewN | apply Kd.S_drew)); exact HO_4.out⟩, ⟨by (with_reducible repeat (first | apply Kd.R_alloc | apply Kd.R_drewN | apply Kd.R_drew)); exact Kd.R_mono HO152.out (fun _ hk => trivial)⟩, ⟨by (with_reducible repeat (first | refine blk_drewN ?_ _ | refine blk_drew ?_ | refine blk_alloc ?_ _)); exact BK135.out⟩, ⟨by repeat (first | (with_reducible first | exact HB.out | apply below_alloc | apply pw_below_drewN | apply below_drew1 | refine below_set ?_ GE135.out) | exact HB.out)⟩⟩
                        · rw [if_neg c19] at H
                          exact absurd H (by simp)
                      · rw [if_neg c18] at H
                        have c18b0 : decide (1 < ((rd_L12 t136 x7_1).length : Int)) = false := decide_eq_false c18
                        have c18b1 : decide (1 < (rd_L12 t136 x7_1).length) = false := decide_eq_false (by omega)
                        clear c18
                        have H' := Aside0.mk H
                        clear H
                        go_wp2
                        go_roundg k2
                        case measure => have := HK1.out; have := HK2.out; omega
                        case rel => exact ⟨(x6_2), (wrap64 (x9_2 + 1)), (by first | rfl | (simp; done) | (simp [*]; done)), H', ⟨by have := HK1.out; have := HK2.out; omega⟩, ⟨by (with_reducible repeat (first | apply Kd.S_alloc | apply Kd.S_drewN | apply Kd.S_drew)); exact HO_4.out⟩, ⟨by (with_reducible repeat (first | apply Kd.R_alloc | apply Kd.R_drewN | apply Kd.R_drew)); exact HO_6.out⟩, ⟨by (with_reducible repeat (first | refine blk_drewN ?_ _ | refine blk_drew ?_ | refine blk_alloc ?_ _)); exact BK135.out⟩, ⟨by repeat (first | (with_reducible first | exact HB.out | apply below_alloc | apply pw_below_drewN | apply below_drew1 | refine below_set ?_ GE135.out) | exact HB.out)⟩⟩
                  · rw [if_neg c11] at H
                    have c11b0 : decide (0 < ((rd_L12 t136 x7_1).length : Int)) = false := decide_eq_false c11
                    have c11b1 : decide (0 < (rd_L12 t136 x7_1).length) = false := decide_eq_false (by omega)
                    clear c11
                    have H' := Aside0.mk H
                    clear H
                    go_wp2
                    go_roundg k2
                    case measure => have := HK1.out; have := HK2.out; omega
                    case rel => exact ⟨(x6_2), (wrap64 (x9_2 + 1)), (by first | rfl | (simp; done) | (simp [*]; done)), H', ⟨by have := HK1.out; have := HK2.out; omega⟩, ⟨by (with_reducible repeat (first | apply Kd.S_alloc | apply Kd.S_drewN | apply Kd.S_drew)); exact HO_4.out⟩, ⟨by (with_reducible repeat (first | apply Kd.R_alloc | apply Kd.R_drewN | apply Kd.R_drew)); exact HO_6.out⟩, ⟨by (with_reducible repeat (first | refine blk_drewN ?_ _ | refine blk_drew ?_ | refine blk_alloc ?_ _)); exact BK135.out⟩, ⟨by repeat (first | (with_reducible first | exact HB.out | apply below_alloc | apply pw_below_drewN | apply below_drew1 | refine below_set ?_ GE135.out) | exact HB.out)⟩⟩
                · rw [if_neg c10] at H
                  have c10b0 : decide (x9_2 < ((rd_L12 t136 x7_1).length : Int)) = false := decide_eq_false c10
                  clear c10
                  have H' := Aside0.mk H
                  clear H
                  go_wp2
                  go_roundg k2
                  case measure => have := HK1.out; have := HK2.out; omega
                  case rel => exact ⟨(x6_2), (wrap64 (x7_1 + 1)), (by first | rfl | (simp; done) | (simp [*]; done)), H', ⟨by have := HK1.out; have := HK2.out; omega⟩, ⟨by (with_reducible repeat (first | apply Kd.S_alloc | apply Kd.S_drewN | apply Kd.S_drew)); exact HO_4.out⟩, ⟨by (with_reducible repeat (first | apply Kd.R_alloc | apply Kd.R_drewN | apply Kd.R_drew)); exact HO_6.out⟩, ⟨by (with_reducible repeat (first | refine blk_drewN ?_ _ | refine blk_drew ?_ | refine blk_alloc ?_ _)); exact BK135.out⟩, ⟨by repeat (first | (with_reducible first | exact HB.out | apply below_alloc | apply pw_below_drewN | apply below_drew1 | refine below_set ?_ GE135.out) | exact HB.out)⟩⟩
          · rw [if_neg c8] at H
            exact absurd H (by simp)
        · rw [if_neg c7] at H
          have c7b0 : decide (x7_1 < (t136.length : Int)) = false := decide_eq_false c7
          clear c7
          simp only [Option.some.injEq, Prod.mk.injEq] at H
          obtain ⟨rfl, rfl⟩ := H
          obtain ⟨Ao24, co24, eo24⟩ := Kd.S_slice HO_4.out
          subst eo24
          go_wp2
          go_ret2
          exact ⟨_, by first | rfl | (simp [errW_none, errW_some] <;> rfl) | (simp [*, errW_none, errW_some] <;> rfl), by (with_reducible repeat (first | apply Kd.R_alloc | apply Kd.R_drewN | apply Kd.R_drew)); exact HO_6.out, by repeat (first | (with_reducible first | exact HB.out | apply below_alloc | apply pw_below_drewN | apply below_drew1 | refine below_set ?_ GE135.out) | exact HB.out)⟩
  · rw [if_neg c3] at H
    have c3b0 : (t139 == 0) = false := beq_eq_false_iff_ne.mpr c3
    have c3b1 : (t139 != 0) = true := bne_iff_ne.mpr c3
    simp only [Option.some.injEq, Prod.mk.injEq] at H
    obtain ⟨rfl, rfl⟩ := H
    go_enter Try.func14, Try.ntmps14
    go_wp2_with (first | ((with_reducible refine gate_dst (N := 1) rfl ?_); refine box_event ?hg (N := 1) ?hd (cs := #[.slice A0_0 l0_0.length c0_0, .slice A0_1 l0_1.length c0_1, .slice A0_2 l0_2.length c0_2, .slice A0_3 l0_3.length c0_3, .slice A0_4 l0_4.length c0_4]) (t := 27) ?hr ?_; (case hd => rfl); (case hg => rfl); (case hr => first | (go_simp; done) | (go_simp; rfl)); intro gb135 hg w25 hbox hb; have n0_ := Aside0.mk (below_step (by repeat (first | (with_reducible first | exact HB.out | apply below_alloc | apply pw_below_drewN | apply below_drew1) | exact HB.out)) hb); have n1_ := Aside0.mk (hbox); have n2_ := Aside0.mk ((by rw [hg]; exact (below_size (by repeat (first | (with_reducible first | exact HB.out | apply below_alloc | apply pw_below_drewN | apply below_drew1) | exact HB.out))) : w.heap.size ≤ gb135)); have n3_ := Aside0.mk ((by rw [hg]; exact (below_size (by repeat (first | (with_reducible first | exact HB.out | apply below_alloc | apply pw_below_drewN | apply below_drew1) | exact HB.out))) : w.heap.size ≤ gb135)); clear HB; have HB := n0_; have BK135 := n1_; have GW135 := n2_; have GE135 := n3_; clear n0_ n1_ n2_ n3_; clear hb hbox hg; have hcz26_0 : w25.cell? ⟨gb135, 0, none⟩ = some (.slice A0_0 l0_0.length c0_0) := (blk_cell BK135.out 0).trans rfl; have hcz26_1 : w25.cell? ⟨gb135, 1, none⟩ = some (.slice A0_1 l0_1.length c0_1) := (blk_cell BK135.out 1).trans rfl; have hcz26_2 : w25.cell? ⟨gb135, 2, none⟩ = some (.slice A0_2 l0_2.length c0_2) := (blk_cell BK135.out 2).trans rfl; have hcz26_3 : w25.cell? ⟨gb135, 3, none⟩ = some (.slice A0_3 l0_3.length c0_3) := (blk_cell BK135.out 3).trans rfl; have hcz26_4 : w25.cell? ⟨gb135, 4, none⟩ = some (.slice A0_4 l0_4.length c0_4) := (blk_cell BK135.out 4).trans rfl; have hfz26_0 := blk_frozen BK135.out 0; have hfz26_1 := blk_frozen BK135.out 1; have hfz26_2 := blk_frozen BK135.out 2; have hfz26_3 := blk_frozen BK135.out 3; have hfz26_4 := blk_frozen BK135.out 4) | ((with_reducible refine gate_callee (f := 27) rfl ?_); refine goesL_ (some 12) rfl rfl Try.func27 (by kernel_rfl) rfl #[.agg #[.slice A0_0 l0_0.length c0_0, .slice A0_1 l0_1.length c0_1, .slice A0_2 l0_2.length c0_2, .slice A0_3 l0_3.length c0_3, .slice A0_4 l0_4.length c0_4]] rfl (by (try simp only [List.map_toArray, List.map_cons, List.map_nil]); first | done | rfl | (simp only [List.length_drop, List.length_take]; rfl)) ?_; (with_reducible refine (netlist_Loads.calls k _ _ l0_0 _ _ l0_1 _ _ l0_2 _ _ l0_3 _ _ l0_4 t136 t139 _ ?side1 ?side2 ?side3 ?side4 ?side5 ?side6 ?side7 ?side8 ?side9 ?side10 A2.out).mono ?_); (case side1 => repeat (first | exact (Kd.C_below HR0_0.out HB.out) | (with_reducible refine Kd.C_alloc ?_ _) | (with_reducible refine Kd.C_drewN ?_ _) | (with_reducible refine Kd.C_drew ?_))); (case side2 => exact HC0_0.out); (case side3 => repeat (first | exact (Kd.C_below HR0_1.out HB.out) | (with_reducible refine Kd.C_alloc ?_ _) | (with_reducible refine Kd.C_drewN ?_ _) | (with_reducible refine Kd.C_drew ?_))); (case side4 => exact HC0_1.out); (case side5 => repeat (first | exact (Kd.C_below HR0_2.out HB.out) | (with_reducible refine Kd.C_alloc ?_ _) | (with_reducible refine Kd.C_drewN ?_ _) | (with_reducible refine Kd.C_drew ?_))); (case side6 => exact HC0_2.out); (case side7 => repeat (first | exact (Kd.C_below HR0_3.out HB.out) | (with_reducible refine Kd.C_alloc ?_ _) | (with_reducible refine Kd.C_drewN ?_ _) | (with_reducible refine Kd.C_drew ?_))); (case side8 => exact HC0_3.out); (case side9 => repeat (first | exact (Kd.C_below HR0_4.out HB.out) | (with_reducible refine Kd.C_alloc ?_ _) | (with_reducible refine Kd.C_drewN ?_ _) | (with_reducible refine Kd.C_drew ?_))); (case side10 => exact HC0_4.out); rintro e w27 ⟨v137, rfl, ho0, hb⟩; refine ⟨_, rfl, ?_⟩; have n0_ := Aside0.mk (Kd.S_lower ho0 (below_size (by repeat (first | (with_reducible first | exact HB.out | apply below_alloc | apply pw_below_drewN | apply below_drew1 | refine below_set ?_ GE135.out) | exact HB.out)))); have n1_ := Aside0.mk (blk_below (g := gb135) (o := .cells #[.slice A0_0 l0_0.length c0_0, .slice A0_1 l0_1.length c0_1, .slice A0_2 l0_2.length c0_2, .slice A0_3 l0_3.length c0_3, .slice A0_4 l0_4.length c0_4] 27 (0, 0)) (by (with_reducible repeat (first | refine blk_drewN ?_ _ | refine blk_drew ?_ | refine blk_alloc ?_ _)); exact BK135.out) hb); have n2_ := Aside0.mk (below_step (by repeat (first | (with_reducible first | exact HB.out | apply below_alloc | apply pw_below_drewN | apply below_drew1 | refine below_set ?_ GE135.out) | exact HB.out)) hb); clear BK135; clear HB; have HO138 := n0_; have BK135 := n1_; have HB := n2_; clear n0_ n1_ n2_; (try clear hb); (try clear hb2); (try clear hk); (try clear hi); (try clear ho0)))
    go_ret2
    exact ⟨_, by first | rfl | (simp [errW_none, errW_some] <;> rfl) | (simp [*, errW_none, errW_some] <;> rfl), by first | exact Kd.R_nil _ _ _ _ _ | exact Kd.N_nil _ _ _ _ _ | exact Kd.V_nil _ _ _ _ _ | exact Kd.Q_nil _ _ _ _ _ | exact Kd.S_nil _ _ _ _ _, by repeat (first | (with_reducible first | exact HB.out | apply below_alloc | apply pw_below_drewN | apply below_drew1 | refine below_set ?_ GE135.out) | exact HB.out)⟩
end Go.Proofs.Ytimjccfpobhpeaa.PF
namespace Go.Proofs.Ytimjccfpobhpeaa
open Go.RowKit Go.Proofs.YtimjccfpobhpeaaW.PrintWords Go.Proofs.Ytimjccfpobhpeaa.PF
set_option linter.unusedVariables false
theorem bodyF_len (net : Int) (k s : Nat) : (bodyF net k s).length ≤ 2 := by
  unfold bodyF pairF
  split <;> simp
theorem bodies_len (net : Int) (k : Nat) : ∀ (d s : Nat), ((List.range' s d).flatMap (bodyF net k)).length ≤ 2 * d
  | 0, s => by simp
  | d + 1, s => by
    have h1 := bodies_len net k d (s + 1)
    have h2 := bodyF_len net k s
    rw [List.range'_succ, List.flatMap_cons, List.length_append]
    omega
theorem rdRow_at {xs : List (List Load)} {i : Nat} {x : List Load} (h : xs[i]? = some x) : rd_L12 xs (i : Int) = x := by
  unfold rd_L12
  first
  | exact rdOf_at h
  | (have hi : i < xs.length := (List.getElem?_eq_some_iff.1 h).1
     simp [h])
theorem list_l1 (x4 : List (List Load)) (x7 : Int) (K : Nat) (hK : K ≤ 100000000) (R : List FaultS × Int) (K1 : Nat) (X : List FaultS) (H : ∀ k, K1 ≤ k → fault_List.l0 k x4 X (wrap64 (x7 + 1)) = some R) :
    ∀ (d s : Nat) (x6 : List FaultS), s + d = K + 1 → x6 ++ (List.range' s d).flatMap (bodyF x7 K) = X → x6.length + 2 * d < 5864062014805 → ∀ k, K1 + d < k → fault_List.l1 k x4 x6 x7 K ((s : Int) - 1) = some R
  | 0, s, x6, h, hX, hl, k, hk => by
    obtain ⟨m, rfl⟩ : ∃ m, k = m + 1 := ⟨k - 1, by omega⟩
    rw [fault_List.l1, if_neg (by omega)]
    have e : x6 = X := by simpa using hX
    rw [e]
    exact H m (by omega)
  | d + 1, s, x6, h, hX, hl, k, hk => by
    obtain ⟨m, rfl⟩ : ∃ m, k = m + 1 := ⟨k - 1, by omega⟩
    rw [List.range'_succ, List.flatMap_cons, ← List.append_assoc] at hX
    have g1 : (s : Int) - 1 < (K : Int) := by omega
    have hw : wrap64 ((s : Int) - 1 + 1) = ((s + 1 : Nat) : Int) - 1 := by rw [wrap_id (by omega) (by omega)]; omega
    have ih := fun x6' hx hy => list_l1 x4 x7 K hK R K1 X H d (s + 1) x6' (by clear hw; omega) hx hy m (by clear hw; omega)
    rw [fault_List.l1, if_pos g1, hw]
    clear hw
    by_cases c1 : (K : Int) > 0
    · rw [if_pos c1]
      by_cases c2 : (s : Int) - 1 < 0
      · have e : bodyF x7 K s = pairF x7 ((s : Int) - 1) := by unfold bodyF; rw [if_pos ⟨by omega, Or.inl (by omega)⟩]
        rw [e] at hX
        rw [if_pos c2, Option.bind_some]
        show (if x6.length + 2 < 5864062014805 then (fault_List.l1 m x4 (x6 ++ pairF x7 ((s : Int) - 1)) x7 K (((s + 1 : Nat) : Int) - 1)) else none) = _
        rw [if_pos (by omega)]
        refine ih _ hX ?_
        rw [List.length_append]
        show x6.length + 2 + 2 * d < _
        omega
      · rw [if_neg c2]
        by_cases c3 : (K : Int) > 1
        · have e : bodyF x7 K s = pairF x7 ((s : Int) - 1) := by unfold bodyF; rw [if_pos ⟨by omega, Or.inr (by omega)⟩]
          rw [e] at hX
          rw [if_pos c3, Option.bind_some]
          show (if x6.length + 2 < 5864062014805 then (fault_List.l1 m x4 (x6 ++ pairF x7 ((s : Int) - 1)) x7 K (((s + 1 : Nat) : Int) - 1)) else none) = _
          rw [if_pos (by omega)]
          refine ih _ hX ?_
          rw [List.length_append]
          show x6.length + 2 + 2 * d < _
          omega
        · have e : bodyF x7 K s = [] := by unfold bodyF; rw [if_neg (by omega)]
          rw [e, List.append_nil] at hX
          rw [if_neg c3]
          exact ih _ hX (by omega)
    · have e : bodyF x7 K s = [] := by unfold bodyF; rw [if_neg (by omega)]
      rw [e, List.append_nil] at hX
      rw [if_neg c1]
      exact ih _ hX (by omega)
theorem listFrom_len (B : Nat) : ∀ (rs : List (List Load)) (n : Nat), (∀ r ∈ rs, r.length ≤ B) → (listFrom rs n).length ≤ rs.length * (2 * (B + 1))
  | [], n, _ => by simp [listFrom]
  | r :: rs, n, h => by
    have h1 := listFrom_len B rs (n + 1) fun x hx => h x (List.mem_cons_of_mem _ hx)
    have h2 := bodies_len (n : Int) r.length (r.length + 1) 0
    have h3 := h r List.mem_cons_self
    rw [listFrom, List.length_append, List.length_cons, Nat.succ_mul]
    unfold netF
    omega
theorem list_l0 (x4 : List (List Load)) (B : Nat) (hB : B ≤ 1000000) (hx4 : x4.length ≤ 100000) (h4 : ∀ r ∈ x4, r.length ≤ B) : ∀ (d i : Nat) (x6 : List FaultS), i + d = x4.length → x6.length ≤ i * (2 * (B + 1)) → ∀ k, d * (B + 3) + 1 < k →
    fault_List.l0 k x4 x6 i = some (x6 ++ listFrom (x4.drop i) i, 0)
  | 0, i, x6, h, h6, k, hk => by
    obtain ⟨m, rfl⟩ : ∃ m, k = m + 1 := ⟨k - 1, by omega⟩
    rw [fault_List.l0, if_neg (by omega), List.drop_eq_nil_of_le (by omega), listFrom, List.append_nil]
  | d + 1, i, x6, h, h6, k, hk => by
    rw [Nat.succ_mul] at hk
    obtain ⟨m, rfl⟩ : ∃ m, k = m + 1 := ⟨k - 1, by omega⟩
    obtain ⟨r, hr⟩ := at_ex (xs := x4) (i := i) (by omega)
    have hrB := h4 r (List.mem_of_getElem? hr)
    have hw : wrap64 ((i : Int) + 1) = ((i + 1 : Nat) : Int) := by rw [wrap_id (by omega) (by omega)]; rfl
    have hn := bodies_len (i : Int) r.length (r.length + 1) 0
    have hi : i * (2 * (B + 1)) ≤ 100000 * (2 * (1000000 + 1)) := Nat.mul_le_mul (by omega) (by omega)
    rw [fault_List.l0, if_pos (by clear hw; omega), if_pos (by clear hw; omega), rdRow_at hr, drop_cons hr, listFrom, ← List.append_assoc]
    refine list_l1 x4 i r.length (by clear hw; omega) _ (d * (B + 3) + 2) (x6 ++ netF i r.length) (fun k hk => ?_) (r.length + 1) 0 x6 (by omega) rfl (by clear hw; omega) m (by clear hw; omega)
    rw [hw]
    refine list_l0 x4 B hB hx4 h4 d (i + 1) _ (by clear hw; omega) ?_ k (by clear hw; omega)
    rw [List.length_append, Nat.succ_mul]
    unfold netF
    clear hw
    omega
end Go.Proofs.Ytimjccfpobhpeaa
