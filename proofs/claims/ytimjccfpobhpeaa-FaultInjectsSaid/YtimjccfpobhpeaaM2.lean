-- joined from: Broken PFx3 PFx5 PFx6 PFx7 PFx8 PFx9
import Derived.Test.YtimjccfpobhpeaaM1
import Derived.Test.YtimjccfpobhpeaaM0
/- maskref2.Broken: the reference's netlist with a fault. -/
namespace Go.Proofs.Ytimjccfpobhpeaa
open Go.RowKit Go.Proofs.YtimjccfpobhpeaaW.PrintWords Go.Proofs.Ytimjccfpobhpeaa.PF
set_option maxRecDepth 100000

section
variable (nv : Load → Int → Int)
def brPins (i : Nat) : List Int → Nat → List Int
  | [], _ => []
  | x :: r, k => nv ⟨0, i, k⟩ x :: brPins i r (k + 1)
def brGates : List GateS → Nat → List GateS
  | [], _ => []
  | g :: r, i => ⟨g.f0, g.f1, brPins nv i g.f2 0⟩ :: brGates r (i + 1)
def brFlops : List FlopS → Nat → List FlopS
  | [], _ => []
  | f :: r, i => ⟨f.f0, f.f1, nv ⟨1, i, 0⟩ f.f2, nv ⟨2, i, 0⟩ f.f3, f.f4⟩ :: brFlops r (i + 1)
def brOuts : List Int → Nat → List Int
  | [], _ => []
  | x :: r, i => nv ⟨3, i, 0⟩ x :: brOuts r (i + 1)
theorem brPins_at (i : Nat) : ∀ (xs : List Int) (k0 k : Nat), (brPins nv i xs k0)[k]? = xs[k]?.map (nv ⟨0, i, (k0 + k : Nat)⟩)
  | [], k0, k => by simp [brPins]
  | x :: r, k0, 0 => by simp [brPins]
  | x :: r, k0, k + 1 => by
    rw [brPins, List.getElem?_cons_succ, List.getElem?_cons_succ, brPins_at i r (k0 + 1) k, show k0 + 1 + k = k0 + (k + 1) by omega]
theorem brPins_len (i : Nat) : ∀ (xs : List Int) (k0 : Nat), (brPins nv i xs k0).length = xs.length
  | [], k0 => rfl
  | x :: r, k0 => by rw [brPins, List.length_cons, brPins_len i r, List.length_cons]
theorem brGates_at : ∀ (xs : List GateS) (i0 i : Nat), (brGates nv xs i0)[i]? = xs[i]?.map (fun g => ⟨g.f0, g.f1, brPins nv (i0 + i) g.f2 0⟩)
  | [], i0, i => by simp [brGates]
  | x :: r, i0, 0 => by simp [brGates]
  | x :: r, i0, i + 1 => by
    rw [brGates, List.getElem?_cons_succ, List.getElem?_cons_succ, brGates_at r (i0 + 1) i, show i0 + 1 + i = i0 + (i + 1) by omega]
theorem brGates_len : ∀ (xs : List GateS) (i0 : Nat), (brGates nv xs i0).length = xs.length
  | [], i0 => rfl
  | x :: r, i0 => by rw [brGates, List.length_cons, brGates_len r, List.length_cons]
theorem brFlops_at : ∀ (xs : List FlopS) (i0 i : Nat), (brFlops nv xs i0)[i]? = xs[i]?.map (fun f => ⟨f.f0, f.f1, nv ⟨1, (i0 + i : Nat), 0⟩ f.f2, nv ⟨2, (i0 + i : Nat), 0⟩ f.f3, f.f4⟩)
  | [], i0, i => by simp [brFlops]
  | x :: r, i0, 0 => by simp [brFlops]
  | x :: r, i0, i + 1 => by
    rw [brFlops, List.getElem?_cons_succ, List.getElem?_cons_succ, brFlops_at r (i0 + 1) i, show i0 + 1 + i = i0 + (i + 1) by omega]
theorem brFlops_len : ∀ (xs : List FlopS) (i0 : Nat), (brFlops nv xs i0).length = xs.length
  | [], i0 => rfl
  | x :: r, i0 => by rw [brFlops, List.length_cons, brFlops_len r, List.length_cons]
theorem brOuts_at : ∀ (xs : List Int) (k0 k : Nat), (brOuts nv xs k0)[k]? = xs[k]?.map (nv ⟨3, (k0 + k : Nat), 0⟩)
  | [], k0, k => by simp [brOuts]
  | x :: r, k0, 0 => by simp [brOuts]
  | x :: r, k0, k + 1 => by
    rw [brOuts, List.getElem?_cons_succ, List.getElem?_cons_succ, brOuts_at r (k0 + 1) k, show k0 + 1 + k = k0 + (k + 1) by omega]
theorem brOuts_len : ∀ (xs : List Int) (k0 : Nat), (brOuts nv xs k0).length = xs.length
  | [], k0 => rfl
  | x :: r, k0 => by rw [brOuts, List.length_cons, brOuts_len r, List.length_cons]
end
theorem NetR.mono {T T' : Nat → Prop} {B : Nat} {w : World} {v0 v1 v2 v3 v4 : Value} {l0 l1 : List ByteArray} {l2 : List Flop} {l3 : List Gate} {l4 : List Int} (h : NetR T B w v0 v1 v2 v3 v4 l0 l1 l2 l3 l4) (ht : ∀ k, T k → T' k) : NetR T' B w v0 v1 v2 v3 v4 l0 l1 l2 l3 l4 :=
  ⟨Kd.R_mono h.r0 (fun k hk => ⟨ht k hk.1, hk.2⟩), Kd.R_mono h.r1 (fun k hk => ⟨ht k hk.1, hk.2⟩), Kd.R_mono h.r2 ht, Kd.S_mono h.r3 (fun k hk => ⟨ht k hk.1, hk.2⟩), Kd.R_mono h.r4 ht⟩
theorem getD_at {xs : List Int} {k : Nat} {x : Int} (h : xs[k]? = some x) : xs.getD k 0 = x := by rw [List.getD_eq_getElem?_getD, h]; rfl

set_option maxHeartbeats 16000000 in
theorem broken_t (A0 A1 A2 A3 A4 : Option Addr) (c0 c1 c2 c3 c4 : Nat) (l0 l1 : List ByteArray) (l2 : List Flop) (l3 : List Gate) (l4 : List Int) (net load : Int) (w : World)
    (h0 : Kd.C Kd.string w A0 l0.length l0) (h1 : Kd.C Kd.string w A1 l1.length l1) (h2 : Kd.C kFlop w A2 l2.length l2) (h3 : Kd.C kGate w A3 l3.length l3) (h4 : Kd.C (Kd.int .i64) w A4 l4.length l4)
    (m0 : l0.length * 16 ≤ 140737488355328) (m1 : l1.length * 16 ≤ 140737488355328) (m2 : l2.length * 48 ≤ 140737488355328) (m3 : l3.length * 40 ≤ 140737488355328) (m4 : l4.length * 8 ≤ 140737488355328) (m5 : ∀ x ∈ l3, x.f2.length * 8 ≤ 140737488355328)
    (m : List ((Int × Int × Int) × Int)) (nv : Load → Int → Int) (hnv : nv = newv net load 1 m)
    (HM : ∀ W, Below w.heap.size w W → Calls Try.prog 40 #[.agg #[.slice A0 l0.length c0, .slice A1 l1.length c1, .slice A2 l2.length c2, .slice A3 l3.length c3, .slice A4 l4.length c4]] W fun e w' => ∃ b, e = .returned (.map (some b)) ∧ W.heap.size ≤ b ∧ MapAt key3 (Value.int .i64) w' b m ∧ Below W.heap.size W w') :
    Calls Try.prog 13 #[.agg #[.slice A0 l0.length c0, .slice A1 l1.length c1, .slice A2 l2.length c2, .slice A3 l3.length c3, .slice A4 l4.length c4], .agg #[.int .i64 net, .int .i64 load, .bool true]] w fun e w' => ∃ v0 v1 v2 v3 v4 : Value, e = .returned (.agg #[v0, v1, v2, v3, v4]) ∧
      NetR (fun _ => True) w.heap.size w' v0 v1 v2 v3 v4 l0 l1 (brFlops nv l2 0) (brGates nv l3 0) (brOuts nv l4 0) ∧ Below w.heap.size w w' := by
  have hu := Try.underlying27
  have huF := Try.underlying29
  have huG := Try.underlying80
  have huP := Try.underlying82
  have huK := Try.underlying95
  have hW0 : Below w.heap.size w (((w.alloc (.cells #[.slice A0 l0.length c0, .slice A1 l1.length c1, .slice A2 l2.length c2, .slice A3 l3.length c3, .slice A4 l4.length c4] 27)).alloc (.cells #[.int .i64 net, .int .i64 load, .bool true] 29)).alloc (.cells #[.slice none 0 0, .slice none 0 0, .slice none 0 0, .slice none 0 0, .slice none 0 0] 27)) := (((Below.refl _ _).alloc (Nat.le_refl _) _).alloc (by simp) _).alloc (by simp; omega) _
  have bel : ∀ x : Under (((w.alloc (.cells #[.slice A0 l0.length c0, .slice A1 l1.length c1, .slice A2 l2.length c2, .slice A3 l3.length c3, .slice A4 l4.length c4] 27)).alloc (.cells #[.int .i64 net, .int .i64 load, .bool true] 29)).alloc (.cells #[.slice none 0 0, .slice none 0 0, .slice none 0 0, .slice none 0 0, .slice none 0 0] 27)), Below w.heap.size w x.val := fun x => hW0.trans (x.ok.mono (by simp; omega))
  have hsz : ∀ x : Under (((w.alloc (.cells #[.slice A0 l0.length c0, .slice A1 l1.length c1, .slice A2 l2.length c2, .slice A3 l3.length c3, .slice A4 l4.length c4] 27)).alloc (.cells #[.int .i64 net, .int .i64 load, .bool true] 29)).alloc (.cells #[.slice none 0 0, .slice none 0 0, .slice none 0 0, .slice none 0 0, .slice none 0 0] 27)), w.heap.size + 2 < x.val.heap.size := fun x => Nat.lt_of_lt_of_le (by simp) x.size
  have hrb : ∀ x : Under (((w.alloc (.cells #[.slice A0 l0.length c0, .slice A1 l1.length c1, .slice A2 l2.length c2, .slice A3 l3.length c3, .slice A4 l4.length c4] 27)).alloc (.cells #[.int .i64 net, .int .i64 load, .bool true] 29)).alloc (.cells #[.slice none 0 0, .slice none 0 0, .slice none 0 0, .slice none 0 0, .slice none 0 0] 27)), x.val.heap[w.heap.size + 1 + 1]? = some (.cells #[.slice none 0 0, .slice none 0 0, .slice none 0 0, .slice none 0 0, .slice none 0 0] 27 (0, 0)) := fun x => (x.ok.block (w.heap.size + 1 + 1) (by simp)).trans (heap_alloc3_new w _ _ _)
  have hfb : ∀ x : Under (((w.alloc (.cells #[.slice A0 l0.length c0, .slice A1 l1.length c1, .slice A2 l2.length c2, .slice A3 l3.length c3, .slice A4 l4.length c4] 27)).alloc (.cells #[.int .i64 net, .int .i64 load, .bool true] 29)).alloc (.cells #[.slice none 0 0, .slice none 0 0, .slice none 0 0, .slice none 0 0, .slice none 0 0] 27)), x.val.heap[w.heap.size + 1]? = some (.cells #[.int .i64 net, .int .i64 load, .bool true] 29 (0, 0)) := fun x => (x.ok.block (w.heap.size + 1) (by simp)).trans ((Below.heap_alloc _ _ (w.heap.size + 1) (by simp)).trans (heap_alloc2_new w _ _))
  go_enter Try.func13, Try.ntmps13
  go_wp2_with (first
    | (go_at_call 29; refine (copy_calls A0 A1 A2 A3 A4 c0 c1 c2 c3 c4 l0 l1 l2 l3 l4 _ (Kd.C_below h0 hW0) (Kd.C_below h1 hW0) (Kd.C_below h2 hW0) (Kd.C_below h3 hW0) (Kd.C_below h4 hW0) m0 m1 m2 m3 m4 m5).mono ?_; rintro e w1 ⟨v0, v1, v2, v3, v4, rfl, hr0, hr1, hr2, hr3, hr4, hB1⟩; obtain ⟨x1, rfl⟩ : ∃ x : Under (((w.alloc (.cells #[.slice A0 l0.length c0, .slice A1 l1.length c1, .slice A2 l2.length c2, .slice A3 l3.length c3, .slice A4 l4.length c4] 27)).alloc (.cells #[.int .i64 net, .int .i64 load, .bool true] 29)).alloc (.cells #[.slice none 0 0, .slice none 0 0, .slice none 0 0, .slice none 0 0, .slice none 0 0] 27)), w1 = x.val := ⟨⟨w1, hB1⟩, rfl⟩; have hs1 := hsz x1; have hs1a : w.heap.size < x1.val.heap.size := (by omega); have hs1b : w.heap.size + 1 < x1.val.heap.size := (by omega); have hs1c := x1.size; obtain ⟨B0, d0, rfl⟩ := Kd.R_slice hr0; obtain ⟨B1, d1, rfl⟩ := Kd.R_slice hr1; obtain ⟨B2, d2, rfl⟩ := Kd.R_slice hr2; obtain ⟨B3, d3, rfl⟩ := Kd.S_slice hr3; obtain ⟨B4, d4, rfl⟩ := Kd.R_slice hr4)
    | (go_at_call 40; refine (HM _ ((bel x1).trans ((below_alloc (Below.refl _ _) _).mono (Nat.le_of_lt hs1a)))).mono ?_; rintro e w2 ⟨b, rfl, hbN, hM2, hB2⟩; obtain ⟨x2, rfl⟩ : ∃ x : Under (x1.val.alloc (.cells #[.slice B0 l0.length d0, .slice B1 l1.length d1, .slice B2 l2.length d2, .slice B3 l3.length d3, .slice B4 l4.length d4] 27)), w2 = x.val := ⟨⟨w2, hB2⟩, rfl⟩; have hs2 := x2.size; have hs2c : x1.val.heap.size < x2.val.heap.size := Nat.lt_of_lt_of_le (by simp) x2.size; have hs2a : w.heap.size < x2.val.heap.size := (by omega); have hs2b : w.heap.size + 1 < x2.val.heap.size := (by omega)))
  have hBz : Below x1.val.heap.size x1.val ((x2.val.alloc (.cells #[.map (some b)] 92)).alloc (.cells #[.int .i64 1] 3)) := (((below_alloc (Below.refl _ _) _).trans (x2.ok.mono (by simp))).alloc (by omega) _).alloc (by simp; omega) _
  have hN0 : NetAt (fun k => k < x1.val.heap.size) ((((w.alloc (.cells #[.slice A0 l0.length c0, .slice A1 l1.length c1, .slice A2 l2.length c2, .slice A3 l3.length c3, .slice A4 l4.length c4] 27)).alloc (.cells #[.int .i64 net, .int .i64 load, .bool true] 29)).alloc (.cells #[.slice none 0 0, .slice none 0 0, .slice none 0 0, .slice none 0 0, .slice none 0 0] 27))).heap.size ((x2.val.alloc (.cells #[.map (some b)] 92)).alloc (.cells #[.int .i64 1] 3)) x1.val.heap.size (.slice B0 l0.length d0) (.slice B1 l1.length d1) (.slice B2 l2.length d2) (.slice B3 l3.length d3) (.slice B4 l4.length d4) l0 l1 ⟨l2, l3, l4⟩ := by
    refine ⟨?_, NetR.below ⟨Kd.R_mono (Kd.R_bound hr0) (fun _ h => ⟨h.2.2.1, h.1⟩), Kd.R_mono (Kd.R_bound hr1) (fun _ h => ⟨h.2.2.1, h.1⟩), Kd.R_mono (Kd.R_bound hr2) (fun _ h => h.2.2.1), Kd.S_mono (Kd.S_bound hr3) (fun _ h => ⟨h.2.2.1, h.1⟩), Kd.R_mono (Kd.R_bound hr4) (fun _ h => h.2.2.1)⟩ hBz⟩
    have e1 := x2.ok.block x1.val.heap.size (by simp)
    exact (Below.heap_alloc _ _ x1.val.heap.size (by simp; omega)).trans ((Below.heap_alloc _ _ x1.val.heap.size (by omega)).trans (e1.trans (heap_alloc_new _ _)))
  have hE0 : EnvB x1.val.heap.size ((x2.val.alloc (.cells #[.map (some b)] 92)).alloc (.cells #[.int .i64 1] 3)) (w.heap.size + 1) x2.val.heap.size (x2.val.heap.size + 1) b net load 1 true m := by
    refine ⟨?_, (Below.heap_alloc _ _ _ (by simp)).trans (heap_alloc_new _ _), heap_alloc2_new _ _ _, hM2.is (((Is.refl _).alloc _).alloc _), by omega⟩
    exact (hBz.block (w.heap.size + 1) hs1b).trans (hfb x1)
  obtain ⟨y0, hy0⟩ : ∃ y : Under (((w.alloc (.cells #[.slice A0 l0.length c0, .slice A1 l1.length c1, .slice A2 l2.length c2, .slice A3 l3.length c3, .slice A4 l4.length c4] 27)).alloc (.cells #[.int .i64 net, .int .i64 load, .bool true] 29)).alloc (.cells #[.slice none 0 0, .slice none 0 0, .slice none 0 0, .slice none 0 0, .slice none 0 0] 27)), ((x2.val.alloc (.cells #[.map (some b)] 92)).alloc (.cells #[.int .i64 1] 3)) = y.val := ⟨⟨_, x1.ok.trans (hBz.mono hs1c)⟩, rfl⟩
  rw [hy0] at hN0 hE0 ⊢
  have hm2 := (kd_len h2).2
  have hm3 := (kd_len h3).2
  have hm4 := (kd_len h4).2
  have hkey : ∀ (a : Int) (i k : Nat), 0 ≤ a → a ≤ 3 → (i : Int) ≤ 9223372036854775807 → (k : Int) ≤ 9223372036854775807 → key3.ok (keyL ⟨a, i, k⟩) := fun a i k h1 h2 h3 h4 => ⟨InK.mk64 (by show _ ≤ a ∧ a ≤ _; omega), InK.mk64 (by show _ ≤ (i : Int) ∧ (i : Int) ≤ _; omega), InK.mk64 (by show _ ≤ (k : Int) ∧ (k : Int) ≤ _; omega)⟩
  have hng5 : w.heap.size < x1.val.heap.size := hs1a
  generalize x1.val.heap.size = g5 at *
  generalize hg6 : x2.val.heap.size = g6 at *
  have hnvh := Lib.hid hnv
  clear hr0 hr1 hr2 hr3 hr4 hBz hM2 hbN hy0 hB1 hB2 HM hg6 hnv hs2 hs2c
  go_loopg [9, 10, 23] l3.length (fun d _ _ t wr => ∃ (i : Nat) (y : Under (((w.alloc (.cells #[.slice A0 l0.length c0, .slice A1 l1.length c1, .slice A2 l2.length c2, .slice A3 l3.length c3, .slice A4 l4.length c4] 27)).alloc (.cells #[.int .i64 net, .int .i64 load, .bool true] 29)).alloc (.cells #[.slice none 0 0, .slice none 0 0, .slice none 0 0, .slice none 0 0, .slice none 0 0] 27))) (u0 u1 u2 u3 u4 : Value), t = .int .i64 i ∧ wr = y.val ∧ Aside (i + d = l3.length) ∧ NetAt (fun k => k < g5) ((((w.alloc (.cells #[.slice A0 l0.length c0, .slice A1 l1.length c1, .slice A2 l2.length c2, .slice A3 l3.length c3, .slice A4 l4.length c4] 27)).alloc (.cells #[.int .i64 net, .int .i64 load, .bool true] 29)).alloc (.cells #[.slice none 0 0, .slice none 0 0, .slice none 0 0, .slice none 0 0, .slice none 0 0] 27))).heap.size y.val g5 u0 u1 u2 u3 u4 l0 l1 ⟨l2, mixL (brGates nv l3 0) l3 i, l4⟩ ∧
    EnvB g5 y.val (w.heap.size + 1) g6 (g6 + 1) b net load 1 true m)
  case atStart => exact ⟨0, y0, _, _, _, _, _, rfl, rfl, by show 0 + l3.length = l3.length; omega, by rw [mixL_zero]; exact hN0, hE0⟩
  case round =>
    clear hN0 hE0
    obtain ⟨i, y, u0, u1, u2, u3, u4, rfl, rfl, hi, hN, hE⟩ := hrel
    obtain ⟨hgl, hn0, hn1, hn2, hn3, hn4⟩ := hN.cell
    have hyl := hsz y
    by_cases hlt : i < l3.length
    · obtain ⟨gi, hgi⟩ := get_ex hlt
      obtain ⟨gO, rfl⟩ : ∃ m, gk = m + 1 := ⟨gk - 1, by have := hi.out; omega⟩
      have hga := mixL_at (brGates_len nv l3 0) hgi
      obtain ⟨A3', c3', rfl, hle3, hC3⟩ := Kd.S_reads hN.r.r3
      obtain ⟨b3, o3, A5, c5, rfl, hb3, hj0, hj1, hj2, hC5⟩ := kd_gate hC3 hga
      have hb3l := Lib.hid (mixL_len (brGates_len nv l3 0) i)
      have hm5l := (kd_len hC5).2
      rw [hb3l.out] at hn3
      have hi3 : (i : Int) < (l3.length : Int) := by omega
      have hE1 : ∃ u3', NetAt (fun k => k < g5) ((((w.alloc (.cells #[.slice A0 l0.length c0, .slice A1 l1.length c1, .slice A2 l2.length c2, .slice A3 l3.length c3, .slice A4 l4.length c4] 27)).alloc (.cells #[.int .i64 net, .int .i64 load, .bool true] 29)).alloc (.cells #[.slice none 0 0, .slice none 0 0, .slice none 0 0, .slice none 0 0, .slice none 0 0] 27))).heap.size y.val g5 u0 u1 u2 u3' u4 l0 l1 ⟨l2, (mixL (brGates nv l3 0) l3 i).set i ⟨gi.f0, gi.f1, mixL (brPins nv i gi.f2 0) gi.f2 0⟩, l4⟩ := by
        rw [mixL_zero, set_same hga]
        exact ⟨_, hN⟩
      have hih := Lib.hid hi.out
      have hgih := Lib.hid hgi
      have hgah := Lib.hid hga
      clear hi hgi hga hC3 hC5 hle3 hN
      go_wp2
      go_loopg [10, 33] gi.f2.length (fun d _ t wr => ∃ (k : Nat) (y : Under (((w.alloc (.cells #[.slice A0 l0.length c0, .slice A1 l1.length c1, .slice A2 l2.length c2, .slice A3 l3.length c3, .slice A4 l4.length c4] 27)).alloc (.cells #[.int .i64 net, .int .i64 load, .bool true] 29)).alloc (.cells #[.slice none 0 0, .slice none 0 0, .slice none 0 0, .slice none 0 0, .slice none 0 0] 27))) (u0 u1 u2 u3 u4 : Value), t = .int .i64 k ∧ wr = y.val ∧ Aside (k + d = gi.f2.length) ∧ NetAt (fun k => k < g5) ((((w.alloc (.cells #[.slice A0 l0.length c0, .slice A1 l1.length c1, .slice A2 l2.length c2, .slice A3 l3.length c3, .slice A4 l4.length c4] 27)).alloc (.cells #[.int .i64 net, .int .i64 load, .bool true] 29)).alloc (.cells #[.slice none 0 0, .slice none 0 0, .slice none 0 0, .slice none 0 0, .slice none 0 0] 27))).heap.size y.val g5 u0 u1 u2 u3 u4 l0 l1 ⟨l2, (mixL (brGates nv l3 0) l3 i).set i ⟨gi.f0, gi.f1, mixL (brPins nv i gi.f2 0) gi.f2 k⟩, l4⟩ ∧
        EnvB g5 y.val (w.heap.size + 1) g6 (g6 + 1) b net load 1 true m)
      case atStart => exact ⟨0, y, _, _, _, _, _, rfl, rfl, by show 0 + gi.f2.length = gi.f2.length; omega, hE1.choose_spec, hE⟩
      case round =>
        clear hE1 hE hgl hn0 hn1 hn2 hn3 hn4 hyl hb3 hj0 hj1 hj2
        obtain ⟨k, y, u0, u1, u2, u3, u4, rfl, rfl, hk, hN, hE⟩ := hrel
        obtain ⟨hgl, hn0, hn1, hn2, hn3, hn4⟩ := hN.cell
        by_cases hlk : k < gi.f2.length
        · obtain ⟨x, hx⟩ := get_ex hlk
          obtain ⟨gI, rfl⟩ : ∃ m, gk = m + 1 := ⟨gk - 1, by have := hk.out; omega⟩
          have hpl := brPins_len nv i gi.f2 0
          have hxm := mixL_at hpl hx
          have hml := mixL_len hpl k
          have hel : ((mixL (brGates nv l3 0) l3 i).set i ⟨gi.f0, gi.f1, mixL (brPins nv i gi.f2 0) gi.f2 k⟩)[i]? = some ⟨gi.f0, gi.f1, mixL (brPins nv i gi.f2 0) gi.f2 k⟩ := by
            rw [List.getElem?_set, if_pos rfl, if_pos (by rw [hb3l.out]; exact hlt)]
          obtain ⟨g3, c3', gp, cp, rfl, hc3, hcp, hcf, hg3l, hgpl, hg3B, hgpB, hgpT, _, ⟨cs, hgpt⟩, hset⟩ := hN.r.pin hel (by show k < (mixL (brPins nv i gi.f2 0) gi.f2 k).length; rw [hml]; exact hlk)
          simp only [getD_at hxm] at hcp
          rw [List.length_set, hb3l.out] at hn3
          rw [hml] at hc3
          have hPk : (brPins nv i gi.f2 0)[k]? = some (nv ⟨0, i, k⟩ x) := by rw [brPins_at, hx]; simp
          have hnxt : (mixL (brPins nv i gi.f2 0) gi.f2 k).set k (nv ⟨0, i, k⟩ x) = mixL (brPins nv i gi.f2 0) gi.f2 (k + 1) := mixL_set hpl hPk
          have hcall := put_core y hN hE (l := ⟨0, i, k⟩) (fun v => ⟨l2, ((mixL (brGates nv l3 0) l3 i).set i ⟨gi.f0, gi.f1, mixL (brPins nv i gi.f2 0) gi.f2 k⟩).set i ⟨gi.f0, gi.f1, (mixL (brPins nv i gi.f2 0) gi.f2 k).set k v⟩, l4⟩) hcp hcf hgpB hgpT hgpt (.inl rfl) (hkey 0 i k (by decide) (by decide) (by omega) (by omega)) hset (by rw [set_same hxm, set_same hel])
          rw [← hnvh.out, hnxt, List.set_set] at hcall
          have hkh := Lib.hid hk.out
          have hlk2 : (k : Int) < (gi.f2.length : Int) := by omega
          clear hk hx hpl hxm hml hel hset hPk hnxt hN hE hgpt hgpT
          go_wp2_with (go_at_call 41; refine hcall.mono ?_; rintro e w' ⟨rfl, z, rfl, hNz, hEz⟩)
          go_roundg gI
          case measure => have := hkh.out; omega
          case rel => exact ⟨k + 1, z, _, _, _, _, _, by go_num, rfl, by show k + 1 + gI = gi.f2.length; have := hkh.out; omega, hNz, hEz⟩
        · obtain rfl : k = gi.f2.length := by have := hk.out; omega
          have hPe : (brGates nv l3 0)[i]? = some ⟨gi.f0, gi.f1, brPins nv i gi.f2 0⟩ := by rw [brGates_at, hgih.out]; simp
          rw [mixL_end (brPins_len nv i gi.f2 0), mixL_set (brGates_len nv l3 0) hPe] at hN
          clear hk hPe
          go_wp2
          go_roundg gO
          case measure => have := hih.out; omega
          case rel => exact ⟨i + 1, y, _, _, _, _, _, by go_num, rfl, by show i + 1 + gO = l3.length; have := hih.out; omega, hN, hE⟩
    · obtain rfl : i = l3.length := by have := hi.out; omega
      rw [mixL_end (brGates_len nv l3 0)] at hN
      obtain ⟨E2, f2, rfl⟩ := Kd.R_slice hN.r.r2
      clear hi
      go_wp2
      go_loopg [11, 54] l2.length (fun d _ t wr => ∃ (i : Nat) (y : Under (((w.alloc (.cells #[.slice A0 l0.length c0, .slice A1 l1.length c1, .slice A2 l2.length c2, .slice A3 l3.length c3, .slice A4 l4.length c4] 27)).alloc (.cells #[.int .i64 net, .int .i64 load, .bool true] 29)).alloc (.cells #[.slice none 0 0, .slice none 0 0, .slice none 0 0, .slice none 0 0, .slice none 0 0] 27))) (u0 u1 u2 u3 u4 : Value), t = .int .i64 i ∧ wr = y.val ∧ Aside (i + d = l2.length) ∧ NetAt (fun k => k < g5) ((((w.alloc (.cells #[.slice A0 l0.length c0, .slice A1 l1.length c1, .slice A2 l2.length c2, .slice A3 l3.length c3, .slice A4 l4.length c4] 27)).alloc (.cells #[.int .i64 net, .int .i64 load, .bool true] 29)).alloc (.cells #[.slice none 0 0, .slice none 0 0, .slice none 0 0, .slice none 0 0, .slice none 0 0] 27))).heap.size y.val g5 u0 u1 u2 u3 u4 l0 l1 ⟨mixL (brFlops nv l2 0) l2 i, brGates nv l3 0, l4⟩ ∧
        EnvB g5 y.val (w.heap.size + 1) g6 (g6 + 1) b net load 1 true m)
      case atStart => exact ⟨0, y, _, _, _, _, _, rfl, rfl, by show 0 + l2.length = l2.length; omega, by rw [mixL_zero]; exact hN, hE⟩
      case round =>
        clear hN hE hn0 hn1 hn2 hn3 hn4 hgl hyl
        obtain ⟨i, y, u0, u1, u2, u3, u4, rfl, rfl, hi, hN, hE⟩ := hrel
        obtain ⟨hgl, hn0, hn1, hn2, hn3, hn4⟩ := hN.cell
        by_cases hlt : i < l2.length
        · obtain ⟨fi, hfi⟩ := get_ex hlt
          obtain ⟨gO, rfl⟩ : ∃ m, gk = m + 1 := ⟨gk - 1, by have := hi.out; omega⟩
          have hfl := brFlops_len nv l2 0
          have hel := mixL_at hfl hfi
          have hml := mixL_len hfl i
          obtain ⟨g2, c2', rfl, hg2l, hg2B, hg2T, ⟨cs, hg2t⟩, hd2, hd3, hf2, hf3, hset⟩ := hN.r.flop hel
          rw [hml] at hn2
          have hPi : (brFlops nv l2 0)[i]? = some ⟨fi.f0, fi.f1, nv ⟨1, i, 0⟩ fi.f2, nv ⟨2, i, 0⟩ fi.f3, fi.f4⟩ := by rw [brFlops_at, hfi]; simp
          have hnxt := mixL_set hfl hPi
          have hel2 : ((mixL (brFlops nv l2 0) l2 i).set i ⟨fi.f0, fi.f1, nv ⟨1, i, 0⟩ fi.f2, fi.f3, fi.f4⟩)[i]? = some ⟨fi.f0, fi.f1, nv ⟨1, i, 0⟩ fi.f2, fi.f3, fi.f4⟩ := by
            rw [List.getElem?_set, if_pos rfl, if_pos (by rw [hml]; exact hlt)]
          have hml2 : ((mixL (brFlops nv l2 0) l2 i).set i ⟨fi.f0, fi.f1, nv ⟨1, i, 0⟩ fi.f2, fi.f3, fi.f4⟩).length = l2.length := by rw [List.length_set, hml]
          have hcall := put_core y hN hE (l := ⟨1, i, 0⟩) (fun v => ⟨(mixL (brFlops nv l2 0) l2 i).set i ⟨fi.f0, fi.f1, v, fi.f3, fi.f4⟩, brGates nv l3 0, l4⟩) hd2 hf2 hg2B hg2T hg2t (.inr rfl) (hkey 1 i 0 (by decide) (by decide) (by omega) (by decide)) (fun v => (hset v).1) (by rw [set_same hel])
          rw [← hnvh.out] at hcall
          have hih := Lib.hid hi.out
          have hi2 : (i : Int) < (l2.length : Int) := by omega
          have hnxth := Lib.hid hnxt
          have hel2h := Lib.hid hel2
          have hml2h := Lib.hid hml2
          have hmlh := Lib.hid hml
          clear hi hfi hfl hel hml hset hPi hnxt hN hE hg2t hel2 hml2 hg2T hg2B
          go_wp2_with (first
            | (go_at_call 41; refine hcall2.mono ?_; rintro e w' ⟨rfl, z2, rfl, hNz2, hEz2⟩)
            | (go_at_call 41; refine hcall.mono ?_; rintro e w' ⟨rfl, z, rfl, hNz, hEz⟩; obtain ⟨hzl, hz0, hz1, hz2, hz3, hz4⟩ := hNz.cell; rw [hmlh.out] at hz2; obtain ⟨g2', c2'', he2, hg2l', hg2B', hg2T', ⟨cs', hg2t'⟩, hd2', hd3', hf2', hf3', hset'⟩ := hNz.r.flop hel2h.out; rw [hml2h.out] at he2; injection he2 with he2 he6 he2'; clear he6; injection he2 with he2; injection he2 with he2 he7 he8; clear he7 he8; subst he2; subst he2'; have hcall2 := put_core z hNz hEz (l := ⟨2, i, 0⟩) (fun v => ⟨((mixL (brFlops nv l2 0) l2 i).set i ⟨fi.f0, fi.f1, nv ⟨1, i, 0⟩ fi.f2, fi.f3, fi.f4⟩).set i ⟨fi.f0, fi.f1, nv ⟨1, i, 0⟩ fi.f2, v, fi.f4⟩, brGates nv l3 0, l4⟩) hd3' hf3' hg2B' hg2T' hg2t' (.inr rfl) (hkey 2 i 0 (by decide) (by decide) (by omega) (by decide)) (fun v => (hset' v).2) (by rw [set_same hel2h.out]); rw [← hnvh.out, List.set_set, hnxth.out] at hcall2; clear hset' hg2t' hNz hEz hg2B' hg2T'))
          go_roundg gO
          case measure => have := hih.out; omega
          case rel => exact ⟨i + 1, z2, _, _, _, _, _, by go_num, rfl, by show i + 1 + gO = l2.length; have := hih.out; omega, hNz2, hEz2⟩
        · obtain rfl : i = l2.length := by have := hi.out; omega
          rw [mixL_end (brFlops_len nv l2 0)] at hN
          obtain ⟨E4, f4, rfl⟩ := Kd.R_slice hN.r.r4
          clear hi
          go_wp2
          go_loopg [12, 79] l4.length (fun d _ t wr => ∃ (i : Nat) (y : Under (((w.alloc (.cells #[.slice A0 l0.length c0, .slice A1 l1.length c1, .slice A2 l2.length c2, .slice A3 l3.length c3, .slice A4 l4.length c4] 27)).alloc (.cells #[.int .i64 net, .int .i64 load, .bool true] 29)).alloc (.cells #[.slice none 0 0, .slice none 0 0, .slice none 0 0, .slice none 0 0, .slice none 0 0] 27))) (u0 u1 u2 u3 u4 : Value), t = .int .i64 i ∧ wr = y.val ∧ Aside (i + d = l4.length) ∧ NetAt (fun k => k < g5) ((((w.alloc (.cells #[.slice A0 l0.length c0, .slice A1 l1.length c1, .slice A2 l2.length c2, .slice A3 l3.length c3, .slice A4 l4.length c4] 27)).alloc (.cells #[.int .i64 net, .int .i64 load, .bool true] 29)).alloc (.cells #[.slice none 0 0, .slice none 0 0, .slice none 0 0, .slice none 0 0, .slice none 0 0] 27))).heap.size y.val g5 u0 u1 u2 u3 u4 l0 l1 ⟨brFlops nv l2 0, brGates nv l3 0, mixL (brOuts nv l4 0) l4 i⟩ ∧
            EnvB g5 y.val (w.heap.size + 1) g6 (g6 + 1) b net load 1 true m)
          case atStart => exact ⟨0, y, _, _, _, _, _, rfl, rfl, by show 0 + l4.length = l4.length; omega, by rw [mixL_zero]; exact hN, hE⟩
          case round =>
            clear hN hE hn0 hn1 hn2 hn3 hn4 hgl
            obtain ⟨i, y, u0, u1, u2, u3, u4, rfl, rfl, hi, hN, hE⟩ := hrel
            obtain ⟨hgl, hn0, hn1, hn2, hn3, hn4⟩ := hN.cell
            have hol := brOuts_len nv l4 0
            have hml := mixL_len hol i
            by_cases hlt : i < l4.length
            · obtain ⟨x, hx⟩ := get_ex hlt
              obtain ⟨gO, rfl⟩ : ∃ m, gk = m + 1 := ⟨gk - 1, by have := hi.out; omega⟩
              have hxm := mixL_at hol hx
              obtain ⟨g4, c4', rfl, hg4l, hg4B, hg4T, ⟨cs, hg4t⟩, hd4, hf4, hset⟩ := hN.r.out (show i < (mixL (brOuts nv l4 0) l4 i).length by rw [hml]; exact hlt)
              simp only [getD_at hxm] at hd4
              simp only [hml] at hn4
              have hPi : (brOuts nv l4 0)[i]? = some (nv ⟨3, i, 0⟩ x) := by rw [brOuts_at, hx]; simp
              have hnxt := mixL_set hol hPi
              have hcall := put_core y hN hE (l := ⟨3, i, 0⟩) (fun v => ⟨brFlops nv l2 0, brGates nv l3 0, (mixL (brOuts nv l4 0) l4 i).set i v⟩) hd4 hf4 hg4B hg4T hg4t (.inl rfl) (hkey 3 i 0 (by decide) (by decide) (by omega) (by decide)) hset (by rw [set_same hxm])
              rw [← hnvh.out, hnxt] at hcall
              have hih := Lib.hid hi.out
              have hi4 : (i : Int) < (l4.length : Int) := by omega
              clear hi hx hol hml hxm hset hPi hnxt hN hE hg4t hg4T hg4B
              go_wp2_with (go_at_call 41; refine hcall.mono ?_; rintro e w' ⟨rfl, z, rfl, hNz, hEz⟩)
              go_roundg gO
              case measure => have := hih.out; omega
              case rel => exact ⟨i + 1, z, _, _, _, _, _, by go_num, rfl, by show i + 1 + gO = l4.length; have := hih.out; omega, hNz, hEz⟩
            · obtain rfl : i = l4.length := by have := hi.out; omega
              rw [mixL_end hol] at hN
              obtain ⟨C0, e0, rfl⟩ := Kd.R_slice hN.r.r0
              obtain ⟨C1, e1, rfl⟩ := Kd.R_slice hN.r.r1
              obtain ⟨C2, e2, rfl⟩ := Kd.R_slice hN.r.r2
              obtain ⟨C3, e3, rfl⟩ := Kd.S_slice hN.r.r3
              obtain ⟨C4, e4, rfl⟩ := Kd.R_slice hN.r.r4
              have hrbx := hrb y
              have hNh := Lib.hid hN
              have hyl := hsz y
              clear hi hol hml hN hE
              go_wp2
              ((try simp only [Exit.inBlock, Exit.then]); refine bodyPost_ret (results_cell_row rfl _ _ (w.heap.size + 1 + 1) _ _ _ _ rfl (set5 (.slice C0 l0.length e0) (.slice C1 l1.length e1) (.slice C2 (brFlops nv l2 0).length e2) (.slice C3 (brGates nv l3 0).length e3) (.slice C4 (brOuts nv l4 0).length e4) hrbx).1 Try.underlying27 rfl (by kernel_rfl)) rfl ?_)
              have hBy : Below w.heap.size w y.val := bel y
              refine ⟨_, _, _, _, _, rfl, ((hNh.out.r.vars (fun k hk hB => (set5 _ _ _ _ _ hrbx).2 k (by simp at hB; omega))).mono (fun _ _ => trivial)).lower (by simp; omega), ((((hBy.setCell (p := ⟨w.heap.size + 1 + 1, 0, none⟩) (by simp; omega) _).setCell (p := ⟨w.heap.size + 1 + 1, 1, none⟩) (by simp; omega) _).setCell (p := ⟨w.heap.size + 1 + 1, 2, none⟩) (by simp; omega) _).setCell (p := ⟨w.heap.size + 1 + 1, 3, none⟩) (by simp; omega) _).setCell (p := ⟨w.heap.size + 1 + 1, 4, none⟩) (by simp; omega) _⟩

set_option maxHeartbeats 16000000 in
theorem broken_f (A0 A1 A2 A3 A4 : Option Addr) (c0 c1 c2 c3 c4 : Nat) (l0 l1 : List ByteArray) (l2 : List Flop) (l3 : List Gate) (l4 : List Int) (net load : Int) (w : World)
    (h0 : Kd.C Kd.string w A0 l0.length l0) (h1 : Kd.C Kd.string w A1 l1.length l1) (h2 : Kd.C kFlop w A2 l2.length l2) (h3 : Kd.C kGate w A3 l3.length l3) (h4 : Kd.C (Kd.int .i64) w A4 l4.length l4)
    (m0 : l0.length * 16 ≤ 140737488355328) (m1 : l1.length * 16 ≤ 140737488355328) (m2 : l2.length * 48 ≤ 140737488355328) (m3 : l3.length * 40 ≤ 140737488355328) (m4 : l4.length * 8 ≤ 140737488355328) (m5 : ∀ x ∈ l3, x.f2.length * 8 ≤ 140737488355328)
    (m : List ((Int × Int × Int) × Int)) (nv : Load → Int → Int) (hnv : nv = newv net load 0 m)
    (HM : ∀ W, Below w.heap.size w W → Calls Try.prog 40 #[.agg #[.slice A0 l0.length c0, .slice A1 l1.length c1, .slice A2 l2.length c2, .slice A3 l3.length c3, .slice A4 l4.length c4]] W fun e w' => ∃ b, e = .returned (.map (some b)) ∧ W.heap.size ≤ b ∧ MapAt key3 (Value.int .i64) w' b m ∧ Below W.heap.size W w') :
    Calls Try.prog 13 #[.agg #[.slice A0 l0.length c0, .slice A1 l1.length c1, .slice A2 l2.length c2, .slice A3 l3.length c3, .slice A4 l4.length c4], .agg #[.int .i64 net, .int .i64 load, .bool false]] w fun e w' => ∃ v0 v1 v2 v3 v4 : Value, e = .returned (.agg #[v0, v1, v2, v3, v4]) ∧
      NetR (fun _ => True) w.heap.size w' v0 v1 v2 v3 v4 l0 l1 (brFlops nv l2 0) (brGates nv l3 0) (brOuts nv l4 0) ∧ Below w.heap.size w w' := by
  have hu := Try.underlying27
  have huF := Try.underlying29
  have huG := Try.underlying80
  have huP := Try.underlying82
  have huK := Try.underlying95
  have hW0 : Below w.heap.size w (((w.alloc (.cells #[.slice A0 l0.length c0, .slice A1 l1.length c1, .slice A2 l2.length c2, .slice A3 l3.length c3, .slice A4 l4.length c4] 27)).alloc (.cells #[.int .i64 net, .int .i64 load, .bool false] 29)).alloc (.cells #[.slice none 0 0, .slice none 0 0, .slice none 0 0, .slice none 0 0, .slice none 0 0] 27)) := (((Below.refl _ _).alloc (Nat.le_refl _) _).alloc (by simp) _).alloc (by simp; omega) _
  have bel : ∀ x : Under (((w.alloc (.cells #[.slice A0 l0.length c0, .slice A1 l1.length c1, .slice A2 l2.length c2, .slice A3 l3.length c3, .slice A4 l4.length c4] 27)).alloc (.cells #[.int .i64 net, .int .i64 load, .bool false] 29)).alloc (.cells #[.slice none 0 0, .slice none 0 0, .slice none 0 0, .slice none 0 0, .slice none 0 0] 27)), Below w.heap.size w x.val := fun x => hW0.trans (x.ok.mono (by simp; omega))
  have hsz : ∀ x : Under (((w.alloc (.cells #[.slice A0 l0.length c0, .slice A1 l1.length c1, .slice A2 l2.length c2, .slice A3 l3.length c3, .slice A4 l4.length c4] 27)).alloc (.cells #[.int .i64 net, .int .i64 load, .bool false] 29)).alloc (.cells #[.slice none 0 0, .slice none 0 0, .slice none 0 0, .slice none 0 0, .slice none 0 0] 27)), w.heap.size + 2 < x.val.heap.size := fun x => Nat.lt_of_lt_of_le (by simp) x.size
  have hrb : ∀ x : Under (((w.alloc (.cells #[.slice A0 l0.length c0, .slice A1 l1.length c1, .slice A2 l2.length c2, .slice A3 l3.length c3, .slice A4 l4.length c4] 27)).alloc (.cells #[.int .i64 net, .int .i64 load, .bool false] 29)).alloc (.cells #[.slice none 0 0, .slice none 0 0, .slice none 0 0, .slice none 0 0, .slice none 0 0] 27)), x.val.heap[w.heap.size + 1 + 1]? = some (.cells #[.slice none 0 0, .slice none 0 0, .slice none 0 0, .slice none 0 0, .slice none 0 0] 27 (0, 0)) := fun x => (x.ok.block (w.heap.size + 1 + 1) (by simp)).trans (heap_alloc3_new w _ _ _)
  have hfb : ∀ x : Under (((w.alloc (.cells #[.slice A0 l0.length c0, .slice A1 l1.length c1, .slice A2 l2.length c2, .slice A3 l3.length c3, .slice A4 l4.length c4] 27)).alloc (.cells #[.int .i64 net, .int .i64 load, .bool false] 29)).alloc (.cells #[.slice none 0 0, .slice none 0 0, .slice none 0 0, .slice none 0 0, .slice none 0 0] 27)), x.val.heap[w.heap.size + 1]? = some (.cells #[.int .i64 net, .int .i64 load, .bool false] 29 (0, 0)) := fun x => (x.ok.block (w.heap.size + 1) (by simp)).trans ((Below.heap_alloc _ _ (w.heap.size + 1) (by simp)).trans (heap_alloc2_new w _ _))
  go_enter Try.func13, Try.ntmps13
  go_wp2_with (first
    | (go_at_call 29; refine (copy_calls A0 A1 A2 A3 A4 c0 c1 c2 c3 c4 l0 l1 l2 l3 l4 _ (Kd.C_below h0 hW0) (Kd.C_below h1 hW0) (Kd.C_below h2 hW0) (Kd.C_below h3 hW0) (Kd.C_below h4 hW0) m0 m1 m2 m3 m4 m5).mono ?_; rintro e w1 ⟨v0, v1, v2, v3, v4, rfl, hr0, hr1, hr2, hr3, hr4, hB1⟩; obtain ⟨x1, rfl⟩ : ∃ x : Under (((w.alloc (.cells #[.slice A0 l0.length c0, .slice A1 l1.length c1, .slice A2 l2.length c2, .slice A3 l3.length c3, .slice A4 l4.length c4] 27)).alloc (.cells #[.int .i64 net, .int .i64 load, .bool false] 29)).alloc (.cells #[.slice none 0 0, .slice none 0 0, .slice none 0 0, .slice none 0 0, .slice none 0 0] 27)), w1 = x.val := ⟨⟨w1, hB1⟩, rfl⟩; have hs1 := hsz x1; have hs1a : w.heap.size < x1.val.heap.size := (by omega); have hs1b : w.heap.size + 1 < x1.val.heap.size := (by omega); have hs1c := x1.size; obtain ⟨B0, d0, rfl⟩ := Kd.R_slice hr0; obtain ⟨B1, d1, rfl⟩ := Kd.R_slice hr1; obtain ⟨B2, d2, rfl⟩ := Kd.R_slice hr2; obtain ⟨B3, d3, rfl⟩ := Kd.S_slice hr3; obtain ⟨B4, d4, rfl⟩ := Kd.R_slice hr4)
    | (go_at_call 40; refine (HM _ ((bel x1).trans ((below_alloc (Below.refl _ _) _).mono (Nat.le_of_lt hs1a)))).mono ?_; rintro e w2 ⟨b, rfl, hbN, hM2, hB2⟩; obtain ⟨x2, rfl⟩ : ∃ x : Under (x1.val.alloc (.cells #[.slice B0 l0.length d0, .slice B1 l1.length d1, .slice B2 l2.length d2, .slice B3 l3.length d3, .slice B4 l4.length d4] 27)), w2 = x.val := ⟨⟨w2, hB2⟩, rfl⟩; have hs2 := x2.size; have hs2c : x1.val.heap.size < x2.val.heap.size := Nat.lt_of_lt_of_le (by simp) x2.size; have hs2a : w.heap.size < x2.val.heap.size := (by omega); have hs2b : w.heap.size + 1 < x2.val.heap.size := (by omega)))
  have hBz : Below x1.val.heap.size x1.val ((x2.val.alloc (.cells #[.map (some b)] 92)).alloc (.cells #[.int .i64 0] 3)) := (((below_alloc (Below.refl _ _) _).trans (x2.ok.mono (by simp))).alloc (by omega) _).alloc (by simp; omega) _
  have hN0 : NetAt (fun k => k < x1.val.heap.size) ((((w.alloc (.cells #[.slice A0 l0.length c0, .slice A1 l1.length c1, .slice A2 l2.length c2, .slice A3 l3.length c3, .slice A4 l4.length c4] 27)).alloc (.cells #[.int .i64 net, .int .i64 load, .bool false] 29)).alloc (.cells #[.slice none 0 0, .slice none 0 0, .slice none 0 0, .slice none 0 0, .slice none 0 0] 27))).heap.size ((x2.val.alloc (.cells #[.map (some b)] 92)).alloc (.cells #[.int .i64 0] 3)) x1.val.heap.size (.slice B0 l0.length d0) (.slice B1 l1.length d1) (.slice B2 l2.length d2) (.slice B3 l3.length d3) (.slice B4 l4.length d4) l0 l1 ⟨l2, l3, l4⟩ := by
    refine ⟨?_, NetR.below ⟨Kd.R_mono (Kd.R_bound hr0) (fun _ h => ⟨h.2.2.1, h.1⟩), Kd.R_mono (Kd.R_bound hr1) (fun _ h => ⟨h.2.2.1, h.1⟩), Kd.R_mono (Kd.R_bound hr2) (fun _ h => h.2.2.1), Kd.S_mono (Kd.S_bound hr3) (fun _ h => ⟨h.2.2.1, h.1⟩), Kd.R_mono (Kd.R_bound hr4) (fun _ h => h.2.2.1)⟩ hBz⟩
    have e1 := x2.ok.block x1.val.heap.size (by simp)
    exact (Below.heap_alloc _ _ x1.val.heap.size (by simp; omega)).trans ((Below.heap_alloc _ _ x1.val.heap.size (by omega)).trans (e1.trans (heap_alloc_new _ _)))
  have hE0 : EnvB x1.val.heap.size ((x2.val.alloc (.cells #[.map (some b)] 92)).alloc (.cells #[.int .i64 0] 3)) (w.heap.size + 1) x2.val.heap.size (x2.val.heap.size + 1) b net load 0 false m := by
    refine ⟨?_, (Below.heap_alloc _ _ _ (by simp)).trans (heap_alloc_new _ _), heap_alloc2_new _ _ _, hM2.is (((Is.refl _).alloc _).alloc _), by omega⟩
    exact (hBz.block (w.heap.size + 1) hs1b).trans (hfb x1)
  obtain ⟨y0, hy0⟩ : ∃ y : Under (((w.alloc (.cells #[.slice A0 l0.length c0, .slice A1 l1.length c1, .slice A2 l2.length c2, .slice A3 l3.length c3, .slice A4 l4.length c4] 27)).alloc (.cells #[.int .i64 net, .int .i64 load, .bool false] 29)).alloc (.cells #[.slice none 0 0, .slice none 0 0, .slice none 0 0, .slice none 0 0, .slice none 0 0] 27)), ((x2.val.alloc (.cells #[.map (some b)] 92)).alloc (.cells #[.int .i64 0] 3)) = y.val := ⟨⟨_, x1.ok.trans (hBz.mono hs1c)⟩, rfl⟩
  rw [hy0] at hN0 hE0 ⊢
  have hm2 := (kd_len h2).2
  have hm3 := (kd_len h3).2
  have hm4 := (kd_len h4).2
  have hkey : ∀ (a : Int) (i k : Nat), 0 ≤ a → a ≤ 3 → (i : Int) ≤ 9223372036854775807 → (k : Int) ≤ 9223372036854775807 → key3.ok (keyL ⟨a, i, k⟩) := fun a i k h1 h2 h3 h4 => ⟨InK.mk64 (by show _ ≤ a ∧ a ≤ _; omega), InK.mk64 (by show _ ≤ (i : Int) ∧ (i : Int) ≤ _; omega), InK.mk64 (by show _ ≤ (k : Int) ∧ (k : Int) ≤ _; omega)⟩
  have hng5 : w.heap.size < x1.val.heap.size := hs1a
  generalize x1.val.heap.size = g5 at *
  generalize hg6 : x2.val.heap.size = g6 at *
  have hnvh := Lib.hid hnv
  clear hr0 hr1 hr2 hr3 hr4 hBz hM2 hbN hy0 hB1 hB2 HM hg6 hnv hs2 hs2c
  go_loopg [9, 10, 23] l3.length (fun d _ _ t wr => ∃ (i : Nat) (y : Under (((w.alloc (.cells #[.slice A0 l0.length c0, .slice A1 l1.length c1, .slice A2 l2.length c2, .slice A3 l3.length c3, .slice A4 l4.length c4] 27)).alloc (.cells #[.int .i64 net, .int .i64 load, .bool false] 29)).alloc (.cells #[.slice none 0 0, .slice none 0 0, .slice none 0 0, .slice none 0 0, .slice none 0 0] 27))) (u0 u1 u2 u3 u4 : Value), t = .int .i64 i ∧ wr = y.val ∧ Aside (i + d = l3.length) ∧ NetAt (fun k => k < g5) ((((w.alloc (.cells #[.slice A0 l0.length c0, .slice A1 l1.length c1, .slice A2 l2.length c2, .slice A3 l3.length c3, .slice A4 l4.length c4] 27)).alloc (.cells #[.int .i64 net, .int .i64 load, .bool false] 29)).alloc (.cells #[.slice none 0 0, .slice none 0 0, .slice none 0 0, .slice none 0 0, .slice none 0 0] 27))).heap.size y.val g5 u0 u1 u2 u3 u4 l0 l1 ⟨l2, mixL (brGates nv l3 0) l3 i, l4⟩ ∧
    EnvB g5 y.val (w.heap.size + 1) g6 (g6 + 1) b net load 0 false m)
  case atStart => exact ⟨0, y0, _, _, _, _, _, rfl, rfl, by show 0 + l3.length = l3.length; omega, by rw [mixL_zero]; exact hN0, hE0⟩
  case round =>
    clear hN0 hE0
    obtain ⟨i, y, u0, u1, u2, u3, u4, rfl, rfl, hi, hN, hE⟩ := hrel
    obtain ⟨hgl, hn0, hn1, hn2, hn3, hn4⟩ := hN.cell
    have hyl := hsz y
    by_cases hlt : i < l3.length
    · obtain ⟨gi, hgi⟩ := get_ex hlt
      obtain ⟨gO, rfl⟩ : ∃ m, gk = m + 1 := ⟨gk - 1, by have := hi.out; omega⟩
      have hga := mixL_at (brGates_len nv l3 0) hgi
      obtain ⟨A3', c3', rfl, hle3, hC3⟩ := Kd.S_reads hN.r.r3
      obtain ⟨b3, o3, A5, c5, rfl, hb3, hj0, hj1, hj2, hC5⟩ := kd_gate hC3 hga
      have hb3l := Lib.hid (mixL_len (brGates_len nv l3 0) i)
      have hm5l := (kd_len hC5).2
      rw [hb3l.out] at hn3
      have hi3 : (i : Int) < (l3.length : Int) := by omega
      have hE1 : ∃ u3', NetAt (fun k => k < g5) ((((w.alloc (.cells #[.slice A0 l0.length c0, .slice A1 l1.length c1, .slice A2 l2.length c2, .slice A3 l3.length c3, .slice A4 l4.length c4] 27)).alloc (.cells #[.int .i64 net, .int .i64 load, .bool false] 29)).alloc (.cells #[.slice none 0 0, .slice none 0 0, .slice none 0 0, .slice none 0 0, .slice none 0 0] 27))).heap.size y.val g5 u0 u1 u2 u3' u4 l0 l1 ⟨l2, (mixL (brGates nv l3 0) l3 i).set i ⟨gi.f0, gi.f1, mixL (brPins nv i gi.f2 0) gi.f2 0⟩, l4⟩ := by
        rw [mixL_zero, set_same hga]
        exact ⟨_, hN⟩
      have hih := Lib.hid hi.out
      have hgih := Lib.hid hgi
      have hgah := Lib.hid hga
      clear hi hgi hga hC3 hC5 hle3 hN
      go_wp2
      go_loopg [10, 33] gi.f2.length (fun d _ t wr => ∃ (k : Nat) (y : Under (((w.alloc (.cells #[.slice A0 l0.length c0, .slice A1 l1.length c1, .slice A2 l2.length c2, .slice A3 l3.length c3, .slice A4 l4.length c4] 27)).alloc (.cells #[.int .i64 net, .int .i64 load, .bool false] 29)).alloc (.cells #[.slice none 0 0, .slice none 0 0, .slice none 0 0, .slice none 0 0, .slice none 0 0] 27))) (u0 u1 u2 u3 u4 : Value), t = .int .i64 k ∧ wr = y.val ∧ Aside (k + d = gi.f2.length) ∧ NetAt (fun k => k < g5) ((((w.alloc (.cells #[.slice A0 l0.length c0, .slice A1 l1.length c1, .slice A2 l2.length c2, .slice A3 l3.length c3, .slice A4 l4.length c4] 27)).alloc (.cells #[.int .i64 net, .int .i64 load, .bool false] 29)).alloc (.cells #[.slice none 0 0, .slice none 0 0, .slice none 0 0, .slice none 0 0, .slice none 0 0] 27))).heap.size y.val g5 u0 u1 u2 u3 u4 l0 l1 ⟨l2, (mixL (brGates nv l3 0) l3 i).set i ⟨gi.f0, gi.f1, mixL (brPins nv i gi.f2 0) gi.f2 k⟩, l4⟩ ∧
        EnvB g5 y.val (w.heap.size + 1) g6 (g6 + 1) b net load 0 false m)
      case atStart => exact ⟨0, y, _, _, _, _, _, rfl, rfl, by show 0 + gi.f2.length = gi.f2.length; omega, hE1.choose_spec, hE⟩
      case round =>
        clear hE1 hE hgl hn0 hn1 hn2 hn3 hn4 hyl hb3 hj0 hj1 hj2
        obtain ⟨k, y, u0, u1, u2, u3, u4, rfl, rfl, hk, hN, hE⟩ := hrel
        obtain ⟨hgl, hn0, hn1, hn2, hn3, hn4⟩ := hN.cell
        by_cases hlk : k < gi.f2.length
        · obtain ⟨x, hx⟩ := get_ex hlk
          obtain ⟨gI, rfl⟩ : ∃ m, gk = m + 1 := ⟨gk - 1, by have := hk.out; omega⟩
          have hpl := brPins_len nv i gi.f2 0
          have hxm := mixL_at hpl hx
          have hml := mixL_len hpl k
          have hel : ((mixL (brGates nv l3 0) l3 i).set i ⟨gi.f0, gi.f1, mixL (brPins nv i gi.f2 0) gi.f2 k⟩)[i]? = some ⟨gi.f0, gi.f1, mixL (brPins nv i gi.f2 0) gi.f2 k⟩ := by
            rw [List.getElem?_set, if_pos rfl, if_pos (by rw [hb3l.out]; exact hlt)]
          obtain ⟨g3, c3', gp, cp, rfl, hc3, hcp, hcf, hg3l, hgpl, hg3B, hgpB, hgpT, _, ⟨cs, hgpt⟩, hset⟩ := hN.r.pin hel (by show k < (mixL (brPins nv i gi.f2 0) gi.f2 k).length; rw [hml]; exact hlk)
          simp only [getD_at hxm] at hcp
          rw [List.length_set, hb3l.out] at hn3
          rw [hml] at hc3
          have hPk : (brPins nv i gi.f2 0)[k]? = some (nv ⟨0, i, k⟩ x) := by rw [brPins_at, hx]; simp
          have hnxt : (mixL (brPins nv i gi.f2 0) gi.f2 k).set k (nv ⟨0, i, k⟩ x) = mixL (brPins nv i gi.f2 0) gi.f2 (k + 1) := mixL_set hpl hPk
          have hcall := put_core y hN hE (l := ⟨0, i, k⟩) (fun v => ⟨l2, ((mixL (brGates nv l3 0) l3 i).set i ⟨gi.f0, gi.f1, mixL (brPins nv i gi.f2 0) gi.f2 k⟩).set i ⟨gi.f0, gi.f1, (mixL (brPins nv i gi.f2 0) gi.f2 k).set k v⟩, l4⟩) hcp hcf hgpB hgpT hgpt (.inl rfl) (hkey 0 i k (by decide) (by decide) (by omega) (by omega)) hset (by rw [set_same hxm, set_same hel])
          rw [← hnvh.out, hnxt, List.set_set] at hcall
          have hkh := Lib.hid hk.out
          have hlk2 : (k : Int) < (gi.f2.length : Int) := by omega
          clear hk hx hpl hxm hml hel hset hPk hnxt hN hE hgpt hgpT
          go_wp2_with (go_at_call 41; refine hcall.mono ?_; rintro e w' ⟨rfl, z, rfl, hNz, hEz⟩)
          go_roundg gI
          case measure => have := hkh.out; omega
          case rel => exact ⟨k + 1, z, _, _, _, _, _, by go_num, rfl, by show k + 1 + gI = gi.f2.length; have := hkh.out; omega, hNz, hEz⟩
        · obtain rfl : k = gi.f2.length := by have := hk.out; omega
          have hPe : (brGates nv l3 0)[i]? = some ⟨gi.f0, gi.f1, brPins nv i gi.f2 0⟩ := by rw [brGates_at, hgih.out]; simp
          rw [mixL_end (brPins_len nv i gi.f2 0), mixL_set (brGates_len nv l3 0) hPe] at hN
          clear hk hPe
          go_wp2
          go_roundg gO
          case measure => have := hih.out; omega
          case rel => exact ⟨i + 1, y, _, _, _, _, _, by go_num, rfl, by show i + 1 + gO = l3.length; have := hih.out; omega, hN, hE⟩
    · obtain rfl : i = l3.length := by have := hi.out; omega
      rw [mixL_end (brGates_len nv l3 0)] at hN
      obtain ⟨E2, f2, rfl⟩ := Kd.R_slice hN.r.r2
      clear hi
      go_wp2
      go_loopg [11, 54] l2.length (fun d _ t wr => ∃ (i : Nat) (y : Under (((w.alloc (.cells #[.slice A0 l0.length c0, .slice A1 l1.length c1, .slice A2 l2.length c2, .slice A3 l3.length c3, .slice A4 l4.length c4] 27)).alloc (.cells #[.int .i64 net, .int .i64 load, .bool false] 29)).alloc (.cells #[.slice none 0 0, .slice none 0 0, .slice none 0 0, .slice none 0 0, .slice none 0 0] 27))) (u0 u1 u2 u3 u4 : Value), t = .int .i64 i ∧ wr = y.val ∧ Aside (i + d = l2.length) ∧ NetAt (fun k => k < g5) ((((w.alloc (.cells #[.slice A0 l0.length c0, .slice A1 l1.length c1, .slice A2 l2.length c2, .slice A3 l3.length c3, .slice A4 l4.length c4] 27)).alloc (.cells #[.int .i64 net, .int .i64 load, .bool false] 29)).alloc (.cells #[.slice none 0 0, .slice none 0 0, .slice none 0 0, .slice none 0 0, .slice none 0 0] 27))).heap.size y.val g5 u0 u1 u2 u3 u4 l0 l1 ⟨mixL (brFlops nv l2 0) l2 i, brGates nv l3 0, l4⟩ ∧
        EnvB g5 y.val (w.heap.size + 1) g6 (g6 + 1) b net load 0 false m)
      case atStart => exact ⟨0, y, _, _, _, _, _, rfl, rfl, by show 0 + l2.length = l2.length; omega, by rw [mixL_zero]; exact hN, hE⟩
      case round =>
        clear hN hE hn0 hn1 hn2 hn3 hn4 hgl hyl
        obtain ⟨i, y, u0, u1, u2, u3, u4, rfl, rfl, hi, hN, hE⟩ := hrel
        obtain ⟨hgl, hn0, hn1, hn2, hn3, hn4⟩ := hN.cell
        by_cases hlt : i < l2.length
        · obtain ⟨fi, hfi⟩ := get_ex hlt
          obtain ⟨gO, rfl⟩ : ∃ m, gk = m + 1 := ⟨gk - 1, by have := hi.out; omega⟩
          have hfl := brFlops_len nv l2 0
          have hel := mixL_at hfl hfi
          have hml := mixL_len hfl i
          obtain ⟨g2, c2', rfl, hg2l, hg2B, hg2T, ⟨cs, hg2t⟩, hd2, hd3, hf2, hf3, hset⟩ := hN.r.flop hel
          rw [hml] at hn2
          have hPi : (brFlops nv l2 0)[i]? = some ⟨fi.f0, fi.f1, nv ⟨1, i, 0⟩ fi.f2, nv ⟨2, i, 0⟩ fi.f3, fi.f4⟩ := by rw [brFlops_at, hfi]; simp
          have hnxt := mixL_set hfl hPi
          have hel2 : ((mixL (brFlops nv l2 0) l2 i).set i ⟨fi.f0, fi.f1, nv ⟨1, i, 0⟩ fi.f2, fi.f3, fi.f4⟩)[i]? = some ⟨fi.f0, fi.f1, nv ⟨1, i, 0⟩ fi.f2, fi.f3, fi.f4⟩ := by
            rw [List.getElem?_set, if_pos rfl, if_pos (by rw [hml]; exact hlt)]
          have hml2 : ((mixL (brFlops nv l2 0) l2 i).set i ⟨fi.f0, fi.f1, nv ⟨1, i, 0⟩ fi.f2, fi.f3, fi.f4⟩).length = l2.length := by rw [List.length_set, hml]
          have hcall := put_core y hN hE (l := ⟨1, i, 0⟩) (fun v => ⟨(mixL (brFlops nv l2 0) l2 i).set i ⟨fi.f0, fi.f1, v, fi.f3, fi.f4⟩, brGates nv l3 0, l4⟩) hd2 hf2 hg2B hg2T hg2t (.inr rfl) (hkey 1 i 0 (by decide) (by decide) (by omega) (by decide)) (fun v => (hset v).1) (by rw [set_same hel])
          rw [← hnvh.out] at hcall
          have hih := Lib.hid hi.out
          have hi2 : (i : Int) < (l2.length : Int) := by omega
          have hnxth := Lib.hid hnxt
          have hel2h := Lib.hid hel2
          have hml2h := Lib.hid hml2
          have hmlh := Lib.hid hml
          clear hi hfi hfl hel hml hset hPi hnxt hN hE hg2t hel2 hml2 hg2T hg2B
          go_wp2_with (first
            | (go_at_call 41; refine hcall2.mono ?_; rintro e w' ⟨rfl, z2, rfl, hNz2, hEz2⟩)
            | (go_at_call 41; refine hcall.mono ?_; rintro e w' ⟨rfl, z, rfl, hNz, hEz⟩; obtain ⟨hzl, hz0, hz1, hz2, hz3, hz4⟩ := hNz.cell; rw [hmlh.out] at hz2; obtain ⟨g2', c2'', he2, hg2l', hg2B', hg2T', ⟨cs', hg2t'⟩, hd2', hd3', hf2', hf3', hset'⟩ := hNz.r.flop hel2h.out; rw [hml2h.out] at he2; injection he2 with he2 he6 he2'; clear he6; injection he2 with he2; injection he2 with he2 he7 he8; clear he7 he8; subst he2; subst he2'; have hcall2 := put_core z hNz hEz (l := ⟨2, i, 0⟩) (fun v => ⟨((mixL (brFlops nv l2 0) l2 i).set i ⟨fi.f0, fi.f1, nv ⟨1, i, 0⟩ fi.f2, fi.f3, fi.f4⟩).set i ⟨fi.f0, fi.f1, nv ⟨1, i, 0⟩ fi.f2, v, fi.f4⟩, brGates nv l3 0, l4⟩) hd3' hf3' hg2B' hg2T' hg2t' (.inr rfl) (hkey 2 i 0 (by decide) (by decide) (by omega) (by decide)) (fun v => (hset' v).2) (by rw [set_same hel2h.out]); rw [← hnvh.out, List.set_set, hnxth.out] at hcall2; clear hset' hg2t' hNz hEz hg2B' hg2T'))
          go_roundg gO
          case measure => have := hih.out; omega
          case rel => exact ⟨i + 1, z2, _, _, _, _, _, by go_num, rfl, by show i + 1 + gO = l2.length; have := hih.out; omega, hNz2, hEz2⟩
        · obtain rfl : i = l2.length := by have := hi.out; omega
          rw [mixL_end (brFlops_len nv l2 0)] at hN
          obtain ⟨E4, f4, rfl⟩ := Kd.R_slice hN.r.r4
          clear hi
          go_wp2
          go_loopg [12, 79] l4.length (fun d _ t wr => ∃ (i : Nat) (y : Under (((w.alloc (.cells #[.slice A0 l0.length c0, .slice A1 l1.length c1, .slice A2 l2.length c2, .slice A3 l3.length c3, .slice A4 l4.length c4] 27)).alloc (.cells #[.int .i64 net, .int .i64 load, .bool false] 29)).alloc (.cells #[.slice none 0 0, .slice none 0 0, .slice none 0 0, .slice none 0 0, .slice none 0 0] 27))) (u0 u1 u2 u3 u4 : Value), t = .int .i64 i ∧ wr = y.val ∧ Aside (i + d = l4.length) ∧ NetAt (fun k => k < g5) ((((w.alloc (.cells #[.slice A0 l0.length c0, .slice A1 l1.length c1, .slice A2 l2.length c2, .slice A3 l3.length c3, .slice A4 l4.length c4] 27)).alloc (.cells #[.int .i64 net, .int .i64 load, .bool false] 29)).alloc (.cells #[.slice none 0 0, .slice none 0 0, .slice none 0 0, .slice none 0 0, .slice none 0 0] 27))).heap.size y.val g5 u0 u1 u2 u3 u4 l0 l1 ⟨brFlops nv l2 0, brGates nv l3 0, mixL (brOuts nv l4 0) l4 i⟩ ∧
            EnvB g5 y.val (w.heap.size + 1) g6 (g6 + 1) b net load 0 false m)
          case atStart => exact ⟨0, y, _, _, _, _, _, rfl, rfl, by show 0 + l4.length = l4.length; omega, by rw [mixL_zero]; exact hN, hE⟩
          case round =>
            clear hN hE hn0 hn1 hn2 hn3 hn4 hgl
            obtain ⟨i, y, u0, u1, u2, u3, u4, rfl, rfl, hi, hN, hE⟩ := hrel
            obtain ⟨hgl, hn0, hn1, hn2, hn3, hn4⟩ := hN.cell
            have hol := brOuts_len nv l4 0
            have hml := mixL_len hol i
            by_cases hlt : i < l4.length
            · obtain ⟨x, hx⟩ := get_ex hlt
              obtain ⟨gO, rfl⟩ : ∃ m, gk = m + 1 := ⟨gk - 1, by have := hi.out; omega⟩
              have hxm := mixL_at hol hx
              obtain ⟨g4, c4', rfl, hg4l, hg4B, hg4T, ⟨cs, hg4t⟩, hd4, hf4, hset⟩ := hN.r.out (show i < (mixL (brOuts nv l4 0) l4 i).length by rw [hml]; exact hlt)
              simp only [getD_at hxm] at hd4
              simp only [hml] at hn4
              have hPi : (brOuts nv l4 0)[i]? = some (nv ⟨3, i, 0⟩ x) := by rw [brOuts_at, hx]; simp
              have hnxt := mixL_set hol hPi
              have hcall := put_core y hN hE (l := ⟨3, i, 0⟩) (fun v => ⟨brFlops nv l2 0, brGates nv l3 0, (mixL (brOuts nv l4 0) l4 i).set i v⟩) hd4 hf4 hg4B hg4T hg4t (.inl rfl) (hkey 3 i 0 (by decide) (by decide) (by omega) (by decide)) hset (by rw [set_same hxm])
              rw [← hnvh.out, hnxt] at hcall
              have hih := Lib.hid hi.out
              have hi4 : (i : Int) < (l4.length : Int) := by omega
              clear hi hx hol hml hxm hset hPi hnxt hN hE hg4t hg4T hg4B
              go_wp2_with (go_at_call 41; refine hcall.mono ?_; rintro e w' ⟨rfl, z, rfl, hNz, hEz⟩)
              go_roundg gO
              case measure => have := hih.out; omega
              case rel => exact ⟨i + 1, z, _, _, _, _, _, by go_num, rfl, by show i + 1 + gO = l4.length; have := hih.out; omega, hNz, hEz⟩
            · obtain rfl : i = l4.length := by have := hi.out; omega
              rw [mixL_end hol] at hN
              obtain ⟨C0, e0, rfl⟩ := Kd.R_slice hN.r.r0
              obtain ⟨C1, e1, rfl⟩ := Kd.R_slice hN.r.r1
              obtain ⟨C2, e2, rfl⟩ := Kd.R_slice hN.r.r2
              obtain ⟨C3, e3, rfl⟩ := Kd.S_slice hN.r.r3
              obtain ⟨C4, e4, rfl⟩ := Kd.R_slice hN.r.r4
              have hrbx := hrb y
              have hNh := Lib.hid hN
              have hyl := hsz y
              clear hi hol hml hN hE
              go_wp2
              ((try simp only [Exit.inBlock, Exit.then]); refine bodyPost_ret (results_cell_row rfl _ _ (w.heap.size + 1 + 1) _ _ _ _ rfl (set5 (.slice C0 l0.length e0) (.slice C1 l1.length e1) (.slice C2 (brFlops nv l2 0).length e2) (.slice C3 (brGates nv l3 0).length e3) (.slice C4 (brOuts nv l4 0).length e4) hrbx).1 Try.underlying27 rfl (by kernel_rfl)) rfl ?_)
              have hBy : Below w.heap.size w y.val := bel y
              refine ⟨_, _, _, _, _, rfl, ((hNh.out.r.vars (fun k hk hB => (set5 _ _ _ _ _ hrbx).2 k (by simp at hB; omega))).mono (fun _ _ => trivial)).lower (by simp; omega), ((((hBy.setCell (p := ⟨w.heap.size + 1 + 1, 0, none⟩) (by simp; omega) _).setCell (p := ⟨w.heap.size + 1 + 1, 1, none⟩) (by simp; omega) _).setCell (p := ⟨w.heap.size + 1 + 1, 2, none⟩) (by simp; omega) _).setCell (p := ⟨w.heap.size + 1 + 1, 3, none⟩) (by simp; omega) _).setCell (p := ⟨w.heap.size + 1 + 1, 4, none⟩) (by simp; omega) _⟩
end Go.Proofs.Ytimjccfpobhpeaa
-- written by this session's own program out of the translation
namespace Go.Proofs.Ytimjccfpobhpeaa.PF
open Go.RowKit Go.Proofs.YtimjccfpobhpeaaW.PrintWords Go.Proofs.YtimjccfpobhpeaaW.PrintLast Go.Proofs.YtimjccfpobhpeaaW.PrintMore
attribute [local go_sem] max2_int min2_int max_two min_two max_three min_three max_four min_four   -- for this text's walks alone
set_option linter.unusedVariables false
set_option linter.unusedSimpArgs false

-- OWN TEXT Derived.Test.YtimjccfpobhpeaaClones
/-! ### slices_Clone_string_string: function 30 -/
def slices_Clone_string_string.f (l0 : List ByteArray) : Option (List ByteArray) := if l0.length * 16 ≤ 140737488355328 then some l0 else none
theorem slices_Clone_string_string.calls (A0 : Option Addr) (c0 : Nat) (l0 : List ByteArray) (r : List ByteArray) (w : World) (hr0 : Kd.C Kd.string w A0 l0.length l0) (hc0 : l0.length ≤ c0) (h : slices_Clone_string_string.f l0 = some r) :
    Calls Try.prog 30 #[.slice A0 l0.length c0] w fun e w' => ∃ v0_ : Value, e = .returned (v0_) ∧ Kd.R Kd.string 9 w' w.heap.size (fun _ => True) v0_ r ∧ Below w.heap.size w w' := by
  have h2 : (if l0.length * 16 ≤ 140737488355328 then some l0 else none) = some r := h
  by_cases hc : l0.length * 16 ≤ 140737488355328
  · rw [if_pos hc] at h2
    obtain rfl := Option.some.inj h2
    exact (clone_strs A0 c0 l0 w hr0 hc).mono fun e w' ⟨v, he, hR, hB⟩ => ⟨v, he, hR, hB⟩
  · rw [if_neg hc] at h2
    cases h2

end Go.Proofs.Ytimjccfpobhpeaa.PF
-- written by this session's own program out of the translation
namespace Go.Proofs.Ytimjccfpobhpeaa.PF
open Go.RowKit Go.Proofs.YtimjccfpobhpeaaW.PrintWords Go.Proofs.YtimjccfpobhpeaaW.PrintLast Go.Proofs.YtimjccfpobhpeaaW.PrintMore
attribute [local go_sem] max2_int min2_int max_two min_two max_three min_three max_four min_four   -- for this text's walks alone
set_option linter.unusedVariables false
set_option linter.unusedSimpArgs false

-- OWN TEXT Derived.Test.YtimjccfpobhpeaaNames
/-! ### graph_Names: function 31 -/
def graph_Names.f (l0 : List ByteArray) : Option (Int) := some (namesF [] l0)
theorem graph_Names.calls (A0 : Option Addr) (c0 : Nat) (l0 : List ByteArray) (r : Int) (w : World) (hr0 : Kd.C Kd.string w A0 l0.length l0) (hc0 : l0.length ≤ c0) (h : graph_Names.f l0 = some r) :
    Calls Try.prog 31 #[.slice A0 l0.length c0] w fun e w' => e = .returned (.int .i64 r) ∧ Below w.heap.size w w' := by
  obtain rfl := Option.some.inj h
  exact (names_calls A0 c0 l0 w hr0).mono fun e w' ⟨he, hw⟩ => ⟨he, hw.below⟩

end Go.Proofs.Ytimjccfpobhpeaa.PF
-- written by this session's own program out of the translation
namespace Go.Proofs.Ytimjccfpobhpeaa.PF
open Go.RowKit Go.Proofs.YtimjccfpobhpeaaW.PrintWords Go.Proofs.YtimjccfpobhpeaaW.PrintLast Go.Proofs.YtimjccfpobhpeaaW.PrintMore
attribute [local go_sem] max2_int min2_int max_two min_two max_three min_three max_four min_four   -- for this text's walks alone
set_option linter.unusedVariables false
set_option linter.unusedSimpArgs false

/-! ### netlist_First: function 32 -/
def netlist_First.f (l0_0 : List ByteArray) (l0_1 : List ByteArray) (l0_2 : List (S82)) (l0_3 : List (S80)) (l0_4 : List Int) : Option (Int) := some (wrap64 ((wrap64 (2 + (l0_0.length : Int))) + (l0_2.length : Int)))
set_option maxHeartbeats 8000000 in
set_option maxRecDepth 100000 in
theorem netlist_First.calls (A0_0 : Option Addr) (c0_0 : Nat) (l0_0 : List ByteArray) (A0_1 : Option Addr) (c0_1 : Nat) (l0_1 : List ByteArray) (A0_2 : Option Addr) (c0_2 : Nat) (l0_2 : List (S82)) (A0_3 : Option Addr) (c0_3 : Nat) (l0_3 : List (S80)) (A0_4 : Option Addr) (c0_4 : Nat) (l0_4 : List Int) (r : Int) (w : World) (hr0_0 : Kd.C Kd.string w A0_0 l0_0.length l0_0) (hc0_0 : l0_0.length ≤ c0_0) (hr0_1 : Kd.C Kd.string w A0_1 l0_1.length l0_1) (hc0_1 : l0_1.length ≤ c0_1) (hr0_2 : Kd.C k82 w A0_2 l0_2.length l0_2) (hc0_2 : l0_2.length ≤ c0_2) (hr0_3 : Kd.C k80 w A0_3 l0_3.length l0_3) (hc0_3 : l0_3.length ≤ c0_3) (hr0_4 : Kd.C (Kd.int .i64) w A0_4 l0_4.length l0_4) (hc0_4 : l0_4.length ≤ c0_4) (h : netlist_First.f l0_0 l0_1 l0_2 l0_3 l0_4 = some r) :
    Calls Try.prog 32 #[.agg #[.slice A0_0 l0_0.length c0_0, .slice A0_1 l0_1.length c0_1, .slice A0_2 l0_2.length c0_2, .slice A0_3 l0_3.length c0_3, .slice A0_4 l0_4.length c0_4]] w fun e w' => e = .returned (.int .i64 r) ∧ Below w.heap.size w w' := by
  have hu27 := Try.underlying27
  have HR0_0 := Aside0.mk hr0_0
  have HC0_0 := Aside0.mk hc0_0
  clear hr0_0 hc0_0
  have HR0_1 := Aside0.mk hr0_1
  have HC0_1 := Aside0.mk hc0_1
  clear hr0_1 hc0_1
  have HR0_2 := Aside0.mk hr0_2
  have HC0_2 := Aside0.mk hc0_2
  clear hr0_2 hc0_2
  have HR0_3 := Aside0.mk hr0_3
  have HC0_3 := Aside0.mk hc0_3
  clear hr0_3 hc0_3
  have HR0_4 := Aside0.mk hr0_4
  have HC0_4 := Aside0.mk hc0_4
  clear hr0_4 hc0_4
  have HB := Aside0.mk (Below.refl w.heap.size w)
  have H : (some (wrap64 ((wrap64 (2 + (l0_0.length : Int))) + (l0_2.length : Int)))) = some r := h
  clear h
  obtain rfl := Option.some.inj H
  go_enter Try.func32, Try.ntmps32
  go_wp2_with (first | ((with_reducible refine gate_dst (N := 1) rfl ?_); refine box_event ?hg (N := 1) ?hd (cs := #[.slice A0_0 l0_0.length c0_0, .slice A0_1 l0_1.length c0_1, .slice A0_2 l0_2.length c0_2, .slice A0_3 l0_3.length c0_3, .slice A0_4 l0_4.length c0_4]) (t := 27) ?hr ?_; (case hd => rfl); (case hg => rfl); (case hr => first | (go_simp; done) | (go_simp; rfl)); intro gb101 hg w2 hbox hb; have n0_ := Aside0.mk (below_step (by repeat (first | (with_reducible first | exact HB.out | apply below_alloc | apply pw_below_drewN | apply below_drew1) | exact HB.out)) hb); have n1_ := Aside0.mk (hbox); have n2_ := Aside0.mk ((by rw [hg]; exact (below_size (by repeat (first | (with_reducible first | exact HB.out | apply below_alloc | apply pw_below_drewN | apply below_drew1) | exact HB.out))) : w.heap.size ≤ gb101)); have n3_ := Aside0.mk ((by rw [hg]; exact (below_size (by repeat (first | (with_reducible first | exact HB.out | apply below_alloc | apply pw_below_drewN | apply below_drew1) | exact HB.out))) : w.heap.size ≤ gb101)); clear HB; have HB := n0_; have BK101 := n1_; have GW101 := n2_; have GE101 := n3_; clear n0_ n1_ n2_ n3_; clear hb hbox hg; have hcz3_0 : w2.cell? ⟨gb101, 0, none⟩ = some (.slice A0_0 l0_0.length c0_0) := (blk_cell BK101.out 0).trans rfl; have hcz3_1 : w2.cell? ⟨gb101, 1, none⟩ = some (.slice A0_1 l0_1.length c0_1) := (blk_cell BK101.out 1).trans rfl; have hcz3_2 : w2.cell? ⟨gb101, 2, none⟩ = some (.slice A0_2 l0_2.length c0_2) := (blk_cell BK101.out 2).trans rfl; have hcz3_3 : w2.cell? ⟨gb101, 3, none⟩ = some (.slice A0_3 l0_3.length c0_3) := (blk_cell BK101.out 3).trans rfl; have hcz3_4 : w2.cell? ⟨gb101, 4, none⟩ = some (.slice A0_4 l0_4.length c0_4) := (blk_cell BK101.out 4).trans rfl; have hfz3_0 := blk_frozen BK101.out 0; have hfz3_1 := blk_frozen BK101.out 1; have hfz3_2 := blk_frozen BK101.out 2; have hfz3_3 := blk_frozen BK101.out 3; have hfz3_4 := blk_frozen BK101.out 4))
  go_ret
  exact ⟨by first | rfl | (simp [errW_none, errW_some] <;> rfl) | (simp [*, errW_none, errW_some] <;> rfl), by repeat (first | (with_reducible first | exact HB.out | apply below_alloc | apply pw_below_drewN | apply below_drew1 | refine below_set ?_ GE101.out) | exact HB.out)⟩

end Go.Proofs.Ytimjccfpobhpeaa.PF
-- written by this session's own program out of the translation
namespace Go.Proofs.Ytimjccfpobhpeaa.PF
open Go.RowKit Go.Proofs.YtimjccfpobhpeaaW.PrintWords Go.Proofs.YtimjccfpobhpeaaW.PrintLast Go.Proofs.YtimjccfpobhpeaaW.PrintMore
attribute [local go_sem] max2_int min2_int max_two min_two max_three min_three max_four min_four   -- for this text's walks alone
set_option linter.unusedVariables false
set_option linter.unusedSimpArgs false

-- OWN TEXT 
/-! ### netlist_Mask: function 33 -/
def netlist_Mask.f (a0 : Int) : Option (Int) := some (if a0 < 0 then 0 else if 6 < a0 then 0 else if a0 = 6 then 18446744073709551615 else if a0 = 5 then 4294967295 else if a0 = 4 then 65535 else if a0 = 3 then 255 else if a0 = 2 then 15 else if a0 = 1 then 3 else 1)
set_option maxHeartbeats 2000000 in
theorem netlist_Mask.calls (a0 : Int) (r : Int) (w : World) (h : netlist_Mask.f a0 = some r) :
    Calls Try.prog 33 #[.int .i64 a0] w fun e w' => e = .returned (.int .u64 r) ∧ Below w.heap.size w w' := by
  obtain rfl := Option.some.inj h
  by_cases h1 : a0 < 0
  · rw [if_pos h1]
    go_enter Try.func33, Try.ntmps33
    go_wp2
    all_goals (go_ret; exact ⟨rfl, Below.refl _ _⟩)
  · rw [if_neg h1]
    by_cases h2 : 6 < a0
    · rw [if_pos h2]
      have q1 : decide (a0 < 0) = false := decide_eq_false h1
      have q2 : decide (6 < a0) = true := decide_eq_true h2
      clear h
      go_enter Try.func33, Try.ntmps33
      go_wp2
      all_goals (go_ret; exact ⟨rfl, Below.refl _ _⟩)
    · rw [if_neg h2]
      clear h
      have hc : a0 = 0 ∨ a0 = 1 ∨ a0 = 2 ∨ a0 = 3 ∨ a0 = 4 ∨ a0 = 5 ∨ a0 = 6 := by omega
      clear h1 h2
      rcases hc with rfl | rfl | rfl | rfl | rfl | rfl | rfl
      all_goals
        go_enter Try.func33, Try.ntmps33
        go_wp2
        (go_ret; exact ⟨rfl, Below.refl _ _⟩)

end Go.Proofs.Ytimjccfpobhpeaa.PF
-- written by this session's own program out of the translation
namespace Go.Proofs.Ytimjccfpobhpeaa.PF
open Go.RowKit Go.Proofs.YtimjccfpobhpeaaW.PrintWords Go.Proofs.YtimjccfpobhpeaaW.PrintLast Go.Proofs.YtimjccfpobhpeaaW.PrintMore
attribute [local go_sem] max2_int min2_int max_two min_two max_three min_three max_four min_four   -- for this text's walks alone
set_option linter.unusedVariables false
set_option linter.unusedSimpArgs false

/-! ### netlist_Nets: function 52 -/
def netlist_Nets.f (l0_0 : List ByteArray) (l0_1 : List ByteArray) (l0_2 : List (S82)) (l0_3 : List (S80)) (l0_4 : List Int) : Option (Int) := (netlist_First.f l0_0 l0_1 l0_2 l0_3 l0_4).bind fun t103 => (some (wrap64 (t103 + (l0_3.length : Int))))
set_option maxHeartbeats 8000000 in
set_option maxRecDepth 100000 in
theorem netlist_Nets.calls (A0_0 : Option Addr) (c0_0 : Nat) (l0_0 : List ByteArray) (A0_1 : Option Addr) (c0_1 : Nat) (l0_1 : List ByteArray) (A0_2 : Option Addr) (c0_2 : Nat) (l0_2 : List (S82)) (A0_3 : Option Addr) (c0_3 : Nat) (l0_3 : List (S80)) (A0_4 : Option Addr) (c0_4 : Nat) (l0_4 : List Int) (r : Int) (w : World) (hr0_0 : Kd.C Kd.string w A0_0 l0_0.length l0_0) (hc0_0 : l0_0.length ≤ c0_0) (hr0_1 : Kd.C Kd.string w A0_1 l0_1.length l0_1) (hc0_1 : l0_1.length ≤ c0_1) (hr0_2 : Kd.C k82 w A0_2 l0_2.length l0_2) (hc0_2 : l0_2.length ≤ c0_2) (hr0_3 : Kd.C k80 w A0_3 l0_3.length l0_3) (hc0_3 : l0_3.length ≤ c0_3) (hr0_4 : Kd.C (Kd.int .i64) w A0_4 l0_4.length l0_4) (hc0_4 : l0_4.length ≤ c0_4) (h : netlist_Nets.f l0_0 l0_1 l0_2 l0_3 l0_4 = some r) :
    Calls Try.prog 52 #[.agg #[.slice A0_0 l0_0.length c0_0, .slice A0_1 l0_1.length c0_1, .slice A0_2 l0_2.length c0_2, .slice A0_3 l0_3.length c0_3, .slice A0_4 l0_4.length c0_4]] w fun e w' => e = .returned (.int .i64 r) ∧ Below w.heap.size w w' := by
  have hu27 := Try.underlying27
  have HR0_0 := Aside0.mk hr0_0
  have HC0_0 := Aside0.mk hc0_0
  clear hr0_0 hc0_0
  have HR0_1 := Aside0.mk hr0_1
  have HC0_1 := Aside0.mk hc0_1
  clear hr0_1 hc0_1
  have HR0_2 := Aside0.mk hr0_2
  have HC0_2 := Aside0.mk hc0_2
  clear hr0_2 hc0_2
  have HR0_3 := Aside0.mk hr0_3
  have HC0_3 := Aside0.mk hc0_3
  clear hr0_3 hc0_3
  have HR0_4 := Aside0.mk hr0_4
  have HC0_4 := Aside0.mk hc0_4
  clear hr0_4 hc0_4
  have HB := Aside0.mk (Below.refl w.heap.size w)
  have H : ((netlist_First.f l0_0 l0_1 l0_2 l0_3 l0_4).bind fun t103 => (some (wrap64 (t103 + (l0_3.length : Int))))) = some r := h
  clear h
  replace H := Option.bind_eq_some_iff.mp H
  obtain ⟨t103, A20, H⟩ := H
  replace H : (some (wrap64 (t103 + (l0_3.length : Int)))) = some r := H
  have A2 := Aside0.mk A20
  clear A20
  obtain rfl := Option.some.inj H
  go_enter Try.func52, Try.ntmps52
  try go_wp2_with (first | ((with_reducible refine gate_dst (N := 1) rfl ?_); refine box_event ?hg (N := 1) ?hd (cs := #[.slice A0_0 l0_0.length c0_0, .slice A0_1 l0_1.length c0_1, .slice A0_2 l0_2.length c0_2, .slice A0_3 l0_3.length c0_3, .slice A0_4 l0_4.length c0_4]) (t := 27) ?hr ?_; (case hd => rfl); (case hg => rfl); (case hr => first | (go_simp; done) | (go_simp; rfl)); intro gb102 hg w3 hbox hb; have n0_ := Aside0.mk (below_step (by repeat (first | (with_reducible first | exact HB.out | apply below_alloc | apply pw_below_drewN | apply below_drew1) | exact HB.out)) hb); have n1_ := Aside0.mk (hbox); have n2_ := Aside0.mk ((by rw [hg]; exact (below_size (by repeat (first | (with_reducible first | exact HB.out | apply below_alloc | apply pw_below_drewN | apply below_drew1) | exact HB.out))) : w.heap.size ≤ gb102)); have n3_ := Aside0.mk ((by rw [hg]; exact (below_size (by repeat (first | (with_reducible first | exact HB.out | apply below_alloc | apply pw_below_drewN | apply below_drew1) | exact HB.out))) : w.heap.size ≤ gb102)); clear HB; have HB := n0_; have BK102 := n1_; have GW102 := n2_; have GE102 := n3_; clear n0_ n1_ n2_ n3_; clear hb hbox hg))
  have n0_ := Aside0.mk (blk_drew BK102.out)
  have n1_ := Aside0.mk (below_drew1 HB.out)
  clear BK102
  clear HB
  have BK102 := n0_
  have HB := n1_
  clear n0_ n1_
  refine start_ (n := 7) (S := fun w' => w'.cell? ⟨gb102, 0, none⟩ = some (.slice A0_0 l0_0.length c0_0) ∧ w'.cell? ⟨gb102, 1, none⟩ = some (.slice A0_1 l0_1.length c0_1) ∧ w'.cell? ⟨gb102, 2, none⟩ = some (.slice A0_2 l0_2.length c0_2) ∧ w'.cell? ⟨gb102, 3, none⟩ = some (.slice A0_3 l0_3.length c0_3) ∧ w'.cell? ⟨gb102, 4, none⟩ = some (.slice A0_4 l0_4.length c0_4)) (ds := []) #[false, false, false, false, false, false, false] (by kernel_rfl) rfl rfl ⟨(blk_cell BK102.out 0).trans rfl, (blk_cell BK102.out 1).trans rfl, (blk_cell BK102.out 2).trans rfl, (blk_cell BK102.out 3).trans rfl, (blk_cell BK102.out 4).trans rfl⟩ (fun hHeld => ?_)
  generalize w3.drew = w4 at BK102 HB hHeld ⊢
  refine pure_ (i := 2) (N := some 5) (v := ?_) (a' := ?_) #[false, false, true, false, false, false, false] rfl rfl (by kernel_rfl) (fun _ _ _ h => h) (Or.inl ⟨by rfl, ?_⟩) ?_ ?_
  rotate_left
  · intro w'
    go_simp
    with_reducible rfl
  rotate_left
  · simp only [Act.put, List.setIfInBounds_toArray, List.set_cons_zero, List.set_cons_succ, i64_w, i32_w]
    rfl
  refine take_ (i := 0) (N := some 3) (v := ?_) (a' := ?_) #[true, false, true, false, false, false, false] rfl rfl (by kernel_rfl) (fun _ _ _ h => h) (Or.inl ⟨by rfl, ?_⟩) hHeld ?_ ?_
  rotate_left
  · rintro w' ⟨s0, s1, s2, s3, s4⟩
    go_simp
    with_reducible rfl
  rotate_left
  · simp only [Act.put, List.setIfInBounds_toArray, List.set_cons_zero, List.set_cons_succ, i64_w, i32_w]
    rfl
  refine take_ (i := 3) (N := some 6) (v := ?_) (a' := ?_) #[true, false, true, true, false, false, false] rfl rfl (by kernel_rfl) (fun _ _ _ h => h) (Or.inl ⟨by rfl, ?_⟩) hHeld ?_ ?_
  rotate_left
  · rintro w' ⟨s0, s1, s2, s3, s4⟩
    go_simp
    with_reducible rfl
  rotate_left
  · simp only [Act.put, List.setIfInBounds_toArray, List.set_cons_zero, List.set_cons_succ, i64_w, i32_w]
    rfl
  refine pure_ (i := 4) (N := some 7) (v := ?_) (a' := ?_) #[true, false, true, true, true, false, false] rfl rfl (by kernel_rfl) (fun _ _ _ h => h) (Or.inl ⟨by rfl, ?_⟩) ?_ ?_
  rotate_left
  · intro w'
    go_simp
    with_reducible rfl
  rotate_left
  · simp only [Act.put, List.setIfInBounds_toArray, List.set_cons_zero, List.set_cons_succ, i64_w, i32_w]
    rfl
  refine one_ (i := 1) (N := some 4) #[true, true, true, true, true, false, false] rfl rfl (by kernel_rfl) (by decide) (fun K hK => ?_)
  refine goes_ Try.func32 (by kernel_rfl) rfl #[.agg #[.slice A0_0 l0_0.length c0_0, .slice A0_1 l0_1.length c0_1, .slice A0_2 l0_2.length c0_2, .slice A0_3 l0_3.length c0_3, .slice A0_4 l0_4.length c0_4]] (by rfl) rfl rfl (by (try simp only [List.map_toArray, List.map_cons, List.map_nil]); first | done | rfl | (simp only [List.length_drop, List.length_take]; rfl)) ?_
  with_reducible refine (netlist_First.calls _ _ l0_0 _ _ l0_1 _ _ l0_2 _ _ l0_3 _ _ l0_4 t103 _ ?side1 ?side2 ?side3 ?side4 ?side5 ?side6 ?side7 ?side8 ?side9 ?side10 A2.out).mono ?_
  (case side1 => repeat (first | exact (Kd.C_below HR0_0.out HB.out) | (with_reducible refine Kd.C_alloc ?_ _) | (with_reducible refine Kd.C_drewN ?_ _) | (with_reducible refine Kd.C_drew ?_)))
  (case side2 => exact HC0_0.out)
  (case side3 => repeat (first | exact (Kd.C_below HR0_1.out HB.out) | (with_reducible refine Kd.C_alloc ?_ _) | (with_reducible refine Kd.C_drewN ?_ _) | (with_reducible refine Kd.C_drew ?_)))
  (case side4 => exact HC0_1.out)
  (case side5 => repeat (first | exact (Kd.C_below HR0_2.out HB.out) | (with_reducible refine Kd.C_alloc ?_ _) | (with_reducible refine Kd.C_drewN ?_ _) | (with_reducible refine Kd.C_drew ?_)))
  (case side6 => exact HC0_2.out)
  (case side7 => repeat (first | exact (Kd.C_below HR0_3.out HB.out) | (with_reducible refine Kd.C_alloc ?_ _) | (with_reducible refine Kd.C_drewN ?_ _) | (with_reducible refine Kd.C_drew ?_)))
  (case side8 => exact HC0_3.out)
  (case side9 => repeat (first | exact (Kd.C_below HR0_4.out HB.out) | (with_reducible refine Kd.C_alloc ?_ _) | (with_reducible refine Kd.C_drewN ?_ _) | (with_reducible refine Kd.C_drew ?_)))
  (case side10 => exact HC0_4.out)
  rintro e w5 ⟨rfl, hb⟩
  refine ⟨_, rfl, ?_⟩
  have n0_ := Aside0.mk (blk_below (g := gb102) (o := .cells #[.slice A0_0 l0_0.length c0_0, .slice A0_1 l0_1.length c0_1, .slice A0_2 l0_2.length c0_2, .slice A0_3 l0_3.length c0_3, .slice A0_4 l0_4.length c0_4] 27 (0, 0)) (by (with_reducible repeat (first | refine blk_drewN ?_ _ | refine blk_drew ?_ | refine blk_alloc ?_ _)); exact BK102.out) hb)
  have n1_ := Aside0.mk (below_step (by repeat (first | (with_reducible first | exact HB.out | apply below_alloc | apply pw_below_drewN | apply below_drew1 | refine below_set ?_ GE102.out) | exact HB.out)) hb)
  clear BK102
  clear HB
  have BK102 := n0_
  have HB := n1_
  clear n0_ n1_
  (try clear hb)
  (try clear hb2)
  (try clear hk)
  (try clear hi)
  refine hK.out _ _ ⟨(blk_cell BK102.out 0).trans rfl, (blk_cell BK102.out 1).trans rfl, (blk_cell BK102.out 2).trans rfl, (blk_cell BK102.out 3).trans rfl, (blk_cell BK102.out 4).trans rfl⟩ (fun hHeld => ?_)
  clear hK K
  refine norm_ (a' := ?_) ?_ ?_
  rotate_left
  · show Act.put _ (some 4) _ = _
    simp only [Act.put, List.setIfInBounds_toArray, List.set_cons_zero, List.set_cons_succ, i64_w, i32_w]
    rfl
  refine pure_ (i := 5) (N := some 8) (v := ?_) (a' := ?_) #[true, true, true, true, true, true, false] rfl rfl (by kernel_rfl) (fun _ _ _ h => h) (Or.inl ⟨by rfl, ?_⟩) ?_ ?_
  rotate_left
  · intro w'
    go_simp
    with_reducible rfl
  rotate_left
  · simp only [Act.put, List.setIfInBounds_toArray, List.set_cons_zero, List.set_cons_succ, i64_w, i32_w]
    rfl
  refine pure_ (i := 6) (N := some 2) (v := ?_) (a' := ?_) #[true, true, true, true, true, true, true] rfl rfl (by kernel_rfl) (fun _ _ _ h => h) (Or.inl ⟨by rfl, ?_⟩) ?_ ?_
  rotate_left
  · intro w'
    go_simp
    with_reducible rfl
  rotate_left
  · simp only [Act.put, List.setIfInBounds_toArray, List.set_cons_zero, List.set_cons_succ, i64_w, i32_w]
    rfl
  refine done_ (by kernel_rfl) ?_
  try go_wp2
  go_ret
  exact ⟨by first | rfl | (simp [errW_none, errW_some] <;> rfl) | (simp [*, errW_none, errW_some] <;> rfl), by repeat (first | (with_reducible first | exact HB.out | apply below_alloc | apply pw_below_drewN | apply below_drew1 | refine below_set ?_ GE102.out) | exact HB.out)⟩

end Go.Proofs.Ytimjccfpobhpeaa.PF
-- written by this session's own program out of the translation
namespace Go.Proofs.Ytimjccfpobhpeaa.PF
open Go.RowKit Go.Proofs.YtimjccfpobhpeaaW.PrintWords Go.Proofs.YtimjccfpobhpeaaW.PrintLast Go.Proofs.YtimjccfpobhpeaaW.PrintMore
attribute [local go_sem] max2_int min2_int max_two min_two max_three min_three max_four min_four   -- for this text's walks alone
set_option linter.unusedVariables false
set_option linter.unusedSimpArgs false

/-! ### netlist_ends: function 34 -/
mutual
def netlist_ends.l0 : Nat → Int → List (S82) → Int → Int → List ByteArray → List ByteArray → List (S82) → List (S80) → List Int → Option (Int)
  | 0, _, _, _, _, _, _, _, _, _ => none
  | k + 1, x3, x11, x12, x13, x105000, x105001, x105002, x105003, x105004 => if x13 < x12 then (if 0 ≤ x13 then (if x13 < (x11.length : Int) then (if ((rd_T82 x11 x13).f2) < 0 then (some 2) else (if ((rd_T82 x11 x13).f2) ≥ x3 then (some 2) else (if ((rd_T82 x11 x13).f3) < 0 then (some 2) else (if ((rd_T82 x11 x13).f3) ≥ x3 then (some 2) else (netlist_ends.l0 k x3 x11 x12 (wrap64 (x13 + 1)) x105000 x105001 x105002 x105003 x105004))))) else (none)) else (none)) else (netlist_ends.l1 k x3 x105004 (x105004.length : Int) 0)
def netlist_ends.l1 : Nat → Int → List Int → Int → Int → Option (Int)
  | 0, _, _, _, _ => none
  | k + 1, x3, x39, x40, x41 => if x41 < x40 then (if 0 ≤ x41 then (if x41 < (x39.length : Int) then (if (rd x39 x41) < 0 then (some 2) else (if (rd x39 x41) ≥ x3 then (some 2) else (netlist_ends.l1 k x3 x39 x40 (wrap64 (x41 + 1))))) else (none)) else (none)) else (some 0)
end
def netlist_ends.f (k : Nat) (l0_0 : List ByteArray) (l0_1 : List ByteArray) (l0_2 : List (S82)) (l0_3 : List (S80)) (l0_4 : List Int) : Option (Int) := (netlist_Nets.f l0_0 l0_1 l0_2 l0_3 l0_4).bind fun t105 => (netlist_ends.l0 k t105 l0_2 (l0_2.length : Int) 0 l0_0 l0_1 l0_2 l0_3 l0_4)
theorem netlist_ends.mono_l : ∀ k, (∀ y0 y1 y2 y3 y4 y5 y6 y7 y8, LeO (netlist_ends.l0 k y0 y1 y2 y3 y4 y5 y6 y7 y8) (netlist_ends.l0 (k + 1) y0 y1 y2 y3 y4 y5 y6 y7 y8)) ∧ (∀ y0 y1 y2 y3, LeO (netlist_ends.l1 k y0 y1 y2 y3) (netlist_ends.l1 (k + 1) y0 y1 y2 y3))
  | 0 => ⟨fun _ _ _ _ _ _ _ _ _ r h => by simp [netlist_ends.l0] at h, fun _ _ _ _ r h => by simp [netlist_ends.l1] at h⟩
  | k + 1 => by
    obtain ⟨ih0, ih1⟩ := netlist_ends.mono_l k
    refine ⟨?_, ?_⟩
    · intro y0 y1 y2 y3 y4 y5 y6 y7 y8
      unfold netlist_ends.l0
      repeat' first
      | (with_reducible exact ih0 _ _ _ _ _ _ _ _ _)
      | (with_reducible exact ih1 _ _ _ _)
      | (with_reducible exact LeO.refl _)
      | (with_reducible exact LeO.none _)
      | (with_reducible refine LeO.ite ?_ ?_)
      | (with_reducible refine LeO.bind ?_ (fun _ => ?_))
      | exact ih0 _ _ _ _ _ _ _ _ _
      | exact ih1 _ _ _ _
      | exact LeO.none _
      | refine LeO.ite ?_ ?_
      | refine LeO.bind ?_ (fun _ => ?_)
    · intro y0 y1 y2 y3
      unfold netlist_ends.l1
      repeat' first
      | (with_reducible exact ih0 _ _ _ _ _ _ _ _ _)
      | (with_reducible exact ih1 _ _ _ _)
      | (with_reducible exact LeO.refl _)
      | (with_reducible exact LeO.none _)
      | (with_reducible refine LeO.ite ?_ ?_)
      | (with_reducible refine LeO.bind ?_ (fun _ => ?_))
      | exact ih0 _ _ _ _ _ _ _ _ _
      | exact ih1 _ _ _ _
      | exact LeO.none _
      | refine LeO.ite ?_ ?_
      | refine LeO.bind ?_ (fun _ => ?_)
theorem netlist_ends.mono : ∀ a0 a1 a2 a3 a4 k, LeO (netlist_ends.f k a0 a1 a2 a3 a4) (netlist_ends.f (k + 1) a0 a1 a2 a3 a4) := by
  intro a0 a1 a2 a3 a4 k
  obtain ⟨ih0, ih1⟩ := netlist_ends.mono_l k
  unfold netlist_ends.f
  repeat' first
      | (with_reducible exact ih0 _ _ _ _ _ _ _ _ _)
      | (with_reducible exact ih1 _ _ _ _)
      | (with_reducible exact LeO.refl _)
      | (with_reducible exact LeO.none _)
      | (with_reducible refine LeO.ite ?_ ?_)
      | (with_reducible refine LeO.bind ?_ (fun _ => ?_))
      | exact ih0 _ _ _ _ _ _ _ _ _
      | exact ih1 _ _ _ _
      | exact LeO.none _
      | refine LeO.ite ?_ ?_
      | refine LeO.bind ?_ (fun _ => ?_)
set_option maxHeartbeats 8000000 in
set_option maxRecDepth 100000 in
theorem netlist_ends.calls (k : Nat) (A0_0 : Option Addr) (c0_0 : Nat) (l0_0 : List ByteArray) (A0_1 : Option Addr) (c0_1 : Nat) (l0_1 : List ByteArray) (A0_2 : Option Addr) (c0_2 : Nat) (l0_2 : List (S82)) (A0_3 : Option Addr) (c0_3 : Nat) (l0_3 : List (S80)) (A0_4 : Option Addr) (c0_4 : Nat) (l0_4 : List Int) (r : Int) (w : World) (hr0_0 : Kd.C Kd.string w A0_0 l0_0.length l0_0) (hc0_0 : l0_0.length ≤ c0_0) (hr0_1 : Kd.C Kd.string w A0_1 l0_1.length l0_1) (hc0_1 : l0_1.length ≤ c0_1) (hr0_2 : Kd.C k82 w A0_2 l0_2.length l0_2) (hc0_2 : l0_2.length ≤ c0_2) (hr0_3 : Kd.C k80 w A0_3 l0_3.length l0_3) (hc0_3 : l0_3.length ≤ c0_3) (hr0_4 : Kd.C (Kd.int .i64) w A0_4 l0_4.length l0_4) (hc0_4 : l0_4.length ≤ c0_4) (h : netlist_ends.f k l0_0 l0_1 l0_2 l0_3 l0_4 = some r) :
    Calls Try.prog 34 #[.agg #[.slice A0_0 l0_0.length c0_0, .slice A0_1 l0_1.length c0_1, .slice A0_2 l0_2.length c0_2, .slice A0_3 l0_3.length c0_3, .slice A0_4 l0_4.length c0_4]] w fun e w' => e = .returned (.int .i64 r) ∧ Below w.heap.size w w' := by
  have hu27 := Try.underlying27
  have hu82 := Try.underlying82
  have HR0_0 := Aside0.mk hr0_0
  have HC0_0 := Aside0.mk hc0_0
  clear hr0_0 hc0_0
  have HR0_1 := Aside0.mk hr0_1
  have HC0_1 := Aside0.mk hc0_1
  clear hr0_1 hc0_1
  have HR0_2 := Aside0.mk hr0_2
  have HC0_2 := Aside0.mk hc0_2
  clear hr0_2 hc0_2
  have HR0_3 := Aside0.mk hr0_3
  have HC0_3 := Aside0.mk hc0_3
  clear hr0_3 hc0_3
  have HR0_4 := Aside0.mk hr0_4
  have HC0_4 := Aside0.mk hc0_4
  clear hr0_4 hc0_4
  have HB := Aside0.mk (Below.refl w.heap.size w)
  have H : ((netlist_Nets.f l0_0 l0_1 l0_2 l0_3 l0_4).bind fun t105 => (netlist_ends.l0 k t105 l0_2 (l0_2.length : Int) 0 l0_0 l0_1 l0_2 l0_3 l0_4)) = some r := h
  clear h
  replace H := Option.bind_eq_some_iff.mp H
  obtain ⟨t105, A20, H⟩ := H
  replace H : (netlist_ends.l0 k t105 l0_2 (l0_2.length : Int) 0 l0_0 l0_1 l0_2 l0_3 l0_4) = some r := H
  have A2 := Aside0.mk A20
  clear A20
  have H' := Aside0.mk H
  clear H
  go_enter Try.func34, Try.ntmps34
  go_wp2_with (first | ((with_reducible refine gate_dst (N := 1) rfl ?_); refine box_event ?hg (N := 1) ?hd (cs := #[.slice A0_0 l0_0.length c0_0, .slice A0_1 l0_1.length c0_1, .slice A0_2 l0_2.length c0_2, .slice A0_3 l0_3.length c0_3, .slice A0_4 l0_4.length c0_4]) (t := 27) ?hr ?_; (case hd => rfl); (case hg => rfl); (case hr => first | (go_simp; done) | (go_simp; rfl)); intro gb104 hg w3 hbox hb; have n0_ := Aside0.mk (below_step (by repeat (first | (with_reducible first | exact HB.out | apply below_alloc | apply pw_below_drewN | apply below_drew1) | exact HB.out)) hb); have n1_ := Aside0.mk (hbox); have n2_ := Aside0.mk ((by rw [hg]; exact (below_size (by repeat (first | (with_reducible first | exact HB.out | apply below_alloc | apply pw_below_drewN | apply below_drew1) | exact HB.out))) : w.heap.size ≤ gb104)); have n3_ := Aside0.mk ((by rw [hg]; exact (below_size (by repeat (first | (with_reducible first | exact HB.out | apply below_alloc | apply pw_below_drewN | apply below_drew1) | exact HB.out))) : w.heap.size ≤ gb104)); clear HB; have HB := n0_; have BK104 := n1_; have GW104 := n2_; have GE104 := n3_; clear n0_ n1_ n2_ n3_; clear hb hbox hg; have hcz4_0 : w3.cell? ⟨gb104, 0, none⟩ = some (.slice A0_0 l0_0.length c0_0) := (blk_cell BK104.out 0).trans rfl; have hcz4_1 : w3.cell? ⟨gb104, 1, none⟩ = some (.slice A0_1 l0_1.length c0_1) := (blk_cell BK104.out 1).trans rfl; have hcz4_2 : w3.cell? ⟨gb104, 2, none⟩ = some (.slice A0_2 l0_2.length c0_2) := (blk_cell BK104.out 2).trans rfl; have hcz4_3 : w3.cell? ⟨gb104, 3, none⟩ = some (.slice A0_3 l0_3.length c0_3) := (blk_cell BK104.out 3).trans rfl; have hcz4_4 : w3.cell? ⟨gb104, 4, none⟩ = some (.slice A0_4 l0_4.length c0_4) := (blk_cell BK104.out 4).trans rfl; have hfz4_0 := blk_frozen BK104.out 0; have hfz4_1 := blk_frozen BK104.out 1; have hfz4_2 := blk_frozen BK104.out 2; have hfz4_3 := blk_frozen BK104.out 3; have hfz4_4 := blk_frozen BK104.out 4) | ((with_reducible refine gate_callee (f := 52) rfl ?_); refine goesL_ (some 9) rfl rfl Try.func52 (by kernel_rfl) rfl #[.agg #[.slice A0_0 l0_0.length c0_0, .slice A0_1 l0_1.length c0_1, .slice A0_2 l0_2.length c0_2, .slice A0_3 l0_3.length c0_3, .slice A0_4 l0_4.length c0_4]] rfl (by (try simp only [List.map_toArray, List.map_cons, List.map_nil]); first | done | rfl | (simp only [List.length_drop, List.length_take]; rfl)) ?_; (with_reducible refine (netlist_Nets.calls _ _ l0_0 _ _ l0_1 _ _ l0_2 _ _ l0_3 _ _ l0_4 t105 _ ?side1 ?side2 ?side3 ?side4 ?side5 ?side6 ?side7 ?side8 ?side9 ?side10 A2.out).mono ?_); (case side1 => repeat (first | exact (Kd.C_below HR0_0.out HB.out) | (with_reducible refine Kd.C_alloc ?_ _) | (with_reducible refine Kd.C_drewN ?_ _) | (with_reducible refine Kd.C_drew ?_))); (case side2 => exact HC0_0.out); (case side3 => repeat (first | exact (Kd.C_below HR0_1.out HB.out) | (with_reducible refine Kd.C_alloc ?_ _) | (with_reducible refine Kd.C_drewN ?_ _) | (with_reducible refine Kd.C_drew ?_))); (case side4 => exact HC0_1.out); (case side5 => repeat (first | exact (Kd.C_below HR0_2.out HB.out) | (with_reducible refine Kd.C_alloc ?_ _) | (with_reducible refine Kd.C_drewN ?_ _) | (with_reducible refine Kd.C_drew ?_))); (case side6 => exact HC0_2.out); (case side7 => repeat (first | exact (Kd.C_below HR0_3.out HB.out) | (with_reducible refine Kd.C_alloc ?_ _) | (with_reducible refine Kd.C_drewN ?_ _) | (with_reducible refine Kd.C_drew ?_))); (case side8 => exact HC0_3.out); (case side9 => repeat (first | exact (Kd.C_below HR0_4.out HB.out) | (with_reducible refine Kd.C_alloc ?_ _) | (with_reducible refine Kd.C_drewN ?_ _) | (with_reducible refine Kd.C_drew ?_))); (case side10 => exact HC0_4.out); rintro e w5 ⟨rfl, hb⟩; refine ⟨_, rfl, ?_⟩; have n0_ := Aside0.mk (blk_below (g := gb104) (o := .cells #[.slice A0_0 l0_0.length c0_0, .slice A0_1 l0_1.length c0_1, .slice A0_2 l0_2.length c0_2, .slice A0_3 l0_3.length c0_3, .slice A0_4 l0_4.length c0_4] 27 (0, 0)) (by (with_reducible repeat (first | refine blk_drewN ?_ _ | refine blk_drew ?_ | refine blk_alloc ?_ _)); exact BK104.out) hb); have n1_ := Aside0.mk (below_step (by repeat (first | (with_reducible first | exact HB.out | apply below_alloc | apply pw_below_drewN | apply below_drew1 | refine below_set ?_ GE104.out) | exact HB.out)) hb); clear BK104; clear HB; have BK104 := n0_; have HB := n1_; clear n0_ n1_; (try clear hb); (try clear hb2); (try clear hk); (try clear hi); have hcz6_0 : w5.cell? ⟨gb104, 0, none⟩ = some (.slice A0_0 l0_0.length c0_0) := (blk_cell BK104.out 0).trans rfl; have hcz6_1 : w5.cell? ⟨gb104, 1, none⟩ = some (.slice A0_1 l0_1.length c0_1) := (blk_cell BK104.out 1).trans rfl; have hcz6_2 : w5.cell? ⟨gb104, 2, none⟩ = some (.slice A0_2 l0_2.length c0_2) := (blk_cell BK104.out 2).trans rfl; have hcz6_3 : w5.cell? ⟨gb104, 3, none⟩ = some (.slice A0_3 l0_3.length c0_3) := (blk_cell BK104.out 3).trans rfl; have hcz6_4 : w5.cell? ⟨gb104, 4, none⟩ = some (.slice A0_4 l0_4.length c0_4) := (blk_cell BK104.out 4).trans rfl; have hfz6_0 := blk_frozen BK104.out 0; have hfz6_1 := blk_frozen BK104.out 1; have hfz6_2 := blk_frozen BK104.out 2; have hfz6_3 := blk_frozen BK104.out 3; have hfz6_4 := blk_frozen BK104.out 4))
  go_loopg [13] k (fun kq v13 w' => ∃ (x13_1 : Int), v13 = .int .i64 x13_1 ∧ Aside0 (netlist_ends.l0 kq t105 l0_2 (l0_2.length : Int) x13_1 l0_0 l0_1 l0_2 l0_3 l0_4 = some r) ∧ Aside0 (kq ≤ k) ∧ Aside0 (w'.heap[gb104]? = some (.cells #[(.slice A0_0 l0_0.length c0_0), (.slice A0_1 l0_1.length c0_1), (.slice A0_2 l0_2.length c0_2), (.slice A0_3 l0_3.length c0_3), (.slice A0_4 l0_4.length c0_4)] 27 (0, 0))) ∧ Aside0 (Below w.heap.size w w'))
  case atStart => exact ⟨(0), (by first | rfl | (simp; done) | (simp [*]; done)), H', ⟨Nat.le_refl _⟩, ⟨by (with_reducible repeat (first | refine blk_drewN ?_ _ | refine blk_drew ?_ | refine blk_alloc ?_ _)); exact BK104.out⟩, ⟨by repeat (first | (with_reducible first | exact HB.out | apply below_alloc | apply pw_below_drewN | apply below_drew1 | refine below_set ?_ GE104.out) | exact HB.out)⟩⟩
  case round =>
    clear H'
    try clear p2
    try clear c3
    try clear c5
    try clear hcz4_0
    try clear hcz4_1
    try clear hcz4_2
    try clear hcz4_3
    try clear hcz4_4
    try clear hcz6_0
    try clear hcz6_1
    try clear hcz6_2
    try clear hcz6_3
    try clear hcz6_4
    try clear hfz4_0
    try clear hfz4_1
    try clear hfz4_2
    try clear hfz4_3
    try clear hfz4_4
    try clear hfz6_0
    try clear hfz6_1
    try clear hfz6_2
    try clear hfz6_3
    try clear hfz6_4
    obtain ⟨x13_1, rfl, HA, HK1, BK104, HB⟩ := hrel
    cases gk with
    | zero => exact absurd HA.out (by simp [netlist_ends.l0])
    | succ k1 =>
      have H := HA.out
      clear HA
      simp only [netlist_ends.l0] at H
      by_cases c7 : x13_1 < (l0_2.length : Int)
      · rw [if_pos c7] at H
        have c7b0 : decide (x13_1 < (l0_2.length : Int)) = true := decide_eq_true c7
        clear c7
        by_cases c8 : 0 ≤ x13_1
        · rw [if_pos c8] at H
          have c8b0 : decide (0 ≤ x13_1) = true := decide_eq_true c8
          clear c8
          by_cases c9 : x13_1 < (l0_2.length : Int)
          · rw [if_pos c9] at H
            have c9b0 : decide (x13_1 < (l0_2.length : Int)) = true := decide_eq_true c9
            clear c9
            by_cases c10 : ((rd_T82 l0_2 x13_1).f2) < 0
            · rw [if_pos c10] at H
              have c10b0 : decide (((rd_T82 l0_2 x13_1).f2) < 0) = true := decide_eq_true c10
              clear c10
              obtain rfl := Option.some.inj H
              have p106 : 0 ≤ (x13_1 : Int) := of_decide_eq_true (by first | (with_reducible assumption) | assumption)
              have q106 : x13_1 < (l0_2.length : Int) := of_decide_eq_true (by first | (with_reducible assumption) | assumption)
              obtain ⟨ad106, e106, hx106_0, hx106_1, hx106_2, hx106_3, hx106_4⟩ := at_T82 HR0_2.out x13_1 p106 q106
              cases e106
              replace hx106_0 := (HB.out.cell (World.block_lt_of_cell? w _ hx106_0)).trans hx106_0
              replace hx106_1 := (HB.out.cell (World.block_lt_of_cell? w _ hx106_1)).trans hx106_1
              replace hx106_2 := (HB.out.cell (World.block_lt_of_cell? w _ hx106_2)).trans hx106_2
              replace hx106_3 := (HB.out.cell (World.block_lt_of_cell? w _ hx106_3)).trans hx106_3
              replace hx106_4 := (HB.out.cell (World.block_lt_of_cell? w _ hx106_4)).trans hx106_4
              replace p106 := eq_true p106
              replace q106 := eq_true q106
              go_wp2_with (first | ((with_reducible refine gate_dst (N := 5) rfl ?_); refine box_event ?hg (N := 5) ?hd (cs := #[.string (⟨#[]⟩ : ByteArray), .int .i64 0, .int .i64 0, .int .i64 0, .bool false]) (t := 82) ?hr ?_; (case hd => rfl); (case hg => rfl); (case hr => first | (go_simp; done) | (go_simp; rfl)); intro gb107 hg w11 hbox hb; have n0_ := Aside0.mk (blk_below (g := gb104) (o := .cells #[.slice A0_0 l0_0.length c0_0, .slice A0_1 l0_1.length c0_1, .slice (some ad106) l0_2.length c0_2, .slice A0_3 l0_3.length c0_3, .slice A0_4 l0_4.length c0_4] 27 (0, 0)) (by (with_reducible repeat (first | refine blk_drewN ?_ _ | refine blk_drew ?_ | refine blk_alloc ?_ _)); exact BK104.out) hb); have n1_ := Aside0.mk (below_step (by repeat (first | (with_reducible first | exact HB.out | apply below_alloc | apply pw_below_drewN | apply below_drew1 | refine below_set ?_ GE104.out) | exact HB.out)) hb); have n2_ := Aside0.mk (hbox); have n3_ := Aside0.mk ((by rw [hg]; exact (below_size (by repeat (first | (with_reducible first | exact HB.out | apply below_alloc | apply pw_below_drewN | apply below_drew1 | refine below_set ?_ GE104.out) | exact HB.out))) : w.heap.size ≤ gb107)); have n4_ := Aside0.mk ((by rw [hg]; exact (below_size (by repeat (first | (with_reducible first | exact HB.out | apply below_alloc | apply pw_below_drewN | apply below_drew1 | refine below_set ?_ GE104.out) | exact HB.out))) : w.heap.size ≤ gb107)); have n5_ := Aside0.mk ((by rw [hg]; exact Nat.ne_of_lt (blk_lt (g := gb104) (o := .cells #[.slice A0_0 l0_0.length c0_0, .slice A0_1 l0_1.length c0_1, .slice (some ad106) l0_2.length c0_2, .slice A0_3 l0_3.length c0_3, .slice A0_4 l0_4.length c0_4] 27 (0, 0)) (by (with_reducible repeat (first | refine blk_drewN ?_ _ | refine blk_drew ?_ | refine blk_alloc ?_ _)); exact BK104.out)) : gb104 ≠ gb107)); have n6_ := Aside0.mk ((by rw [hg]; exact Nat.ne_of_gt (blk_lt (g := gb104) (o := .cells #[.slice A0_0 l0_0.length c0_0, .slice A0_1 l0_1.length c0_1, .slice (some ad106) l0_2.length c0_2, .slice A0_3 l0_3.length c0_3, .slice A0_4 l0_4.length c0_4] 27 (0, 0)) (by (with_reducible repeat (first | refine blk_drewN ?_ _ | refine blk_drew ?_ | refine blk_alloc ?_ _)); exact BK104.out)) : gb107 ≠ gb104)); clear BK104; clear HB; have BK104 := n0_; have HB := n1_; have BK107 := n2_; have GW107 := n3_; have GE107 := n4_; have NB104_107 := n5_; have NB107_104 := n6_; clear n0_ n1_ n2_ n3_ n4_ n5_ n6_; clear hb hbox hg; have hnb12 := NB107_104.out; have hnc12 := NB104_107.out; have hcz13_0 : w11.cell? ⟨gb107, 0, none⟩ = some (.string (⟨#[]⟩ : ByteArray)) := (blk_cell BK107.out 0).trans rfl; have hcz13_1 : w11.cell? ⟨gb107, 1, none⟩ = some (.int .i64 0) := (blk_cell BK107.out 1).trans rfl; have hcz13_2 : w11.cell? ⟨gb107, 2, none⟩ = some (.int .i64 0) := (blk_cell BK107.out 2).trans rfl; have hcz13_3 : w11.cell? ⟨gb107, 3, none⟩ = some (.int .i64 0) := (blk_cell BK107.out 3).trans rfl; have hcz13_4 : w11.cell? ⟨gb107, 4, none⟩ = some (.bool false) := (blk_cell BK107.out 4).trans rfl; have hfz13_0 := blk_frozen BK107.out 0; have hfz13_1 := blk_frozen BK107.out 1; have hfz13_2 := blk_frozen BK107.out 2; have hfz13_3 := blk_frozen BK107.out 3; have hfz13_4 := blk_frozen BK107.out 4))
              go_ret
              exact ⟨by first | rfl | (simp [errW_none, errW_some] <;> rfl) | (simp [*, errW_none, errW_some] <;> rfl), by repeat (first | (with_reducible first | exact HB.out | apply below_alloc | apply pw_below_drewN | apply below_drew1 | refine below_set ?_ GE104.out | refine below_set ?_ GE107.out) | exact HB.out)⟩
            · rw [if_neg c10] at H
              have c10b0 : decide (((rd_T82 l0_2 x13_1).f2) < 0) = false := decide_eq_false c10
              clear c10
              by_cases c14 : ((rd_T82 l0_2 x13_1).f2) ≥ t105
              · rw [if_pos c14] at H
                have c14b0 : decide (t105 ≤ ((rd_T82 l0_2 x13_1).f2)) = true := decide_eq_true c14
                clear c14
                obtain rfl := Option.some.inj H
                have p106 : 0 ≤ (x13_1 : Int) := of_decide_eq_true (by first | (with_reducible assumption) | assumption)
                have q106 : x13_1 < (l0_2.length : Int) := of_decide_eq_true (by first | (with_reducible assumption) | assumption)
                obtain ⟨ad106, e106, hx106_0, hx106_1, hx106_2, hx106_3, hx106_4⟩ := at_T82 HR0_2.out x13_1 p106 q106
                cases e106
                replace hx106_0 := (HB.out.cell (World.block_lt_of_cell? w _ hx106_0)).trans hx106_0
                replace hx106_1 := (HB.out.cell (World.block_lt_of_cell? w _ hx106_1)).trans hx106_1
                replace hx106_2 := (HB.out.cell (World.block_lt_of_cell? w _ hx106_2)).trans hx106_2
                replace hx106_3 := (HB.out.cell (World.block_lt_of_cell? w _ hx106_3)).trans hx106_3
                replace hx106_4 := (HB.out.cell (World.block_lt_of_cell? w _ hx106_4)).trans hx106_4
                replace p106 := eq_true p106
                replace q106 := eq_true q106
                go_wp2_with (first | ((with_reducible refine gate_dst (N := 5) rfl ?_); refine box_event ?hg (N := 5) ?hd (cs := #[.string (⟨#[]⟩ : ByteArray), .int .i64 0, .int .i64 0, .int .i64 0, .bool false]) (t := 82) ?hr ?_; (case hd => rfl); (case hg => rfl); (case hr => first | (go_simp; done) | (go_simp; rfl)); intro gb107 hg w15 hbox hb; have n0_ := Aside0.mk (blk_below (g := gb104) (o := .cells #[.slice A0_0 l0_0.length c0_0, .slice A0_1 l0_1.length c0_1, .slice (some ad106) l0_2.length c0_2, .slice A0_3 l0_3.length c0_3, .slice A0_4 l0_4.length c0_4] 27 (0, 0)) (by (with_reducible repeat (first | refine blk_drewN ?_ _ | refine blk_drew ?_ | refine blk_alloc ?_ _)); exact BK104.out) hb); have n1_ := Aside0.mk (below_step (by repeat (first | (with_reducible first | exact HB.out | apply below_alloc | apply pw_below_drewN | apply below_drew1 | refine below_set ?_ GE104.out) | exact HB.out)) hb); have n2_ := Aside0.mk (hbox); have n3_ := Aside0.mk ((by rw [hg]; exact (below_size (by repeat (first | (with_reducible first | exact HB.out | apply below_alloc | apply pw_below_drewN | apply below_drew1 | refine below_set ?_ GE104.out) | exact HB.out))) : w.heap.size ≤ gb107)); have n4_ := Aside0.mk ((by rw [hg]; exact (below_size (by repeat (first | (with_reducible first | exact HB.out | apply below_alloc | apply pw_below_drewN | apply below_drew1 | refine below_set ?_ GE104.out) | exact HB.out))) : w.heap.size ≤ gb107)); have n5_ := Aside0.mk ((by rw [hg]; exact Nat.ne_of_lt (blk_lt (g := gb104) (o := .cells #[.slice A0_0 l0_0.length c0_0, .slice A0_1 l0_1.length c0_1, .slice (some ad106) l0_2.length c0_2, .slice A0_3 l0_3.length c0_3, .slice A0_4 l0_4.length c0_4] 27 (0, 0)) (by (with_reducible repeat (first | refine blk_drewN ?_ _ | refine blk_drew ?_ | refine blk_alloc ?_ _)); exact BK104.out)) : gb104 ≠ gb107)); have n6_ := Aside0.mk ((by rw [hg]; exact Nat.ne_of_gt (blk_lt (g := gb104) (o := .cells #[.slice A0_0 l0_0.length c0_0, .slice A0_1 l0_1.length c0_1, .slice (some ad106) l0_2.length c0_2, .slice A0_3 l0_3.length c0_3, .slice A0_4 l0_4.length c0_4] 27 (0, 0)) (by (with_reducible repeat (first | refine blk_drewN ?_ _ | refine blk_drew ?_ | refine blk_alloc ?_ _)); exact BK104.out)) : gb107 ≠ gb104)); clear BK104; clear HB; have BK104 := n0_; have HB := n1_; have BK107 := n2_; have GW107 := n3_; have GE107 := n4_; have NB104_107 := n5_; have NB107_104 := n6_; clear n0_ n1_ n2_ n3_ n4_ n5_ n6_; clear hb hbox hg; have hnb16 := NB107_104.out; have hnc16 := NB104_107.out; have hcz17_0 : w15.cell? ⟨gb107, 0, none⟩ = some (.string (⟨#[]⟩ : ByteArray)) := (blk_cell BK107.out 0).trans rfl; have hcz17_1 : w15.cell? ⟨gb107, 1, none⟩ = some (.int .i64 0) := (blk_cell BK107.out 1).trans rfl; have hcz17_2 : w15.cell? ⟨gb107, 2, none⟩ = some (.int .i64 0) := (blk_cell BK107.out 2).trans rfl; have hcz17_3 : w15.cell? ⟨gb107, 3, none⟩ = some (.int .i64 0) := (blk_cell BK107.out 3).trans rfl; have hcz17_4 : w15.cell? ⟨gb107, 4, none⟩ = some (.bool false) := (blk_cell BK107.out 4).trans rfl; have hfz17_0 := blk_frozen BK107.out 0; have hfz17_1 := blk_frozen BK107.out 1; have hfz17_2 := blk_frozen BK107.out 2; have hfz17_3 := blk_frozen BK107.out 3; have hfz17_4 := blk_frozen BK107.out 4))
                go_ret
                exact ⟨by first | rfl | (simp [errW_none, errW_some] <;> rfl) | (simp [*, errW_none, errW_some] <;> rfl), by repeat (first | (with_reducible first | exact HB.out | apply below_alloc | apply pw_below_drewN | apply below_drew1 | refine below_set ?_ GE104.out | refine below_set ?_ GE107.out) | exact HB.out)⟩
              · rw [if_neg c14] at H
                have c14b0 : decide (t105 ≤ ((rd_T82 l0_2 x13_1).f2)) = false := decide_eq_false c14
                clear c14
                by_cases c18 : ((rd_T82 l0_2 x13_1).f3) < 0
                · rw [if_pos c18] at H
                  have c18b0 : decide (((rd_T82 l0_2 x13_1).f3) < 0) = true := decide_eq_true c18
                  clear c18
                  obtain rfl := Option.some.inj H
                  have p106 : 0 ≤ (x13_1 : Int) := of_decide_eq_true (by first | (with_reducible assumption) | assumption)
                  have q106 : x13_1 < (l0_2.length : Int) := of_decide_eq_true (by first | (with_reducible assumption) | assumption)
                  obtain ⟨ad106, e106, hx106_0, hx106_1, hx106_2, hx106_3, hx106_4⟩ := at_T82 HR0_2.out x13_1 p106 q106
                  cases e106
                  replace hx106_0 := (HB.out.cell (World.block_lt_of_cell? w _ hx106_0)).trans hx106_0
                  replace hx106_1 := (HB.out.cell (World.block_lt_of_cell? w _ hx106_1)).trans hx106_1
                  replace hx106_2 := (HB.out.cell (World.block_lt_of_cell? w _ hx106_2)).trans hx106_2
                  replace hx106_3 := (HB.out.cell (World.block_lt_of_cell? w _ hx106_3)).trans hx106_3
                  replace hx106_4 := (HB.out.cell (World.block_lt_of_cell? w _ hx106_4)).trans hx106_4
                  replace p106 := eq_true p106
                  replace q106 := eq_true q106
                  go_wp2_with (first | ((with_reducible refine gate_dst (N := 5) rfl ?_); refine box_event ?hg (N := 5) ?hd (cs := #[.string (⟨#[]⟩ : ByteArray), .int .i64 0, .int .i64 0, .int .i64 0, .bool false]) (t := 82) ?hr ?_; (case hd => rfl); (case hg => rfl); (case hr => first | (go_simp; done) | (go_simp; rfl)); intro gb107 hg w19 hbox hb; have n0_ := Aside0.mk (blk_below (g := gb104) (o := .cells #[.slice A0_0 l0_0.length c0_0, .slice A0_1 l0_1.length c0_1, .slice (some ad106) l0_2.length c0_2, .slice A0_3 l0_3.length c0_3, .slice A0_4 l0_4.length c0_4] 27 (0, 0)) (by (with_reducible repeat (first | refine blk_drewN ?_ _ | refine blk_drew ?_ | refine blk_alloc ?_ _)); exact BK104.out) hb); have n1_ := Aside0.mk (below_step (by repeat (first | (with_reducible first | exact HB.out | apply below_alloc | apply pw_below_drewN | apply below_drew1 | refine below_set ?_ GE104.out) | exact HB.out)) hb); have n2_ := Aside0.mk (hbox); have n3_ := Aside0.mk ((by rw [hg]; exact (below_size (by repeat (first | (with_reducible first | exact HB.out | apply below_alloc | apply pw_below_drewN | apply below_drew1 | refine below_set ?_ GE104.out) | exact HB.out))) : w.heap.size ≤ gb107)); have n4_ := Aside0.mk ((by rw [hg]; exact (below_size (by repeat (first | (with_reducible first | exact HB.out | apply below_alloc | apply pw_below_drewN | apply below_drew1 | refine below_set ?_ GE104.out) | exact HB.out))) : w.heap.size ≤ gb107)); have n5_ := Aside0.mk ((by rw [hg]; exact Nat.ne_of_lt (blk_lt (g := gb104) (o := .cells #[.slice A0_0 l0_0.length c0_0, .slice A0_1 l0_1.length c0_1, .slice (some ad106) l0_2.length c0_2, .slice A0_3 l0_3.length c0_3, .slice A0_4 l0_4.length c0_4] 27 (0, 0)) (by (with_reducible repeat (first | refine blk_drewN ?_ _ | refine blk_drew ?_ | refine blk_alloc ?_ _)); exact BK104.out)) : gb104 ≠ gb107)); have n6_ := Aside0.mk ((by rw [hg]; exact Nat.ne_of_gt (blk_lt (g := gb104) (o := .cells #[.slice A0_0 l0_0.length c0_0, .slice A0_1 l0_1.length c0_1, .slice (some ad106) l0_2.length c0_2, .slice A0_3 l0_3.length c0_3, .slice A0_4 l0_4.length c0_4] 27 (0, 0)) (by (with_reducible repeat (first | refine blk_drewN ?_ _ | refine blk_drew ?_ | refine blk_alloc ?_ _)); exact BK104.out)) : gb107 ≠ gb104)); clear BK104; clear HB; have BK104 := n0_; have HB := n1_; have BK107 := n2_; have GW107 := n3_; have GE107 := n4_; have NB104_107 := n5_; have NB107_104 := n6_; clear n0_ n1_ n2_ n3_ n4_ n5_ n6_; clear hb hbox hg; have hnb20 := NB107_104.out; have hnc20 := NB104_107.out; have hcz21_0 : w19.cell? ⟨gb107, 0, none⟩ = some (.string (⟨#[]⟩ : ByteArray)) := (blk_cell BK107.out 0).trans rfl; have hcz21_1 : w19.cell? ⟨gb107, 1, none⟩ = some (.int .i64 0) := (blk_cell BK107.out 1).trans rfl; have hcz21_2 : w19.cell? ⟨gb107, 2, none⟩ = some (.int .i64 0) := (blk_cell BK107.out 2).trans rfl; have hcz21_3 : w19.cell? ⟨gb107, 3, none⟩ = some (.int .i64 0) := (blk_cell BK107.out 3).trans rfl; have hcz21_4 : w19.cell? ⟨gb107, 4, none⟩ = some (.bool false) := (blk_cell BK107.out 4).trans rfl; have hfz21_0 := blk_frozen BK107.out 0; have hfz21_1 := blk_frozen BK107.out 1; have hfz21_2 := blk_frozen BK107.out 2; have hfz21_3 := blk_frozen BK107.out 3; have hfz21_4 := blk_frozen BK107.out 4))
                  go_ret
                  exact ⟨by first | rfl | (simp [errW_none, errW_some] <;> rfl) | (simp [*, errW_none, errW_some] <;> rfl), by repeat (first | (with_reducible first | exact HB.out | apply below_alloc | apply pw_below_drewN | apply below_drew1 | refine below_set ?_ GE104.out | refine below_set ?_ GE107.out) | exact HB.out)⟩
                · rw [if_neg c18] at H
                  have c18b0 : decide (((rd_T82 l0_2 x13_1).f3) < 0) = false := decide_eq_false c18
                  clear c18
                  by_cases c22 : ((rd_T82 l0_2 x13_1).f3) ≥ t105
                  · rw [if_pos c22] at H
                    have c22b0 : decide (t105 ≤ ((rd_T82 l0_2 x13_1).f3)) = true := decide_eq_true c22
                    clear c22
                    obtain rfl := Option.some.inj H
                    have p106 : 0 ≤ (x13_1 : Int) := of_decide_eq_true (by first | (with_reducible assumption) | assumption)
                    have q106 : x13_1 < (l0_2.length : Int) := of_decide_eq_true (by first | (with_reducible assumption) | assumption)
                    obtain ⟨ad106, e106, hx106_0, hx106_1, hx106_2, hx106_3, hx106_4⟩ := at_T82 HR0_2.out x13_1 p106 q106
                    cases e106
                    replace hx106_0 := (HB.out.cell (World.block_lt_of_cell? w _ hx106_0)).trans hx106_0
                    replace hx106_1 := (HB.out.cell (World.block_lt_of_cell? w _ hx106_1)).trans hx106_1
                    replace hx106_2 := (HB.out.cell (World.block_lt_of_cell? w _ hx106_2)).trans hx106_2
                    replace hx106_3 := (HB.out.cell (World.block_lt_of_cell? w _ hx106_3)).trans hx106_3
                    replace hx106_4 := (HB.out.cell (World.block_lt_of_cell? w _ hx106_4)).trans hx106_4
                    replace p106 := eq_true p106
                    replace q106 := eq_true q106
                    go_wp2_with (first | ((with_reducible refine gate_dst (N := 5) rfl ?_); refine box_event ?hg (N := 5) ?hd (cs := #[.string (⟨#[]⟩ : ByteArray), .int .i64 0, .int .i64 0, .int .i64 0, .bool false]) (t := 82) ?hr ?_; (case hd => rfl); (case hg => rfl); (case hr => first | (go_simp; done) | (go_simp; rfl)); intro gb107 hg w23 hbox hb; have n0_ := Aside0.mk (blk_below (g := gb104) (o := .cells #[.slice A0_0 l0_0.length c0_0, .slice A0_1 l0_1.length c0_1, .slice (some ad106) l0_2.length c0_2, .slice A0_3 l0_3.length c0_3, .slice A0_4 l0_4.length c0_4] 27 (0, 0)) (by (with_reducible repeat (first | refine blk_drewN ?_ _ | refine blk_drew ?_ | refine blk_alloc ?_ _)); exact BK104.out) hb); have n1_ := Aside0.mk (below_step (by repeat (first | (with_reducible first | exact HB.out | apply below_alloc | apply pw_below_drewN | apply below_drew1 | refine below_set ?_ GE104.out) | exact HB.out)) hb); have n2_ := Aside0.mk (hbox); have n3_ := Aside0.mk ((by rw [hg]; exact (below_size (by repeat (first | (with_reducible first | exact HB.out | apply below_alloc | apply pw_below_drewN | apply below_drew1 | refine below_set ?_ GE104.out) | exact HB.out))) : w.heap.size ≤ gb107)); have n4_ := Aside0.mk ((by rw [hg]; exact (below_size (by repeat (first | (with_reducible first | exact HB.out | apply below_alloc | apply pw_below_drewN | apply below_drew1 | refine below_set ?_ GE104.out) | exact HB.out))) : w.heap.size ≤ gb107)); have n5_ := Aside0.mk ((by rw [hg]; exact Nat.ne_of_lt (blk_lt (g := gb104) (o := .cells #[.slice A0_0 l0_0.length c0_0, .slice A0_1 l0_1.length c0_1, .slice (some ad106) l0_2.length c0_2, .slice A0_3 l0_3.length c0_3, .slice A0_4 l0_4.length c0_4] 27 (0, 0)) (by (with_reducible repeat (first | refine blk_drewN ?_ _ | refine blk_drew ?_ | refine blk_alloc ?_ _)); exact BK104.out)) : gb104 ≠ gb107)); have n6_ := Aside0.mk ((by rw [hg]; exact Nat.ne_of_gt (blk_lt (g := gb104) (o := .cells #[.slice A0_0 l0_0.length c0_0, .slice A0_1 l0_1.length c0_1, .slice (some ad106) l0_2.length c0_2, .slice A0_3 l0_3.length c0_3, .slice A0_4 l0_4.length c0_4] 27 (0, 0)) (by (with_reducible repeat (first | refine blk_drewN ?_ _ | refine blk_drew ?_ | refine blk_alloc ?_ _)); exact BK104.out)) : gb107 ≠ gb104)); clear BK104; clear HB; have BK104 := n0_; have HB := n1_; have BK107 := n2_; have GW107 := n3_; have GE107 := n4_; have NB104_107 := n5_; have NB107_104 := n6_; clear n0_ n1_ n2_ n3_ n4_ n5_ n6_; clear hb hbox hg; have hnb24 := NB107_104.out; have hnc24 := NB104_107.out; have hcz25_0 : w23.cell? ⟨gb107, 0, none⟩ = some (.string (⟨#[]⟩ : ByteArray)) := (blk_cell BK107.out 0).trans rfl; have hcz25_1 : w23.cell? ⟨gb107, 1, none⟩ = some (.int .i64 0) := (blk_cell BK107.out 1).trans rfl; have hcz25_2 : w23.cell? ⟨gb107, 2, none⟩ = some (.int .i64 0) := (blk_cell BK107.out 2).trans rfl; have hcz25_3 : w23.cell? ⟨gb107, 3, none⟩ = some (.int .i64 0) := (blk_cell BK107.out 3).trans rfl; have hcz25_4 : w23.cell? ⟨gb107, 4, none⟩ = some (.bool false) := (blk_cell BK107.out 4).trans rfl; have hfz25_0 := blk_frozen BK107.out 0; have hfz25_1 := blk_frozen BK107.out 1; have hfz25_2 := blk_frozen BK107.out 2; have hfz25_3 := blk_frozen BK107.out 3; have hfz25_4 := blk_frozen BK107.out 4))
                    go_ret
                    exact ⟨by first | rfl | (simp [errW_none, errW_some] <;> rfl) | (simp [*, errW_none, errW_some] <;> rfl), by repeat (first | (with_reducible first | exact HB.out | apply below_alloc | apply pw_below_drewN | apply below_drew1 | refine below_set ?_ GE104.out | refine below_set ?_ GE107.out) | exact HB.out)⟩
                  · rw [if_neg c22] at H
                    have c22b0 : decide (t105 ≤ ((rd_T82 l0_2 x13_1).f3)) = false := decide_eq_false c22
                    clear c22
                    have H' := Aside0.mk H
                    clear H
                    have p106 : 0 ≤ (x13_1 : Int) := of_decide_eq_true (by first | (with_reducible assumption) | assumption)
                    have q106 : x13_1 < (l0_2.length : Int) := of_decide_eq_true (by first | (with_reducible assumption) | assumption)
                    obtain ⟨ad106, e106, hx106_0, hx106_1, hx106_2, hx106_3, hx106_4⟩ := at_T82 HR0_2.out x13_1 p106 q106
                    cases e106
                    replace hx106_0 := (HB.out.cell (World.block_lt_of_cell? w _ hx106_0)).trans hx106_0
                    replace hx106_1 := (HB.out.cell (World.block_lt_of_cell? w _ hx106_1)).trans hx106_1
                    replace hx106_2 := (HB.out.cell (World.block_lt_of_cell? w _ hx106_2)).trans hx106_2
                    replace hx106_3 := (HB.out.cell (World.block_lt_of_cell? w _ hx106_3)).trans hx106_3
                    replace hx106_4 := (HB.out.cell (World.block_lt_of_cell? w _ hx106_4)).trans hx106_4
                    replace p106 := eq_true p106
                    replace q106 := eq_true q106
                    go_wp2_with (first | ((with_reducible refine gate_dst (N := 5) rfl ?_); refine box_event ?hg (N := 5) ?hd (cs := #[.string (⟨#[]⟩ : ByteArray), .int .i64 0, .int .i64 0, .int .i64 0, .bool false]) (t := 82) ?hr ?_; (case hd => rfl); (case hg => rfl); (case hr => first | (go_simp; done) | (go_simp; rfl)); intro gb107 hg w26 hbox hb; have n0_ := Aside0.mk (blk_below (g := gb104) (o := .cells #[.slice A0_0 l0_0.length c0_0, .slice A0_1 l0_1.length c0_1, .slice (some ad106) l0_2.length c0_2, .slice A0_3 l0_3.length c0_3, .slice A0_4 l0_4.length c0_4] 27 (0, 0)) (by (with_reducible repeat (first | refine blk_drewN ?_ _ | refine blk_drew ?_ | refine blk_alloc ?_ _)); exact BK104.out) hb); have n1_ := Aside0.mk (below_step (by repeat (first | (with_reducible first | exact HB.out | apply below_alloc | apply pw_below_drewN | apply below_drew1 | refine below_set ?_ GE104.out) | exact HB.out)) hb); have n2_ := Aside0.mk (hbox); have n3_ := Aside0.mk ((by rw [hg]; exact (below_size (by repeat (first | (with_reducible first | exact HB.out | apply below_alloc | apply pw_below_drewN | apply below_drew1 | refine below_set ?_ GE104.out) | exact HB.out))) : w.heap.size ≤ gb107)); have n4_ := Aside0.mk ((by rw [hg]; exact (below_size (by repeat (first | (with_reducible first | exact HB.out | apply below_alloc | apply pw_below_drewN | apply below_drew1 | refine below_set ?_ GE104.out) | exact HB.out))) : w.heap.size ≤ gb107)); have n5_ := Aside0.mk ((by rw [hg]; exact Nat.ne_of_lt (blk_lt (g := gb104) (o := .cells #[.slice A0_0 l0_0.length c0_0, .slice A0_1 l0_1.length c0_1, .slice (some ad106) l0_2.length c0_2, .slice A0_3 l0_3.length c0_3, .slice A0_4 l0_4.length c0_4] 27 (0, 0)) (by (with_reducible repeat (first | refine blk_drewN ?_ _ | refine blk_drew ?_ | refine blk_alloc ?_ _)); exact BK104.out)) : gb104 ≠ gb107)); have n6_ := Aside0.mk ((by rw [hg]; exact Nat.ne_of_gt (blk_lt (g := gb104) (o := .cells #[.slice A0_0 l0_0.length c0_0, .slice A0_1 l0_1.length c0_1, .slice (some ad106) l0_2.length c0_2, .slice A0_3 l0_3.length c0_3, .slice A0_4 l0_4.length c0_4] 27 (0, 0)) (by (with_reducible repeat (first | refine blk_drewN ?_ _ | refine blk_drew ?_ | refine blk_alloc ?_ _)); exact BK104.out)) : gb107 ≠ gb104)); clear BK104; clear HB; have BK104 := n0_; have HB := n1_; have BK107 := n2_; have GW107 := n3_; have GE107 := n4_; have NB104_107 := n5_; have NB107_104 := n6_; clear n0_ n1_ n2_ n3_ n4_ n5_ n6_; clear hb hbox hg; have hnb27 := NB107_104.out; have hnc27 := NB104_107.out; have hcz28_0 : w26.cell? ⟨gb107, 0, none⟩ = some (.string (⟨#[]⟩ : ByteArray)) := (blk_cell BK107.out 0).trans rfl; have hcz28_1 : w26.cell? ⟨gb107, 1, none⟩ = some (.int .i64 0) := (blk_cell BK107.out 1).trans rfl; have hcz28_2 : w26.cell? ⟨gb107, 2, none⟩ = some (.int .i64 0) := (blk_cell BK107.out 2).trans rfl; have hcz28_3 : w26.cell? ⟨gb107, 3, none⟩ = some (.int .i64 0) := (blk_cell BK107.out 3).trans rfl; have hcz28_4 : w26.cell? ⟨gb107, 4, none⟩ = some (.bool false) := (blk_cell BK107.out 4).trans rfl; have hfz28_0 := blk_frozen BK107.out 0; have hfz28_1 := blk_frozen BK107.out 1; have hfz28_2 := blk_frozen BK107.out 2; have hfz28_3 := blk_frozen BK107.out 3; have hfz28_4 := blk_frozen BK107.out 4))
                    go_roundg k1
                    case measure => have := HK1.out; omega
                    case rel => exact ⟨(wrap64 (x13_1 + 1)), (by first | rfl | (simp; done) | (simp [*]; done)), H', ⟨by have := HK1.out; omega⟩, ⟨by (with_reducible repeat (first | refine blk_drewN ?_ _ | refine blk_drew ?_ | refine blk_alloc ?_ _)); refine blk_far ?_ NB104_107.out _; (with_reducible repeat (first | refine blk_drewN ?_ _ | refine blk_drew ?_ | refine blk_alloc ?_ _)); refine blk_far ?_ NB104_107.out _; (with_reducible repeat (first | refine blk_drewN ?_ _ | refine blk_drew ?_ | refine blk_alloc ?_ _)); refine blk_far ?_ NB104_107.out _; (with_reducible repeat (first | refine blk_drewN ?_ _ | refine blk_drew ?_ | refine blk_alloc ?_ _)); refine blk_far ?_ NB104_107.out _; (with_reducible repeat (first | refine blk_drewN ?_ _ | refine blk_drew ?_ | refine blk_alloc ?_ _)); refine blk_far ?_ NB104_107.out _; (with_reducible repeat (first | refine blk_drewN ?_ _ | refine blk_drew ?_ | refine blk_alloc ?_ _)); exact BK104.out⟩, ⟨by repeat (first | (with_reducible first | exact HB.out | apply below_alloc | apply pw_below_drewN | apply below_drew1 | refine below_set ?_ GE104.out | refine below_set ?_ GE107.out) | exact HB.out)⟩⟩
          · rw [if_neg c9] at H
            exact absurd H (by simp)
        · rw [if_neg c8] at H
          exact absurd H (by simp)
      · rw [if_neg c7] at H
        have c7b0 : decide (x13_1 < (l0_2.length : Int)) = false := decide_eq_false c7
        clear c7
        have H' := Aside0.mk H
        clear H
        have hcz29_0 : wr.cell? ⟨gb104, 0, none⟩ = some (.slice A0_0 l0_0.length c0_0) := (blk_cell BK104.out 0).trans rfl
        have hcz29_1 : wr.cell? ⟨gb104, 1, none⟩ = some (.slice A0_1 l0_1.length c0_1) := (blk_cell BK104.out 1).trans rfl
        have hcz29_2 : wr.cell? ⟨gb104, 2, none⟩ = some (.slice A0_2 l0_2.length c0_2) := (blk_cell BK104.out 2).trans rfl
        have hcz29_3 : wr.cell? ⟨gb104, 3, none⟩ = some (.slice A0_3 l0_3.length c0_3) := (blk_cell BK104.out 3).trans rfl
        have hcz29_4 : wr.cell? ⟨gb104, 4, none⟩ = some (.slice A0_4 l0_4.length c0_4) := (blk_cell BK104.out 4).trans rfl
        have hfz29_0 := blk_frozen BK104.out 0
        have hfz29_1 := blk_frozen BK104.out 1
        have hfz29_2 := blk_frozen BK104.out 2
        have hfz29_3 := blk_frozen BK104.out 3
        have hfz29_4 := blk_frozen BK104.out 4
        go_wp2
        go_loopg [41] k1 (fun kq v41 w' => ∃ (x41_2 : Int), v41 = .int .i64 x41_2 ∧ Aside0 (netlist_ends.l1 kq t105 l0_4 (l0_4.length : Int) x41_2 = some r) ∧ Aside0 (kq ≤ k1) ∧ Aside0 (w'.heap[gb104]? = some (.cells #[(.slice A0_0 l0_0.length c0_0), (.slice A0_1 l0_1.length c0_1), (.slice A0_2 l0_2.length c0_2), (.slice A0_3 l0_3.length c0_3), (.slice A0_4 l0_4.length c0_4)] 27 (0, 0))) ∧ Aside0 (Below w.heap.size w w'))
        case atStart => exact ⟨(0), (by first | rfl | (simp; done) | (simp [*]; done)), H', ⟨Nat.le_refl _⟩, ⟨by (with_reducible repeat (first | refine blk_drewN ?_ _ | refine blk_drew ?_ | refine blk_alloc ?_ _)); exact BK104.out⟩, ⟨by repeat (first | (with_reducible first | exact HB.out | apply below_alloc | apply pw_below_drewN | apply below_drew1 | refine below_set ?_ GE104.out) | exact HB.out)⟩⟩
        case round =>
          clear H'
          try clear c1
          try clear p1
          try clear q1
          try clear hx1
          try clear c2
          try clear p2
          try clear c3
          try clear c5
          try clear p6
          try clear c7
          try clear c7b0
          try clear c8
          try clear c8b0
          try clear c9
          try clear c9b0
          try clear c10
          try clear c10b0
          try clear p10
          try clear q10
          try clear hx10
          try clear c12
          try clear c14
          try clear c14b0
          try clear c16
          try clear c18
          try clear c18b0
          try clear c20
          try clear c22
          try clear c22b0
          try clear c24
          try clear c27
          try clear hcz13_0
          try clear hcz13_1
          try clear hcz13_2
          try clear hcz13_3
          try clear hcz13_4
          try clear hcz17_0
          try clear hcz17_1
          try clear hcz17_2
          try clear hcz17_3
          try clear hcz17_4
          try clear hcz21_0
          try clear hcz21_1
          try clear hcz21_2
          try clear hcz21_3
          try clear hcz21_4
          try clear hcz25_0
          try clear hcz25_1
          try clear hcz25_2
          try clear hcz25_3
          try clear hcz25_4
          try clear hcz28_0
          try clear hcz28_1
          try clear hcz28_2
          try clear hcz28_3
          try clear hcz28_4
          try clear hcz29_0
          try clear hcz29_1
          try clear hcz29_2
          try clear hcz29_3
          try clear hcz29_4
          try clear hcz4_0
          try clear hcz4_1
          try clear hcz4_2
          try clear hcz4_3
          try clear hcz4_4
          try clear hcz6_0
          try clear hcz6_1
          try clear hcz6_2
          try clear hcz6_3
          try clear hcz6_4
          try clear hfz13_0
          try clear hfz13_1
          try clear hfz13_2
          try clear hfz13_3
          try clear hfz13_4
          try clear hfz17_0
          try clear hfz17_1
          try clear hfz17_2
          try clear hfz17_3
          try clear hfz17_4
          try clear hfz21_0
          try clear hfz21_1
          try clear hfz21_2
          try clear hfz21_3
          try clear hfz21_4
          try clear hfz25_0
          try clear hfz25_1
          try clear hfz25_2
          try clear hfz25_3
          try clear hfz25_4
          try clear hfz28_0
          try clear hfz28_1
          try clear hfz28_2
          try clear hfz28_3
          try clear hfz28_4
          try clear hfz29_0
          try clear hfz29_1
          try clear hfz29_2
          try clear hfz29_3
          try clear hfz29_4
          try clear hfz4_0
          try clear hfz4_1
          try clear hfz4_2
          try clear hfz4_3
          try clear hfz4_4
          try clear hfz6_0
          try clear hfz6_1
          try clear hfz6_2
          try clear hfz6_3
          try clear hfz6_4
          try clear hx106_0
          try clear hx106_1
          try clear hx106_2
          try clear hx106_3
          try clear hx106_4
          try clear p106
          try clear p2
          try clear q106
          obtain ⟨x41_2, rfl, HA, HK2, BK104, HB⟩ := hrel
          cases gk with
          | zero => exact absurd HA.out (by simp [netlist_ends.l1])
          | succ k2 =>
            have H := HA.out
            clear HA
            simp only [netlist_ends.l1] at H
            by_cases c30 : x41_2 < (l0_4.length : Int)
            · rw [if_pos c30] at H
              have c30b0 : decide (x41_2 < (l0_4.length : Int)) = true := decide_eq_true c30
              clear c30
              by_cases c31 : 0 ≤ x41_2
              · rw [if_pos c31] at H
                have c31b0 : decide (0 ≤ x41_2) = true := decide_eq_true c31
                clear c31
                by_cases c32 : x41_2 < (l0_4.length : Int)
                · rw [if_pos c32] at H
                  have c32b0 : decide (x41_2 < (l0_4.length : Int)) = true := decide_eq_true c32
                  clear c32
                  by_cases c33 : (rd l0_4 x41_2) < 0
                  · rw [if_pos c33] at H
                    have c33b0 : decide ((rd l0_4 x41_2) < 0) = true := decide_eq_true c33
                    clear c33
                    obtain rfl := Option.some.inj H
                    have p108 : 0 ≤ (x41_2 : Int) := of_decide_eq_true (by first | (with_reducible assumption) | assumption)
                    have q108 : x41_2 < (l0_4.length : Int) := of_decide_eq_true (by first | (with_reducible assumption) | assumption)
                    obtain ⟨ad108, e108, hx108_0⟩ := Kd.at_int HR0_4.out x41_2 p108 q108
                    cases e108
                    replace hx108_0 := (HB.out.cell (World.block_lt_of_cell? w _ hx108_0)).trans hx108_0
                    replace p108 := eq_true p108
                    replace q108 := eq_true q108
                    go_wp2
                    go_ret
                    exact ⟨by first | rfl | (simp [errW_none, errW_some] <;> rfl) | (simp [*, errW_none, errW_some] <;> rfl), by repeat (first | (with_reducible first | exact HB.out | apply below_alloc | apply pw_below_drewN | apply below_drew1 | refine below_set ?_ GE104.out) | exact HB.out)⟩
                  · rw [if_neg c33] at H
                    have c33b0 : decide ((rd l0_4 x41_2) < 0) = false := decide_eq_false c33
                    clear c33
                    by_cases c34 : (rd l0_4 x41_2) ≥ t105
                    · rw [if_pos c34] at H
                      have c34b0 : decide (t105 ≤ (rd l0_4 x41_2)) = true := decide_eq_true c34
                      clear c34
                      obtain rfl := Option.some.inj H
                      have p108 : 0 ≤ (x41_2 : Int) := of_decide_eq_true (by first | (with_reducible assumption) | assumption)
                      have q108 : x41_2 < (l0_4.length : Int) := of_decide_eq_true (by first | (with_reducible assumption) | assumption)
                      obtain ⟨ad108, e108, hx108_0⟩ := Kd.at_int HR0_4.out x41_2 p108 q108
                      cases e108
                      replace hx108_0 := (HB.out.cell (World.block_lt_of_cell? w _ hx108_0)).trans hx108_0
                      replace p108 := eq_true p108
                      replace q108 := eq_true q108
                      go_wp2
                      go_ret
                      exact ⟨by first | rfl | (simp [errW_none, errW_some] <;> rfl) | (simp [*, errW_none, errW_some] <;> rfl), by repeat (first | (with_reducible first | exact HB.out | apply below_alloc | apply pw_below_drewN | apply below_drew1 | refine below_set ?_ GE104.out) | exact HB.out)⟩
                    · rw [if_neg c34] at H
                      have c34b0 : decide (t105 ≤ (rd l0_4 x41_2)) = false := decide_eq_false c34
                      clear c34
                      have H' := Aside0.mk H
                      clear H
                      have p108 : 0 ≤ (x41_2 : Int) := of_decide_eq_true (by first | (with_reducible assumption) | assumption)
                      have q108 : x41_2 < (l0_4.length : Int) := of_decide_eq_true (by first | (with_reducible assumption) | assumption)
                      obtain ⟨ad108, e108, hx108_0⟩ := Kd.at_int HR0_4.out x41_2 p108 q108
                      cases e108
                      replace hx108_0 := (HB.out.cell (World.block_lt_of_cell? w _ hx108_0)).trans hx108_0
                      replace p108 := eq_true p108
                      replace q108 := eq_true q108
                      go_wp2
                      go_roundg k2
                      case measure => have := HK1.out; have := HK2.out; omega
                      case rel => exact ⟨(wrap64 (x41_2 + 1)), (by first | rfl | (simp; done) | (simp [*]; done)), H', ⟨by have := HK1.out; have := HK2.out; omega⟩, ⟨by (with_reducible repeat (first | refine blk_drewN ?_ _ | refine blk_drew ?_ | refine blk_alloc ?_ _)); exact BK104.out⟩, ⟨by repeat (first | (with_reducible first | exact HB.out | apply below_alloc | apply pw_below_drewN | apply below_drew1 | refine below_set ?_ GE104.out) | exact HB.out)⟩⟩
                · rw [if_neg c32] at H
                  exact absurd H (by simp)
              · rw [if_neg c31] at H
                exact absurd H (by simp)
            · rw [if_neg c30] at H
              have c30b0 : decide (x41_2 < (l0_4.length : Int)) = false := decide_eq_false c30
              clear c30
              obtain rfl := Option.some.inj H
              go_wp2
              go_ret
              exact ⟨by first | rfl | (simp [errW_none, errW_some] <;> rfl) | (simp [*, errW_none, errW_some] <;> rfl), by repeat (first | (with_reducible first | exact HB.out | apply below_alloc | apply pw_below_drewN | apply below_drew1 | refine below_set ?_ GE104.out) | exact HB.out)⟩

end Go.Proofs.Ytimjccfpobhpeaa.PF
