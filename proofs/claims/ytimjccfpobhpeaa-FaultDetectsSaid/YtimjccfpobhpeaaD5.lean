/- Joined by this session's own program out of its texts: Inject Nums PutB Inject2 PutS Broken PlP PFx11 PFx16 PFx12 PFx17 PFx24 NumP PFx18 InjP FormQ. -/
import Derived.Test.YtimjccfpobhpeaaD4
import Derived.Laws.ResultCell
import Derived.Laws.Rows
import Derived.Test.YtimjccfpobhpeaaD2
import Derived.Test.YtimjccfpobhpeaaD1
namespace Go.Proofs.Ytimjccfpobhpeaa
open Go.RowKit Go.Proofs.YtimjccfpobhpeaaW.PrintWords Go.Proofs.Ytimjccfpobhpeaa.PF
set_option maxRecDepth 100000
theorem results_cell_tmp_row {P : Program} {fn : Func} {p u : Tmp} {ty : TypeId} (h : fn.results = #[.cell p ty, .tmp u]) (tmps : Array Value) (w : World) (g : Nat) (t : TypeId) (cs : Array Value) (fr : Nat × Nat) (d : TypeDesc)
    (hp : tmps.getD p undef = .pointer (some ⟨g, 0, none⟩)) (hg : w.heap[g]? = some (.cells cs t fr))
    (hu : P.underlying ty = some d) (hd : (match d with | .struct _ | .array _ _ => true | _ => false) = true) (hi : (P.info? ty).map (·.size) = some cs.size) :
    (results fn tmps).run P w = .ok (.tuple #[.agg cs, tmps.getD u undef]) w := by
  rw [results_cell_tmp h, hp]
  simp [asAddr, run_loadVar_row w g t ty cs fr d hg hu hd hi]
theorem kd_load {w : World} {A : Option Addr} {n : Nat} {xs : List Load} (h : Kd.C kLoad w A n xs) {i : Nat} {x : Load} (hx : xs[i]? = some x) :
    ∃ b o, A = some ⟨b, o, none⟩ ∧ b < w.heap.size ∧ w.cell? ⟨b, o + i * 3, none⟩ = some (.int .i64 x.f0) ∧ w.cell? ⟨b, o + i * 3 + 1, none⟩ = some (.int .i64 x.f1) ∧ w.cell? ⟨b, o + i * 3 + 2, none⟩ = some (.int .i64 x.f2) := by
  obtain ⟨b, o, cs, rfl, hb, _, hK, hc⟩ := kd_at h (by exact Nat.succ_pos _) hx
  obtain rfl := k77_open hK
  exact ⟨b, o, rfl, hb, hc 0 _ rfl, by have := hc 1 _ rfl; rwa [← Nat.add_assoc] at this, by have := hc 2 _ rfl; rwa [← Nat.add_assoc] at this⟩
theorem kd_rows {w : World} {A : Option Addr} {n : Nat} {xs : List (List Load)} (h : Kd.C (Kd.slice 77 kLoad) w A n xs) {i : Nat} {x : List Load} (hx : xs[i]? = some x) :
    ∃ b o A2 c2, A = some ⟨b, o, none⟩ ∧ b < w.heap.size ∧ w.cell? ⟨b, o + i, none⟩ = some (.slice A2 x.length c2) ∧ Kd.C kLoad w A2 x.length x := by
  obtain ⟨b, o, cs, rfl, hb, _, hK, hc⟩ := kd_at h (by exact Nat.succ_pos _) hx
  obtain ⟨A2, c2, rfl, _, hC⟩ := hK
  refine ⟨b, o, A2, c2, rfl, hb, ?_, hC⟩
  have := hc 0 _ rfl
  simpa [Kd.slice] using this
theorem heap_alloc3_new (w : World) (A B C : Obj) : (((w.alloc A).alloc B).alloc C).heap[w.heap.size + 1 + 1]? = some C := by
  have := heap_alloc_new ((w.alloc A).alloc B) C
  simpa using this
theorem NetR.nil (B : Nat) (w : World) : NetR (fun _ => True) B w (.slice none 0 0) (.slice none 0 0) (.slice none 0 0) (.slice none 0 0) (.slice none 0 0) [] [] [] [] [] :=
  ⟨Kd.R_nil _ _ _ _ _, Kd.R_nil _ _ _ _ _, Kd.R_nil _ _ _ _ _, Kd.S_nil _ _ _ _ _, Kd.R_nil _ _ _ _ _⟩
set_option maxHeartbeats 16000000 in
theorem inject_err1 (A0 A1 A2 A3 A4 : Option Addr) (c0 c1 c2 c3 c4 : Nat) (l0 l1 : List ByteArray) (l2 : List Flop) (l3 : List Gate) (l4 : List Int) (net : Int) (load : Int) (one : Bool) (w : World)
    (err : Int) (he : err ≠ 0) (HL : ∀ W, Below w.heap.size w W → Calls Try.prog 27 #[.agg #[.slice A0 l0.length c0, .slice A1 l1.length c1, .slice A2 l2.length c2, .slice A3 l3.length c3, .slice A4 l4.length c4]] W fun e w' => ∃ v, e = .returned (.tuple #[v, .int .i64 err]) ∧ Below W.heap.size W w') :
    Calls Try.prog 8 #[.agg #[.slice A0 l0.length c0, .slice A1 l1.length c1, .slice A2 l2.length c2, .slice A3 l3.length c3, .slice A4 l4.length c4], .agg #[.int .i64 net, .int .i64 load, .bool one]] w fun e w' => ∃ v0 v1 v2 v3 v4 : Value, e = .returned (.tuple #[.agg #[v0, v1, v2, v3, v4], .int .i64 err]) ∧ NetR (fun _ => True) w.heap.size w' v0 v1 v2 v3 v4 [] [] [] [] [] ∧ Below w.heap.size w w' := by
  have hu := Try.underlying27
  have huF := Try.underlying29
  have hW0 : Below w.heap.size w (((w.alloc (.cells #[.slice A0 l0.length c0, .slice A1 l1.length c1, .slice A2 l2.length c2, .slice A3 l3.length c3, .slice A4 l4.length c4] 27)).alloc (.cells #[.int .i64 net, .int .i64 load, .bool one] 29)).alloc (.cells #[.slice none 0 0, .slice none 0 0, .slice none 0 0, .slice none 0 0, .slice none 0 0] 27)) := (((Below.refl _ _).alloc (Nat.le_refl _) _).alloc (by simp) _).alloc (by simp; omega) _
  have bel : ∀ x : Under (((w.alloc (.cells #[.slice A0 l0.length c0, .slice A1 l1.length c1, .slice A2 l2.length c2, .slice A3 l3.length c3, .slice A4 l4.length c4] 27)).alloc (.cells #[.int .i64 net, .int .i64 load, .bool one] 29)).alloc (.cells #[.slice none 0 0, .slice none 0 0, .slice none 0 0, .slice none 0 0, .slice none 0 0] 27)), Below w.heap.size w x.val := fun x => hW0.trans (x.ok.mono (by simp; omega))
  have hW0s : (((w.alloc (.cells #[.slice A0 l0.length c0, .slice A1 l1.length c1, .slice A2 l2.length c2, .slice A3 l3.length c3, .slice A4 l4.length c4] 27)).alloc (.cells #[.int .i64 net, .int .i64 load, .bool one] 29)).alloc (.cells #[.slice none 0 0, .slice none 0 0, .slice none 0 0, .slice none 0 0, .slice none 0 0] 27)).heap.size = w.heap.size + 3 := by simp
  have hsz : ∀ x : Under (((w.alloc (.cells #[.slice A0 l0.length c0, .slice A1 l1.length c1, .slice A2 l2.length c2, .slice A3 l3.length c3, .slice A4 l4.length c4] 27)).alloc (.cells #[.int .i64 net, .int .i64 load, .bool one] 29)).alloc (.cells #[.slice none 0 0, .slice none 0 0, .slice none 0 0, .slice none 0 0, .slice none 0 0] 27)), w.heap.size + 2 < x.val.heap.size := fun x => Nat.lt_of_lt_of_le (by simp) x.size
  have hrb : ∀ x : Under (((w.alloc (.cells #[.slice A0 l0.length c0, .slice A1 l1.length c1, .slice A2 l2.length c2, .slice A3 l3.length c3, .slice A4 l4.length c4] 27)).alloc (.cells #[.int .i64 net, .int .i64 load, .bool one] 29)).alloc (.cells #[.slice none 0 0, .slice none 0 0, .slice none 0 0, .slice none 0 0, .slice none 0 0] 27)), x.val.heap[w.heap.size + 1 + 1]? = some (.cells #[.slice none 0 0, .slice none 0 0, .slice none 0 0, .slice none 0 0, .slice none 0 0] 27 (0, 0)) := fun x => (x.ok.block (w.heap.size + 1 + 1) (by simp)).trans (heap_alloc3_new w _ _ _)
  have q1 : (err != 0) = true := by simpa using he
  have hWx := hsz
  go_enter Try.func8, Try.ntmps8
  go_wp2_with (go_at_call 27; refine (HL _ hW0).mono ?_; rintro e w1 ⟨v, rfl, hB1⟩; obtain ⟨x1, rfl⟩ : ∃ x : Under (((w.alloc (.cells #[.slice A0 l0.length c0, .slice A1 l1.length c1, .slice A2 l2.length c2, .slice A3 l3.length c3, .slice A4 l4.length c4] 27)).alloc (.cells #[.int .i64 net, .int .i64 load, .bool one] 29)).alloc (.cells #[.slice none 0 0, .slice none 0 0, .slice none 0 0, .slice none 0 0, .slice none 0 0] 27)), w1 = x.val := ⟨⟨w1, hB1⟩, rfl⟩; have hs1 := hsz x1)
  ((try simp only [Exit.inBlock, Exit.then]); refine bodyPost_ret (results_cell_tmp_row rfl _ _ (w.heap.size + 1 + 1) _ _ _ _ rfl (set5 (.slice none 0 0) (.slice none 0 0) (.slice none 0 0) (.slice none 0 0) (.slice none 0 0) (hrb x1)).1 Try.underlying27 rfl (by kernel_rfl)) rfl ?_)
  exact ⟨_, _, _, _, _, rfl, NetR.nil _ _, (((((bel x1).setCell (p := ⟨w.heap.size + 1 + 1, 0, none⟩) (by simp; omega) _).setCell (p := ⟨w.heap.size + 1 + 1, 1, none⟩) (by simp; omega) _).setCell (p := ⟨w.heap.size + 1 + 1, 2, none⟩) (by simp; omega) _).setCell (p := ⟨w.heap.size + 1 + 1, 3, none⟩) (by simp; omega) _).setCell (p := ⟨w.heap.size + 1 + 1, 4, none⟩) (by simp; omega) _⟩
set_option maxHeartbeats 16000000 in
theorem inject_err2 (A0 A1 A2 A3 A4 : Option Addr) (c0 c1 c2 c3 c4 : Nat) (l0 l1 : List ByteArray) (l2 : List Flop) (l3 : List Gate) (l4 : List Int) (net : Int) (load : Int) (one : Bool) (w : World)
    (rows : List (List Load)) (err : Int) (he : err ≠ 0) (HL : ∀ W, Below w.heap.size w W → Calls Try.prog 27 #[.agg #[.slice A0 l0.length c0, .slice A1 l1.length c1, .slice A2 l2.length c2, .slice A3 l3.length c3, .slice A4 l4.length c4]] W fun e w' => ∃ v, e = .returned (.tuple #[v, .int .i64 0]) ∧ Kd.S (Kd.slice 77 kLoad) 75 w' W.heap.size (fun _ => True) v rows ∧ Below W.heap.size W w')
    (HC : ∀ W v, Kd.S (Kd.slice 77 kLoad) 75 W (w.heap.size + 3) (fun _ => True) v rows → Calls Try.prog 28 #[v, .agg #[.int .i64 net, .int .i64 load, .bool one]] W fun e w' => e = .returned (.int .i64 err) ∧ Below W.heap.size W w') :
    Calls Try.prog 8 #[.agg #[.slice A0 l0.length c0, .slice A1 l1.length c1, .slice A2 l2.length c2, .slice A3 l3.length c3, .slice A4 l4.length c4], .agg #[.int .i64 net, .int .i64 load, .bool one]] w fun e w' => ∃ v0 v1 v2 v3 v4 : Value, e = .returned (.tuple #[.agg #[v0, v1, v2, v3, v4], .int .i64 err]) ∧ NetR (fun _ => True) w.heap.size w' v0 v1 v2 v3 v4 [] [] [] [] [] ∧ Below w.heap.size w w' := by
  have hu := Try.underlying27
  have huF := Try.underlying29
  have hW0 : Below w.heap.size w (((w.alloc (.cells #[.slice A0 l0.length c0, .slice A1 l1.length c1, .slice A2 l2.length c2, .slice A3 l3.length c3, .slice A4 l4.length c4] 27)).alloc (.cells #[.int .i64 net, .int .i64 load, .bool one] 29)).alloc (.cells #[.slice none 0 0, .slice none 0 0, .slice none 0 0, .slice none 0 0, .slice none 0 0] 27)) := (((Below.refl _ _).alloc (Nat.le_refl _) _).alloc (by simp) _).alloc (by simp; omega) _
  have bel : ∀ x : Under (((w.alloc (.cells #[.slice A0 l0.length c0, .slice A1 l1.length c1, .slice A2 l2.length c2, .slice A3 l3.length c3, .slice A4 l4.length c4] 27)).alloc (.cells #[.int .i64 net, .int .i64 load, .bool one] 29)).alloc (.cells #[.slice none 0 0, .slice none 0 0, .slice none 0 0, .slice none 0 0, .slice none 0 0] 27)), Below w.heap.size w x.val := fun x => hW0.trans (x.ok.mono (by simp; omega))
  have hW0s : (((w.alloc (.cells #[.slice A0 l0.length c0, .slice A1 l1.length c1, .slice A2 l2.length c2, .slice A3 l3.length c3, .slice A4 l4.length c4] 27)).alloc (.cells #[.int .i64 net, .int .i64 load, .bool one] 29)).alloc (.cells #[.slice none 0 0, .slice none 0 0, .slice none 0 0, .slice none 0 0, .slice none 0 0] 27)).heap.size = w.heap.size + 3 := by simp
  have hsz : ∀ x : Under (((w.alloc (.cells #[.slice A0 l0.length c0, .slice A1 l1.length c1, .slice A2 l2.length c2, .slice A3 l3.length c3, .slice A4 l4.length c4] 27)).alloc (.cells #[.int .i64 net, .int .i64 load, .bool one] 29)).alloc (.cells #[.slice none 0 0, .slice none 0 0, .slice none 0 0, .slice none 0 0, .slice none 0 0] 27)), w.heap.size + 2 < x.val.heap.size := fun x => Nat.lt_of_lt_of_le (by simp) x.size
  have hrb : ∀ x : Under (((w.alloc (.cells #[.slice A0 l0.length c0, .slice A1 l1.length c1, .slice A2 l2.length c2, .slice A3 l3.length c3, .slice A4 l4.length c4] 27)).alloc (.cells #[.int .i64 net, .int .i64 load, .bool one] 29)).alloc (.cells #[.slice none 0 0, .slice none 0 0, .slice none 0 0, .slice none 0 0, .slice none 0 0] 27)), x.val.heap[w.heap.size + 1 + 1]? = some (.cells #[.slice none 0 0, .slice none 0 0, .slice none 0 0, .slice none 0 0, .slice none 0 0] 27 (0, 0)) := fun x => (x.ok.block (w.heap.size + 1 + 1) (by simp)).trans (heap_alloc3_new w _ _ _)
  have q1 : (err != 0) = true := by simpa using he
  go_enter Try.func8, Try.ntmps8
  go_wp2_with (first
    | (go_at_call 27; refine (HL _ hW0).mono ?_; rintro e w1 ⟨v, rfl, hS1, hB1⟩; obtain ⟨x1, rfl⟩ : ∃ x : Under (((w.alloc (.cells #[.slice A0 l0.length c0, .slice A1 l1.length c1, .slice A2 l2.length c2, .slice A3 l3.length c3, .slice A4 l4.length c4] 27)).alloc (.cells #[.int .i64 net, .int .i64 load, .bool one] 29)).alloc (.cells #[.slice none 0 0, .slice none 0 0, .slice none 0 0, .slice none 0 0, .slice none 0 0] 27)), w1 = x.val := ⟨⟨w1, hB1⟩, rfl⟩; have hs1 := hsz x1; have hS1' := Kd.S_lower (base' := w.heap.size + 3) hS1 (Nat.le_of_eq hW0s.symm); have hs1a : w.heap.size < x1.val.heap.size := (by omega); have hs1b : w.heap.size + 1 < x1.val.heap.size := (by omega))
    | (go_at_call 28; refine (HC _ _ hS1').mono ?_; rintro e w2 ⟨rfl, hB2⟩; obtain ⟨x2, rfl⟩ : ∃ x : Under (((w.alloc (.cells #[.slice A0 l0.length c0, .slice A1 l1.length c1, .slice A2 l2.length c2, .slice A3 l3.length c3, .slice A4 l4.length c4] 27)).alloc (.cells #[.int .i64 net, .int .i64 load, .bool one] 29)).alloc (.cells #[.slice none 0 0, .slice none 0 0, .slice none 0 0, .slice none 0 0, .slice none 0 0] 27)), w2 = x.val := ⟨⟨w2, x1.ok.trans (hB2.mono x1.size)⟩, rfl⟩; have hs2 := hsz x2))
  ((try simp only [Exit.inBlock, Exit.then]); refine bodyPost_ret (results_cell_tmp_row rfl _ _ (w.heap.size + 1 + 1) _ _ _ _ rfl (set5 (.slice none 0 0) (.slice none 0 0) (.slice none 0 0) (.slice none 0 0) (.slice none 0 0) (hrb x2)).1 Try.underlying27 rfl (by kernel_rfl)) rfl ?_)
  exact ⟨_, _, _, _, _, rfl, NetR.nil _ _, (((((bel x2).setCell (p := ⟨w.heap.size + 1 + 1, 0, none⟩) (by simp; omega) _).setCell (p := ⟨w.heap.size + 1 + 1, 1, none⟩) (by simp; omega) _).setCell (p := ⟨w.heap.size + 1 + 1, 2, none⟩) (by simp; omega) _).setCell (p := ⟨w.heap.size + 1 + 1, 3, none⟩) (by simp; omega) _).setCell (p := ⟨w.heap.size + 1 + 1, 4, none⟩) (by simp; omega) _⟩
end Go.Proofs.Ytimjccfpobhpeaa
namespace Go.Proofs.Ytimjccfpobhpeaa
open Go.RowKit Go.Proofs.YtimjccfpobhpeaaW.PrintWords Go.Proofs.Ytimjccfpobhpeaa.PF
open Go.ChangeMaps (setBlock)
set_option maxRecDepth 100000
def keyL (l : Load) : Int × Int × Int := (l.f0, l.f1, l.f2)
def numsRow : List Load → Nat → List ((Int × Int × Int) × Int) → List ((Int × Int × Int) × Int)
  | [], _, m => m
  | l :: r, i, m => numsRow r (i + 1) (mput m (keyL l) (i : Int))
def numsFrom : List (List Load) → List ((Int × Int × Int) × Int) → List ((Int × Int × Int) × Int)
  | [], m => m
  | row :: r, m => numsFrom r (numsRow row 0 m)
theorem MapAt.ne {κ ν : Type} [DecidableEq κ] {P : Program} {kt : TypeId} {E : KeyEnc P kt κ} {ev : ν → Value} {w : World} {g b o : Nat} {v : Value} {m : List (κ × ν)} (h : MapAt E ev w g m) (hc : w.cell? ⟨b, o, none⟩ = some v) : b ≠ g := by
  rintro rfl
  obtain ⟨es, clock, h1, _⟩ := h
  simp [World.cell?, h1] at hc
set_option maxHeartbeats 16000000 in
theorem nums_calls (A0 A1 A2 A3 A4 : Option Addr) (n0 n1 n2 n3 n4 c0 c1 c2 c3 c4 : Nat) (w : World) (rows : List (List Load)) (hk : ∀ row ∈ rows, ∀ l ∈ row, key3.ok (keyL l))
    (HL : ∀ W, Below w.heap.size w W → Calls Try.prog 27 #[.agg #[.slice A0 n0 c0, .slice A1 n1 c1, .slice A2 n2 c2, .slice A3 n3 c3, .slice A4 n4 c4]] W fun e w' => ∃ v, e = .returned (.tuple #[v, .int .i64 0]) ∧ Kd.S (Kd.slice 77 kLoad) 75 w' W.heap.size (fun _ => True) v rows ∧ Below W.heap.size W w') :
    Calls Try.prog 40 #[.agg #[.slice A0 n0 c0, .slice A1 n1 c1, .slice A2 n2 c2, .slice A3 n3 c3, .slice A4 n4 c4]] w fun e w' => ∃ b, e = .returned (.map (some b)) ∧ w.heap.size ≤ b ∧ MapAt key3 (Value.int .i64) w' b (numsFrom rows []) ∧ Below w.heap.size w w' := by
  have hu := Try.underlying27
  have huL := Try.underlying77
  have huK := Try.underlying95
  have hmm := @run_makeMap Try.prog
  have hz : ∀ W, (zeroValue 3).run Try.prog W = .ok (.int .i64 0) W := fun W => by kernel_rfl
  have hW0 : Below w.heap.size w ((w.alloc (.cells #[.slice A0 n0 c0, .slice A1 n1 c1, .slice A2 n2 c2, .slice A3 n3 c3, .slice A4 n4 c4] 27)).alloc (.map #[] 0)) := ((Below.refl _ _).alloc (Nat.le_refl _) _).alloc (by simp) _
  have bel : ∀ x : Under ((w.alloc (.cells #[.slice A0 n0 c0, .slice A1 n1 c1, .slice A2 n2 c2, .slice A3 n3 c3, .slice A4 n4 c4] 27)).alloc (.map #[] 0)), Below w.heap.size w x.val := fun x => hW0.trans (x.ok.mono (by simp; omega))
  have hsz : ∀ x : Under ((w.alloc (.cells #[.slice A0 n0 c0, .slice A1 n1 c1, .slice A2 n2 c2, .slice A3 n3 c3, .slice A4 n4 c4] 27)).alloc (.map #[] 0)), w.heap.size + 1 < x.val.heap.size := fun x => Nat.lt_of_lt_of_le (by simp) x.size
  have hM00 : MapAt key3 (Value.int .i64) ((w.alloc (.cells #[.slice A0 n0 c0, .slice A1 n1 c1, .slice A2 n2 c2, .slice A3 n3 c3, .slice A4 n4 c4] 27)).alloc (.map #[] 0)) (w.heap.size + 1) ([] : List ((Int × Int × Int) × Int)) := by
    have := MapAt.made (E := key3) (ev := Value.int .i64) (w.alloc (.cells #[.slice A0 n0 c0, .slice A1 n1 c1, .slice A2 n2 c2, .slice A3 n3 c3, .slice A4 n4 c4] 27))
    simpa using this
  go_enter Try.func40, Try.ntmps40
  go_wp2_with (go_at_call 27; refine (HL _ hW0).mono ?_; rintro e w1 ⟨v, rfl, hS1, hB1⟩; obtain ⟨x1, rfl⟩ : ∃ x : Under ((w.alloc (.cells #[.slice A0 n0 c0, .slice A1 n1 c1, .slice A2 n2 c2, .slice A3 n3 c3, .slice A4 n4 c4] 27)).alloc (.map #[] 0)), w1 = x.val := ⟨⟨w1, hB1⟩, rfl⟩; have hs1 := hsz x1; obtain ⟨AR, cR, rfl, _, hR1⟩ := Kd.S_reads hS1; have hRg : ∀ k, (Value.slice AR rows.length cR).ownBlock = some k → k ≠ w.heap.size + 1 := fun k hk e => (by have := Kd.S_base hS1 k hk; simp at this; omega))
  have hM0 : MapAt key3 (Value.int .i64) x1.val (w.heap.size + 1) ([] : List ((Int × Int × Int) × Int)) := hM00.step (x1.ok.block _ (by simp))
  have hmR := (kd_len hR1).2
  have hne1 : ∀ {b o : Nat} {v : Value}, x1.val.cell? ⟨b, o, none⟩ = some v → b ≠ w.heap.size + 1 := fun h => hM0.ne h
  clear hRg hS1 hB1 hM00
  go_loopg [7, 8, 9, 18] rows.length (fun d _ _ _ t wr => ∃ (i : Nat) (z : But x1.val (fun k => k = w.heap.size + 1)) (m : List ((Int × Int × Int) × Int)), t = .int .i64 i ∧ wr = z.val ∧ Aside (i + d = rows.length) ∧ MapAt key3 (Value.int .i64) z.val (w.heap.size + 1) m ∧ Aside (numsFrom (rows.drop i) m = numsFrom rows []))
  case atStart => exact ⟨0, But.refl _ _, [], rfl, rfl, by show 0 + rows.length = rows.length; omega, hM0, rfl⟩
  case round =>
    clear hM0
    obtain ⟨i, z, m, rfl, rfl, hi, hM, hI⟩ := hrel
    have hzs := z.size
    by_cases hlt : i < rows.length
    · obtain ⟨row, hrow⟩ := get_ex hlt
      obtain ⟨b, ob, Al, cl, rfl, hb, hcr, hCl⟩ := kd_rows hR1 hrow
      obtain ⟨gO, rfl⟩ : ∃ m, gk = m + 1 := ⟨gk - 1, by have := hi.out; omega⟩
      have hbn := hne1 hcr
      have hbz : b < z.val.heap.size := by omega
      have hkr := hk row (List.mem_of_getElem? hrow)
      have hml := (kd_len hCl).2
      rw [drop_cons hrow, numsFrom] at hI
      have hih := Lib.hid hi.out
      have hIh := Lib.hid hI.out
      clear hi hI hrow
      go_wp2
      go_loopg [8, 9, 24] row.length (fun d _ _ t wr => ∃ (k : Nat) (z : But x1.val (fun k => k = w.heap.size + 1)) (m : List ((Int × Int × Int) × Int)), t = .int .i64 k ∧ wr = z.val ∧ Aside (k + d = row.length) ∧ MapAt key3 (Value.int .i64) z.val (w.heap.size + 1) m ∧ Aside (numsFrom (rows.drop (i + 1)) (numsRow (row.drop k) k m) = numsFrom rows []))
      case atStart => exact ⟨0, z, m, rfl, rfl, by show 0 + row.length = row.length; omega, hM, hIh.out⟩
      case round =>
        clear hM hIh hzs hbz
        obtain ⟨k, z, m, rfl, rfl, hkd, hM, hI⟩ := hrel
        have hzs := z.size
        by_cases hlk : k < row.length
        · obtain ⟨l, hl⟩ := get_ex hlk
          obtain ⟨b2, o2, rfl, hb2, hk0, hk1, hk2⟩ := kd_load hCl hl
          obtain ⟨gI, rfl⟩ : ∃ m, gk = m + 1 := ⟨gk - 1, by have := hkd.out; omega⟩
          have hbn2 := hne1 hk0
          have hbz2 : b2 < z.val.heap.size := by omega
          have hbz3 : b2 ≠ z.val.heap.size := by omega
          have hgz : w.heap.size + 1 < z.val.heap.size := by omega
          have hok : key3.ok (keyL l) := hkr l (List.mem_of_getElem? hl)
          have hup0 := run_mapStore (hM.is ((Is.refl _).alloc (.cells #[.int .i64 l.f0, .int .i64 l.f1, .int .i64 l.f2] 77))) Try.underlying92 hok (k : Int)
          obtain ⟨ob2, hup1, hM2⟩ := hup0
          have hup : (Instr.mapUpdate 92 (.map (some (w.heap.size + 1))) (.agg #[.int .i64 l.f0, .int .i64 l.f1, .int .i64 l.f2]) (.int .i64 k)).run Try.prog (z.val.alloc (.cells #[.int .i64 l.f0, .int .i64 l.f1, .int .i64 l.f2] 77)) = .ok () (setBlock (z.val.alloc (.cells #[.int .i64 l.f0, .int .i64 l.f1, .int .i64 l.f2] 77)) (w.heap.size + 1) ob2) := hup1
          rw [drop_cons hl, numsRow] at hI
          have hkh := Lib.hid hkd.out
          have hIh := Lib.hid hI.out
          have hM2h := Lib.hid hM2
          clear hkd hI hl hup1 hM2
          go_wp2
          go_roundg gI
          case measure => have := hkh.out; omega
          case rel => exact ⟨k + 1, (z.alloc _).set _ rfl ob2, _, by go_num, rfl, by show k + 1 + gI = row.length; have := hkh.out; omega, hM2h.out, hIh.out⟩
        · obtain rfl : k = row.length := by have := hkd.out; omega
          rw [drop_end, numsRow] at hI
          have hIh := Lib.hid hI.out
          clear hkd hI
          go_wp2
          go_roundg gO
          case measure => have := hih.out; omega
          case rel => exact ⟨i + 1, z, m, by go_num, rfl, by show i + 1 + gO = rows.length; have := hih.out; omega, hM, hIh.out⟩
    · obtain rfl : i = rows.length := by have := hi.out; omega
      rw [drop_end, numsFrom] at hI
      have hIh := Lib.hid hI.out
      clear hi hI
      go_wp2
      go_ret
      exact ⟨_, rfl, by omega, hIh.out ▸ hM, (z.is (Is.of (bel x1)) (by rintro k rfl; omega)).below⟩
end Go.Proofs.Ytimjccfpobhpeaa
namespace Go.Proofs.Ytimjccfpobhpeaa
open Go.RowKit Go.Proofs.YtimjccfpobhpeaaW.PrintWords Go.Proofs.Ytimjccfpobhpeaa.PF
open Go.ChangeMaps (setBlock)
set_option maxRecDepth 100000
def putC (net load x pl : Int) : Bool := decide (x = net) && (decide (load < 0) || decide (pl = load))
end Go.Proofs.Ytimjccfpobhpeaa
namespace Go.Proofs.Ytimjccfpobhpeaa
open Go.RowKit Go.Proofs.YtimjccfpobhpeaaW.PrintWords Go.Proofs.Ytimjccfpobhpeaa.PF
set_option maxRecDepth 100000
instance (w : World) : Nonempty (Under w) := ⟨Under.refl w⟩
structure NetAt (T : Nat → Prop) (B : Nat) (w : World) (g : Nat) (v0 v1 v2 v3 v4 : Value) (l0 l1 : List ByteArray) (s : NetP) : Prop where
  blk : w.heap[g]? = some (.cells #[v0, v1, v2, v3, v4] 27 (0, 0))
  r : NetR T B w v0 v1 v2 v3 v4 l0 l1 s.fl s.ga s.ou
theorem NetAt.below {T : Nat → Prop} {B : Nat} {w w1 : World} {g : Nat} {v0 v1 v2 v3 v4 : Value} {l0 l1 : List ByteArray} {s : NetP} (h : NetAt T B w g v0 v1 v2 v3 v4 l0 l1 s) (hb : Below w.heap.size w w1) : NetAt T B w1 g v0 v1 v2 v3 v4 l0 l1 s :=
  ⟨(hb.block g (Array.getElem?_eq_some_iff.1 h.blk).1).trans h.blk, h.r.below hb⟩
theorem blkFar {w : World} {g gi t t' : Nat} {cs cs' : Array Value} {v : Value} {j : Nat} (h : w.heap[g]? = some (.cells cs t (0, 0))) (h' : w.heap[gi]? = some (.cells cs' t' (0, 0))) (ht : t ≠ t') : (w.setCell ⟨gi, j, none⟩ v).heap[g]? = some (.cells cs t (0, 0)) :=
  (Below.heap_setCell w ⟨gi, j, none⟩ v g (ne_typed h h' ht)).trans h
theorem NetAt.set {T : Nat → Prop} {B : Nat} {w : World} {g gi t j : Nat} {v0 v1 v2 v3 v4 v : Value} {l0 l1 : List ByteArray} {s s' : NetP} {cs : Array Value} (h : NetAt T B w g v0 v1 v2 v3 v4 l0 l1 s) (hc : w.heap[gi]? = some (.cells cs t (0, 0))) (ht : 27 ≠ t)
    (hr : NetR T B (w.setCell ⟨gi, j, none⟩ v) v0 v1 v2 v3 v4 l0 l1 s'.fl s'.ga s'.ou) : NetAt T B (w.setCell ⟨gi, j, none⟩ v) g v0 v1 v2 v3 v4 l0 l1 s' := ⟨blkFar h.blk hc ht, hr⟩
theorem NetAt.cell {T : Nat → Prop} {B : Nat} {w : World} {g : Nat} {v0 v1 v2 v3 v4 : Value} {l0 l1 : List ByteArray} {s : NetP} (h : NetAt T B w g v0 v1 v2 v3 v4 l0 l1 s) : g < w.heap.size ∧ w.cell? ⟨g, 0, none⟩ = some v0 ∧ w.cell? ⟨g, 1, none⟩ = some v1 ∧ w.cell? ⟨g, 2, none⟩ = some v2 ∧ w.cell? ⟨g, 3, none⟩ = some v3 ∧ w.cell? ⟨g, 4, none⟩ = some v4 :=
  ⟨(Array.getElem?_eq_some_iff.1 h.blk).1, (cell_of_row _ _ 0 _ _ _ h.blk).trans rfl, (cell_of_row _ _ 1 _ _ _ h.blk).trans rfl, (cell_of_row _ _ 2 _ _ _ h.blk).trans rfl, (cell_of_row _ _ 3 _ _ _ h.blk).trans rfl, (cell_of_row _ _ 4 _ _ _ h.blk).trans rfl⟩
set_option maxHeartbeats 16000000 in
theorem inject_ok_t (A0 A1 A2 A3 A4 : Option Addr) (c0 c1 c2 c3 c4 : Nat) (l0 l1 : List ByteArray) (l2 : List Flop) (l3 : List Gate) (l4 : List Int) (nn : Nat) (load : Int) (w : World)
    (h0 : Kd.C Kd.string w A0 l0.length l0) (h1 : Kd.C Kd.string w A1 l1.length l1) (h2 : Kd.C kFlop w A2 l2.length l2) (h3 : Kd.C kGate w A3 l3.length l3) (h4 : Kd.C (Kd.int .i64) w A4 l4.length l4)
    (m0 : l0.length * 16 ≤ 140737488355328) (m1 : l1.length * 16 ≤ 140737488355328) (m2 : l2.length * 48 ≤ 140737488355328) (m3 : l3.length * 40 ≤ 140737488355328) (m4 : l4.length * 8 ≤ 140737488355328) (m5 : ∀ x ∈ l3, x.f2.length * 8 ≤ 140737488355328)
    (rows : List (List Load)) (row : List Load) (hrow : rows[nn]? = some row) (hval : ∀ l ∈ row, ValidL ⟨l2, l3, l4⟩ l)
    (HL : ∀ W, Below w.heap.size w W → Calls Try.prog 27 #[.agg #[.slice A0 l0.length c0, .slice A1 l1.length c1, .slice A2 l2.length c2, .slice A3 l3.length c3, .slice A4 l4.length c4]] W fun e w' => ∃ v, e = .returned (.tuple #[v, .int .i64 0]) ∧ Kd.S (Kd.slice 77 kLoad) 75 w' W.heap.size (fun _ => True) v rows ∧ Below W.heap.size W w')
    (HC : ∀ W v, Kd.S (Kd.slice 77 kLoad) 75 W (w.heap.size + 3) (fun _ => True) v rows → Calls Try.prog 28 #[v, .agg #[.int .i64 (nn : Int), .int .i64 load, .bool true]] W fun e w' => e = .returned (.int .i64 0) ∧ Below W.heap.size W w') :
    Calls Try.prog 8 #[.agg #[.slice A0 l0.length c0, .slice A1 l1.length c1, .slice A2 l2.length c2, .slice A3 l3.length c3, .slice A4 l4.length c4], .agg #[.int .i64 (nn : Int), .int .i64 load, .bool true]] w fun e w' => ∃ v0 v1 v2 v3 v4 : Value, e = .returned (.tuple #[.agg #[v0, v1, v2, v3, v4], .int .i64 0]) ∧
      NetR (fun _ => True) w.heap.size w' v0 v1 v2 v3 v4 l0 l1 (injectF load 1 row 0 ⟨l2, l3, l4⟩).fl (injectF load 1 row 0 ⟨l2, l3, l4⟩).ga (injectF load 1 row 0 ⟨l2, l3, l4⟩).ou ∧ Below w.heap.size w w' := by
  have hu := Try.underlying27
  have huF := Try.underlying29
  have huL := Try.underlying77
  have huG := Try.underlying80
  have huP := Try.underlying82
  have hW0 : Below w.heap.size w (((w.alloc (.cells #[.slice A0 l0.length c0, .slice A1 l1.length c1, .slice A2 l2.length c2, .slice A3 l3.length c3, .slice A4 l4.length c4] 27)).alloc (.cells #[.int .i64 (nn : Int), .int .i64 load, .bool true] 29)).alloc (.cells #[.slice none 0 0, .slice none 0 0, .slice none 0 0, .slice none 0 0, .slice none 0 0] 27)) := (((Below.refl _ _).alloc (Nat.le_refl _) _).alloc (by simp) _).alloc (by simp; omega) _
  have bel : ∀ x : Under (((w.alloc (.cells #[.slice A0 l0.length c0, .slice A1 l1.length c1, .slice A2 l2.length c2, .slice A3 l3.length c3, .slice A4 l4.length c4] 27)).alloc (.cells #[.int .i64 (nn : Int), .int .i64 load, .bool true] 29)).alloc (.cells #[.slice none 0 0, .slice none 0 0, .slice none 0 0, .slice none 0 0, .slice none 0 0] 27)), Below w.heap.size w x.val := fun x => hW0.trans (x.ok.mono (by simp; omega))
  have hsz : ∀ x : Under (((w.alloc (.cells #[.slice A0 l0.length c0, .slice A1 l1.length c1, .slice A2 l2.length c2, .slice A3 l3.length c3, .slice A4 l4.length c4] 27)).alloc (.cells #[.int .i64 (nn : Int), .int .i64 load, .bool true] 29)).alloc (.cells #[.slice none 0 0, .slice none 0 0, .slice none 0 0, .slice none 0 0, .slice none 0 0] 27)), w.heap.size + 2 < x.val.heap.size := fun x => Nat.lt_of_lt_of_le (by simp) x.size
  have hb3 : w.heap.size + 3 ≤ ((((w.alloc (.cells #[.slice A0 l0.length c0, .slice A1 l1.length c1, .slice A2 l2.length c2, .slice A3 l3.length c3, .slice A4 l4.length c4] 27)).alloc (.cells #[.int .i64 (nn : Int), .int .i64 load, .bool true] 29)).alloc (.cells #[.slice none 0 0, .slice none 0 0, .slice none 0 0, .slice none 0 0, .slice none 0 0] 27))).heap.size := Nat.le_of_eq (by simp)
  have hrb : ∀ x : Under (((w.alloc (.cells #[.slice A0 l0.length c0, .slice A1 l1.length c1, .slice A2 l2.length c2, .slice A3 l3.length c3, .slice A4 l4.length c4] 27)).alloc (.cells #[.int .i64 (nn : Int), .int .i64 load, .bool true] 29)).alloc (.cells #[.slice none 0 0, .slice none 0 0, .slice none 0 0, .slice none 0 0, .slice none 0 0] 27)), x.val.heap[w.heap.size + 1 + 1]? = some (.cells #[.slice none 0 0, .slice none 0 0, .slice none 0 0, .slice none 0 0, .slice none 0 0] 27 (0, 0)) := fun x => (x.ok.block (w.heap.size + 1 + 1) (by simp)).trans (heap_alloc3_new w _ _ _)
  have hnl : nn < rows.length := (List.getElem?_eq_some_iff.1 hrow).1
  have hnl2 : (nn : Int) < (rows.length : Int) := by omega
  have hrowh := Lib.hid hrow
  have hvalh := Lib.hid hval
  clear hrow hval
  go_enter Try.func8, Try.ntmps8
  go_wp2_with (first
    | (go_at_call 27; refine (HL _ hW0).mono ?_; rintro e w1 ⟨v, rfl, hS1, hB1⟩; obtain ⟨x1, rfl⟩ : ∃ x : Under (((w.alloc (.cells #[.slice A0 l0.length c0, .slice A1 l1.length c1, .slice A2 l2.length c2, .slice A3 l3.length c3, .slice A4 l4.length c4] 27)).alloc (.cells #[.int .i64 (nn : Int), .int .i64 load, .bool true] 29)).alloc (.cells #[.slice none 0 0, .slice none 0 0, .slice none 0 0, .slice none 0 0, .slice none 0 0] 27)), w1 = x.val := ⟨⟨w1, hB1⟩, rfl⟩; have hs1 := hsz x1; have hS1' := Kd.S_lower (base' := w.heap.size + 3) hS1 hb3; have hs1a : w.heap.size < x1.val.heap.size := (by omega); have hs1b : w.heap.size + 1 < x1.val.heap.size := (by omega); have HC1 := HC _ _ hS1'; obtain ⟨AR, cR, rfl, _, hR1⟩ := Kd.S_reads hS1)
    | (go_at_call 28; refine HC1.mono ?_; rintro e w2 ⟨rfl, hB2⟩; obtain ⟨x2, rfl⟩ : ∃ x : Under (((w.alloc (.cells #[.slice A0 l0.length c0, .slice A1 l1.length c1, .slice A2 l2.length c2, .slice A3 l3.length c3, .slice A4 l4.length c4] 27)).alloc (.cells #[.int .i64 (nn : Int), .int .i64 load, .bool true] 29)).alloc (.cells #[.slice none 0 0, .slice none 0 0, .slice none 0 0, .slice none 0 0, .slice none 0 0] 27)), w2 = x.val := ⟨⟨w2, x1.ok.trans (hB2.mono x1.size)⟩, rfl⟩; have hs2 := hsz x2; have hR2 := Kd.Zf hR1 hB2; have hs2a : w.heap.size < x2.val.heap.size := (by omega); have hs2b : w.heap.size + 1 < x2.val.heap.size := (by omega))
    | (go_at_call 29; refine (copy_calls A0 A1 A2 A3 A4 c0 c1 c2 c3 c4 l0 l1 l2 l3 l4 x2.val (Kd.Zf h0 (bel x2)) (Kd.Zf h1 (bel x2)) (Kd.Zf h2 (bel x2)) (Kd.Zf h3 (bel x2)) (Kd.Zf h4 (bel x2)) m0 m1 m2 m3 m4 m5).mono ?_; rintro e w3 ⟨v0, v1, v2, v3, v4, rfl, hr0, hr1, hr2, hr3, hr4, hB3⟩; obtain ⟨x3, rfl⟩ : ∃ x : Under x2.val, w3 = x.val := ⟨⟨w3, hB3⟩, rfl⟩; obtain ⟨B0, d0, rfl⟩ := Kd.Xd hr0; obtain ⟨B1, d1, rfl⟩ := Kd.Xd hr1; obtain ⟨B2, d2, rfl⟩ := Kd.Xd hr2; obtain ⟨B3, d3, rfl⟩ := Kd.S_slice hr3; obtain ⟨B4, d4, rfl⟩ := Kd.Xd hr4; have hs3 := x3.size; obtain ⟨br, or, Al, cl, rfl, hbr, hcr, hCl⟩ := kd_rows hR2 hrowh.out; have hs3a : w.heap.size < x3.val.heap.size := (by omega); have hs3b : w.heap.size + 1 < x3.val.heap.size := (by omega); have hs3c : br < x3.val.heap.size := (by omega)))
  have hN0 : NetAt (fun _ => True) x2.val.heap.size (x3.val.alloc (.cells #[.slice B0 l0.length d0, .slice B1 l1.length d1, .slice B2 l2.length d2, .slice B3 l3.length d3, .slice B4 l4.length d4] 27)) x3.val.heap.size (.slice B0 l0.length d0) (.slice B1 l1.length d1) (.slice B2 l2.length d2) (.slice B3 l3.length d3) (.slice B4 l4.length d4) l0 l1 ⟨l2, l3, l4⟩ :=
    ⟨heap_alloc_new _ _, NetR.below ⟨Kd.Xj hr0 (fun _ h => ⟨trivial, h⟩), Kd.Xj hr1 (fun _ h => ⟨trivial, h⟩), hr2, Kd.S_mono hr3 (fun _ h => ⟨trivial, h⟩), hr4⟩ (Zn (Below.refl _ _) _)⟩
  have hg9B := x3.size
  clear hr0 hr1 hr2 hr3 hr4 hR1 hR2 hS1 hS1' HC1 HL HC hB1 hB2 hB3
  generalize hg9 : x3.val.heap.size = g9 at *
  have hml := (kd_len hCl).2
  have hcb := Lib.hid (show True from trivial)
  go_loopg [11, 12, 39] row.length (fun d _ _ t wr => ∃ (i : Nat) (y : Under x2.val) (s : NetP), t = .int .i64 i ∧ wr = y.val ∧ Aside (i + d = row.length) ∧ NetAt (fun _ => True) x2.val.heap.size y.val g9 (.slice B0 l0.length d0) (.slice B1 l1.length d1) (.slice B2 l2.length d2) (.slice B3 l3.length d3) (.slice B4 l4.length d4) l0 l1 s ∧
    Shape ⟨l2, l3, l4⟩ s ∧ Aside (injectF load 1 (row.drop i) i s = injectF load 1 row 0 ⟨l2, l3, l4⟩))
  case atStart => exact ⟨0, x3.alloc _, ⟨l2, l3, l4⟩, rfl, rfl, by show 0 + row.length = row.length; omega, hN0, Shape.refl _, rfl⟩
  case round =>
    clear hN0
    obtain ⟨i, y, s, rfl, rfl, hi, hN, hSh, hL⟩ := hrel
    obtain ⟨hgl, hn0, hn1, hn2, hn3, hn4⟩ := hN.cell
    have hyl := y.size
    have hya : w.heap.size < y.val.heap.size := by omega
    have hyb : w.heap.size + 1 < y.val.heap.size := by omega
    have hyc : w.heap.size + 1 + 1 < y.val.heap.size := by omega
    by_cases hlt : i < row.length
    · obtain ⟨l, hl⟩ := get_ex hlt
      obtain ⟨b, ob, rfl, hb, hk0, hk1, hk2⟩ := kd_load hCl hl
      obtain ⟨gO, rfl⟩ : ∃ m, gk = m + 1 := ⟨gk - 1, by have := hi.out; omega⟩
      have hvl := (hvalh.out l (List.mem_of_getElem? hl)).shape hSh
      have hby : b < y.val.heap.size := by omega
      have hbn : b ≠ y.val.heap.size := by omega
      rw [drop_cons hl, injectF] at hL
      have hih := Lib.hid hi.out
      have hLh := Lib.hid hL.out
      clear hi hL hl
      by_cases hskip : 0 ≤ load ∧ load ≠ (i : Int)
      · obtain ⟨hs0, hs1⟩ := hskip
        rw [if_pos ⟨hs0, hs1⟩] at hLh
        have q1 : (load != (i : Int)) = true := by simpa using hs1
        have q2 : decide (0 ≤ load) = true := decide_eq_true hs0
        have hsh := Lib.hid hSh
        have hNh := Lib.hid hN
        clear hs1 hSh hN hvl
        go_wp2
        go_roundg gO
        case measure => have := hih.out; omega
        case rel => exact ⟨i + 1, y.alloc _, s, by go_num, rfl, by show i + 1 + gO = row.length; have := hih.out; omega, hNh.out.below (Zn (Below.refl _ _) _), hsh.out, hLh.out⟩
      · rw [if_neg hskip] at hLh
        have q12 : (decide (0 ≤ load) = false) ∨ (decide (0 ≤ load) = true ∧ (load != (i : Int)) = false) := by
          by_cases h : 0 ≤ load
          · exact .inr ⟨decide_eq_true h, by simpa using fun e => hskip ⟨h, e⟩⟩
          · exact .inl (decide_eq_false h)
        have hput := putOne_shape s l 1
        have hsh := Lib.hid (hSh.trans hput)
        have hNh := Lib.hid hN
        obtain ⟨f0, f1, f2⟩ := l
        simp only [ValidL] at hvl
        clear hskip hput hSh
        rcases hvl with ⟨rfl, i', k', x, rfl, rfl, hx, hk⟩ | ⟨rfl, i', x, rfl, hx⟩ | ⟨rfl, i', x, rfl, hx⟩ | ⟨rfl, i', rfl, hx⟩
        · obtain ⟨g3, c3', gi, ci, he3, hc3, hci, hfi, hg3l, hgil, hg3B, hgiB, -, hg3t, ⟨cs, hgit⟩, hset⟩ := hN.r.pin hx hk
          have hi3 : i' < l3.length := by
            have h5 := (List.getElem?_eq_some_iff.1 hx).1
            injection he3 with _ h6 _
            omega
          have hs' : putOne s ⟨0, i', k'⟩ 1 = ⟨s.fl, s.ga.set i' ⟨x.f0, x.f1, x.f2.set k' 1⟩, s.ou⟩ := by
            unfold putOne
            rw [if_pos rfl, Int.toNat_natCast, Int.toNat_natCast, modify_at _ hx]
          injection he3 with he3 he6 he3'
          clear he6
          subst he3
          subst he3'
          rw [hs'] at hsh hLh
          have hg9t := hN.blk
          have hx2 := Lib.hid hx
          clear hs' hN hx hg3t
          rcases q12 with q1 | ⟨q1, q2⟩
          all_goals
            go_wp2
            refine wp_region_splitT (fun w' => ∃ z : Under (y.val.alloc (.cells #[.int .i64 0, .int .i64 i', .int .i64 k'] 77)), w' = z.val) [true, true, true, true, true, true, true, true, true, true, false, false] (by kernel_rfl) (by kernel_rfl) (by decide) ⟨(Under.refl _).drew, rfl⟩ (fun _ _ d _ _ h => by cases d <;> exact h) ?_
            simp only [pickB, dropB]
            repeat (go_big_quiet_step (fail))
            refine wpQuiet_nil ?_
            refine wpListT_step (fun Q' hQ' => ?_)
            go_wp2_with fail
            refine ⟨⟨(Under.refl _).drew, rfl⟩, ?_⟩
            refine wpListT_last (fun Q' hQ' => ?_)
            go_wp2
            go_roundg gO
            case measure => have := hih.out; omega
            case rel =>
              refine ⟨i + 1, ((y.setCell ⟨gi, k', none⟩ hgiB _).alloc _).drew, _, by go_num, rfl, by show i + 1 + gO = row.length; have := hih.out; omega, ((NetAt.set hNh.out hgit (by decide) (hset 1)).below (Zn (Below.refl _ _) _)).below (below_drew (Below.refl _ _)), hsh.out, hLh.out⟩
        · obtain ⟨g2, c2', he2, hg2l, hg2B, -, ⟨cs, hg2t⟩, hd2, hd3, hf2, hf3, hset⟩ := hN.r.flop hx
          have hi2 : i' < l2.length := by
            have h5 := (List.getElem?_eq_some_iff.1 hx).1
            injection he2 with _ h6 _
            omega
          have hs' : putOne s ⟨1, i', f2⟩ 1 = ⟨s.fl.set i' ⟨x.f0, x.f1, 1, x.f3, x.f4⟩, s.ga, s.ou⟩ := by
            unfold putOne
            rw [if_neg (show ¬ ((1 : Int) = 0) by decide), if_pos rfl, Int.toNat_natCast, modify_at _ hx]
          injection he2 with he2 he6 he2'
          clear he6
          subst he2
          subst he2'
          rw [hs'] at hsh hLh
          clear hs' hN hx
          rcases q12 with q1 | ⟨q1, q2⟩
          all_goals
            go_wp2
            go_roundg gO
            case measure => have := hih.out; omega
            case rel =>
              refine ⟨i + 1, (y.setCell ⟨g2, i' * 5 + 2, none⟩ hg2B _).alloc _, _, by go_num, rfl, by show i + 1 + gO = row.length; have := hih.out; omega, (NetAt.set hNh.out hg2t (by decide) (hset 1).1).below (Zn (Below.refl _ _) _), hsh.out, hLh.out⟩
        · obtain ⟨g2, c2', he2, hg2l, hg2B, -, ⟨cs, hg2t⟩, hd2, hd3, hf2, hf3, hset⟩ := hN.r.flop hx
          have hi2 : i' < l2.length := by
            have h5 := (List.getElem?_eq_some_iff.1 hx).1
            injection he2 with _ h6 _
            omega
          have hs' : putOne s ⟨2, i', f2⟩ 1 = ⟨s.fl.set i' ⟨x.f0, x.f1, x.f2, 1, x.f4⟩, s.ga, s.ou⟩ := by
            unfold putOne
            rw [if_neg (show ¬ ((2 : Int) = 0) by decide), if_neg (show ¬ ((2 : Int) = 1) by decide), if_pos rfl, Int.toNat_natCast, modify_at _ hx]
          injection he2 with he2 he6 he2'
          clear he6
          subst he2
          subst he2'
          rw [hs'] at hsh hLh
          clear hs' hN hx
          rcases q12 with q1 | ⟨q1, q2⟩
          all_goals
            go_wp2
            go_roundg gO
            case measure => have := hih.out; omega
            case rel =>
              refine ⟨i + 1, (y.setCell ⟨g2, i' * 5 + 3, none⟩ hg2B _).alloc _, _, by go_num, rfl, by show i + 1 + gO = row.length; have := hih.out; omega, (NetAt.set hNh.out hg2t (by decide) (hset 1).2).below (Zn (Below.refl _ _) _), hsh.out, hLh.out⟩
        · obtain ⟨g4, c4', he4, hg4l, hg4B, -, ⟨cs, hg4t⟩, hd4, hf4, hset⟩ := hN.r.out hx
          have hi4 : i' < l4.length := by
            injection he4 with _ h6 _
            omega
          have hs' : putOne s ⟨3, i', f2⟩ 1 = ⟨s.fl, s.ga, s.ou.set i' 1⟩ := by
            unfold putOne
            rw [if_neg (show ¬ ((3 : Int) = 0) by decide), if_neg (show ¬ ((3 : Int) = 1) by decide), if_neg (show ¬ ((3 : Int) = 2) by decide), Int.toNat_natCast]
          injection he4 with he4 he6 he4'
          clear he6
          subst he4
          subst he4'
          rw [hs'] at hsh hLh
          clear hs' hN hx
          rcases q12 with q1 | ⟨q1, q2⟩
          all_goals
            go_wp2
            go_roundg gO
            case measure => have := hih.out; omega
            case rel =>
              refine ⟨i + 1, (y.setCell ⟨g4, i', none⟩ hg4B _).alloc _, _, by go_num, rfl, by show i + 1 + gO = row.length; have := hih.out; omega, (NetAt.set hNh.out hg4t (by decide) (hset 1)).below (Zn (Below.refl _ _) _), hsh.out, hLh.out⟩
    · obtain rfl : i = row.length := by have := hi.out; omega
      rw [drop_end, injectF] at hL
      have hrbx := (y.ok.block (w.heap.size + 1 + 1) (by omega)).trans (hrb x2)
      have hLh := Lib.hid hL.out
      have hNh := Lib.hid hN
      clear hi hL hN hSh
      go_wp2
      ((try simp only [Exit.inBlock, Exit.then]); refine bodyPost_ret (results_cell_tmp_row rfl _ _ (w.heap.size + 1 + 1) _ _ _ _ rfl (set5 (.slice B0 l0.length d0) (.slice B1 l1.length d1) (.slice B2 l2.length d2) (.slice B3 l3.length d3) (.slice B4 l4.length d4) hrbx).1 Try.underlying27 rfl (by kernel_rfl)) rfl ?_)
      have hBy : Below w.heap.size w y.val := (bel x2).trans (y.ok.mono (by omega))
      rw [hLh.out] at hNh
      refine ⟨_, _, _, _, _, rfl, (hNh.out.r.vars (fun k hk hB => (set5 _ _ _ _ _ hrbx).2 k (by omega))).lower (by omega), ((((hBy.setCell (p := ⟨w.heap.size + 1 + 1, 0, none⟩) (by simp; omega) _).setCell (p := ⟨w.heap.size + 1 + 1, 1, none⟩) (by simp; omega) _).setCell (p := ⟨w.heap.size + 1 + 1, 2, none⟩) (by simp; omega) _).setCell (p := ⟨w.heap.size + 1 + 1, 3, none⟩) (by simp; omega) _).setCell (p := ⟨w.heap.size + 1 + 1, 4, none⟩) (by simp; omega) _⟩
set_option maxHeartbeats 16000000 in
theorem inject_ok_f (A0 A1 A2 A3 A4 : Option Addr) (c0 c1 c2 c3 c4 : Nat) (l0 l1 : List ByteArray) (l2 : List Flop) (l3 : List Gate) (l4 : List Int) (nn : Nat) (load : Int) (w : World)
    (h0 : Kd.C Kd.string w A0 l0.length l0) (h1 : Kd.C Kd.string w A1 l1.length l1) (h2 : Kd.C kFlop w A2 l2.length l2) (h3 : Kd.C kGate w A3 l3.length l3) (h4 : Kd.C (Kd.int .i64) w A4 l4.length l4)
    (m0 : l0.length * 16 ≤ 140737488355328) (m1 : l1.length * 16 ≤ 140737488355328) (m2 : l2.length * 48 ≤ 140737488355328) (m3 : l3.length * 40 ≤ 140737488355328) (m4 : l4.length * 8 ≤ 140737488355328) (m5 : ∀ x ∈ l3, x.f2.length * 8 ≤ 140737488355328)
    (rows : List (List Load)) (row : List Load) (hrow : rows[nn]? = some row) (hval : ∀ l ∈ row, ValidL ⟨l2, l3, l4⟩ l)
    (HL : ∀ W, Below w.heap.size w W → Calls Try.prog 27 #[.agg #[.slice A0 l0.length c0, .slice A1 l1.length c1, .slice A2 l2.length c2, .slice A3 l3.length c3, .slice A4 l4.length c4]] W fun e w' => ∃ v, e = .returned (.tuple #[v, .int .i64 0]) ∧ Kd.S (Kd.slice 77 kLoad) 75 w' W.heap.size (fun _ => True) v rows ∧ Below W.heap.size W w')
    (HC : ∀ W v, Kd.S (Kd.slice 77 kLoad) 75 W (w.heap.size + 3) (fun _ => True) v rows → Calls Try.prog 28 #[v, .agg #[.int .i64 (nn : Int), .int .i64 load, .bool false]] W fun e w' => e = .returned (.int .i64 0) ∧ Below W.heap.size W w') :
    Calls Try.prog 8 #[.agg #[.slice A0 l0.length c0, .slice A1 l1.length c1, .slice A2 l2.length c2, .slice A3 l3.length c3, .slice A4 l4.length c4], .agg #[.int .i64 (nn : Int), .int .i64 load, .bool false]] w fun e w' => ∃ v0 v1 v2 v3 v4 : Value, e = .returned (.tuple #[.agg #[v0, v1, v2, v3, v4], .int .i64 0]) ∧
      NetR (fun _ => True) w.heap.size w' v0 v1 v2 v3 v4 l0 l1 (injectF load 0 row 0 ⟨l2, l3, l4⟩).fl (injectF load 0 row 0 ⟨l2, l3, l4⟩).ga (injectF load 0 row 0 ⟨l2, l3, l4⟩).ou ∧ Below w.heap.size w w' := by
  have hu := Try.underlying27
  have huF := Try.underlying29
  have huL := Try.underlying77
  have huG := Try.underlying80
  have huP := Try.underlying82
  have hW0 : Below w.heap.size w (((w.alloc (.cells #[.slice A0 l0.length c0, .slice A1 l1.length c1, .slice A2 l2.length c2, .slice A3 l3.length c3, .slice A4 l4.length c4] 27)).alloc (.cells #[.int .i64 (nn : Int), .int .i64 load, .bool false] 29)).alloc (.cells #[.slice none 0 0, .slice none 0 0, .slice none 0 0, .slice none 0 0, .slice none 0 0] 27)) := (((Below.refl _ _).alloc (Nat.le_refl _) _).alloc (by simp) _).alloc (by simp; omega) _
  have bel : ∀ x : Under (((w.alloc (.cells #[.slice A0 l0.length c0, .slice A1 l1.length c1, .slice A2 l2.length c2, .slice A3 l3.length c3, .slice A4 l4.length c4] 27)).alloc (.cells #[.int .i64 (nn : Int), .int .i64 load, .bool false] 29)).alloc (.cells #[.slice none 0 0, .slice none 0 0, .slice none 0 0, .slice none 0 0, .slice none 0 0] 27)), Below w.heap.size w x.val := fun x => hW0.trans (x.ok.mono (by simp; omega))
  have hsz : ∀ x : Under (((w.alloc (.cells #[.slice A0 l0.length c0, .slice A1 l1.length c1, .slice A2 l2.length c2, .slice A3 l3.length c3, .slice A4 l4.length c4] 27)).alloc (.cells #[.int .i64 (nn : Int), .int .i64 load, .bool false] 29)).alloc (.cells #[.slice none 0 0, .slice none 0 0, .slice none 0 0, .slice none 0 0, .slice none 0 0] 27)), w.heap.size + 2 < x.val.heap.size := fun x => Nat.lt_of_lt_of_le (by simp) x.size
  have hb3 : w.heap.size + 3 ≤ ((((w.alloc (.cells #[.slice A0 l0.length c0, .slice A1 l1.length c1, .slice A2 l2.length c2, .slice A3 l3.length c3, .slice A4 l4.length c4] 27)).alloc (.cells #[.int .i64 (nn : Int), .int .i64 load, .bool false] 29)).alloc (.cells #[.slice none 0 0, .slice none 0 0, .slice none 0 0, .slice none 0 0, .slice none 0 0] 27))).heap.size := Nat.le_of_eq (by simp)
  have hrb : ∀ x : Under (((w.alloc (.cells #[.slice A0 l0.length c0, .slice A1 l1.length c1, .slice A2 l2.length c2, .slice A3 l3.length c3, .slice A4 l4.length c4] 27)).alloc (.cells #[.int .i64 (nn : Int), .int .i64 load, .bool false] 29)).alloc (.cells #[.slice none 0 0, .slice none 0 0, .slice none 0 0, .slice none 0 0, .slice none 0 0] 27)), x.val.heap[w.heap.size + 1 + 1]? = some (.cells #[.slice none 0 0, .slice none 0 0, .slice none 0 0, .slice none 0 0, .slice none 0 0] 27 (0, 0)) := fun x => (x.ok.block (w.heap.size + 1 + 1) (by simp)).trans (heap_alloc3_new w _ _ _)
  have hnl : nn < rows.length := (List.getElem?_eq_some_iff.1 hrow).1
  have hnl2 : (nn : Int) < (rows.length : Int) := by omega
  have hrowh := Lib.hid hrow
  have hvalh := Lib.hid hval
  clear hrow hval
  go_enter Try.func8, Try.ntmps8
  go_wp2_with (first
    | (go_at_call 27; refine (HL _ hW0).mono ?_; rintro e w1 ⟨v, rfl, hS1, hB1⟩; obtain ⟨x1, rfl⟩ : ∃ x : Under (((w.alloc (.cells #[.slice A0 l0.length c0, .slice A1 l1.length c1, .slice A2 l2.length c2, .slice A3 l3.length c3, .slice A4 l4.length c4] 27)).alloc (.cells #[.int .i64 (nn : Int), .int .i64 load, .bool false] 29)).alloc (.cells #[.slice none 0 0, .slice none 0 0, .slice none 0 0, .slice none 0 0, .slice none 0 0] 27)), w1 = x.val := ⟨⟨w1, hB1⟩, rfl⟩; have hs1 := hsz x1; have hS1' := Kd.S_lower (base' := w.heap.size + 3) hS1 hb3; have hs1a : w.heap.size < x1.val.heap.size := (by omega); have hs1b : w.heap.size + 1 < x1.val.heap.size := (by omega); have HC1 := HC _ _ hS1'; obtain ⟨AR, cR, rfl, _, hR1⟩ := Kd.S_reads hS1)
    | (go_at_call 28; refine HC1.mono ?_; rintro e w2 ⟨rfl, hB2⟩; obtain ⟨x2, rfl⟩ : ∃ x : Under (((w.alloc (.cells #[.slice A0 l0.length c0, .slice A1 l1.length c1, .slice A2 l2.length c2, .slice A3 l3.length c3, .slice A4 l4.length c4] 27)).alloc (.cells #[.int .i64 (nn : Int), .int .i64 load, .bool false] 29)).alloc (.cells #[.slice none 0 0, .slice none 0 0, .slice none 0 0, .slice none 0 0, .slice none 0 0] 27)), w2 = x.val := ⟨⟨w2, x1.ok.trans (hB2.mono x1.size)⟩, rfl⟩; have hs2 := hsz x2; have hR2 := Kd.Zf hR1 hB2; have hs2a : w.heap.size < x2.val.heap.size := (by omega); have hs2b : w.heap.size + 1 < x2.val.heap.size := (by omega))
    | (go_at_call 29; refine (copy_calls A0 A1 A2 A3 A4 c0 c1 c2 c3 c4 l0 l1 l2 l3 l4 x2.val (Kd.Zf h0 (bel x2)) (Kd.Zf h1 (bel x2)) (Kd.Zf h2 (bel x2)) (Kd.Zf h3 (bel x2)) (Kd.Zf h4 (bel x2)) m0 m1 m2 m3 m4 m5).mono ?_; rintro e w3 ⟨v0, v1, v2, v3, v4, rfl, hr0, hr1, hr2, hr3, hr4, hB3⟩; obtain ⟨x3, rfl⟩ : ∃ x : Under x2.val, w3 = x.val := ⟨⟨w3, hB3⟩, rfl⟩; obtain ⟨B0, d0, rfl⟩ := Kd.Xd hr0; obtain ⟨B1, d1, rfl⟩ := Kd.Xd hr1; obtain ⟨B2, d2, rfl⟩ := Kd.Xd hr2; obtain ⟨B3, d3, rfl⟩ := Kd.S_slice hr3; obtain ⟨B4, d4, rfl⟩ := Kd.Xd hr4; have hs3 := x3.size; obtain ⟨br, or, Al, cl, rfl, hbr, hcr, hCl⟩ := kd_rows hR2 hrowh.out; have hs3a : w.heap.size < x3.val.heap.size := (by omega); have hs3b : w.heap.size + 1 < x3.val.heap.size := (by omega); have hs3c : br < x3.val.heap.size := (by omega)))
  have hN0 : NetAt (fun _ => True) x2.val.heap.size (x3.val.alloc (.cells #[.slice B0 l0.length d0, .slice B1 l1.length d1, .slice B2 l2.length d2, .slice B3 l3.length d3, .slice B4 l4.length d4] 27)) x3.val.heap.size (.slice B0 l0.length d0) (.slice B1 l1.length d1) (.slice B2 l2.length d2) (.slice B3 l3.length d3) (.slice B4 l4.length d4) l0 l1 ⟨l2, l3, l4⟩ :=
    ⟨heap_alloc_new _ _, NetR.below ⟨Kd.Xj hr0 (fun _ h => ⟨trivial, h⟩), Kd.Xj hr1 (fun _ h => ⟨trivial, h⟩), hr2, Kd.S_mono hr3 (fun _ h => ⟨trivial, h⟩), hr4⟩ (Zn (Below.refl _ _) _)⟩
  have hg9B := x3.size
  clear hr0 hr1 hr2 hr3 hr4 hR1 hR2 hS1 hS1' HC1 HL HC hB1 hB2 hB3
  generalize hg9 : x3.val.heap.size = g9 at *
  have hml := (kd_len hCl).2
  have hcb := Lib.hid (show True from trivial)
  go_loopg [11, 12, 39] row.length (fun d _ _ t wr => ∃ (i : Nat) (y : Under x2.val) (s : NetP), t = .int .i64 i ∧ wr = y.val ∧ Aside (i + d = row.length) ∧ NetAt (fun _ => True) x2.val.heap.size y.val g9 (.slice B0 l0.length d0) (.slice B1 l1.length d1) (.slice B2 l2.length d2) (.slice B3 l3.length d3) (.slice B4 l4.length d4) l0 l1 s ∧
    Shape ⟨l2, l3, l4⟩ s ∧ Aside (injectF load 0 (row.drop i) i s = injectF load 0 row 0 ⟨l2, l3, l4⟩))
  case atStart => exact ⟨0, x3.alloc _, ⟨l2, l3, l4⟩, rfl, rfl, by show 0 + row.length = row.length; omega, hN0, Shape.refl _, rfl⟩
  case round =>
    clear hN0
    obtain ⟨i, y, s, rfl, rfl, hi, hN, hSh, hL⟩ := hrel
    obtain ⟨hgl, hn0, hn1, hn2, hn3, hn4⟩ := hN.cell
    have hyl := y.size
    have hya : w.heap.size < y.val.heap.size := by omega
    have hyb : w.heap.size + 1 < y.val.heap.size := by omega
    have hyc : w.heap.size + 1 + 1 < y.val.heap.size := by omega
    by_cases hlt : i < row.length
    · obtain ⟨l, hl⟩ := get_ex hlt
      obtain ⟨b, ob, rfl, hb, hk0, hk1, hk2⟩ := kd_load hCl hl
      obtain ⟨gO, rfl⟩ : ∃ m, gk = m + 1 := ⟨gk - 1, by have := hi.out; omega⟩
      have hvl := (hvalh.out l (List.mem_of_getElem? hl)).shape hSh
      have hby : b < y.val.heap.size := by omega
      have hbn : b ≠ y.val.heap.size := by omega
      rw [drop_cons hl, injectF] at hL
      have hih := Lib.hid hi.out
      have hLh := Lib.hid hL.out
      clear hi hL hl
      by_cases hskip : 0 ≤ load ∧ load ≠ (i : Int)
      · obtain ⟨hs0, hs1⟩ := hskip
        rw [if_pos ⟨hs0, hs1⟩] at hLh
        have q1 : (load != (i : Int)) = true := by simpa using hs1
        have q2 : decide (0 ≤ load) = true := decide_eq_true hs0
        have hsh := Lib.hid hSh
        have hNh := Lib.hid hN
        clear hs1 hSh hN hvl
        go_wp2
        go_roundg gO
        case measure => have := hih.out; omega
        case rel => exact ⟨i + 1, y.alloc _, s, by go_num, rfl, by show i + 1 + gO = row.length; have := hih.out; omega, hNh.out.below (Zn (Below.refl _ _) _), hsh.out, hLh.out⟩
      · rw [if_neg hskip] at hLh
        have q12 : (decide (0 ≤ load) = false) ∨ (decide (0 ≤ load) = true ∧ (load != (i : Int)) = false) := by
          by_cases h : 0 ≤ load
          · exact .inr ⟨decide_eq_true h, by simpa using fun e => hskip ⟨h, e⟩⟩
          · exact .inl (decide_eq_false h)
        have hput := putOne_shape s l 0
        have hsh := Lib.hid (hSh.trans hput)
        have hNh := Lib.hid hN
        obtain ⟨f0, f1, f2⟩ := l
        simp only [ValidL] at hvl
        clear hskip hput hSh
        rcases hvl with ⟨rfl, i', k', x, rfl, rfl, hx, hk⟩ | ⟨rfl, i', x, rfl, hx⟩ | ⟨rfl, i', x, rfl, hx⟩ | ⟨rfl, i', rfl, hx⟩
        · obtain ⟨g3, c3', gi, ci, he3, hc3, hci, hfi, hg3l, hgil, hg3B, hgiB, -, hg3t, ⟨cs, hgit⟩, hset⟩ := hN.r.pin hx hk
          have hi3 : i' < l3.length := by
            have h5 := (List.getElem?_eq_some_iff.1 hx).1
            injection he3 with _ h6 _
            omega
          have hs' : putOne s ⟨0, i', k'⟩ 0 = ⟨s.fl, s.ga.set i' ⟨x.f0, x.f1, x.f2.set k' 0⟩, s.ou⟩ := by
            unfold putOne
            rw [if_pos rfl, Int.toNat_natCast, Int.toNat_natCast, modify_at _ hx]
          injection he3 with he3 he6 he3'
          clear he6
          subst he3
          subst he3'
          rw [hs'] at hsh hLh
          have hg9t := hN.blk
          have hx2 := Lib.hid hx
          clear hs' hN hx hg3t
          rcases q12 with q1 | ⟨q1, q2⟩
          all_goals
            go_wp2
            refine wp_region_splitT (fun w' => ∃ z : Under (y.val.alloc (.cells #[.int .i64 0, .int .i64 i', .int .i64 k'] 77)), w' = z.val) [true, true, true, true, true, true, true, true, true, true, false, false] (by kernel_rfl) (by kernel_rfl) (by decide) ⟨(Under.refl _).drew, rfl⟩ (fun _ _ d _ _ h => by cases d <;> exact h) ?_
            simp only [pickB, dropB]
            repeat (go_big_quiet_step (fail))
            refine wpQuiet_nil ?_
            refine wpListT_step (fun Q' hQ' => ?_)
            go_wp2_with fail
            refine ⟨⟨(Under.refl _).drew, rfl⟩, ?_⟩
            refine wpListT_last (fun Q' hQ' => ?_)
            go_wp2
            go_roundg gO
            case measure => have := hih.out; omega
            case rel =>
              refine ⟨i + 1, ((y.setCell ⟨gi, k', none⟩ hgiB _).alloc _).drew, _, by go_num, rfl, by show i + 1 + gO = row.length; have := hih.out; omega, ((NetAt.set hNh.out hgit (by decide) (hset 0)).below (Zn (Below.refl _ _) _)).below (below_drew (Below.refl _ _)), hsh.out, hLh.out⟩
        · obtain ⟨g2, c2', he2, hg2l, hg2B, -, ⟨cs, hg2t⟩, hd2, hd3, hf2, hf3, hset⟩ := hN.r.flop hx
          have hi2 : i' < l2.length := by
            have h5 := (List.getElem?_eq_some_iff.1 hx).1
            injection he2 with _ h6 _
            omega
          have hs' : putOne s ⟨1, i', f2⟩ 0 = ⟨s.fl.set i' ⟨x.f0, x.f1, 0, x.f3, x.f4⟩, s.ga, s.ou⟩ := by
            unfold putOne
            rw [if_neg (show ¬ ((1 : Int) = 0) by decide), if_pos rfl, Int.toNat_natCast, modify_at _ hx]
          injection he2 with he2 he6 he2'
          clear he6
          subst he2
          subst he2'
          rw [hs'] at hsh hLh
          clear hs' hN hx
          rcases q12 with q1 | ⟨q1, q2⟩
          all_goals
            go_wp2
            go_roundg gO
            case measure => have := hih.out; omega
            case rel =>
              refine ⟨i + 1, (y.setCell ⟨g2, i' * 5 + 2, none⟩ hg2B _).alloc _, _, by go_num, rfl, by show i + 1 + gO = row.length; have := hih.out; omega, (NetAt.set hNh.out hg2t (by decide) (hset 0).1).below (Zn (Below.refl _ _) _), hsh.out, hLh.out⟩
        · obtain ⟨g2, c2', he2, hg2l, hg2B, -, ⟨cs, hg2t⟩, hd2, hd3, hf2, hf3, hset⟩ := hN.r.flop hx
          have hi2 : i' < l2.length := by
            have h5 := (List.getElem?_eq_some_iff.1 hx).1
            injection he2 with _ h6 _
            omega
          have hs' : putOne s ⟨2, i', f2⟩ 0 = ⟨s.fl.set i' ⟨x.f0, x.f1, x.f2, 0, x.f4⟩, s.ga, s.ou⟩ := by
            unfold putOne
            rw [if_neg (show ¬ ((2 : Int) = 0) by decide), if_neg (show ¬ ((2 : Int) = 1) by decide), if_pos rfl, Int.toNat_natCast, modify_at _ hx]
          injection he2 with he2 he6 he2'
          clear he6
          subst he2
          subst he2'
          rw [hs'] at hsh hLh
          clear hs' hN hx
          rcases q12 with q1 | ⟨q1, q2⟩
          all_goals
            go_wp2
            go_roundg gO
            case measure => have := hih.out; omega
            case rel =>
              refine ⟨i + 1, (y.setCell ⟨g2, i' * 5 + 3, none⟩ hg2B _).alloc _, _, by go_num, rfl, by show i + 1 + gO = row.length; have := hih.out; omega, (NetAt.set hNh.out hg2t (by decide) (hset 0).2).below (Zn (Below.refl _ _) _), hsh.out, hLh.out⟩
        · obtain ⟨g4, c4', he4, hg4l, hg4B, -, ⟨cs, hg4t⟩, hd4, hf4, hset⟩ := hN.r.out hx
          have hi4 : i' < l4.length := by
            injection he4 with _ h6 _
            omega
          have hs' : putOne s ⟨3, i', f2⟩ 0 = ⟨s.fl, s.ga, s.ou.set i' 0⟩ := by
            unfold putOne
            rw [if_neg (show ¬ ((3 : Int) = 0) by decide), if_neg (show ¬ ((3 : Int) = 1) by decide), if_neg (show ¬ ((3 : Int) = 2) by decide), Int.toNat_natCast]
          injection he4 with he4 he6 he4'
          clear he6
          subst he4
          subst he4'
          rw [hs'] at hsh hLh
          clear hs' hN hx
          rcases q12 with q1 | ⟨q1, q2⟩
          all_goals
            go_wp2
            go_roundg gO
            case measure => have := hih.out; omega
            case rel =>
              refine ⟨i + 1, (y.setCell ⟨g4, i', none⟩ hg4B _).alloc _, _, by go_num, rfl, by show i + 1 + gO = row.length; have := hih.out; omega, (NetAt.set hNh.out hg4t (by decide) (hset 0)).below (Zn (Below.refl _ _) _), hsh.out, hLh.out⟩
    · obtain rfl : i = row.length := by have := hi.out; omega
      rw [drop_end, injectF] at hL
      have hrbx := (y.ok.block (w.heap.size + 1 + 1) (by omega)).trans (hrb x2)
      have hLh := Lib.hid hL.out
      have hNh := Lib.hid hN
      clear hi hL hN hSh
      go_wp2
      ((try simp only [Exit.inBlock, Exit.then]); refine bodyPost_ret (results_cell_tmp_row rfl _ _ (w.heap.size + 1 + 1) _ _ _ _ rfl (set5 (.slice B0 l0.length d0) (.slice B1 l1.length d1) (.slice B2 l2.length d2) (.slice B3 l3.length d3) (.slice B4 l4.length d4) hrbx).1 Try.underlying27 rfl (by kernel_rfl)) rfl ?_)
      have hBy : Below w.heap.size w y.val := (bel x2).trans (y.ok.mono (by omega))
      rw [hLh.out] at hNh
      refine ⟨_, _, _, _, _, rfl, (hNh.out.r.vars (fun k hk hB => (set5 _ _ _ _ _ hrbx).2 k (by omega))).lower (by omega), ((((hBy.setCell (p := ⟨w.heap.size + 1 + 1, 0, none⟩) (by simp; omega) _).setCell (p := ⟨w.heap.size + 1 + 1, 1, none⟩) (by simp; omega) _).setCell (p := ⟨w.heap.size + 1 + 1, 2, none⟩) (by simp; omega) _).setCell (p := ⟨w.heap.size + 1 + 1, 3, none⟩) (by simp; omega) _).setCell (p := ⟨w.heap.size + 1 + 1, 4, none⟩) (by simp; omega) _⟩
end Go.Proofs.Ytimjccfpobhpeaa
namespace Go.Proofs.Ytimjccfpobhpeaa
open Go.RowKit Go.Proofs.YtimjccfpobhpeaaW.PrintWords Go.Proofs.Ytimjccfpobhpeaa.PF
set_option maxRecDepth 100000
def newv (net load val : Int) (m : List ((Int × Int × Int) × Int)) (l : Load) (x : Int) : Int := if putC net load x ((mget m (keyL l)).getD 0) = true then val else x
end Go.Proofs.Ytimjccfpobhpeaa
namespace Go.Proofs.Ytimjccfpobhpeaa
open Go.RowKit Go.Proofs.YtimjccfpobhpeaaW.PrintWords Go.Proofs.Ytimjccfpobhpeaa.PF
set_option maxRecDepth 100000
section
variable (nv : Load → Int → Int)
def brPins (i : Nat) : List Int → Nat → List Int
  | [], _ => []
  | x :: r, k => nv ⟨0, i, k⟩ x :: brPins i r (k + 1)
def brGates : List GateS → Nat → List GateS
  | [], _ => []
  | g :: r, i => ⟨g.f0, g.f1, brPins nv i g.f2 0⟩ :: brGates r (i + 1)
def brFlops : List FlopS → Nat → List FlopS
  | [], _ => []
  | f :: r, i => ⟨f.f0, f.f1, nv ⟨1, i, 0⟩ f.f2, nv ⟨2, i, 0⟩ f.f3, f.f4⟩ :: brFlops r (i + 1)
def brOuts : List Int → Nat → List Int
  | [], _ => []
  | x :: r, i => nv ⟨3, i, 0⟩ x :: brOuts r (i + 1)
theorem brPins_at (i : Nat) : ∀ (xs : List Int) (k0 k : Nat), (brPins nv i xs k0)[k]? = xs[k]?.map (nv ⟨0, i, (k0 + k : Nat)⟩)
  | [], k0, k => by simp [brPins]
  | x :: r, k0, 0 => by simp [brPins]
  | x :: r, k0, k + 1 => by
    rw [brPins, List.getElem?_cons_succ, List.getElem?_cons_succ, brPins_at i r (k0 + 1) k, show k0 + 1 + k = k0 + (k + 1) by omega]
theorem brPins_len (i : Nat) : ∀ (xs : List Int) (k0 : Nat), (brPins nv i xs k0).length = xs.length
  | [], k0 => rfl
  | x :: r, k0 => by rw [brPins, List.length_cons, brPins_len i r, List.length_cons]
theorem brGates_at : ∀ (xs : List GateS) (i0 i : Nat), (brGates nv xs i0)[i]? = xs[i]?.map (fun g => ⟨g.f0, g.f1, brPins nv (i0 + i) g.f2 0⟩)
  | [], i0, i => by simp [brGates]
  | x :: r, i0, 0 => by simp [brGates]
  | x :: r, i0, i + 1 => by
    rw [brGates, List.getElem?_cons_succ, List.getElem?_cons_succ, brGates_at r (i0 + 1) i, show i0 + 1 + i = i0 + (i + 1) by omega]
theorem brGates_len : ∀ (xs : List GateS) (i0 : Nat), (brGates nv xs i0).length = xs.length
  | [], i0 => rfl
  | x :: r, i0 => by rw [brGates, List.length_cons, brGates_len r, List.length_cons]
theorem brFlops_at : ∀ (xs : List FlopS) (i0 i : Nat), (brFlops nv xs i0)[i]? = xs[i]?.map (fun f => ⟨f.f0, f.f1, nv ⟨1, (i0 + i : Nat), 0⟩ f.f2, nv ⟨2, (i0 + i : Nat), 0⟩ f.f3, f.f4⟩)
  | [], i0, i => by simp [brFlops]
  | x :: r, i0, 0 => by simp [brFlops]
  | x :: r, i0, i + 1 => by
    rw [brFlops, List.getElem?_cons_succ, List.getElem?_cons_succ, brFlops_at r (i0 + 1) i, show i0 + 1 + i = i0 + (i + 1) by omega]
theorem brFlops_len : ∀ (xs : List FlopS) (i0 : Nat), (brFlops nv xs i0).length = xs.length
  | [], i0 => rfl
  | x :: r, i0 => by rw [brFlops, List.length_cons, brFlops_len r, List.length_cons]
theorem brOuts_at : ∀ (xs : List Int) (k0 k : Nat), (brOuts nv xs k0)[k]? = xs[k]?.map (nv ⟨3, (k0 + k : Nat), 0⟩)
  | [], k0, k => by simp [brOuts]
  | x :: r, k0, 0 => by simp [brOuts]
  | x :: r, k0, k + 1 => by
    rw [brOuts, List.getElem?_cons_succ, List.getElem?_cons_succ, brOuts_at r (k0 + 1) k, show k0 + 1 + k = k0 + (k + 1) by omega]
theorem brOuts_len : ∀ (xs : List Int) (k0 : Nat), (brOuts nv xs k0).length = xs.length
  | [], k0 => rfl
  | x :: r, k0 => by rw [brOuts, List.length_cons, brOuts_len r, List.length_cons]
end
end Go.Proofs.Ytimjccfpobhpeaa
namespace Go.Proofs.Ytimjccfpobhpeaa
open Go.RowKit Go.Proofs.YtimjccfpobhpeaaW.PrintWords Go.Proofs.Ytimjccfpobhpeaa.PF
set_option linter.unusedVariables false
inductive Pl
  | pin (i k : Nat)
  | d (i : Nat)
  | en (i : Nat)
  | out (i : Nat)
def toL : Pl → Load
  | .pin i k => ⟨0, i, k⟩
  | .d i => ⟨1, i, 0⟩
  | .en i => ⟨2, i, 0⟩
  | .out i => ⟨3, i, 0⟩
theorem toL_inj {p q : Pl} (h : toL p = toL q) : p = q := by
  cases p <;> cases q <;> simp only [toL] at h <;> injection h with h0 h1 h2 <;> first | (have e1 := Int.ofNat.inj h1; have e2 := Int.ofNat.inj h2; subst e1 e2; rfl) | (have e1 := Int.ofNat.inj h1; subst e1; rfl) | (exfalso; omega)
def getP (s : NetP) : Pl → Option Int
  | .pin i k => (s.ga[i]?).bind fun x => x.f2[k]?
  | .d i => (s.fl[i]?).map (·.f2)
  | .en i => (s.fl[i]?).map (·.f3)
  | .out i => s.ou[i]?
theorem getP_put (s : NetP) (p q : Pl) (v : Int) : (p = q → getP (putOne s (toL p) v) q = (getP s q).map (fun _ => v)) ∧ (p ≠ q → getP (putOne s (toL p) v) q = getP s q) := by
  have u0 : ∀ i k : Nat, putOne s (toL (.pin i k)) v = { s with ga := s.ga.modify i fun x => ⟨x.f0, x.f1, x.f2.set k v⟩ } := fun i k => rfl
  have u1 : ∀ i : Nat, putOne s (toL (.d i)) v = { s with fl := s.fl.modify i fun x => ⟨x.f0, x.f1, v, x.f3, x.f4⟩ } := fun i => rfl
  have u2 : ∀ i : Nat, putOne s (toL (.en i)) v = { s with fl := s.fl.modify i fun x => ⟨x.f0, x.f1, x.f2, v, x.f4⟩ } := fun i => rfl
  have u3 : ∀ i : Nat, putOne s (toL (.out i)) v = { s with ou := s.ou.set i v } := fun i => rfl
  constructor
  · rintro rfl
    cases p with
    | pin i k =>
      rw [u0]
      simp only [getP, List.getElem?_modify]
      cases h : s.ga[i]? with
      | none => rfl
      | some x =>
        simp only [Option.map_eq_map, Option.map_some, if_pos, Option.bind_some, List.getElem?_set]
        by_cases hk : k < x.f2.length
        · simp [hk]
        · simp [hk]
    | d i => rw [u1]; simp only [getP, List.getElem?_modify]; cases h : s.fl[i]? <;> simp
    | en i => rw [u2]; simp only [getP, List.getElem?_modify]; cases h : s.fl[i]? <;> simp
    | out i =>
      rw [u3]
      simp only [getP, List.getElem?_set]
      by_cases hk : i < s.ou.length
      · simp [hk]
      · simp [hk]
  · intro hne
    cases p with
    | pin i k =>
      rw [u0]
      cases q with
      | pin i' k' =>
        simp only [getP, List.getElem?_modify]
        cases h : s.ga[i']? with
        | none => rfl
        | some x =>
          by_cases hi : i = i'
          · subst hi
            have hk : k ≠ k' := fun e => hne (by rw [e])
            simp [hk]
          · simp [hi]
      | _ => rfl
    | d i =>
      rw [u1]
      cases q with
      | d i' =>
        have hi : i ≠ i' := fun e => hne (by rw [e])
        simp only [getP, List.getElem?_modify]
        cases h : s.fl[i']? <;> simp [hi]
      | en i' =>
        simp only [getP, List.getElem?_modify]
        cases h : s.fl[i']? <;> simp
        split <;> rfl
      | _ => rfl
    | en i =>
      rw [u2]
      cases q with
      | en i' =>
        have hi : i ≠ i' := fun e => hne (by rw [e])
        simp only [getP, List.getElem?_modify]
        cases h : s.fl[i']? <;> simp [hi]
      | d i' =>
        simp only [getP, List.getElem?_modify]
        cases h : s.fl[i']? <;> simp
        split <;> rfl
      | _ => rfl
    | out i =>
      rw [u3]
      cases q with
      | out i' =>
        have hi : i ≠ i' := fun e => hne (by rw [e])
        simp [getP, hi]
      | _ => rfl
structure Skel (s s' : NetP) : Prop where
  fl : s'.fl.map (fun x => (x.f0, x.f1, x.f4)) = s.fl.map (fun x => (x.f0, x.f1, x.f4))
  ga : s'.ga.map (fun x => (x.f0, x.f1, x.f2.length)) = s.ga.map (fun x => (x.f0, x.f1, x.f2.length))
  ou : s'.ou.length = s.ou.length
theorem Skel.refl (s : NetP) : Skel s s := ⟨rfl, rfl, rfl⟩
theorem Skel.trans {s s' s'' : NetP} (h : Skel s s') (k : Skel s' s'') : Skel s s'' := ⟨k.fl.trans h.fl, k.ga.trans h.ga, k.ou.trans h.ou⟩
theorem map_mod {α β : Type} (g : α → β) (f : α → α) (h : ∀ x, g (f x) = g x) (l : List α) (i : Nat) : (l.modify i f).map g = l.map g := by
  apply List.ext_getElem?
  intro j
  rw [List.getElem?_map, List.getElem?_map, List.getElem?_modify]
  cases l[j]? with
  | none => rfl
  | some x =>
    simp only [Option.map_eq_map, Option.map_some]
    split
    · rw [h]
    · rfl
theorem skel_put (s : NetP) (p : Pl) (v : Int) : Skel s (putOne s (toL p) v) := by
  cases p with
  | pin i k => exact ⟨rfl, map_mod (fun x : GateS => (x.f0, x.f1, x.f2.length)) (fun x => ⟨x.f0, x.f1, x.f2.set k v⟩) (fun x => by simp) s.ga i, rfl⟩
  | d i => exact ⟨map_mod (fun x : FlopS => (x.f0, x.f1, x.f4)) (fun x => ⟨x.f0, x.f1, v, x.f3, x.f4⟩) (fun x => rfl) s.fl i, rfl, rfl⟩
  | en i => exact ⟨map_mod (fun x : FlopS => (x.f0, x.f1, x.f4)) (fun x => ⟨x.f0, x.f1, x.f2, v, x.f4⟩) (fun x => rfl) s.fl i, rfl, rfl⟩
  | out i => exact ⟨rfl, rfl, List.length_set⟩
theorem netP_ext {s s' : NetP} (hk : Skel s s') (hg : ∀ q, getP s' q = getP s q) : s' = s := by
  obtain ⟨fl, ga, ou⟩ := s
  obtain ⟨fl', ga', ou'⟩ := s'
  obtain ⟨h1, h2, h3⟩ := hk
  simp only at h1 h2 h3
  have e1 : fl' = fl := by
    apply List.ext_getElem?
    intro i
    have a := hg (.d i)
    have b := hg (.en i)
    have c : (fl'.map (fun x => (x.f0, x.f1, x.f4)))[i]? = (fl.map (fun x => (x.f0, x.f1, x.f4)))[i]? := by rw [h1]
    simp only [getP] at a b
    rw [List.getElem?_map, List.getElem?_map] at c
    cases h : fl[i]? with
    | none =>
      rw [h] at a
      cases h' : fl'[i]? with
      | none => rfl
      | some y => rw [h'] at a; cases a
    | some x =>
      rw [h] at a b c
      cases h' : fl'[i]? with
      | none => rw [h'] at a; cases a
      | some y =>
        rw [h'] at a b c
        cases x
        cases y
        simp_all
  have e3 : ou' = ou := List.ext_getElem? fun i => hg (.out i)
  have e2 : ga' = ga := by
    apply List.ext_getElem?
    intro i
    have a := fun k => hg (.pin i k)
    have c : (ga'.map (fun x => (x.f0, x.f1, x.f2.length)))[i]? = (ga.map (fun x => (x.f0, x.f1, x.f2.length)))[i]? := by rw [h2]
    simp only [getP] at a
    rw [List.getElem?_map, List.getElem?_map] at c
    cases h : ga[i]? with
    | none =>
      rw [h] at c
      cases h' : ga'[i]? with
      | none => rfl
      | some y => rw [h'] at c; cases c
    | some x =>
      rw [h] at a c
      cases h' : ga'[i]? with
      | none => rw [h'] at c; cases c
      | some y =>
        rw [h'] at a c
        have hf : y.f2 = x.f2 := List.ext_getElem? fun k => a k
        cases x
        cases y
        simp_all
  rw [e1, e2, e3]
theorem skel_inject (load v : Int) : ∀ (row : List Load) (i : Nat) (s : NetP), (∀ l ∈ row, ∃ p, l = toL p) → Skel s (injectF load v row i s)
  | [], i, s, h => Skel.refl s
  | l :: r, i, s, h => by
    obtain ⟨p, rfl⟩ := h l List.mem_cons_self
    rw [injectF]
    refine Skel.trans ?_ (skel_inject load v r (i + 1) _ (fun l hl => h l (List.mem_cons_of_mem _ hl)))
    split
    · exact Skel.refl s
    · exact skel_put s p v
theorem getP_inject (load v : Int) (q : Pl) : ∀ (row : List Load) (i : Nat) (s : NetP), (∀ l ∈ row, ∃ p, l = toL p) → row.Nodup →
    ((∃ j, row[j]? = some (toL q) ∧ (load < 0 ∨ load = (i + j : Nat))) → getP (injectF load v row i s) q = (getP s q).map (fun _ => v)) ∧ ((¬ ∃ j, row[j]? = some (toL q) ∧ (load < 0 ∨ load = (i + j : Nat))) → getP (injectF load v row i s) q = getP s q)
  | [], i, s, h, hn => ⟨fun ⟨j, hj, _⟩ => by simp at hj, fun _ => rfl⟩
  | l :: r, i, s, h, hn => by
    obtain ⟨p, rfl⟩ := h l List.mem_cons_self
    obtain ⟨hn1, hn2⟩ := List.nodup_cons.1 hn
    obtain ⟨ih1, ih2⟩ := getP_inject load v q r (i + 1) (if 0 ≤ load ∧ load ≠ i then s else putOne s (toL p) v) (fun l hl => h l (List.mem_cons_of_mem _ hl)) hn2
    rw [injectF]
    by_cases hp : p = q
    · subst hp
      have hno : ¬ ∃ j, r[j]? = some (toL p) ∧ (load < 0 ∨ load = (i + 1 + j : Nat)) := fun ⟨j, hj, _⟩ => hn1 (List.mem_of_getElem? hj)
      rw [ih2 hno]
      constructor
      · rintro ⟨j, hj, hc⟩
        cases j with
        | zero => rw [if_neg (by omega)]; exact (getP_put s p p v).1 rfl
        | succ j => exact absurd (List.mem_of_getElem? (by rw [List.getElem?_cons_succ] at hj; exact hj)) hn1
      · intro hc
        by_cases hq : 0 ≤ load ∧ load ≠ i
        · rw [if_pos hq]
        · exact absurd ⟨0, rfl, by omega⟩ hc
    · have hs : getP (if 0 ≤ load ∧ load ≠ i then s else putOne s (toL p) v) q = getP s q := by
        split
        · rfl
        · exact (getP_put s p q v).2 hp
      rw [hs] at ih1 ih2
      constructor
      · rintro ⟨j, hj, hc⟩
        cases j with
        | zero => exact absurd (toL_inj (by simpa using hj)) hp
        | succ j => exact ih1 ⟨j, by rw [List.getElem?_cons_succ] at hj; exact hj, by omega⟩
      · intro hno
        exact ih2 fun ⟨j, hj, hc⟩ => hno ⟨j + 1, by rw [List.getElem?_cons_succ]; exact hj, by omega⟩
def brOf (nv : Load → Int → Int) (s : NetP) : NetP := ⟨brFlops nv s.fl 0, brGates nv s.ga 0, brOuts nv s.ou 0⟩
theorem getP_br (nv : Load → Int → Int) (s : NetP) (q : Pl) : getP (brOf nv s) q = (getP s q).map (nv (toL q)) := by
  cases q with
  | pin i k =>
    simp only [getP, brOf, brGates_at]
    cases h : s.ga[i]? with
    | none => rfl
    | some x => simp [brPins_at, toL]
  | d i =>
    simp only [getP, brOf, brFlops_at]
    cases h : s.fl[i]? <;> simp [toL]
  | en i =>
    simp only [getP, brOf, brFlops_at]
    cases h : s.fl[i]? <;> simp [toL]
  | out i =>
    simp only [getP, brOf, brOuts_at]
    cases h : s.ou[i]? <;> simp [toL]
theorem skel_br (nv : Load → Int → Int) (s : NetP) : Skel s (brOf nv s) := by
  refine ⟨?_, ?_, brOuts_len nv s.ou 0⟩
  · apply List.ext_getElem?
    intro i
    rw [List.getElem?_map, List.getElem?_map]
    simp only [brOf, brFlops_at]
    cases h : s.fl[i]? <;> simp
  · apply List.ext_getElem?
    intro i
    rw [List.getElem?_map, List.getElem?_map]
    simp only [brOf, brGates_at]
    cases h : s.ga[i]? <;> simp [brPins_len]
end Go.Proofs.Ytimjccfpobhpeaa
namespace Go.Proofs.Ytimjccfpobhpeaa.PF
open Go.RowKit Go.Proofs.YtimjccfpobhpeaaW.PrintWords Go.Proofs.YtimjccfpobhpeaaW.PrintLast Go.Proofs.YtimjccfpobhpeaaW.PrintMore
attribute [local go_sem] Qq Kt
set_option linter.unusedVariables false
set_option linter.unusedSimpArgs false
def netsOf (l0 : List ByteArray) (l2 : List S82) (l3 : List Kr) : Nat := 2 + l0.length + l2.length + l3.length
def loadsFit (l0 : List ByteArray) (l2 : List S82) (l3 : List Kr) (l4 : List Int) : Bool :=
  decide (netsOf l0 l2 l3 ≤ 1000000000) && decide ((placesOf l2 l3 l4).length ≤ 1000000000) && (placesOf l2 l3 l4).all fun p => decide (0 ≤ p.1) && decide (p.1 < (netsOf l0 l2 l3 : Int))
def Qw (l0 : List ByteArray) (l2 : List S82) (l3 : List Kr) (l4 : List Int) : List (List S77) := loadsFrom (List.replicate (netsOf l0 l2 l3) []) (placesOf l2 l3 l4)
theorem loadsFit_good {l0 : List ByteArray} {l2 : List S82} {l3 : List Kr} {l4 : List Int} (h : loadsFit l0 l2 l3 l4 = true) : GoodP (netsOf l0 l2 l3) (List.replicate (netsOf l0 l2 l3) []) (placesOf l2 l3 l4) ∧ netsOf l0 l2 l3 ≤ 1000000000 := by
  simp only [loadsFit, Bool.and_eq_true, decide_eq_true_eq, List.all_eq_true] at h
  obtain ⟨⟨h1, h2⟩, h3⟩ := h
  refine ⟨⟨List.length_replicate, fun p hp => h3 p hp, fun j => ?_⟩, h1⟩
  have : ((List.replicate (netsOf l0 l2 l3) ([] : List S77)).getD j []).length = 0 := by
    rw [List.getD_eq_getElem?_getD, List.getElem?_replicate]
    split <;> rfl
  omega
theorem netlist_Nets.of {l0_0 l0_1 : List ByteArray} {l0_2 : List S82} {l0_3 : List Kr} {l0_4 : List Int} (h : netsOf l0_0 l0_2 l0_3 ≤ 1000000000) : netlist_Nets.f l0_0 l0_1 l0_2 l0_3 l0_4 = some (netsOf l0_0 l0_2 l0_3 : Int) := by
  unfold netsOf at h ⊢
  unfold netlist_Nets.f netlist_First.f
  simp only [Option.bind_some, Option.some.injEq]
  unfold wrap64
  omega
def Xe.f (k : Nat) (l0_0 : List ByteArray) (l0_1 : List ByteArray) (l0_2 : List (S82)) (l0_3 : List (Kr)) (l0_4 : List Int) : Option ((List (List (S77))) × Int) := (Ze.f k l0_0 l0_1 l0_2 l0_3 l0_4).bind fun e => if e = 0 then (if loadsFit l0_0 l0_2 l0_3 l0_4 = true then some (Qw l0_0 l0_2 l0_3 l0_4, 0) else none) else some ([], e)
theorem Xe.mono : ∀ a0 a1 a2 a3 a4 k, Xw (Xe.f k a0 a1 a2 a3 a4) (Xe.f (k + 1) a0 a1 a2 a3 a4) := fun a0 a1 a2 a3 a4 k => Xw.bind (Ze.mono a0 a1 a2 a3 a4 k) (fun _ => Xw.refl _)
set_option maxHeartbeats 2000000 in
theorem Xe.calls (k : Nat) (A0_0 : Option Addr) (c0_0 : Nat) (l0_0 : List ByteArray) (A0_1 : Option Addr) (c0_1 : Nat) (l0_1 : List ByteArray) (A0_2 : Option Addr) (c0_2 : Nat) (l0_2 : List (S82)) (A0_3 : Option Addr) (c0_3 : Nat) (l0_3 : List (Kr)) (A0_4 : Option Addr) (c0_4 : Nat) (l0_4 : List Int) (r1 : List (List (S77))) (r2 : Int) (w : World) (hr0_0 : Kd.C Kd.string w A0_0 l0_0.length l0_0) (hc0_0 : l0_0.length ≤ c0_0) (hr0_1 : Kd.C Kd.string w A0_1 l0_1.length l0_1) (hc0_1 : l0_1.length ≤ c0_1) (hr0_2 : Kd.C k82 w A0_2 l0_2.length l0_2) (hc0_2 : l0_2.length ≤ c0_2) (hr0_3 : Kd.C k80 w A0_3 l0_3.length l0_3) (hc0_3 : l0_3.length ≤ c0_3) (hr0_4 : Kd.C (Kd.int .i64) w A0_4 l0_4.length l0_4) (hc0_4 : l0_4.length ≤ c0_4) (h : Xe.f k l0_0 l0_1 l0_2 l0_3 l0_4 = some (r1, r2)) :
 Calls Try.prog 27 #[.agg #[.slice A0_0 l0_0.length c0_0, .slice A0_1 l0_1.length c0_1, .slice A0_2 l0_2.length c0_2, .slice A0_3 l0_3.length c0_3, .slice A0_4 l0_4.length c0_4]] w fun e w' => ∃ v0_ : Value, e = .returned (.tuple #[v0_, .int .i64 r2]) ∧ Kd.S (Kd.slice 77 k77) 75 w' w.heap.size (fun _ => True) v0_ r1 ∧ Below w.heap.size w w' := by
 unfold Xe.f at h
 obtain ⟨e, he, h2⟩ := Option.bind_eq_some_iff.1 h
 have HF : ∀ W, Below w.heap.size w W → Calls Try.prog 9 #[.agg #[.slice A0_0 l0_0.length c0_0, .slice A0_1 l0_1.length c0_1, .slice A0_2 l0_2.length c0_2, .slice A0_3 l0_3.length c0_3, .slice A0_4 l0_4.length c0_4]] W fun e' w' => e' = .returned (.int .i64 e) ∧ Below W.heap.size W w' := fun W hW =>
  Ze.calls k A0_0 c0_0 l0_0 A0_1 c0_1 l0_1 A0_2 c0_2 l0_2 A0_3 c0_3 l0_3 A0_4 c0_4 l0_4 e W (Kd.Zf hr0_0 hW) hc0_0 (Kd.Zf hr0_1 hW) hc0_1 (Kd.Zf hr0_2 hW) hc0_2 (Kd.Zf hr0_3 hW) hc0_3 (Kd.Zf hr0_4 hW) hc0_4 he
 by_cases h0 : e = 0
 ·subst h0
  rw [if_pos rfl] at h2
  by_cases hf : loadsFit l0_0 l0_2 l0_3 l0_4 = true
  ·rw [if_pos hf] at h2
   simp only [Option.some.injEq, Prod.mk.injEq] at h2
   obtain ⟨rfl, rfl⟩ := h2
   obtain ⟨hg, hn⟩ := loadsFit_good hf
   exact loads_ok A0_0 A0_1 A0_2 A0_3 A0_4 _ _ c0_0 c0_1 c0_2 c0_3 c0_4 l0_2 l0_3 l0_4 w _ hr0_2 hr0_3 hr0_4 HF (fun W hW =>
    netlist_Nets.calls A0_0 c0_0 l0_0 A0_1 c0_1 l0_1 A0_2 c0_2 l0_2 A0_3 c0_3 l0_3 A0_4 c0_4 l0_4 _ W (Kd.Zf hr0_0 hW) hc0_0 (Kd.Zf hr0_1 hW) hc0_1 (Kd.Zf hr0_2 hW) hc0_2 (Kd.Zf hr0_3 hW) hc0_3 (Kd.Zf hr0_4 hW) hc0_4 (netlist_Nets.of hn)) hg hn
  ·rw [if_neg hf] at h2
   cases h2
 ·rw [if_neg h0] at h2
  simp only [Option.some.injEq, Prod.mk.injEq] at h2
  obtain ⟨rfl, rfl⟩ := h2
  have hW0 : Below w.heap.size w (w.alloc (.cells #[.slice A0_0 l0_0.length c0_0, .slice A0_1 l0_1.length c0_1, .slice A0_2 l0_2.length c0_2, .slice A0_3 l0_3.length c0_3, .slice A0_4 l0_4.length c0_4] 27)) := (Below.refl _ _).alloc (Nat.le_refl _) _
  have hu := Try.underlying27
  have q1 : (e != 0) = true := by simpa using h0
  have HF1 := HF _ hW0
  clear h h0 he HF
  go_enter Try.func27, Try.ntmps27
  go_wp2_with (go_at_call 9; refine HF1.mono ?_; rintro e' w1 ⟨rfl, hB1⟩)
  go_ret2
  exact ⟨_, rfl, Kd.S_nil _ _ _ _ _, hW0.trans (hB1.mono (by simp))⟩
end Go.Proofs.Ytimjccfpobhpeaa.PF
namespace Go.Proofs.Ytimjccfpobhpeaa.PF
open Go.RowKit Go.Proofs.YtimjccfpobhpeaaW.PrintWords Go.Proofs.YtimjccfpobhpeaaW.PrintLast Go.Proofs.YtimjccfpobhpeaaW.PrintMore
attribute [local go_sem] Qq Kt
set_option linter.unusedVariables false
set_option linter.unusedSimpArgs false
def copyFits (l0 l1 : List ByteArray) (l2 : List S82) (l3 : List Kr) (l4 : List Int) : Bool :=
  decide (l0.length * 16 ≤ 140737488355328) && decide (l1.length * 16 ≤ 140737488355328) && decide (l2.length * 48 ≤ 140737488355328) && decide (l3.length * 40 ≤ 140737488355328) && decide (l4.length * 8 ≤ 140737488355328) && l3.all fun x => decide (x.f2.length * 8 ≤ 140737488355328)
end Go.Proofs.Ytimjccfpobhpeaa.PF
namespace Go.Proofs.Ytimjccfpobhpeaa.PF
open Go.RowKit Go.Proofs.YtimjccfpobhpeaaW.PrintWords Go.Proofs.YtimjccfpobhpeaaW.PrintLast Go.Proofs.YtimjccfpobhpeaaW.PrintMore
attribute [local go_sem] Qq Kt
set_option linter.unusedVariables false
set_option linter.unusedSimpArgs false
def Xf.j0 : Nat → List (List (S77)) → Bool → Int → Int → Bool → Option (Int)
  | 0, _, _, _, _, _ => none
  | k + 1, x0, x5, x127000, x127001, x127002 => if x5 = true then (some 7) else (if x127001 < (-1) then (some 2) else (if 0 ≤ x127000 then (if x127000 < (x0.length : Int) then (if x127001 ≥ ((Qy x0 x127000).length : Int) then (some 2) else (some 0)) else (none)) else (none)))
def Xf.f (k : Nat) (l0 : List (List (S77))) (a1_0 : Int) (a1_1 : Int) (a1_2 : Bool) : Option (Int) := if a1_0 < 2 then (Xf.j0 k l0 true a1_0 a1_1 a1_2) else (Xf.j0 k l0 (decide (a1_0 ≥ (l0.length : Int))) a1_0 a1_1 a1_2)
theorem Xf.mono_l : ∀ k, (∀ y0 y1 y2 y3 y4, Xw (Xf.j0 k y0 y1 y2 y3 y4) (Xf.j0 (k + 1) y0 y1 y2 y3 y4))
  | 0 => fun _ _ _ _ _ r h => by simp [Xf.j0] at h
  | k + 1 => by
    have ih0 := Xf.mono_l k
    · intro y0 y1 y2 y3 y4
      unfold Xf.j0
      repeat' first
      | (with_reducible exact ih0 _ _ _ _ _)
      | (with_reducible exact Xw.refl _)
      | (with_reducible exact Xw.none _)
      | (with_reducible refine Xw.ite ?_ ?_)
      | (with_reducible refine Xw.bind ?_ (fun _ => ?_))
      | exact ih0 _ _ _ _ _
      | exact Xw.none _
      | refine Xw.ite ?_ ?_
      | refine Xw.bind ?_ (fun _ => ?_)
theorem Xf.mono : ∀ a0 a1 a2 a3 k, Xw (Xf.f k a0 a1 a2 a3) (Xf.f (k + 1) a0 a1 a2 a3) := by
  intro a0 a1 a2 a3 k
  have ih0 := Xf.mono_l k
  unfold Xf.f
  repeat' first
      | (with_reducible exact ih0 _ _ _ _ _)
      | (with_reducible exact Xw.refl _)
      | (with_reducible exact Xw.none _)
      | (with_reducible refine Xw.ite ?_ ?_)
      | (with_reducible refine Xw.bind ?_ (fun _ => ?_))
      | exact ih0 _ _ _ _ _
      | exact Xw.none _
      | refine Xw.ite ?_ ?_
      | refine Xw.bind ?_ (fun _ => ?_)
set_option maxHeartbeats 8000000 in
set_option maxRecDepth 100000 in
theorem Xf.calls (k : Nat) (A0 : Option Addr) (c0 : Nat) (l0 : List (List (S77))) (a1_0 : Int) (a1_1 : Int) (a1_2 : Bool) (r : Int) (w : World) (hr0 : Kd.C (Kd.slice 77 k77) w A0 l0.length l0) (hc0 : l0.length ≤ c0) (h : Xf.f k l0 a1_0 a1_1 a1_2 = some r) :
 Calls Try.prog 28 #[.slice A0 l0.length c0, .agg #[.int .i64 a1_0, .int .i64 a1_1, .bool a1_2]] w fun e w' => e = .returned (.int .i64 r) ∧ Below w.heap.size w w' := by
 have hu29 := Try.underlying29
 have HR0 := Za.mk hr0
 have HC0 := Za.mk hc0
 clear hr0 hc0
 have HB := Za.mk (Below.refl w.heap.size w)
 have H : (if a1_0 < 2 then (Xf.j0 k l0 true a1_0 a1_1 a1_2) else (Xf.j0 k l0 (decide (a1_0 ≥ (l0.length : Int))) a1_0 a1_1 a1_2)) = some r := h
 clear h
 have HC3 := Za.mk H
 clear H
 go_enter Try.func28, Try.ntmps28
 go_upto_region 1 with (((with_reducible refine Xg (N := 3) rfl ?_); (try (refine Qe (by rfl) ?_; dsimp only)); refine Xk ?hg (N := 3) ?hd (cs := #[.int .i64 a1_0, .int .i64 a1_1, .bool a1_2]) (t := 29) ?hr ?_; (case hd => rfl); (case hg => rfl); (case hr => first | (go_simp; done) | (go_simp; rfl)); intro gb126 hg w4 hbox hb; have n0_ := Za.mk (Zh HB.out hb); have n1_ := Za.mk (hbox); have n2_ := Za.mk ((by rw [hg]; exact (Zg HB.out) : w.heap.size ≤ gb126)); have n3_ := n2_; clear HB; have HB := n0_; have BK126 := n1_; have GW126 := n2_; have GE126 := n3_; clear n0_ n1_ n2_ n3_; clear hb hbox hg))
 repeat (go_quiet (fail); go_upto_region 1 with (fail))
 (try simp only [Act.put, List.setIfInBounds_toArray, List.set_cons_zero, List.set_cons_succ])
 go_cut [5] (fun v5 wc => ∃ (kq : Nat) (x5_2 : Bool), v5 = .bool x5_2 ∧ Za (Xf.j0 kq l0 x5_2 a1_0 a1_1 a1_2 = some r) ∧ Za (kq ≤ k) ∧ Za (wc.heap[gb126]? = some (.cells #[.int .i64 a1_0, .int .i64 a1_1, .bool a1_2] 29 (0, 0))) ∧ Za (Below w.heap.size w wc))
 case first =>
  have H := HC3.out
  clear HC3
  by_cases c5 : a1_0 < 2
  ·rw [if_pos c5] at H
   have c5b0 : decide (a1_0 < 2) = true := decide_eq_true c5
   clear c5
   (first | rw [c5b0] | (simp only [Xr, Xv]; rw [c5b0]) | skip)
   have H' := Za.mk H
   clear H
   have hcz6_0 : w4.cell? ⟨gb126, 0, none⟩ = some (.int .i64 a1_0) := (Zc BK126.out 0).trans rfl
   have hcz6_1 : w4.cell? ⟨gb126, 1, none⟩ = some (.int .i64 a1_1) := (Zc BK126.out 1).trans rfl
   have hcz6_2 : w4.cell? ⟨gb126, 2, none⟩ = some (.bool a1_2) := (Zc BK126.out 2).trans rfl
   have hfz6_0 := Zb BK126.out 0
   have hfz6_1 := Zb BK126.out 1
   have hfz6_2 := Zb BK126.out 2
   go_wp2
   repeat (go_quiet (fail); try go_wp2)
   go_meet
   case rel => exact ⟨_, (true), (by first | rfl | (simp; done) | (simp [*]; done)), H', ⟨by first | omega | exact Nat.le_refl _⟩, ⟨BK126.out⟩, ⟨HB.out⟩⟩
  ·rw [if_neg c5] at H
   have c5b0 : decide (a1_0 < 2) = false := decide_eq_false c5
   clear c5
   (first | rw [c5b0] | (simp only [Xr, Xv]; rw [c5b0]) | skip)
   have H' := Za.mk H
   clear H
   have hcz7_0 : w4.cell? ⟨gb126, 0, none⟩ = some (.int .i64 a1_0) := (Zc BK126.out 0).trans rfl
   have hcz7_1 : w4.cell? ⟨gb126, 1, none⟩ = some (.int .i64 a1_1) := (Zc BK126.out 1).trans rfl
   have hcz7_2 : w4.cell? ⟨gb126, 2, none⟩ = some (.bool a1_2) := (Zc BK126.out 2).trans rfl
   have hfz7_0 := Zb BK126.out 0
   have hfz7_1 := Zb BK126.out 1
   have hfz7_2 := Zb BK126.out 2
   go_wp2
   repeat (go_quiet (fail); try go_wp2)
   go_meet
   case rel => exact ⟨_, (decide (a1_0 ≥ (l0.length : Int))), (by first | rfl | (simp; done) | (simp [*]; done)), H', ⟨by first | omega | exact Nat.le_refl _⟩, ⟨BK126.out⟩, ⟨HB.out⟩⟩
 case rest =>
  clear HC3
  obtain ⟨kq, x5_2, rfl, HA, HJ2, BK126, HB⟩ := hcut
  cases kq with
  | zero => exact absurd HA.out (by simp [Xf.j0])
  | succ kj2 =>
   have H := HA.out
   clear HA
   simp only [Xf.j0] at H
   by_cases c8 : x5_2 = true
   ·subst c8
    have H1 : (some 7) = some r := by rw [if_pos rfl] at H; exact H
    clear H
    have H := H1
    clear H1
    obtain rfl := Option.some.inj H
    go_wp2
    repeat (go_quiet (fail); try go_wp2)
    go_ret
    exact ⟨by first | rfl | (simp [errW_none, errW_some] <;> rfl) | (simp [*, errW_none, errW_some] <;> rfl), HB.out⟩
   ·replace c8 := Bool.eq_false_iff.mpr c8
    subst c8
    have H1 : (if a1_1 < (-1) then (some 2) else (if 0 ≤ a1_0 then (if a1_0 < (l0.length : Int) then (if a1_1 ≥ ((Qy l0 a1_0).length : Int) then (some 2) else (some 0)) else (none)) else (none))) = some r := by rw [if_neg (show ¬ (false = true) by decide)] at H; exact H
    clear H
    have H := H1
    clear H1
    by_cases c9 : a1_1 < (-1)
    ·rw [if_pos c9] at H
     have c9b0 : decide (a1_1 < (-1)) = true := decide_eq_true c9
     clear c9
     obtain rfl := Option.some.inj H
     have hcz10_0 : wc.cell? ⟨gb126, 0, none⟩ = some (.int .i64 a1_0) := (Zc BK126.out 0).trans rfl
     have hcz10_1 : wc.cell? ⟨gb126, 1, none⟩ = some (.int .i64 a1_1) := (Zc BK126.out 1).trans rfl
     have hcz10_2 : wc.cell? ⟨gb126, 2, none⟩ = some (.bool a1_2) := (Zc BK126.out 2).trans rfl
     have hfz10_0 := Zb BK126.out 0
     have hfz10_1 := Zb BK126.out 1
     have hfz10_2 := Zb BK126.out 2
     go_wp2
     repeat (go_quiet (fail); try go_wp2)
     go_ret
     exact ⟨by first | rfl | (simp [errW_none, errW_some] <;> rfl) | (simp [*, errW_none, errW_some] <;> rfl), by repeat (first | (with_reducible first | exact HB.out | apply Zn | apply Zq | apply Zv | refine Zl ?_ GE126.out) | exact HB.out)⟩
    ·rw [if_neg c9] at H
     have c9b0 : decide (a1_1 < (-1)) = false := decide_eq_false c9
     clear c9
     by_cases c11 : 0 ≤ a1_0
     ·rw [if_pos c11] at H
      have c11b0 : decide (0 ≤ a1_0) = true := decide_eq_true c11
      clear c11
      by_cases c12 : a1_0 < (l0.length : Int)
      ·rw [if_pos c12] at H
       have c12b0 : decide (a1_0 < (l0.length : Int)) = true := decide_eq_true c12
       clear c12
       by_cases c13 : a1_1 ≥ ((Qy l0 a1_0).length : Int)
       ·rw [if_pos c13] at H
        have c13b0 : decide (((Qy l0 a1_0).length : Int) ≤ a1_1) = true := decide_eq_true c13
        clear c13
        obtain rfl := Option.some.inj H
        have hcz14_0 : wc.cell? ⟨gb126, 0, none⟩ = some (.int .i64 a1_0) := (Zc BK126.out 0).trans rfl
        have hcz14_1 : wc.cell? ⟨gb126, 1, none⟩ = some (.int .i64 a1_1) := (Zc BK126.out 1).trans rfl
        have hcz14_2 : wc.cell? ⟨gb126, 2, none⟩ = some (.bool a1_2) := (Zc BK126.out 2).trans rfl
        have hfz14_0 := Zb BK126.out 0
        have hfz14_1 := Zb BK126.out 1
        have hfz14_2 := Zb BK126.out 2
        have p127 : 0 ≤ (a1_0 : Int) := of_decide_eq_true (by first | (with_reducible assumption) | assumption)
        have q127 : a1_0 < (l0.length : Int) := of_decide_eq_true (by first | (with_reducible assumption) | assumption)
        obtain ⟨ad127, A127_0, c127_0, e127, hx127_0, hl127_0, hi127_0⟩ := at_L12 HR0.out a1_0 p127 q127
        cases e127
        replace hx127_0 := (HB.out.cell (World.block_lt_of_cell? w _ hx127_0)).trans hx127_0
        have HR127_0 := Za.mk hi127_0
        have HC127_0 := Za.mk hl127_0
        clear hi127_0 hl127_0
        replace p127 := eq_true p127
        replace q127 := eq_true q127
        go_wp2
        repeat (go_quiet (fail); try go_wp2)
        go_ret
        exact ⟨by first | rfl | (simp [errW_none, errW_some] <;> rfl) | (simp [*, errW_none, errW_some] <;> rfl), by repeat (first | (with_reducible first | exact HB.out | apply Zn | apply Zq | apply Zv | refine Zl ?_ GE126.out) | exact HB.out)⟩
       ·rw [if_neg c13] at H
        have c13b0 : decide (((Qy l0 a1_0).length : Int) ≤ a1_1) = false := decide_eq_false c13
        clear c13
        obtain rfl := Option.some.inj H
        have hcz15_0 : wc.cell? ⟨gb126, 0, none⟩ = some (.int .i64 a1_0) := (Zc BK126.out 0).trans rfl
        have hcz15_1 : wc.cell? ⟨gb126, 1, none⟩ = some (.int .i64 a1_1) := (Zc BK126.out 1).trans rfl
        have hcz15_2 : wc.cell? ⟨gb126, 2, none⟩ = some (.bool a1_2) := (Zc BK126.out 2).trans rfl
        have hfz15_0 := Zb BK126.out 0
        have hfz15_1 := Zb BK126.out 1
        have hfz15_2 := Zb BK126.out 2
        have p127 : 0 ≤ (a1_0 : Int) := of_decide_eq_true (by first | (with_reducible assumption) | assumption)
        have q127 : a1_0 < (l0.length : Int) := of_decide_eq_true (by first | (with_reducible assumption) | assumption)
        obtain ⟨ad127, A127_0, c127_0, e127, hx127_0, hl127_0, hi127_0⟩ := at_L12 HR0.out a1_0 p127 q127
        cases e127
        replace hx127_0 := (HB.out.cell (World.block_lt_of_cell? w _ hx127_0)).trans hx127_0
        have HR127_0 := Za.mk hi127_0
        have HC127_0 := Za.mk hl127_0
        clear hi127_0 hl127_0
        replace p127 := eq_true p127
        replace q127 := eq_true q127
        go_wp2
        repeat (go_quiet (fail); try go_wp2)
        go_ret
        exact ⟨by first | rfl | (simp [errW_none, errW_some] <;> rfl) | (simp [*, errW_none, errW_some] <;> rfl), by repeat (first | (with_reducible first | exact HB.out | apply Zn | apply Zq | apply Zv | refine Zl ?_ GE126.out) | exact HB.out)⟩
      ·rw [if_neg c12] at H
       exact absurd H (by simp)
     ·rw [if_neg c11] at H
      exact absurd H (by simp)
end Go.Proofs.Ytimjccfpobhpeaa.PF
namespace Go.Proofs.Ytimjccfpobhpeaa.PF
open Go.RowKit Go.Proofs.YtimjccfpobhpeaaW.PrintWords Go.Proofs.YtimjccfpobhpeaaW.PrintLast Go.Proofs.YtimjccfpobhpeaaW.PrintMore
attribute [local go_sem] Qq Kt
set_option linter.unusedVariables false
set_option linter.unusedSimpArgs false
theorem Xf.ok {k : Nat} {rows : List (List S77)} {a b : Int} {c : Bool} (h : Xf.f k rows a b c = some 0) : 2 ≤ a ∧ a < rows.length ∧ -1 ≤ b ∧ b < ((rows.getD a.toNat []).length : Int) := by
  unfold Xf.f at h
  cases k with
  | zero => split at h <;> simp [Xf.j0] at h
  | succ k =>
    split at h
    · simp [Xf.j0] at h
    · rename_i h1
      rw [Xf.j0] at h
      split at h
      · simp at h
      · rename_i h2
        split at h
        · simp at h
        · split at h
          · split at h
            · split at h
              · simp at h
              · rename_i h3 h4 h5 h6
                simp only [Qy] at h6
                simp only [decide_eq_true_eq] at h2
                exact ⟨by omega, by omega, by omega, by omega⟩
            · simp at h
          · simp at h
theorem Xe.ok {k : Nat} {l0 l1 : List ByteArray} {l2 : List S82} {l3 : List Kr} {l4 : List Int} {rows : List (List S77)} (h : Xe.f k l0 l1 l2 l3 l4 = some (rows, 0)) :
    Ze.f k l0 l1 l2 l3 l4 = some 0 ∧ loadsFit l0 l2 l3 l4 = true ∧ rows = Qw l0 l2 l3 l4 := by
  unfold Xe.f at h
  obtain ⟨e, he, h2⟩ := Option.bind_eq_some_iff.1 h
  by_cases h0 : e = 0
  · subst h0
    rw [if_pos rfl] at h2
    by_cases hf : loadsFit l0 l2 l3 l4 = true
    · rw [if_pos hf] at h2
      simp only [Option.some.injEq, Prod.mk.injEq] at h2
      exact ⟨he, hf, h2.1.symm⟩
    · rw [if_neg hf] at h2
      cases h2
  · rw [if_neg h0] at h2
    simp only [Option.some.injEq, Prod.mk.injEq] at h2
    exact absurd h2.2 h0
theorem loadsOf_row {l0 : List ByteArray} {l2 : List S82} {l3 : List Kr} {l4 : List Int} (hf : loadsFit l0 l2 l3 l4 = true) {j : Nat} (hj : j < netsOf l0 l2 l3) : (Qw l0 l2 l3 l4)[j]? = some (((placesOf l2 l3 l4).filter fun p => decide (p.1 = (j : Int))).map (·.2)) := by
  have hg := (loadsFit_good hf).1
  have hr := loadsFrom_row (placesOf l2 l3 l4) (List.replicate (netsOf l0 l2 l3) []) (fun p hp => by rw [hg.len]; exact hg.rng p hp) j (by rw [hg.len]; exact hj)
  have hl : (Qw l0 l2 l3 l4).length = netsOf l0 l2 l3 := by
    unfold Qw
    rw [loadsFrom_len, hg.len]
  rw [List.getD_eq_getElem?_getD] at hr
  have h2 : (Qw l0 l2 l3 l4)[j]? = some ((Qw l0 l2 l3 l4)[j]'(by omega)) := List.getElem?_eq_getElem _
  unfold Qw at h2
  rw [h2, Option.getD_some] at hr
  unfold Qw
  rw [h2, hr]
  simp [List.getD, List.getElem?_replicate, hj]
theorem loadsOf_len {l0 : List ByteArray} {l2 : List S82} {l3 : List Kr} {l4 : List Int} : (Qw l0 l2 l3 l4).length = netsOf l0 l2 l3 := by
  unfold Qw
  rw [loadsFrom_len, List.length_replicate]
def injRes (rows : List (List S77)) (a b : Int) (c : Bool) (l2 : List S82) (l3 : List Kr) (l4 : List Int) : NetP := injectF b (if c = true then 1 else 0) (rows.getD a.toNat []) 0 ⟨l2, l3, l4⟩
def Qb.f (k : Nat) (l0_0 : List ByteArray) (l0_1 : List ByteArray) (l0_2 : List (S82)) (l0_3 : List (Kr)) (l0_4 : List Int) (a1_0 : Int) (a1_1 : Int) (a1_2 : Bool) : Option (List ByteArray × List ByteArray × (List (S82)) × (List (Kr)) × List Int × Int) := (Xe.f k l0_0 l0_1 l0_2 l0_3 l0_4).bind fun r => if r.2 = 0 then ((Xf.f k r.1 a1_0 a1_1 a1_2).bind fun e2 => if e2 = 0 then (if copyFits l0_0 l0_1 l0_2 l0_3 l0_4 = true then some (l0_0, l0_1, (injRes r.1 a1_0 a1_1 a1_2 l0_2 l0_3 l0_4).fl, (injRes r.1 a1_0 a1_1 a1_2 l0_2 l0_3 l0_4).ga, (injRes r.1 a1_0 a1_1 a1_2 l0_2 l0_3 l0_4).ou, 0) else none) else some ([], [], [], [], [], e2)) else some ([], [], [], [], [], r.2)
theorem Qb.mono : ∀ a0 a1 a2 a3 a4 a5 a6 a7 k, Xw (Qb.f k a0 a1 a2 a3 a4 a5 a6 a7) (Qb.f (k + 1) a0 a1 a2 a3 a4 a5 a6 a7) := fun a0 a1 a2 a3 a4 a5 a6 a7 k => Xw.bind (Xe.mono a0 a1 a2 a3 a4 k) (fun r => Xw.ite (Xw.bind (Xf.mono _ _ _ _ k) (fun _ => Xw.refl _)) (Xw.refl _))
set_option maxHeartbeats 2000000 in
theorem Qb.calls (k : Nat) (A0_0 : Option Addr) (c0_0 : Nat) (l0_0 : List ByteArray) (A0_1 : Option Addr) (c0_1 : Nat) (l0_1 : List ByteArray) (A0_2 : Option Addr) (c0_2 : Nat) (l0_2 : List (S82)) (A0_3 : Option Addr) (c0_3 : Nat) (l0_3 : List (Kr)) (A0_4 : Option Addr) (c0_4 : Nat) (l0_4 : List Int) (a1_0 : Int) (a1_1 : Int) (a1_2 : Bool) (r1 : List ByteArray) (r2 : List ByteArray) (r3 : List (S82)) (r4 : List (Kr)) (r5 : List Int) (r6 : Int) (w : World) (hr0_0 : Kd.C Kd.string w A0_0 l0_0.length l0_0) (hc0_0 : l0_0.length ≤ c0_0) (hr0_1 : Kd.C Kd.string w A0_1 l0_1.length l0_1) (hc0_1 : l0_1.length ≤ c0_1) (hr0_2 : Kd.C k82 w A0_2 l0_2.length l0_2) (hc0_2 : l0_2.length ≤ c0_2) (hr0_3 : Kd.C k80 w A0_3 l0_3.length l0_3) (hc0_3 : l0_3.length ≤ c0_3) (hr0_4 : Kd.C (Kd.int .i64) w A0_4 l0_4.length l0_4) (hc0_4 : l0_4.length ≤ c0_4) (h : Qb.f k l0_0 l0_1 l0_2 l0_3 l0_4 a1_0 a1_1 a1_2 = some (r1, r2, r3, r4, r5, r6)) :
 Calls Try.prog 8 #[.agg #[.slice A0_0 l0_0.length c0_0, .slice A0_1 l0_1.length c0_1, .slice A0_2 l0_2.length c0_2, .slice A0_3 l0_3.length c0_3, .slice A0_4 l0_4.length c0_4], .agg #[.int .i64 a1_0, .int .i64 a1_1, .bool a1_2]] w fun e w' => ∃ v0_ v1_ v2_ v3_ v4_ : Value, e = .returned (.tuple #[.agg #[v0_, v1_, v2_, v3_, v4_], .int .i64 r6]) ∧ Kd.R Kd.string 9 w' w.heap.size (fun k_ => some k_ ≠ (v1_ : Value).ownBlock) v0_ r1 ∧ Kd.R Kd.string 9 w' w.heap.size (fun k_ => some k_ ≠ (v0_ : Value).ownBlock) v1_ r2 ∧ Kd.R k82 82 w' w.heap.size (fun _ => True) v2_ r3 ∧ Kd.S k80 80 w' w.heap.size (fun k_ => some k_ ≠ (v4_ : Value).ownBlock) v3_ r4 ∧ Kd.R (Kd.int .i64) 3 w' w.heap.size (fun _ => True) v4_ r5 ∧ Below w.heap.size w w' := by
 unfold Qb.f at h
 obtain ⟨⟨rows, e1⟩, hL, h2⟩ := Option.bind_eq_some_iff.1 h
 have HL := fun (W : World) (hW : Below w.heap.size w W) => Xe.calls k A0_0 c0_0 l0_0 A0_1 c0_1 l0_1 A0_2 c0_2 l0_2 A0_3 c0_3 l0_3 A0_4 c0_4 l0_4 rows e1 W (Kd.Zf hr0_0 hW) hc0_0 (Kd.Zf hr0_1 hW) hc0_1 (Kd.Zf hr0_2 hW) hc0_2 (Kd.Zf hr0_3 hW) hc0_3 (Kd.Zf hr0_4 hW) hc0_4 hL
 by_cases h0 : e1 = 0
 ·subst h0
  rw [if_pos rfl] at h2
  obtain ⟨e2, hC, h3⟩ := Option.bind_eq_some_iff.1 h2
  have HC : ∀ (W : World) (v : Value), Kd.S (Kd.slice 77 k77) 75 W (w.heap.size + 3) (fun _ => True) v rows → Calls Try.prog 28 #[v, .agg #[.int .i64 a1_0, .int .i64 a1_1, .bool a1_2]] W fun e w' => e = .returned (.int .i64 e2) ∧ Below W.heap.size W w' := fun W v hS => by
   obtain ⟨A, c, rfl, hc, hr⟩ := Kd.S_reads hS
   exact Xf.calls k A c rows a1_0 a1_1 a1_2 e2 W hr hc hC
  by_cases h4 : e2 = 0
  ·subst h4
   rw [if_pos rfl] at h3
   by_cases hf : copyFits l0_0 l0_1 l0_2 l0_3 l0_4 = true
   ·rw [if_pos hf] at h3
    simp only [Option.some.injEq, Prod.mk.injEq] at h3
    obtain ⟨rfl, rfl, rfl, rfl, rfl, rfl⟩ := h3
    obtain ⟨hF, hfit, hrows⟩ := Xe.ok hL
    obtain ⟨hk1, hk2, hk3, hk4⟩ := Xf.ok (rows := rows) hC
    obtain ⟨nn, rfl⟩ := Int.eq_ofNat_of_zero_le (show 0 ≤ a1_0 by omega)
    have hrow := loadsOf_row hfit (j := nn) (by rw [← loadsOf_len (l4 := l0_4), ← hrows]; omega)
    rw [← hrows] at hrow
    have hval : ∀ l ∈ ((placesOf l0_2 l0_3 l0_4).filter fun p => decide (p.1 = (nn : Int))).map (·.2), ValidL ⟨l0_2, l0_3, l0_4⟩ l := by
     intro l hl
     obtain ⟨p, hp, rfl⟩ := List.mem_map.1 hl
     exact placesOf_valid (List.mem_filter.1 hp).1
    have hres : ∀ v, injRes rows (nn : Int) a1_1 v l0_2 l0_3 l0_4 = injectF a1_1 (if v = true then 1 else 0) (((placesOf l0_2 l0_3 l0_4).filter fun p => decide (p.1 = (nn : Int))).map (·.2)) 0 ⟨l0_2, l0_3, l0_4⟩ := fun v => by
     unfold injRes
     rw [Int.toNat_natCast, List.getD_eq_getElem?_getD, hrow, Option.getD_some]
    simp only [copyFits, Bool.and_eq_true, decide_eq_true_eq, List.all_eq_true] at hf
    obtain ⟨⟨⟨⟨⟨m0, m1⟩, m2⟩, m3⟩, m4⟩, m5⟩ := hf
    have fin : ∀ {s : NetP} {e : Ending} {w' : World}, (∃ v0 v1 v2 v3 v4 : Value, e = .returned (.tuple #[.agg #[v0, v1, v2, v3, v4], .int .i64 0]) ∧ NetR (fun _ => True) w.heap.size w' v0 v1 v2 v3 v4 l0_0 l0_1 s.fl s.ga s.ou ∧ Below w.heap.size w w') → ∃ v0_ v1_ v2_ v3_ v4_ : Value, e = .returned (.tuple #[.agg #[v0_, v1_, v2_, v3_, v4_], .int .i64 0]) ∧ Kd.R Kd.string 9 w' w.heap.size (fun k_ => some k_ ≠ (v1_ : Value).ownBlock) v0_ l0_0 ∧ Kd.R Kd.string 9 w' w.heap.size (fun k_ => some k_ ≠ (v0_ : Value).ownBlock) v1_ l0_1 ∧ Kd.R k82 82 w' w.heap.size (fun _ => True) v2_ s.fl ∧ Kd.S k80 80 w' w.heap.size (fun k_ => some k_ ≠ (v4_ : Value).ownBlock) v3_ s.ga ∧ Kd.R (Kd.int .i64) 3 w' w.heap.size (fun _ => True) v4_ s.ou ∧ Below w.heap.size w w' := by
     rintro s e w' ⟨v0, v1, v2, v3, v4, he, hr, hb⟩
     exact ⟨v0, v1, v2, v3, v4, he, Kd.Xj hr.r0 (fun _ h => h.2), Kd.Xj hr.r1 (fun _ h => h.2), hr.r2, Kd.S_mono hr.r3 (fun _ h => h.2), hr.r4, hb⟩
    cases a1_2
    ·rw [hres]
     exact (inject_ok_f A0_0 A0_1 A0_2 A0_3 A0_4 c0_0 c0_1 c0_2 c0_3 c0_4 l0_0 l0_1 l0_2 l0_3 l0_4 nn a1_1 w hr0_0 hr0_1 hr0_2 hr0_3 hr0_4 m0 m1 m2 m3 m4 m5 rows _ hrow hval HL HC).mono fun _ _ hp => fin hp
    ·rw [hres]
     exact (inject_ok_t A0_0 A0_1 A0_2 A0_3 A0_4 c0_0 c0_1 c0_2 c0_3 c0_4 l0_0 l0_1 l0_2 l0_3 l0_4 nn a1_1 w hr0_0 hr0_1 hr0_2 hr0_3 hr0_4 m0 m1 m2 m3 m4 m5 rows _ hrow hval HL HC).mono fun _ _ hp => fin hp
   ·rw [if_neg hf] at h3
    cases h3
  ·rw [if_neg h4] at h3
   simp only [Option.some.injEq, Prod.mk.injEq] at h3
   obtain ⟨rfl, rfl, rfl, rfl, rfl, rfl⟩ := h3
   exact (inject_err2 A0_0 A0_1 A0_2 A0_3 A0_4 c0_0 c0_1 c0_2 c0_3 c0_4 l0_0 l0_1 l0_2 l0_3 l0_4 a1_0 a1_1 a1_2 w rows _ h4 HL HC).mono fun _ _ ⟨v0, v1, v2, v3, v4, he, hr, hb⟩ => ⟨v0, v1, v2, v3, v4, he, Kd.Xj hr.r0 (fun _ h => h.2), Kd.Xj hr.r1 (fun _ h => h.2), hr.r2, Kd.S_mono hr.r3 (fun _ h => h.2), hr.r4, hb⟩
 ·rw [if_neg h0] at h2
  simp only [Option.some.injEq, Prod.mk.injEq] at h2
  obtain ⟨rfl, rfl, rfl, rfl, rfl, rfl⟩ := h2
  exact (inject_err1 A0_0 A0_1 A0_2 A0_3 A0_4 c0_0 c0_1 c0_2 c0_3 c0_4 l0_0 l0_1 l0_2 l0_3 l0_4 a1_0 a1_1 a1_2 w _ h0 (fun W hW => (HL W hW).mono fun _ _ ⟨v, he, _, hb⟩ => ⟨v, he, hb⟩)).mono fun _ _ ⟨v0, v1, v2, v3, v4, he, hr, hb⟩ => ⟨v0, v1, v2, v3, v4, he, Kd.Xj hr.r0 (fun _ h => h.2), Kd.Xj hr.r1 (fun _ h => h.2), hr.r2, Kd.S_mono hr.r3 (fun _ h => h.2), hr.r4, hb⟩
end Go.Proofs.Ytimjccfpobhpeaa.PF
namespace Go.Proofs.Ytimjccfpobhpeaa.PF
open Go.RowKit Go.Proofs.YtimjccfpobhpeaaW.PrintWords Go.Proofs.YtimjccfpobhpeaaW.PrintLast Go.Proofs.YtimjccfpobhpeaaW.PrintMore
attribute [local go_sem] Qq Kt
set_option linter.unusedVariables false
set_option linter.unusedSimpArgs false
theorem placesOf_key {l2 : List S82} {l3 : List Kr} {l4 : List Int} {p : Int × S77} (h : p ∈ placesOf l2 l3 l4) (m2 : l2.length ≤ 140737488355328) (m3 : l3.length ≤ 140737488355328) (m4 : l4.length ≤ 140737488355328) (m5 : ∀ x ∈ l3, x.f2.length ≤ 140737488355328) : key3.ok (keyL p.2) := by
  have key : ∀ (a : Int) (i k : Nat), 0 ≤ a → a ≤ 3 → i ≤ 140737488355328 → k ≤ 140737488355328 → key3.ok (keyL ⟨a, i, k⟩) := fun a i k h1 h2 h3 h4 => ⟨InK.mk64 (by show _ ≤ a ∧ a ≤ _; omega), InK.mk64 (by show _ ≤ (i : Int) ∧ (i : Int) ≤ _; omega), InK.mk64 (by show _ ≤ (k : Int) ∧ (k : Int) ≤ _; omega)⟩
  unfold placesOf at h
  rcases List.mem_append.1 h with h | h
  · obtain ⟨j, k, x, net, h1, h2, rfl⟩ := gatePlaces_mem h
    have b1 := (List.getElem?_eq_some_iff.1 h1).1
    have b2 := (List.getElem?_eq_some_iff.1 h2).1
    have b3 := m5 x (List.mem_of_getElem? h1)
    exact key 0 _ _ (by decide) (by decide) (by omega) (by omega)
  rcases List.mem_append.1 h with h | h
  · obtain ⟨j, x, h1, rfl | rfl⟩ := flopPlaces_mem h
    · have b1 := (List.getElem?_eq_some_iff.1 h1).1
      exact key 1 _ 0 (by decide) (by decide) (by omega) (by decide)
    · have b1 := (List.getElem?_eq_some_iff.1 h1).1
      exact key 2 _ 0 (by decide) (by decide) (by omega) (by decide)
  · obtain ⟨j, net, h1, rfl⟩ := outPlaces_mem h
    have b1 := (List.getElem?_eq_some_iff.1 h1).1
    exact key 3 _ 0 (by decide) (by decide) (by omega) (by decide)
theorem loadsOf_key {l0 : List ByteArray} {l2 : List S82} {l3 : List Kr} {l4 : List Int} (hfit : loadsFit l0 l2 l3 l4 = true) (m2 : l2.length ≤ 140737488355328) (m3 : l3.length ≤ 140737488355328) (m4 : l4.length ≤ 140737488355328) (m5 : ∀ x ∈ l3, x.f2.length ≤ 140737488355328) :
    ∀ row ∈ Qw l0 l2 l3 l4, ∀ l ∈ row, key3.ok (keyL l) := by
  intro row hrow l hl
  obtain ⟨j, hjr⟩ := List.getElem?_of_mem hrow
  have hj := (List.getElem?_eq_some_iff.1 hjr).1
  rw [loadsOf_len] at hj
  have hr := loadsOf_row hfit hj
  rw [hjr] at hr
  injection hr with hr
  rw [hr] at hl
  obtain ⟨p, hp, rfl⟩ := List.mem_map.1 hl
  exact placesOf_key (List.mem_filter.1 hp).1 m2 m3 m4 m5
def numsOf (l0 : List ByteArray) (l2 : List S82) (l3 : List Kr) (l4 : List Int) : List ((Int × Int × Int) × Int) := numsFrom (Qw l0 l2 l3 l4) []
def nvOf (l0 : List ByteArray) (l2 : List S82) (l3 : List Kr) (l4 : List Int) (a b : Int) (c : Bool) : S77 → Int → Int := newv a b (if c = true then 1 else 0) (numsOf l0 l2 l3 l4)
end Go.Proofs.Ytimjccfpobhpeaa.PF
namespace Go.Proofs.Ytimjccfpobhpeaa
open Go.RowKit Go.Proofs.YtimjccfpobhpeaaW.PrintWords Go.Proofs.Ytimjccfpobhpeaa.PF
set_option linter.unusedVariables false
theorem pin_mem {i : Nat} {net : Int} : ∀ {xs : List Int} {k j : Nat}, xs[j]? = some net → ((net, ⟨0, i, (k + j : Nat)⟩) : Int × Load) ∈ pinPlaces i xs k
  | [], _, _, h => by simp at h
  | x :: r, k, 0, h => by
    obtain rfl : x = net := by simpa using h
    rw [pinPlaces]
    exact List.mem_cons_self
  | x :: r, k, j + 1, h => by
    rw [pinPlaces]
    have := pin_mem (i := i) (k := k + 1) (j := j) (xs := r) (net := net) (by simpa using h)
    rw [show k + 1 + j = k + (j + 1) by omega] at this
    exact List.mem_cons_of_mem _ this
theorem gate_mem {k : Nat} {net : Int} : ∀ {xs : List GateS} {i j : Nat} {x : GateS}, xs[j]? = some x → x.f2[k]? = some net → ((net, ⟨0, (i + j : Nat), k⟩) : Int × Load) ∈ Ko xs i
  | [], _, _, _, h, _ => by simp at h
  | y :: r, i, 0, x, h, hk => by
    obtain rfl : y = x := by simpa using h
    rw [Ko]
    have := pin_mem (i := i) (k := 0) hk
    rw [Nat.zero_add] at this
    exact List.mem_append_left _ this
  | y :: r, i, j + 1, x, h, hk => by
    rw [Ko]
    have := gate_mem (i := i + 1) (j := j) (xs := r) (x := x) (by simpa using h) hk
    rw [show i + 1 + j = i + (j + 1) by omega] at this
    exact List.mem_append_right _ this
theorem flop_mem : ∀ {xs : List FlopS} {i j : Nat} {x : FlopS}, xs[j]? = some x → ((x.f2, ⟨1, (i + j : Nat), 0⟩) : Int × Load) ∈ Qs xs i ∧ ((x.f3, ⟨2, (i + j : Nat), 0⟩) : Int × Load) ∈ Qs xs i
  | [], _, _, _, h => by simp at h
  | y :: r, i, 0, x, h => by
    obtain rfl : y = x := by simpa using h
    rw [Qs]
    exact ⟨List.mem_cons_self, List.mem_cons_of_mem _ List.mem_cons_self⟩
  | y :: r, i, j + 1, x, h => by
    rw [Qs]
    have := flop_mem (i := i + 1) (j := j) (xs := r) (x := x) (by simpa using h)
    rw [show i + 1 + j = i + (j + 1) by omega] at this
    exact ⟨List.mem_cons_of_mem _ (List.mem_cons_of_mem _ this.1), List.mem_cons_of_mem _ (List.mem_cons_of_mem _ this.2)⟩
theorem out_mem {net : Int} : ∀ {xs : List Int} {i j : Nat}, xs[j]? = some net → ((net, ⟨3, (i + j : Nat), 0⟩) : Int × Load) ∈ Qx xs i
  | [], _, _, h => by simp at h
  | x :: r, i, 0, h => by
    obtain rfl : x = net := by simpa using h
    rw [Qx]
    exact List.mem_cons_self
  | x :: r, i, j + 1, h => by
    rw [Qx]
    have := out_mem (i := i + 1) (j := j) (xs := r) (net := net) (by simpa using h)
    rw [show i + 1 + j = i + (j + 1) by omega] at this
    exact List.mem_cons_of_mem _ this
section
variable {l2 : List FlopS} {l3 : List GateS} {l4 : List Int}
theorem places_to {p : Int × Load} (h : p ∈ placesOf l2 l3 l4) : ∃ q, p.2 = toL q ∧ getP ⟨l2, l3, l4⟩ q = some p.1 := by
  unfold placesOf at h
  rcases List.mem_append.1 h with h | h
  · obtain ⟨j, k, x, net, h1, h2, rfl⟩ := gatePlaces_mem h
    exact ⟨.pin j k, by rw [Nat.zero_add]; rfl, by simp only [getP]; rw [h1]; exact h2⟩
  rcases List.mem_append.1 h with h | h
  · obtain ⟨j, x, h1, rfl | rfl⟩ := flopPlaces_mem h
    · exact ⟨.d j, by rw [Nat.zero_add]; rfl, by simp only [getP]; rw [h1]; rfl⟩
    · exact ⟨.en j, by rw [Nat.zero_add]; rfl, by simp only [getP]; rw [h1]; rfl⟩
  · obtain ⟨j, net, h1, rfl⟩ := outPlaces_mem h
    exact ⟨.out j, by rw [Nat.zero_add]; rfl, h1⟩
theorem places_of {q : Pl} {x : Int} (h : getP ⟨l2, l3, l4⟩ q = some x) : ((x, toL q) : Int × Load) ∈ placesOf l2 l3 l4 := by
  unfold placesOf
  cases q with
  | pin i k =>
    obtain ⟨g, h1, h2⟩ := Option.bind_eq_some_iff.1 h
    have := gate_mem (i := 0) h1 h2
    rw [Nat.zero_add] at this
    exact List.mem_append_left _ this
  | d i =>
    obtain ⟨g, h1, rfl⟩ := Option.map_eq_some_iff.1 h
    have := (flop_mem (i := 0) h1).1
    rw [Nat.zero_add] at this
    exact List.mem_append_right _ (List.mem_append_left _ this)
  | en i =>
    obtain ⟨g, h1, rfl⟩ := Option.map_eq_some_iff.1 h
    have := (flop_mem (i := 0) h1).2
    rw [Nat.zero_add] at this
    exact List.mem_append_right _ (List.mem_append_left _ this)
  | out i =>
    have := out_mem (i := 0) h
    rw [Nat.zero_add] at this
    exact List.mem_append_right _ (List.mem_append_right _ this)
end
theorem load_f0 {a b : Load} (h : a = b) : a.f0 = b.f0 := by rw [h]
theorem load_f1 {a b : Load} (h : a = b) : a.f1 = b.f1 := by rw [h]
theorem load_f2 {a b : Load} (h : a = b) : a.f2 = b.f2 := by rw [h]
theorem pin_nodup (i : Nat) : ∀ (xs : List Int) (k : Nat), ((pinPlaces i xs k).map (·.2)).Nodup
  | [], k => List.nodup_nil
  | x :: r, k => by
    rw [pinPlaces, List.map_cons]
    refine List.nodup_cons.2 ⟨fun h => ?_, pin_nodup i r (k + 1)⟩
    obtain ⟨p, hp, e⟩ := List.mem_map.1 h
    obtain ⟨j, net, _, rfl⟩ := pinPlaces_mem hp
    have := load_f2 e
    simp only at this
    omega
theorem gate_nodup : ∀ (xs : List GateS) (i : Nat), ((Ko xs i).map (·.2)).Nodup
  | [], i => List.nodup_nil
  | x :: r, i => by
    rw [Ko, List.map_append]
    refine List.nodup_append.2 ⟨pin_nodup i x.f2 0, gate_nodup r (i + 1), fun a ha b hb e => ?_⟩
    obtain ⟨p, hp, rfl⟩ := List.mem_map.1 ha
    obtain ⟨p2, hp2, rfl⟩ := List.mem_map.1 hb
    obtain ⟨j, net, _, rfl⟩ := pinPlaces_mem hp
    obtain ⟨j2, k2, x2, net2, _, _, rfl⟩ := gatePlaces_mem hp2
    have := load_f1 e
    simp only at this
    omega
theorem flop_nodup : ∀ (xs : List FlopS) (i : Nat), ((Qs xs i).map (·.2)).Nodup
  | [], i => List.nodup_nil
  | x :: r, i => by
    rw [Qs, List.map_cons, List.map_cons]
    refine List.nodup_cons.2 ⟨fun h => ?_, List.nodup_cons.2 ⟨fun h => ?_, flop_nodup r (i + 1)⟩⟩
    · rcases List.mem_cons.1 h with e | h
      · have := load_f0 e
        simp only at this
        omega
      · obtain ⟨p, hp, e⟩ := List.mem_map.1 h
        obtain ⟨j, y, _, rfl | rfl⟩ := flopPlaces_mem hp
        · have := load_f1 e
          simp only at this
          omega
        · have := load_f1 e
          simp only at this
          omega
    · obtain ⟨p, hp, e⟩ := List.mem_map.1 h
      obtain ⟨j, y, _, rfl | rfl⟩ := flopPlaces_mem hp
      · have := load_f1 e
        simp only at this
        omega
      · have := load_f1 e
        simp only at this
        omega
theorem out_nodup : ∀ (xs : List Int) (i : Nat), ((Qx xs i).map (·.2)).Nodup
  | [], i => List.nodup_nil
  | x :: r, i => by
    rw [Qx, List.map_cons]
    refine List.nodup_cons.2 ⟨fun h => ?_, out_nodup r (i + 1)⟩
    obtain ⟨p, hp, e⟩ := List.mem_map.1 h
    obtain ⟨j, net, _, rfl⟩ := outPlaces_mem hp
    have := load_f1 e
    simp only at this
    omega
theorem places_nodup (l2 : List FlopS) (l3 : List GateS) (l4 : List Int) : ((placesOf l2 l3 l4).map (·.2)).Nodup := by
  unfold placesOf
  rw [List.map_append, List.map_append]
  refine List.nodup_append.2 ⟨gate_nodup l3 0, List.nodup_append.2 ⟨flop_nodup l2 0, out_nodup l4 0, fun a ha b hb e => ?_⟩, fun a ha b hb e => ?_⟩
  · obtain ⟨p, hp, rfl⟩ := List.mem_map.1 ha
    obtain ⟨p2, hp2, rfl⟩ := List.mem_map.1 hb
    obtain ⟨j2, net2, _, rfl⟩ := outPlaces_mem hp2
    obtain ⟨j, y, _, rfl | rfl⟩ := flopPlaces_mem hp
    all_goals
      have := load_f0 e
      simp only at this
      omega
  · obtain ⟨p, hp, rfl⟩ := List.mem_map.1 ha
    obtain ⟨j, k, x, net, _, _, rfl⟩ := gatePlaces_mem hp
    rcases List.mem_append.1 hb with hb | hb
    · obtain ⟨p2, hp2, rfl⟩ := List.mem_map.1 hb
      obtain ⟨j, y, _, rfl | rfl⟩ := flopPlaces_mem hp2
      all_goals
        have := load_f0 e
        simp only at this
        omega
    · obtain ⟨p2, hp2, rfl⟩ := List.mem_map.1 hb
      obtain ⟨j2, net2, _, rfl⟩ := outPlaces_mem hp2
      have := load_f0 e
      simp only at this
      omega
theorem keyL_inj {l l' : Load} (h : keyL l = keyL l') : l = l' := by
  cases l
  cases l'
  simp only [keyL, Prod.mk.injEq] at h
  obtain ⟨rfl, rfl, rfl⟩ := h
  rfl
theorem numsRow_out {l : Load} : ∀ (row : List Load) (i : Nat) (m : List ((Int × Int × Int) × Int)), l ∉ row → mget (numsRow row i m) (keyL l) = mget m (keyL l)
  | [], i, m, h => rfl
  | l' :: r, i, m, h => by
    rw [numsRow, numsRow_out r (i + 1) _ (fun e => h (List.mem_cons_of_mem _ e)), mget_mput, if_neg (fun e => h (by rw [keyL_inj e]; exact List.mem_cons_self))]
theorem numsRow_in {l : Load} : ∀ (row : List Load) (i : Nat) (m : List ((Int × Int × Int) × Int)) (j : Nat), row.Nodup → row[j]? = some l → mget (numsRow row i m) (keyL l) = some ((i + j : Nat) : Int)
  | [], i, m, j, hn, h => by simp at h
  | l' :: r, i, m, 0, hn, h => by
    obtain rfl : l' = l := by simpa using h
    rw [numsRow, numsRow_out r (i + 1) _ (List.nodup_cons.1 hn).1, mget_mput, if_pos rfl, Nat.add_zero]
  | l' :: r, i, m, j + 1, hn, h => by
    rw [numsRow, numsRow_in r (i + 1) _ j (List.nodup_cons.1 hn).2 (by simpa using h), show i + 1 + j = i + (j + 1) by omega]
theorem numsFrom_out {l : Load} : ∀ (rows : List (List Load)) (m : List ((Int × Int × Int) × Int)), (∀ row ∈ rows, l ∉ row) → mget (numsFrom rows m) (keyL l) = mget m (keyL l)
  | [], m, h => rfl
  | row :: r, m, h => by
    rw [numsFrom, numsFrom_out r _ (fun x hx => h x (List.mem_cons_of_mem _ hx)), numsRow_out _ _ _ (h row List.mem_cons_self)]
theorem numsFrom_in {l : Load} : ∀ (rows : List (List Load)) (m : List ((Int × Int × Int) × Int)) (n : Nat) (row : List Load) (j : Nat), rows[n]? = some row → row.Nodup → row[j]? = some l → (∀ n' row', n < n' → rows[n']? = some row' → l ∉ row') → mget (numsFrom rows m) (keyL l) = some (j : Int)
  | [], m, n, row, j, h, _, _, _ => by simp at h
  | row0 :: r, m, 0, row, j, h, hn, hj, hl => by
    obtain rfl : row0 = row := by simpa using h
    rw [numsFrom, numsFrom_out r _ (fun x hx => by
      obtain ⟨n', hn'⟩ := List.getElem?_of_mem hx
      exact hl (n' + 1) x (by omega) (by rw [List.getElem?_cons_succ]; exact hn')), numsRow_in _ _ _ j hn hj, Nat.zero_add]
  | row0 :: r, m, n + 1, row, j, h, hn, hj, hl => by
    rw [numsFrom]
    exact numsFrom_in r _ n row j (by simpa using h) hn hj (fun n' row' h1 h2 => hl (n' + 1) row' (by omega) (by rw [List.getElem?_cons_succ]; exact h2))
theorem Skel.symm {s s' : NetP} (h : Skel s s') : Skel s' s := ⟨h.fl.symm, h.ga.symm, h.ou.symm⟩
def rowAt (l2 : List FlopS) (l3 : List GateS) (l4 : List Int) (n : Nat) : List Load := ((placesOf l2 l3 l4).filter fun p => decide (p.1 = (n : Int))).map (·.2)
section
variable {l2 : List FlopS} {l3 : List GateS} {l4 : List Int}
theorem rowAt_mem {n : Nat} {q : Pl} : toL q ∈ rowAt l2 l3 l4 n ↔ getP ⟨l2, l3, l4⟩ q = some (n : Int) := by
  constructor
  · intro h
    obtain ⟨p, hp, e⟩ := List.mem_map.1 h
    obtain ⟨hp, hd⟩ := List.mem_filter.1 hp
    obtain ⟨q', e', hq⟩ := places_to hp
    obtain rfl := toL_inj (e'.symm.trans e)
    rw [hq, of_decide_eq_true hd]
  · intro h
    exact List.mem_map.2 ⟨_, List.mem_filter.2 ⟨places_of h, by simp⟩, rfl⟩
theorem rowAt_nodup (n : Nat) : (rowAt l2 l3 l4 n).Nodup := List.Nodup.sublist (List.Sublist.map _ List.filter_sublist) (places_nodup l2 l3 l4)
theorem rowAt_to {n : Nat} : ∀ l ∈ rowAt l2 l3 l4 n, ∃ p, l = toL p := by
  intro l hl
  obtain ⟨p, hp, rfl⟩ := List.mem_map.1 hl
  obtain ⟨q, hq, _⟩ := places_to (List.mem_filter.1 hp).1
  exact ⟨q, hq⟩
theorem inj_br {l0 : List ByteArray} (hfit : loadsFit l0 l2 l3 l4 = true) (a : Nat) (b : Int) (c : Bool) (ha : a < netsOf l0 l2 l3) :
    injRes (Qw l0 l2 l3 l4) (a : Int) b c l2 l3 l4 = brOf (nvOf l0 l2 l3 l4 a b c) ⟨l2, l3, l4⟩ := by
  have hrow : ∀ n, n < netsOf l0 l2 l3 → (Qw l0 l2 l3 l4)[n]? = some (rowAt l2 l3 l4 n) := fun n hn => loadsOf_row hfit hn
  unfold injRes
  rw [Int.toNat_natCast, List.getD_eq_getElem?_getD, hrow a ha, Option.getD_some]
  refine netP_ext ((skel_br _ _).symm.trans (skel_inject b _ _ 0 _ rowAt_to)) fun q => ?_
  obtain ⟨i1, i2⟩ := getP_inject b (if c = true then 1 else 0) q (rowAt l2 l3 l4 a) 0 ⟨l2, l3, l4⟩ rowAt_to (rowAt_nodup a)
  rw [getP_br]
  cases hq : getP ⟨l2, l3, l4⟩ q with
  | none =>
    rw [hq] at i1 i2
    by_cases hc : ∃ j, (rowAt l2 l3 l4 a)[j]? = some (toL q) ∧ (b < 0 ∨ b = (0 + j : Nat))
    · rw [i1 hc]
      rfl
    · rw [i2 hc]
      rfl
  | some x =>
    rw [hq] at i1 i2
    obtain ⟨r1, r2⟩ := (loadsFit_good hfit).1.rng _ (places_of hq)
    simp only at r1 r2
    obtain ⟨n, rfl⟩ := Int.eq_ofNat_of_zero_le r1
    obtain ⟨j, hj⟩ := List.getElem?_of_mem (rowAt_mem.2 hq)
    have hm : mget (numsOf l0 l2 l3 l4) (keyL (toL q)) = some (j : Int) := by
      unfold numsOf
      refine numsFrom_in _ _ n _ j (hrow n (by omega)) (rowAt_nodup n) hj fun n' row' h1 h2 h3 => ?_
      have hn' := (List.getElem?_eq_some_iff.1 h2).1
      rw [loadsOf_len] at hn'
      rw [hrow n' hn'] at h2
      cases h2
      rw [rowAt_mem, hq] at h3
      injection h3 with h3
      omega
    have hnv : nvOf l0 l2 l3 l4 a b c (toL q) (n : Int) = if (n : Int) = a ∧ (b < 0 ∨ (j : Int) = b) then (if c = true then 1 else 0) else (n : Int) := by
      unfold nvOf newv
      rw [hm, Option.getD_some]
      simp only [putC, Bool.and_eq_true, Bool.or_eq_true, decide_eq_true_eq]
    rw [Option.map_some, hnv]
    by_cases hc : ∃ j, (rowAt l2 l3 l4 a)[j]? = some (toL q) ∧ (b < 0 ∨ b = (0 + j : Nat))
    · rw [i1 hc]
      obtain ⟨j', hj', hb⟩ := hc
      have hna := rowAt_mem.1 (List.mem_of_getElem? hj')
      rw [hq] at hna
      injection hna with hna
      obtain rfl : n = a := by omega
      obtain rfl : j = j' := List.getElem?_inj (List.getElem?_eq_some_iff.1 hj).1 (rowAt_nodup n) |>.1 (hj.trans hj'.symm)
      have hP : (n : Int) = n ∧ (b < 0 ∨ (j : Int) = b) := ⟨rfl, by rcases hb with hb | hb; exact .inl hb; exact .inr (by rw [hb, Nat.zero_add])⟩
      rw [if_pos hP]
      rfl
    · rw [i2 hc]
      have hN : ¬ ((n : Int) = a ∧ (b < 0 ∨ (j : Int) = b)) := by
        rintro ⟨h1, h2⟩
        obtain rfl : n = a := Int.ofNat.inj h1
        exact hc ⟨j, hj, by rcases h2 with h2 | h2; exact .inl h2; exact .inr (by rw [Nat.zero_add]; exact h2.symm)⟩
      rw [if_neg hN]
end
end Go.Proofs.Ytimjccfpobhpeaa
namespace Go.Proofs.Ytimjccfpobhpeaa.PF
open Go.RowKit Go.Proofs.YtimjccfpobhpeaaW.PrintWords Go.Proofs.YtimjccfpobhpeaaW.PrintLast Go.Proofs.YtimjccfpobhpeaaW.PrintMore
attribute [local go_sem] Qq Kt
set_option linter.unusedVariables false
set_option linter.unusedSimpArgs false
def Xh.j0 : Nat → List (List (S77)) → Bool → Int → Int → Bool → Option (Int)
  | 0, _, _, _, _, _ => none
  | k + 1, x5, x21, x130000, x130001, x130002 => if x21 = true then (some 7) else (if x130001 < (-1) then (some 2) else (if 0 ≤ x130000 then (if x130000 < (x5.length : Int) then (if x130001 ≥ ((Qy x5 x130000).length : Int) then (some 2) else (some 0)) else (none)) else (none)))
def Xh.f (k : Nat) (l0_0 : List ByteArray) (l0_1 : List ByteArray) (l0_2 : List (S82)) (l0_3 : List (Kr)) (l0_4 : List Int) (a1_0 : Int) (a1_1 : Int) (a1_2 : Bool) : Option (Int) := (Xe.f k l0_0 l0_1 l0_2 l0_3 l0_4).bind fun bt130 => (if a1_0 < 2 then (Xh.j0 k bt130.1 true a1_0 a1_1 a1_2) else (Xh.j0 k bt130.1 (decide (a1_0 ≥ (bt130.1.length : Int))) a1_0 a1_1 a1_2))
set_option maxHeartbeats 8000000 in
set_option maxRecDepth 100000 in
theorem Xh.calls (k : Nat) (A0_0 : Option Addr) (c0_0 : Nat) (l0_0 : List ByteArray) (A0_1 : Option Addr) (c0_1 : Nat) (l0_1 : List ByteArray) (A0_2 : Option Addr) (c0_2 : Nat) (l0_2 : List (S82)) (A0_3 : Option Addr) (c0_3 : Nat) (l0_3 : List (Kr)) (A0_4 : Option Addr) (c0_4 : Nat) (l0_4 : List Int) (a1_0 : Int) (a1_1 : Int) (a1_2 : Bool) (r : Int) (w : World) (hr0_0 : Kd.C Kd.string w A0_0 l0_0.length l0_0) (hc0_0 : l0_0.length ≤ c0_0) (hr0_1 : Kd.C Kd.string w A0_1 l0_1.length l0_1) (hc0_1 : l0_1.length ≤ c0_1) (hr0_2 : Kd.C k82 w A0_2 l0_2.length l0_2) (hc0_2 : l0_2.length ≤ c0_2) (hr0_3 : Kd.C k80 w A0_3 l0_3.length l0_3) (hc0_3 : l0_3.length ≤ c0_3) (hr0_4 : Kd.C (Kd.int .i64) w A0_4 l0_4.length l0_4) (hc0_4 : l0_4.length ≤ c0_4) (h : Xh.f k l0_0 l0_1 l0_2 l0_3 l0_4 a1_0 a1_1 a1_2 = some r) :
 Calls Try.prog 10 #[.agg #[.slice A0_0 l0_0.length c0_0, .slice A0_1 l0_1.length c0_1, .slice A0_2 l0_2.length c0_2, .slice A0_3 l0_3.length c0_3, .slice A0_4 l0_4.length c0_4], .agg #[.int .i64 a1_0, .int .i64 a1_1, .bool a1_2]] w fun e w' => e = .returned (.int .i64 r) ∧ Below w.heap.size w w' := by
 have hu27 := Try.underlying27
 have hu29 := Try.underlying29
 have HR0_0 := Za.mk hr0_0
 have HC0_0 := Za.mk hc0_0
 clear hr0_0 hc0_0
 have HR0_1 := Za.mk hr0_1
 have HC0_1 := Za.mk hc0_1
 clear hr0_1 hc0_1
 have HR0_2 := Za.mk hr0_2
 have HC0_2 := Za.mk hc0_2
 clear hr0_2 hc0_2
 have HR0_3 := Za.mk hr0_3
 have HC0_3 := Za.mk hc0_3
 clear hr0_3 hc0_3
 have HR0_4 := Za.mk hr0_4
 have HC0_4 := Za.mk hc0_4
 clear hr0_4 hc0_4
 have HB := Za.mk (Below.refl w.heap.size w)
 have H : ((Xe.f k l0_0 l0_1 l0_2 l0_3 l0_4).bind fun bt130 => (if a1_0 < 2 then (Xh.j0 k bt130.1 true a1_0 a1_1 a1_2) else (Xh.j0 k bt130.1 (decide (a1_0 ≥ (bt130.1.length : Int))) a1_0 a1_1 a1_2))) = some r := h
 clear h
 replace H := Option.bind_eq_some_iff.mp H
 obtain ⟨⟨t130, t133⟩, A30, H⟩ := H
 replace H : (if a1_0 < 2 then (Xh.j0 k t130 true a1_0 a1_1 a1_2) else (Xh.j0 k t130 (decide (a1_0 ≥ (t130.length : Int))) a1_0 a1_1 a1_2)) = some r := H
 have A3 := Za.mk A30
 clear A30
 have HC4 := Za.mk H
 clear H
 go_enter Try.func10, Try.ntmps10
 go_upto_region 2 with (first | ((with_reducible refine Xg (N := 2) rfl ?_); (try (refine Qe (by rfl) ?_; dsimp only)); refine Xk ?hg (N := 2) ?hd (cs := #[.slice A0_0 l0_0.length c0_0, .slice A0_1 l0_1.length c0_1, .slice A0_2 l0_2.length c0_2, .slice A0_3 l0_3.length c0_3, .slice A0_4 l0_4.length c0_4]) (t := 27) ?hr ?_; (case hd => rfl); (case hg => rfl); (case hr => first | (go_simp; done) | (go_simp; rfl)); intro gb128 hg w5 hbox hb; have n0_ := Za.mk (Zh HB.out hb); have n1_ := Za.mk (hbox); have n2_ := Za.mk ((by rw [hg]; exact (Zg HB.out) : w.heap.size ≤ gb128)); have n3_ := n2_; clear HB; have HB := n0_; have BK128 := n1_; have GW128 := n2_; have GE128 := n3_; clear n0_ n1_ n2_ n3_; clear hb hbox hg) | ((with_reducible refine Xg (N := 3) rfl ?_); (try (refine Qe (by rfl) ?_; dsimp only)); refine Xk ?hg (N := 3) ?hd (cs := #[.int .i64 a1_0, .int .i64 a1_1, .bool a1_2]) (t := 29) ?hr ?_; (case hd => rfl); (case hg => rfl); (case hr => first | (go_simp; done) | (go_simp; rfl)); intro gb129 hg w6 hbox hb; have n0_ := Za.mk (Zo BK128.out hb); have n1_ := Za.mk (Zh HB.out hb); have n2_ := Za.mk (hbox); have n3_ := Za.mk ((by rw [hg]; exact (Zg HB.out) : w.heap.size ≤ gb129)); have n4_ := n3_; have n5_ := Za.mk ((by rw [hg]; exact Nat.ne_of_lt (Xz BK128.out) : gb128 ≠ gb129)); have n6_ := Za.mk ((by rw [hg]; exact Nat.ne_of_gt (Xz BK128.out) : gb129 ≠ gb128)); clear BK128; clear HB; have BK128 := n0_; have HB := n1_; have BK129 := n2_; have GW129 := n3_; have GE129 := n4_; have NB128_129 := n5_; have NB129_128 := n6_; clear n0_ n1_ n2_ n3_ n4_ n5_ n6_; clear hb hbox hg; have hnb7 := NB128_129.out; have hnc7 := NB129_128.out; have hcz8_0 : w6.cell? ⟨gb128, 0, none⟩ = some (.slice A0_0 l0_0.length c0_0) := (Zc BK128.out 0).trans rfl; have hcz8_1 : w6.cell? ⟨gb128, 1, none⟩ = some (.slice A0_1 l0_1.length c0_1) := (Zc BK128.out 1).trans rfl; have hcz8_2 : w6.cell? ⟨gb128, 2, none⟩ = some (.slice A0_2 l0_2.length c0_2) := (Zc BK128.out 2).trans rfl; have hcz8_3 : w6.cell? ⟨gb128, 3, none⟩ = some (.slice A0_3 l0_3.length c0_3) := (Zc BK128.out 3).trans rfl; have hcz8_4 : w6.cell? ⟨gb128, 4, none⟩ = some (.slice A0_4 l0_4.length c0_4) := (Zc BK128.out 4).trans rfl; have hfz8_0 := Zb BK128.out 0; have hfz8_1 := Zb BK128.out 1; have hfz8_2 := Zb BK128.out 2; have hfz8_3 := Zb BK128.out 3; have hfz8_4 := Zb BK128.out 4) | (go_at_call 27; (with_reducible refine (Xe.calls k _ _ l0_0 _ _ l0_1 _ _ l0_2 _ _ l0_3 _ _ l0_4 t130 t133 _ ?side1 ?side2 ?side3 ?side4 ?side5 ?side6 ?side7 ?side8 ?side9 ?side10 A3.out).mono ?_); (case side1 => exact (Kd.Zf HR0_0.out HB.out)); (case side2 => exact HC0_0.out); (case side3 => exact (Kd.Zf HR0_1.out HB.out)); (case side4 => exact HC0_1.out); (case side5 => exact (Kd.Zf HR0_2.out HB.out)); (case side6 => exact HC0_2.out); (case side7 => exact (Kd.Zf HR0_3.out HB.out)); (case side8 => exact HC0_3.out); (case side9 => exact (Kd.Zf HR0_4.out HB.out)); (case side10 => exact HC0_4.out); rintro e w9 ⟨v131, rfl, ho0, hb⟩; have n0_ := Za.mk (Kd.S_lower ho0 (Zg HB.out)); have n1_ := Za.mk (Zo BK128.out hb); have n2_ := Za.mk (Zo BK129.out hb); have n3_ := Za.mk (Zh HB.out hb); clear BK128; clear BK129; clear HB; have HO132 := n0_; have BK128 := n1_; have BK129 := n2_; have HB := n3_; clear n0_ n1_ n2_ n3_; (try clear hb); (try clear hb2); (try clear hk); (try clear hi); (try clear ho0)))
 repeat (go_quiet (fail); go_upto_region 2 with (fail))
 (try simp only [Act.put, List.setIfInBounds_toArray, List.set_cons_zero, List.set_cons_succ])
 go_cut [21] (fun v21 wc => ∃ (kq : Nat) (x21_3 : Bool), v21 = .bool x21_3 ∧ Za (Xh.j0 kq t130 x21_3 a1_0 a1_1 a1_2 = some r) ∧ Za (kq ≤ k) ∧ Za (Kd.S (Kd.slice 77 k77) 75 wc w.heap.size (fun _ => True) v131 t130) ∧ Za (wc.heap[gb128]? = some (.cells #[(.slice A0_0 l0_0.length c0_0), (.slice A0_1 l0_1.length c0_1), (.slice A0_2 l0_2.length c0_2), (.slice A0_3 l0_3.length c0_3), (.slice A0_4 l0_4.length c0_4)] 27 (0, 0))) ∧ Za (wc.heap[gb129]? = some (.cells #[.int .i64 a1_0, .int .i64 a1_1, .bool a1_2] 29 (0, 0))) ∧ Za (Below w.heap.size w wc))
 case first =>
  have H := HC4.out
  clear HC4
  by_cases c10 : a1_0 < 2
  ·rw [if_pos c10] at H
   have c10b0 : decide (a1_0 < 2) = true := decide_eq_true c10
   clear c10
   (first | rw [c10b0] | (simp only [Xr, Xv]; rw [c10b0]) | skip)
   have H' := Za.mk H
   clear H
   have hnb11 := NB129_128.out
   have hnc11 := NB128_129.out
   have hcz12_0 : w9.cell? ⟨gb129, 0, none⟩ = some (.int .i64 a1_0) := (Zc BK129.out 0).trans rfl
   have hcz12_1 : w9.cell? ⟨gb129, 1, none⟩ = some (.int .i64 a1_1) := (Zc BK129.out 1).trans rfl
   have hcz12_2 : w9.cell? ⟨gb129, 2, none⟩ = some (.bool a1_2) := (Zc BK129.out 2).trans rfl
   have hfz12_0 := Zb BK129.out 0
   have hfz12_1 := Zb BK129.out 1
   have hfz12_2 := Zb BK129.out 2
   go_wp2
   repeat (go_quiet (fail); try go_wp2)
   go_meet
   case rel => exact ⟨_, (true), (by first | rfl | (simp; done) | (simp [*]; done)), H', ⟨by first | omega | exact Nat.le_refl _⟩, ⟨HO132.out⟩, ⟨BK128.out⟩, ⟨BK129.out⟩, ⟨HB.out⟩⟩
  ·rw [if_neg c10] at H
   have c10b0 : decide (a1_0 < 2) = false := decide_eq_false c10
   clear c10
   (first | rw [c10b0] | (simp only [Xr, Xv]; rw [c10b0]) | skip)
   have H' := Za.mk H
   clear H
   have hnb13 := NB129_128.out
   have hnc13 := NB128_129.out
   have hcz14_0 : w9.cell? ⟨gb129, 0, none⟩ = some (.int .i64 a1_0) := (Zc BK129.out 0).trans rfl
   have hcz14_1 : w9.cell? ⟨gb129, 1, none⟩ = some (.int .i64 a1_1) := (Zc BK129.out 1).trans rfl
   have hcz14_2 : w9.cell? ⟨gb129, 2, none⟩ = some (.bool a1_2) := (Zc BK129.out 2).trans rfl
   have hfz14_0 := Zb BK129.out 0
   have hfz14_1 := Zb BK129.out 1
   have hfz14_2 := Zb BK129.out 2
   obtain ⟨Ao15, co15, eo15⟩ := Kd.S_slice HO132.out
   subst eo15
   go_wp2
   repeat (go_quiet (fail); try go_wp2)
   go_meet
   case rel => exact ⟨_, (decide (a1_0 ≥ (t130.length : Int))), (by first | rfl | (simp; done) | (simp [*]; done)), H', ⟨by first | omega | exact Nat.le_refl _⟩, ⟨HO132.out⟩, ⟨BK128.out⟩, ⟨BK129.out⟩, ⟨HB.out⟩⟩
 case rest =>
  clear HC4
  try clear hcz8_0
  try clear hcz8_1
  try clear hcz8_2
  try clear hcz8_3
  try clear hcz8_4
  try clear hfz8_0
  try clear hfz8_1
  try clear hfz8_2
  try clear hfz8_3
  try clear hfz8_4
  obtain ⟨kq, x21_3, rfl, HA, HJ3, HO_5, BK128, BK129, HB⟩ := hcut
  cases kq with
  | zero => exact absurd HA.out (by simp [Xh.j0])
  | succ kj3 =>
   have H := HA.out
   clear HA
   simp only [Xh.j0] at H
   by_cases c16 : x21_3 = true
   ·subst c16
    have H1 : (some 7) = some r := by rw [if_pos rfl] at H; exact H
    clear H
    have H := H1
    clear H1
    obtain rfl := Option.some.inj H
    go_wp2
    repeat (go_quiet (fail); try go_wp2)
    go_ret
    exact ⟨by first | rfl | (simp [errW_none, errW_some] <;> rfl) | (simp [*, errW_none, errW_some] <;> rfl), HB.out⟩
   ·replace c16 := Bool.eq_false_iff.mpr c16
    subst c16
    have H1 : (if a1_1 < (-1) then (some 2) else (if 0 ≤ a1_0 then (if a1_0 < (t130.length : Int) then (if a1_1 ≥ ((Qy t130 a1_0).length : Int) then (some 2) else (some 0)) else (none)) else (none))) = some r := by rw [if_neg (show ¬ (false = true) by decide)] at H; exact H
    clear H
    have H := H1
    clear H1
    by_cases c17 : a1_1 < (-1)
    ·rw [if_pos c17] at H
     have c17b0 : decide (a1_1 < (-1)) = true := decide_eq_true c17
     clear c17
     obtain rfl := Option.some.inj H
     have hnb18 := NB129_128.out
     have hnc18 := NB128_129.out
     have hcz19_0 : wc.cell? ⟨gb129, 0, none⟩ = some (.int .i64 a1_0) := (Zc BK129.out 0).trans rfl
     have hcz19_1 : wc.cell? ⟨gb129, 1, none⟩ = some (.int .i64 a1_1) := (Zc BK129.out 1).trans rfl
     have hcz19_2 : wc.cell? ⟨gb129, 2, none⟩ = some (.bool a1_2) := (Zc BK129.out 2).trans rfl
     have hfz19_0 := Zb BK129.out 0
     have hfz19_1 := Zb BK129.out 1
     have hfz19_2 := Zb BK129.out 2
     go_wp2
     repeat (go_quiet (fail); try go_wp2)
     go_ret
     exact ⟨by first | rfl | (simp [errW_none, errW_some] <;> rfl) | (simp [*, errW_none, errW_some] <;> rfl), by repeat (first | (with_reducible first | exact HB.out | apply Zn | apply Zq | apply Zv | refine Zl ?_ GE128.out | refine Zl ?_ GE129.out) | exact HB.out)⟩
    ·rw [if_neg c17] at H
     have c17b0 : decide (a1_1 < (-1)) = false := decide_eq_false c17
     clear c17
     by_cases c20 : 0 ≤ a1_0
     ·rw [if_pos c20] at H
      have c20b0 : decide (0 ≤ a1_0) = true := decide_eq_true c20
      clear c20
      by_cases c21 : a1_0 < (t130.length : Int)
      ·rw [if_pos c21] at H
       have c21b0 : decide (a1_0 < (t130.length : Int)) = true := decide_eq_true c21
       clear c21
       by_cases c22 : a1_1 ≥ ((Qy t130 a1_0).length : Int)
       ·rw [if_pos c22] at H
        have c22b0 : decide (((Qy t130 a1_0).length : Int) ≤ a1_1) = true := decide_eq_true c22
        clear c22
        obtain rfl := Option.some.inj H
        have hnb23 := NB129_128.out
        have hnc23 := NB128_129.out
        have hcz24_0 : wc.cell? ⟨gb129, 0, none⟩ = some (.int .i64 a1_0) := (Zc BK129.out 0).trans rfl
        have hcz24_1 : wc.cell? ⟨gb129, 1, none⟩ = some (.int .i64 a1_1) := (Zc BK129.out 1).trans rfl
        have hcz24_2 : wc.cell? ⟨gb129, 2, none⟩ = some (.bool a1_2) := (Zc BK129.out 2).trans rfl
        have hfz24_0 := Zb BK129.out 0
        have hfz24_1 := Zb BK129.out 1
        have hfz24_2 := Zb BK129.out 2
        obtain ⟨Ao25, co25, eo25⟩ := Kd.S_slice HO_5.out
        subst eo25
        have p134 : 0 ≤ (a1_0 : Int) := of_decide_eq_true (by first | (with_reducible assumption) | assumption)
        have q134 : a1_0 < (t130.length : Int) := of_decide_eq_true (by first | (with_reducible assumption) | assumption)
        obtain ⟨ad134, A134_0, c134_0, e134, hx134_0, hl134_0, hi134_0⟩ := at_L12 (Kd.S_reads' HO_5.out).2.2 a1_0 p134 q134
        cases e134
        obtain ⟨ce134, hce134, hMe134, hcc134⟩ := Kd.S_get HO_5.out [] a1_0 p134 (by first | exact q134 | exact of_decide_eq_true (by first | (with_reducible assumption) | assumption) | (have e_ := (Kd.S_reads' HO_5.out).1; omega))
        obtain ⟨ve134_0, rfl, ge134_0⟩ := hMe134
        have hv134_0 := hcc134 0 _ rfl
        rw [Nat.add_zero, show ((Kd.slice 77 k77)).sz = 1 from rfl, Nat.mul_one] at hv134_0
        replace hv134_0 := Option.some.inj (hv134_0.symm.trans hx134_0)
        rw [hv134_0] at ge134_0
        have HL134_0 := Za.mk (show Kd.R k77 77 _ _ _ _ (Qy t130 a1_0) from ge134_0)
        clear hv134_0 ge134_0
        clear hcc134 hce134
        have HR134_0 := Za.mk hi134_0
        have HC134_0 := Za.mk hl134_0
        clear hi134_0 hl134_0
        replace p134 := eq_true p134
        replace q134 := eq_true q134
        go_wp2
        repeat (go_quiet (fail); try go_wp2)
        go_ret
        exact ⟨by first | rfl | (simp [errW_none, errW_some] <;> rfl) | (simp [*, errW_none, errW_some] <;> rfl), by repeat (first | (with_reducible first | exact HB.out | apply Zn | apply Zq | apply Zv | refine Zl ?_ GE128.out | refine Zl ?_ GE129.out) | exact HB.out)⟩
       ·rw [if_neg c22] at H
        have c22b0 : decide (((Qy t130 a1_0).length : Int) ≤ a1_1) = false := decide_eq_false c22
        clear c22
        obtain rfl := Option.some.inj H
        have hnb26 := NB129_128.out
        have hnc26 := NB128_129.out
        have hcz27_0 : wc.cell? ⟨gb129, 0, none⟩ = some (.int .i64 a1_0) := (Zc BK129.out 0).trans rfl
        have hcz27_1 : wc.cell? ⟨gb129, 1, none⟩ = some (.int .i64 a1_1) := (Zc BK129.out 1).trans rfl
        have hcz27_2 : wc.cell? ⟨gb129, 2, none⟩ = some (.bool a1_2) := (Zc BK129.out 2).trans rfl
        have hfz27_0 := Zb BK129.out 0
        have hfz27_1 := Zb BK129.out 1
        have hfz27_2 := Zb BK129.out 2
        obtain ⟨Ao28, co28, eo28⟩ := Kd.S_slice HO_5.out
        subst eo28
        have p134 : 0 ≤ (a1_0 : Int) := of_decide_eq_true (by first | (with_reducible assumption) | assumption)
        have q134 : a1_0 < (t130.length : Int) := of_decide_eq_true (by first | (with_reducible assumption) | assumption)
        obtain ⟨ad134, A134_0, c134_0, e134, hx134_0, hl134_0, hi134_0⟩ := at_L12 (Kd.S_reads' HO_5.out).2.2 a1_0 p134 q134
        cases e134
        obtain ⟨ce134, hce134, hMe134, hcc134⟩ := Kd.S_get HO_5.out [] a1_0 p134 (by first | exact q134 | exact of_decide_eq_true (by first | (with_reducible assumption) | assumption) | (have e_ := (Kd.S_reads' HO_5.out).1; omega))
        obtain ⟨ve134_0, rfl, ge134_0⟩ := hMe134
        have hv134_0 := hcc134 0 _ rfl
        rw [Nat.add_zero, show ((Kd.slice 77 k77)).sz = 1 from rfl, Nat.mul_one] at hv134_0
        replace hv134_0 := Option.some.inj (hv134_0.symm.trans hx134_0)
        rw [hv134_0] at ge134_0
        have HL134_0 := Za.mk (show Kd.R k77 77 _ _ _ _ (Qy t130 a1_0) from ge134_0)
        clear hv134_0 ge134_0
        clear hcc134 hce134
        have HR134_0 := Za.mk hi134_0
        have HC134_0 := Za.mk hl134_0
        clear hi134_0 hl134_0
        replace p134 := eq_true p134
        replace q134 := eq_true q134
        go_wp2
        repeat (go_quiet (fail); try go_wp2)
        go_ret
        exact ⟨by first | rfl | (simp [errW_none, errW_some] <;> rfl) | (simp [*, errW_none, errW_some] <;> rfl), by repeat (first | (with_reducible first | exact HB.out | apply Zn | apply Zq | apply Zv | refine Zl ?_ GE128.out | refine Zl ?_ GE129.out) | exact HB.out)⟩
      ·rw [if_neg c21] at H
       exact absurd H (by simp)
     ·rw [if_neg c20] at H
      exact absurd H (by simp)
end Go.Proofs.Ytimjccfpobhpeaa.PF
namespace Go.Proofs.Ytimjccfpobhpeaa
open Go.RowKit Go.Proofs.YtimjccfpobhpeaaW.PrintWords Go.Proofs.Ytimjccfpobhpeaa.PF
set_option linter.unusedVariables false
set_option maxRecDepth 100000
theorem gatePlaces_len : ∀ (xs : List GateS) (i : Nat), (∀ x ∈ xs, x.f2.length ≤ 6) → (Ko xs i).length ≤ 6 * xs.length
  | [], i, h => Nat.zero_le _
  | x :: r, i, h => by
    have h1 := gatePlaces_len r (i + 1) (fun y hy => h y (List.mem_cons_of_mem _ hy))
    have h2 := h x List.mem_cons_self
    have h3 : ∀ (ys : List Int) (k : Nat), (pinPlaces i ys k).length = ys.length := by
      intro ys
      induction ys with
      | nil => intro k; rfl
      | cons y ys ih => intro k; rw [pinPlaces, List.length_cons, ih, List.length_cons]
    rw [Ko, List.length_append, h3, List.length_cons]
    omega
theorem flopPlaces_len : ∀ (xs : List FlopS) (i : Nat), (Qs xs i).length = 2 * xs.length
  | [], i => rfl
  | x :: r, i => by
    rw [Qs, List.length_cons, List.length_cons, flopPlaces_len r (i + 1), List.length_cons]
    omega
theorem outPlaces_len : ∀ (xs : List Int) (i : Nat), (Qx xs i).length = xs.length
  | [], i => rfl
  | x :: r, i => by rw [Qx, List.length_cons, outPlaces_len r (i + 1), List.length_cons]
section
variable {l0 l1 : List ByteArray} {l2 : List FlopS} {l3 : List GateS} {l4 : List Int}
theorem FormOk.fit (h : FormOk l0 l1 l2 l3 l4) : loadsFit l0 l2 l3 l4 = true := by
  have hc0 := h.c0
  have hc1 := h.c1
  have hc2 := h.c2
  have hc3 := h.c3
  have hc4 := h.c4
  have hg := gatePlaces_len l3 0 (fun x hx => by
    obtain ⟨i, hi⟩ := List.getElem?_of_mem hx
    exact (h.pins i x hi).1)
  unfold loadsFit
  simp only [Bool.and_eq_true, decide_eq_true_eq, List.all_eq_true]
  refine ⟨⟨by unfold netsOf; omega, ?_⟩, fun p hp => ?_⟩
  · unfold placesOf
    rw [List.length_append, List.length_append, flopPlaces_len, outPlaces_len]
    omega
  · have hn : (netsOf l0 l2 l3 : Int) = 2 + (l0.length : Int) + l2.length + l3.length := by unfold netsOf; omega
    rw [hn]
    obtain ⟨q, _, hq⟩ := places_to hp
    cases q with
    | pin i k =>
      obtain ⟨g, h1, h2⟩ := Option.bind_eq_some_iff.1 hq
      have hi := (List.getElem?_eq_some_iff.1 h1).1
      simp only at hi
      have := (h.pins i g h1).2 _ (List.mem_of_getElem? h2)
      omega
    | d i =>
      obtain ⟨g, h1, h2⟩ := Option.map_eq_some_iff.1 hq
      have := h.flops g (List.mem_of_getElem? h1)
      omega
    | en i =>
      obtain ⟨g, h1, h2⟩ := Option.map_eq_some_iff.1 hq
      have := h.flops g (List.mem_of_getElem? h1)
      omega
    | out i =>
      have := h.outs _ (List.mem_of_getElem? hq)
      omega
theorem FormOk.copy (h : FormOk l0 l1 l2 l3 l4) : copyFits l0 l1 l2 l3 l4 = true := by
  have hc0 := h.c0
  have hc1 := h.c1
  have hc2 := h.c2
  have hc3 := h.c3
  have hc4 := h.c4
  unfold copyFits
  simp only [Bool.and_eq_true, decide_eq_true_eq, List.all_eq_true]
  refine ⟨⟨⟨⟨⟨by omega, by omega⟩, by omega⟩, by omega⟩, by omega⟩, fun x hx => ?_⟩
  obtain ⟨i, hi⟩ := List.getElem?_of_mem hx
  have := (h.pins i x hi).1
  omega
end
theorem check_ex (rows : List (List S77)) (a b : Int) (c : Bool) : ∃ e, ∀ k, Xf.f (k + 1) rows a b c = some e ∧
    (if a < 2 then Xh.j0 (k + 1) rows true a b c else Xh.j0 (k + 1) rows (decide (a ≥ (rows.length : Int))) a b c) = some e := by
  by_cases h1 : a < 2
  · exact ⟨7, fun k => by rw [Xf.f, if_pos h1, if_pos h1, Xf.j0, Xh.j0, if_pos rfl]; exact ⟨rfl, rfl⟩⟩
  by_cases h2 : a ≥ (rows.length : Int)
  · exact ⟨7, fun k => by rw [Xf.f, if_neg h1, if_neg h1, decide_eq_true h2, Xf.j0, Xh.j0, if_pos rfl]; exact ⟨rfl, rfl⟩⟩
  by_cases h3 : b < -1
  · exact ⟨2, fun k => by rw [Xf.f, if_neg h1, if_neg h1, decide_eq_false h2, Xf.j0, Xh.j0, if_neg (show ¬ (false = true) by decide), if_pos h3]; exact ⟨rfl, rfl⟩⟩
  by_cases h4 : b ≥ ((Qy rows a).length : Int)
  · exact ⟨2, fun k => by rw [Xf.f, if_neg h1, if_neg h1, decide_eq_false h2, Xf.j0, Xh.j0, if_neg (show ¬ (false = true) by decide), if_neg h3, if_pos (show 0 ≤ a by omega), if_pos (show a < (rows.length : Int) by omega), if_pos h4]; exact ⟨rfl, rfl⟩⟩
  · exact ⟨0, fun k => by rw [Xf.f, if_neg h1, if_neg h1, decide_eq_false h2, Xf.j0, Xh.j0, if_neg (show ¬ (false = true) by decide), if_neg h3, if_pos (show 0 ≤ a by omega), if_pos (show a < (rows.length : Int) by omega), if_neg h4]; exact ⟨rfl, rfl⟩⟩
section
variable (l0 l1 : List ByteArray) (l2 : List FlopS) (l3 : List GateS) (l4 : List Int) (a b : Int) (c : Bool)
theorem inject_cases : ∃ K e, (∀ k, K ≤ k → Ze.f k l0 l1 l2 l3 l4 = some e) ∧ (e ≠ 0 → ∀ k, K ≤ k → Qb.f k l0 l1 l2 l3 l4 a b c = some ([], [], [], [], [], e)) ∧
    (e = 0 → FormOk l0 l1 l2 l3 l4 ∧ (∀ k, K ≤ k → Xe.f k l0 l1 l2 l3 l4 = some (Qw l0 l2 l3 l4, 0)) ∧ ∃ e2, (∀ k, K ≤ k → Xh.f k l0 l1 l2 l3 l4 a b c = some e2) ∧ (∀ k, K ≤ k → Xf.f k (Qw l0 l2 l3 l4) a b c = some e2) ∧
      (e2 ≠ 0 → ∀ k, K ≤ k → Qb.f k l0 l1 l2 l3 l4 a b c = some ([], [], [], [], [], e2)) ∧
      (e2 = 0 → 2 ≤ a ∧ a < netsOf l0 l2 l3 ∧ ∀ k, K ≤ k → Qb.f k l0 l1 l2 l3 l4 a b c = some (l0, l1, brFlops (nvOf l0 l2 l3 l4 a b c) l2 0, brGates (nvOf l0 l2 l3 l4 a b c) l3 0, brOuts (nvOf l0 l2 l3 l4 a b c) l4 0, 0))) := by
  obtain ⟨kF, e, hF, hok⟩ := form_ex l0 l1 l2 l3 l4
  have hform : ∀ k, kF ≤ k → Ze.f k l0 l1 l2 l3 l4 = some e := fun k hk => upK (Ze.mono l0 l1 l2 l3 l4) hk hF
  refine ⟨kF + 1, e, fun k hk => hform k (by omega), fun he k hk => by rw [Qb.f, Xe.f, hform _ (by omega), Option.bind_some, if_neg he, Option.bind_some, if_neg he], ?_⟩
  intro he
  subst he
  have ok := hok rfl
  have hL : ∀ k, kF ≤ k → Xe.f k l0 l1 l2 l3 l4 = some (Qw l0 l2 l3 l4, 0) := fun k hk => by
    rw [Xe.f, hform k hk, Option.bind_some, if_pos rfl, if_pos ok.fit]
  obtain ⟨e2, hc⟩ := check_ex (Qw l0 l2 l3 l4) a b c
  refine ⟨ok, fun k hk => hL k (by omega), e2, fun k hk => ?_, fun k hk => ?_, ?_, ?_⟩
  · obtain ⟨m, rfl⟩ : ∃ m, k = m + 1 := ⟨k - 1, by omega⟩
    rw [Xh.f, hL _ (by omega), Option.bind_some]
    exact (hc m).2
  · obtain ⟨m, rfl⟩ : ∃ m, k = m + 1 := ⟨k - 1, by omega⟩
    exact (hc m).1
  · intro h2 k hk
    obtain ⟨m, rfl⟩ : ∃ m, k = m + 1 := ⟨k - 1, by omega⟩
    rw [Qb.f, hL _ (by omega), Option.bind_some, if_pos rfl]
    show ((Xf.f (m + 1) (Qw l0 l2 l3 l4) a b c).bind _) = _
    rw [(hc m).1, Option.bind_some, if_neg h2]
  · intro h2
    subst h2
    obtain ⟨k1, k2, k3, k4⟩ := Xf.ok (hc kF).1
    rw [loadsOf_len] at k2
    obtain ⟨n, rfl⟩ := Int.eq_ofNat_of_zero_le (show 0 ≤ a by omega)
    have hib := inj_br ok.fit n b c (by omega)
    refine ⟨by omega, k2, fun k hk => ?_⟩
    obtain ⟨m, rfl⟩ : ∃ m, k = m + 1 := ⟨k - 1, by omega⟩
    rw [Qb.f, hL _ (by omega), Option.bind_some, if_pos rfl]
    show ((Xf.f (m + 1) (Qw l0 l2 l3 l4) n b c).bind _) = _
    rw [(hc m).1, Option.bind_some, if_pos rfl, if_pos ok.copy]
    show some (l0, l1, (injRes (Qw l0 l2 l3 l4) n b c l2 l3 l4).fl, (injRes (Qw l0 l2 l3 l4) n b c l2 l3 l4).ga, (injRes (Qw l0 l2 l3 l4) n b c l2 l3 l4).ou, 0) = _
    rw [hib]
    rfl
end
end Go.Proofs.Ytimjccfpobhpeaa
namespace Go.Proofs.Ytimjccfpobhpeaa
open Go.RowKit Go.Proofs.YtimjccfpobhpeaaW.PrintWords Go.Proofs.Ytimjccfpobhpeaa.PF
set_option linter.unusedVariables false
def maskF (n : Nat) : Int := (netlist_Mask.f (n : Int)).getD 0
theorem mask_some (n : Nat) : netlist_Mask.f (n : Int) = some (maskF n) := rfl
section
variable (l0 l1 : List ByteArray) (l2 : List S82) (l3 : List Kr) (l4 : List Int)
structure FormNm : Prop where
  n0 : namesF [] (l0 ++ l2.map (·.f0)) = 0
  n1 : namesF [] l1 = 0
  tabs : ∀ x ∈ l3, Go.bits .andNot .u64 x.f1 (maskF x.f2.length) = 0
theorem q_ends_l1 (n : Int) (xs : List Int) (hl : xs.length ≤ 1048576) (H : ∀ x ∈ xs, 0 ≤ x ∧ x < n) : ∀ (d i : Nat), i + d = xs.length → ∃ k, Zx.l1 k n xs xs.length i = some 0
  | 0, i, h => ⟨1, by rw [Zx.l1, if_neg (by omega)]⟩
  | d + 1, i, h => by
    obtain ⟨k, h1⟩ := q_ends_l1 n xs hl H d (i + 1) (by omega)
    obtain ⟨x, hx⟩ := at_ex (show i < xs.length by omega)
    have hb := H x (List.mem_of_getElem? hx)
    refine ⟨k + 1, ?_⟩
    rw [Zx.l1, if_pos (by omega), if_pos (by omega), if_pos (by omega), rd_at hx, if_neg (by omega), if_neg (by omega), Qj (by omega) (by omega)]
    exact h1
theorem q_ends_l0 (n : Int) (h2l : l2.length ≤ 1048576) (h4l : l4.length ≤ 1048576) (H2 : ∀ x ∈ l2, 0 ≤ x.f2 ∧ x.f2 < n ∧ 0 ≤ x.f3 ∧ x.f3 < n) (H4 : ∀ x ∈ l4, 0 ≤ x ∧ x < n) : ∀ (d i : Nat), i + d = l2.length → ∃ k, Zx.l0 k n l2 l2.length i l0 l1 l2 l3 l4 = some 0
  | 0, i, h => by
    obtain ⟨k, h1⟩ := q_ends_l1 n l4 h4l H4 l4.length 0 (by omega)
    exact ⟨k + 1, by rw [Zx.l0, if_neg (by omega)]; exact h1⟩
  | d + 1, i, h => by
    obtain ⟨k, h1⟩ := q_ends_l0 n h2l h4l H2 H4 d (i + 1) (by omega)
    obtain ⟨x, hx⟩ := at_ex (show i < l2.length by omega)
    have hb := H2 x (List.mem_of_getElem? hx)
    refine ⟨k + 1, ?_⟩
    rw [Zx.l0, if_pos (by omega), if_pos (by omega), if_pos (by omega), rdF_at hx, if_neg (by omega), if_neg (by omega), if_neg (by omega), if_neg (by omega), Qj (by omega) (by omega)]
    exact h1
theorem q_pins (ok : FormOk l0 l1 l2 l3 l4) (i : Nat) (x : Kr) (hx : l3[i]? = some x) (H : ∃ k, Ze.l1 k (2 + (l0.length : Int) + l2.length) l3 l3.length (wrap64 ((i : Int) + 1)) l0 l1 l2 l3 l4 = some 0) :
    ∀ (d k2 : Nat), k2 + d = x.f2.length → ∃ k, Ze.l2 k (2 + (l0.length : Int) + l2.length) i l3 l3.length i x.f2 x.f2.length k2 l0 l1 l2 l3 l4 = some 0
  | 0, k2, h => by
    obtain ⟨k, h1⟩ := H
    exact ⟨k + 1, by rw [Ze.l2, if_neg (by omega)]; exact h1⟩
  | d + 1, k2, h => by
    have b0 := ok.c0
    have b2 := ok.c2
    have b3 := ok.c3
    have hi := (List.getElem?_eq_some_iff.1 hx).1
    obtain ⟨hp1, hp2⟩ := ok.pins i x hx
    obtain ⟨k, h1⟩ := q_pins ok i x hx H d (k2 + 1) (by omega)
    obtain ⟨y, hy⟩ := at_ex (show k2 < x.f2.length by omega)
    have hb := hp2 y (List.mem_of_getElem? hy)
    refine ⟨k + 1, ?_⟩
    rw [Ze.l2, if_pos (by omega), if_pos (by omega), if_pos (by omega), rd_at hy, Qj (x := (k2 : Int) + 1) (by omega) (by omega), Qj (x := 2 + (l0.length : Int) + l2.length + i) (by omega) (by omega), if_neg (by omega), if_neg (by omega)]
    exact h1
theorem q_l1 (ok : FormOk l0 l1 l2 l3 l4) (nm : FormNm l0 l1 l2 l3) : ∀ (d i : Nat), i + d = l3.length → ∃ k, Ze.l1 k (2 + (l0.length : Int) + l2.length) l3 l3.length i l0 l1 l2 l3 l4 = some 0
  | 0, i, h => by
    have b0 := ok.c0
    have b1 := ok.c1
    have b2 := ok.c2
    have b3 := ok.c3
    have b4 := ok.c4
    obtain ⟨k, h1⟩ := q_ends_l0 l0 l1 l2 l3 l4 (2 + (l0.length : Int) + l2.length + l3.length) (by omega) (by omega) ok.flops ok.outs l2.length 0 (by omega)
    refine ⟨k + 1, ?_⟩
    have he : Zx.f k l0 l1 l2 l3 l4 = some 0 := by
      unfold Zx.f netlist_Nets.f netlist_First.f
      rw [Qj (x := 2 + (l0.length : Int)) (by omega) (by omega), Qj (x := 2 + (l0.length : Int) + l2.length) (by omega) (by omega)]
      show Zx.l0 k (wrap64 (2 + (l0.length : Int) + l2.length + l3.length)) l2 l2.length 0 l0 l1 l2 l3 l4 = some 0
      rw [Qj (by omega) (by omega)]
      exact h1
    rw [Ze.l1, if_neg (by omega), he]
    rfl
  | d + 1, i, h => by
    have b3 := ok.c3
    obtain ⟨k, h1⟩ := q_l1 ok nm d (i + 1) (by omega)
    obtain ⟨x, hx⟩ := at_ex (show i < l3.length by omega)
    obtain ⟨hp1, hp2⟩ := ok.pins i x hx
    obtain ⟨k2, h2⟩ := q_pins l0 l1 l2 l3 l4 ok i x hx ⟨k, by rw [Qj (by omega) (by omega)]; exact h1⟩ x.f2.length 0 (by omega)
    refine ⟨k2 + 1, ?_⟩
    rw [Ze.l1, if_pos (by omega), if_pos (by omega), if_pos (by omega), rdG_at hx, if_neg (by omega), mask_some, Option.bind_some, if_pos (nm.tabs x (List.mem_of_getElem? hx))]
    exact h2
theorem q_l0 (ok : FormOk l0 l1 l2 l3 l4) (nm : FormNm l0 l1 l2 l3) : ∀ (d i : Nat), i + d = l2.length → ∃ k, Ze.l0 k (l0 ++ (l2.take i).map (·.f0)) l2 l2.length i l0 l1 l2 l3 l4 = some 0
  | 0, i, h => by
    have b0 := ok.c0
    have b2 := ok.c2
    obtain ⟨k, h1⟩ := q_l1 l0 l1 l2 l3 l4 ok nm l3.length 0 (by omega)
    refine ⟨k + 1, ?_⟩
    rw [Ze.l0, if_neg (by omega), List.take_of_length_le (by omega)]
    show (if namesF [] (l0 ++ l2.map (·.f0)) = 0 then (if namesF [] l1 = 0 then Ze.l1 k (wrap64 (wrap64 (2 + (l0.length : Int)) + l2.length)) l3 l3.length 0 l0 l1 l2 l3 l4 else some (namesF [] l1)) else some (namesF [] (l0 ++ l2.map (·.f0)))) = some 0
    rw [if_pos nm.n0, if_pos nm.n1, Qj (x := 2 + (l0.length : Int)) (by omega) (by omega), Qj (x := 2 + (l0.length : Int) + l2.length) (by omega) (by omega)]
    exact h1
  | d + 1, i, h => by
    have b0 := ok.c0
    have b2 := ok.c2
    obtain ⟨k, h1⟩ := q_l0 ok nm d (i + 1) (by omega)
    obtain ⟨x, hx⟩ := at_ex (show i < l2.length by omega)
    have hn : (l0 ++ (l2.take i).map (·.f0)).length ≤ 1048576 := by
      rw [List.length_append, List.length_map, List.length_take]
      omega
    refine ⟨k + 1, ?_⟩
    rw [Ze.l0, if_pos (by omega), if_pos (by omega), if_pos (by omega), rdF_at hx, if_pos (Nat.lt_of_le_of_lt hn (by decide)), Qj (by omega) (by omega), List.append_assoc]
    have e : (l2.take i).map (·.f0) ++ [x.f0] = (l2.take (i + 1)).map (·.f0) := by
      rw [List.take_add_one, hx, Option.toList_some, List.map_append]
      rfl
    rw [e]
    exact h1
theorem form_zero (ok : FormOk l0 l1 l2 l3 l4) (nm : FormNm l0 l1 l2 l3) : ∃ k, Ze.f k l0 l1 l2 l3 l4 = some 0 := by
  have b0 := ok.c0
  have b1 := ok.c1
  have b2 := ok.c2
  have b3 := ok.c3
  have b4 := ok.c4
  obtain ⟨k, h1⟩ := q_l0 l0 l1 l2 l3 l4 ok nm l2.length 0 (by omega)
  refine ⟨k + 1, ?_⟩
  rw [Ze.f, if_neg (by omega), if_neg (by omega), if_neg (by omega), decide_eq_false (by omega), Ze.j0, if_neg (by decide), if_pos (by omega)]
  unfold Qk.f
  rw [if_pos (by omega)]
  simpa using h1
end
end Go.Proofs.Ytimjccfpobhpeaa
