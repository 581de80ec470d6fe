/- Joined by this session's own program out of its texts: Loads2 Put Places Inject Nums PutB Inject2 PutS Broken PFx3 PFx5 PFx6 PFx7 PFx8 PFx9. -/
import Derived.Test.YtimjccfpobhpeaaE1
import Derived.Laws.ResultCell
import Derived.Laws.Rows
import Derived.Test.YtimjccfpobhpeaaProg
import Derived.DeepKeys4
import Derived.KernelRfl
namespace Go.Proofs.Ytimjccfpobhpeaa
open Go.RowKit Go.Proofs.YtimjccfpobhpeaaW.PrintWords Go.Proofs.Ytimjccfpobhpeaa.PF
set_option maxRecDepth 100000
def pinPlaces (i : Nat) : List Int → Nat → List (Int × Load)
  | [], _ => []
  | net :: r, k => (net, ⟨0, i, k⟩) :: pinPlaces i r (k + 1)
def gatePlaces : List S80 → Nat → List (Int × Load)
  | [], _ => []
  | g :: r, i => pinPlaces i g.f2 0 ++ gatePlaces r (i + 1)
def flopPlaces : List S82 → Nat → List (Int × Load)
  | [], _ => []
  | f :: r, i => (f.f2, ⟨1, i, 0⟩) :: (f.f3, ⟨2, i, 0⟩) :: flopPlaces r (i + 1)
def outPlaces : List Int → Nat → List (Int × Load)
  | [], _ => []
  | net :: r, i => (net, ⟨3, i, 0⟩) :: outPlaces r (i + 1)
def placesOf (l2 : List S82) (l3 : List S80) (l4 : List Int) : List (Int × Load) := gatePlaces l3 0 ++ (flopPlaces l2 0 ++ outPlaces l4 0)
def loadsFrom (rows : List (List Load)) (ps : List (Int × Load)) : List (List Load) := ps.foldl (fun r p => useF r p.1 p.2) rows
structure GoodP (n : Nat) (rows : List (List Load)) (ps : List (Int × Load)) : Prop where
  len : rows.length = n
  rng : ∀ p ∈ ps, 0 ≤ p.1 ∧ p.1 < n
  few : ∀ j, (rows.getD j []).length + ps.length ≤ 1000000000
theorem GoodP.head {n : Nat} {rows : List (List Load)} {p : Int × Load} {ps : List (Int × Load)} (h : GoodP n rows (p :: ps)) : 0 ≤ p.1 ∧ p.1 < rows.length ∧ ((rows.getD p.1.toNat []).length + 1) * 24 ≤ 140737488355328 := by
  have h1 := h.rng p List.mem_cons_self
  have h2 := h.few p.1.toNat
  have h3 := h.len
  rw [List.length_cons] at h2
  exact ⟨h1.1, by omega, by omega⟩
theorem GoodP.tail {n : Nat} {rows : List (List Load)} {p : Int × Load} {ps : List (Int × Load)} (h : GoodP n rows (p :: ps)) : GoodP n (useF rows p.1 p.2) ps := by
  refine ⟨by unfold useF; rw [List.length_set]; exact h.len, fun q hq => h.rng q (List.mem_cons_of_mem _ hq), fun j => ?_⟩
  have h2 := h.few j
  rw [List.length_cons] at h2
  unfold useF
  rw [List.getD_eq_getElem?_getD, List.getElem?_set]
  split
  · rename_i hj
    subst hj
    split
    · simp only [Option.getD_some, List.length_append, List.length_singleton]
      omega
    · simp
      omega
  · rw [← List.getD_eq_getElem?_getD]
    omega
structure Rows70 (W0 : World) (w : World) (g : Nat) (v : Value) (rows : List (List Load)) : Prop where
  blk : w.heap[g]? = some (.cells #[v] 70 (0, 0))
  s : Kd.S (Kd.slice 77 kLoad) 75 w W0.heap.size (fun _ => True) v rows
theorem Rows70.below {W0 w w1 : World} {g : Nat} {v : Value} {rows : List (List Load)} (h : Rows70 W0 w g v rows) (hb : Below w.heap.size w w1) : Rows70 W0 w1 g v rows :=
  ⟨(hb.block g (Array.getElem?_eq_some_iff.1 h.blk).1).trans h.blk, Kd.S_below h.s hb⟩
theorem use_step {W0 : World} (y : Under W0) {n g : Nat} {v : Value} {rows : List (List Load)} {net : Int} {l : Load} {ps : List (Int × Load)} (h : Rows70 W0 y.val g v rows) (hg : GoodP n rows ((net, l) :: ps)) :
    Calls Try.prog 53 #[.int .i64 net, .agg #[.int .i64 l.f0, .int .i64 l.f1, .int .i64 l.f2], .pointer (some ⟨g, 0, none⟩)] y.val fun e w' => e = .returned (.tuple #[]) ∧
      ∃ z : Under W0, w' = z.val ∧ Rows70 W0 z.val g v (useF rows net l) ∧ GoodP n (useF rows net l) ps ∧ y.val.heap.size ≤ z.val.heap.size ∧
      ∀ (k : Nat) (t : TypeId) (cs : Array Value), y.val.heap[k]? = some (.cells cs t (0, 0)) → t ≠ 75 → t ≠ 77 → z.val.heap[k]? = y.val.heap[k]? :=
  (use_calls g W0.heap.size W0 y.val v rows net l h.blk h.s hg.head.1 hg.head.2.1 hg.head.2.2 y.size y.ok).mono fun _ w' ⟨he, hb, hS, hB, hz, hk⟩ => ⟨he, ⟨w', hB⟩, rfl, ⟨hb, hS⟩, hg.tail, hz, hk⟩
theorem kd_gate {w : World} {A : Option Addr} {n : Nat} {xs : List S80} (h : Kd.C k80 w A n xs) {i : Nat} {x : S80} (hx : xs[i]? = some x) :
    ∃ b o A2 c2, A = some ⟨b, o, none⟩ ∧ b < w.heap.size ∧ w.cell? ⟨b, o + i * 3, none⟩ = some (.int .i64 x.f0) ∧ w.cell? ⟨b, o + i * 3 + 1, none⟩ = some (.int .u64 x.f1) ∧ w.cell? ⟨b, o + i * 3 + 2, none⟩ = some (.slice A2 x.f2.length c2) ∧ Kd.C (Kd.int .i64) w A2 x.f2.length x.f2 := by
  obtain ⟨b, o, cs, rfl, hb, _, hK, hc⟩ := kd_at h (by exact Nat.succ_pos _) hx
  obtain ⟨A2, c2, rfl, _, hC⟩ := k80_open hK
  exact ⟨b, o, A2, c2, rfl, hb, hc 0 _ rfl, by have := hc 1 _ rfl; rwa [← Nat.add_assoc] at this, by have := hc 2 _ rfl; rwa [← Nat.add_assoc] at this, hC⟩
theorem kd_flop {w : World} {A : Option Addr} {n : Nat} {xs : List S82} (h : Kd.C k82 w A n xs) {i : Nat} {x : S82} (hx : xs[i]? = some x) :
    ∃ b o, A = some ⟨b, o, none⟩ ∧ b < w.heap.size ∧ w.cell? ⟨b, o + i * 5, none⟩ = some (.string x.f0) ∧ w.cell? ⟨b, o + i * 5 + 1, none⟩ = some (.int .i64 x.f1) ∧ w.cell? ⟨b, o + i * 5 + 2, none⟩ = some (.int .i64 x.f2) ∧ w.cell? ⟨b, o + i * 5 + 3, none⟩ = some (.int .i64 x.f3) ∧ w.cell? ⟨b, o + i * 5 + 4, none⟩ = some (.bool x.f4) := by
  obtain ⟨b, o, cs, rfl, hb, _, hK, hc⟩ := kd_at h (by exact Nat.succ_pos _) hx
  obtain rfl := k82_open hK
  exact ⟨b, o, rfl, hb, hc 0 _ rfl, by have := hc 1 _ rfl; rwa [← Nat.add_assoc] at this, by have := hc 2 _ rfl; rwa [← Nat.add_assoc] at this, by have := hc 3 _ rfl; rwa [← Nat.add_assoc] at this, by have := hc 4 _ rfl; rwa [← Nat.add_assoc] at this⟩
set_option maxHeartbeats 16000000 in
theorem loads_ok (A0 A1 A2 A3 A4 : Option Addr) (n0 n1 c0 c1 c2 c3 c4 : Nat) (l2 : List S82) (l3 : List S80) (l4 : List Int) (w : World) (nets : Nat)
    (h2 : Kd.C k82 w A2 l2.length l2) (h3 : Kd.C k80 w A3 l3.length l3) (h4 : Kd.C (Kd.int .i64) w A4 l4.length l4)
    (HF : ∀ W, Below w.heap.size w W → Calls Try.prog 9 #[.agg #[.slice A0 n0 c0, .slice A1 n1 c1, .slice A2 l2.length c2, .slice A3 l3.length c3, .slice A4 l4.length c4]] W fun e w' => e = .returned (.int .i64 0) ∧ Below W.heap.size W w')
    (HN : ∀ W, Below w.heap.size w W → Calls Try.prog 52 #[.agg #[.slice A0 n0 c0, .slice A1 n1 c1, .slice A2 l2.length c2, .slice A3 l3.length c3, .slice A4 l4.length c4]] W fun e w' => e = .returned (.int .i64 nets) ∧ Below W.heap.size W w')
    (hgood : GoodP nets (List.replicate nets []) (placesOf l2 l3 l4)) (hn : nets ≤ 1000000000) :
    Calls Try.prog 27 #[.agg #[.slice A0 n0 c0, .slice A1 n1 c1, .slice A2 l2.length c2, .slice A3 l3.length c3, .slice A4 l4.length c4]] w fun e w' => ∃ v, e = .returned (.tuple #[v, .int .i64 0]) ∧
      Kd.S (Kd.slice 77 kLoad) 75 w' w.heap.size (fun _ => True) v (loadsFrom (List.replicate nets []) (placesOf l2 l3 l4)) ∧ Below w.heap.size w w' := by
  have hu := Try.underlying27
  have hu2 := Try.underlying23
  have hu3 := Try.underlying24
  have hu4 := Try.underlying25
  have hu5 := Try.underlying77
  have hu6 := Try.underlying80
  have hu7 := Try.underlying82
  have hW0 : Below w.heap.size w (w.alloc (.cells #[.slice A0 n0 c0, .slice A1 n1 c1, .slice A2 l2.length c2, .slice A3 l3.length c3, .slice A4 l4.length c4] 27)) := (Below.refl _ _).alloc (Nat.le_refl _) _
  have bel : ∀ x : Under (w.alloc (.cells #[.slice A0 n0 c0, .slice A1 n1 c1, .slice A2 l2.length c2, .slice A3 l3.length c3, .slice A4 l4.length c4] 27)), Below w.heap.size w x.val := fun x => hW0.trans (x.ok.mono (by simp))
  have hsz : ∀ x : Under (w.alloc (.cells #[.slice A0 n0 c0, .slice A1 n1 c1, .slice A2 l2.length c2, .slice A3 l3.length c3, .slice A4 l4.length c4] 27)), w.heap.size < x.val.heap.size := fun x => Nat.lt_of_lt_of_le (by simp) x.size
  have hm2 := (kd_len h2).2
  have hm3 := (kd_len h3).2
  have hm4 := (kd_len h4).2
  go_enter Try.func27, Try.ntmps27
  go_wp2_with (first
    | (go_at_call 9; refine (HF _ hW0).mono ?_; rintro e w1 ⟨rfl, hB1⟩; obtain ⟨x1, rfl⟩ : ∃ x : Under (w.alloc (.cells #[.slice A0 n0 c0, .slice A1 n1 c1, .slice A2 l2.length c2, .slice A3 l3.length c3, .slice A4 l4.length c4] 27)), w1 = x.val := ⟨⟨w1, hB1⟩, rfl⟩; clear hB1)
    | (go_at_call 52; refine (HN _ (bel x1)).mono ?_; rintro e w2 ⟨rfl, hB2⟩; obtain ⟨x2, rfl⟩ : ∃ x : Under (w.alloc (.cells #[.slice A0 n0 c0, .slice A1 n1 c1, .slice A2 l2.length c2, .slice A3 l3.length c3, .slice A4 l4.length c4] 27)), w2 = x.val := ⟨⟨w2, x1.ok.trans (hB2.mono x1.size)⟩, rfl⟩; clear hB2)
    | ((with_reducible refine gate_dst (N := 22) rfl ?_); refine Kd.S_make (Kd.slice 77 kLoad) (w0 := w.alloc (.cells #[.slice A0 n0 c0, .slice A1 n1 c1, .slice A2 l2.length c2, .slice A3 l3.length c3, .slice A4 l4.length c4] 27)) (w.alloc (.cells #[.slice A0 n0 c0, .slice A1 n1 c1, .slice A2 l2.length c2, .slice A3 l3.length c3, .slice A4 l4.length c4] 27)).heap.size 75 rfl (N := 22) rfl 70 (.tmp 21) (.tmp 21) rfl (nets : Int) rfl rfl Try.underlying70 (.slice none 0 0) 24 (by kernel_rfl) rfl (by exact Nat.succ_pos _) (by decide) [] (ok := fun _ => True) (okp := fun _ => False) ⟨_, rfl, Kd.R_nil _ _ _ _ _⟩ (fun _ h => h.elim) trivial (by omega) (by simp; omega) x2.ok x2.size ?_; intro v3 w3 hS3 hB3 hg3 _; obtain ⟨x3, rfl⟩ : ∃ x : Under (w.alloc (.cells #[.slice A0 n0 c0, .slice A1 n1 c1, .slice A2 l2.length c2, .slice A3 l3.length c3, .slice A4 l4.length c4] 27)), w3 = x.val := ⟨⟨w3, hB3⟩, rfl⟩; rw [Int.toNat_natCast] at hS3; obtain ⟨B3, d3, rfl⟩ := Kd.S_slice hS3; rw [List.length_replicate] at hS3))
  have hg5l : x3.val.heap.size < (x3.val.alloc (.cells #[.slice B3 nets d3] 70)).heap.size := by simp
  have hg5s := hsz x3
  have hg5b := x3.size
  generalize hg5 : x3.val.heap.size = g5 at *
  have hR0 : Rows70 (w.alloc (.cells #[.slice A0 n0 c0, .slice A1 n1 c1, .slice A2 l2.length c2, .slice A3 l3.length c3, .slice A4 l4.length c4] 27)) (x3.val.alloc (.cells #[.slice B3 nets d3] 70)) g5 (.slice B3 nets d3) (List.replicate nets []) := ⟨by rw [← hg5]; exact heap_alloc_new _ _, Kd.S_alloc hS3 _⟩
  have hgoodh := Lib.hid hgood
  have hg5h := Lib.hid hg5
  clear hS3 hB3 hg3 hg5 hgood
  go_loopg [7, 8, 9, 10, 27] l3.length (fun d _ _ _ _ t wr => ∃ (i : Nat) (y : Under (w.alloc (.cells #[.slice A0 n0 c0, .slice A1 n1 c1, .slice A2 l2.length c2, .slice A3 l3.length c3, .slice A4 l4.length c4] 27))) (rows : List (List Load)), t = .int .i64 i ∧ wr = y.val ∧ Aside (i + d = l3.length) ∧ Rows70 (w.alloc (.cells #[.slice A0 n0 c0, .slice A1 n1 c1, .slice A2 l2.length c2, .slice A3 l3.length c3, .slice A4 l4.length c4] 27)) y.val g5 (.slice B3 nets d3) rows ∧
    GoodP nets rows (gatePlaces (l3.drop i) i ++ (flopPlaces l2 0 ++ outPlaces l4 0)) ∧ Aside (loadsFrom rows (gatePlaces (l3.drop i) i ++ (flopPlaces l2 0 ++ outPlaces l4 0)) = loadsFrom (List.replicate nets []) (placesOf l2 l3 l4)))
  case atStart => exact ⟨0, x3.alloc _, _, rfl, rfl, by show 0 + l3.length = l3.length; omega, hR0, hgoodh.out, rfl⟩
  case round =>
    clear hR0
    obtain ⟨i, y, rows, rfl, rfl, hi, hR, hG, hL⟩ := hrel
    have hyl := hsz y
    have hgy := Array.getElem?_eq_some_iff.1 hR.blk |>.1
    by_cases hlt : i < l3.length
    · obtain ⟨gi, hgi⟩ := get_ex hlt
      obtain ⟨b, ob, A5, c5, rfl, hb, hk0, hk1, hk2, hC⟩ := kd_gate h3 hgi
      obtain ⟨gO, rfl⟩ : ∃ m, gk = m + 1 := ⟨gk - 1, by have := hi.out; omega⟩
      have hbl : b ≤ w.heap.size := by omega
      have hbn : b ≠ w.heap.size := by omega
      have hby : b < y.val.heap.size := by omega
      have hm5 := (kd_len hC).2
      rw [drop_cons hgi, gatePlaces, List.append_assoc] at hG hL
      have hih := Lib.hid hi.out
      have hLh := Lib.hid hL.out
      have hgih := Lib.hid hgi
      clear hi hL hgi
      go_wp2
      go_loopg [9, 10, 35] gi.f2.length (fun d _ _ t wr => ∃ (k : Nat) (y : Under (w.alloc (.cells #[.slice A0 n0 c0, .slice A1 n1 c1, .slice A2 l2.length c2, .slice (some ⟨b, ob, none⟩) l3.length c3, .slice A4 l4.length c4] 27))) (rows : List (List Load)), t = .int .i64 k ∧ wr = y.val ∧ Aside (k + d = gi.f2.length) ∧ Rows70 (w.alloc (.cells #[.slice A0 n0 c0, .slice A1 n1 c1, .slice A2 l2.length c2, .slice (some ⟨b, ob, none⟩) l3.length c3, .slice A4 l4.length c4] 27)) y.val g5 (.slice B3 nets d3) rows ∧
        GoodP nets rows (pinPlaces i (gi.f2.drop k) k ++ (gatePlaces (l3.drop (i + 1)) (i + 1) ++ (flopPlaces l2 0 ++ outPlaces l4 0))) ∧ Aside (loadsFrom rows (pinPlaces i (gi.f2.drop k) k ++ (gatePlaces (l3.drop (i + 1)) (i + 1) ++ (flopPlaces l2 0 ++ outPlaces l4 0))) = loadsFrom (List.replicate nets []) (placesOf l2 l3 l4)))
      case atStart => exact ⟨0, y.alloc _, rows, rfl, rfl, by show 0 + gi.f2.length = gi.f2.length; omega, hR.below (below_alloc (Below.refl _ _) _), hG, hLh.out⟩
      case round =>
        clear hR hG hLh hyl hgy hby
        obtain ⟨k, y, rows, rfl, rfl, hk, hR, hG, hL⟩ := hrel
        have hyl := hsz y
        by_cases hlk : k < gi.f2.length
        · obtain ⟨net, hnet⟩ := get_ex hlk
          obtain ⟨b2, o2, rfl, hb2, hkn⟩ := kd_int hC hnet
          obtain ⟨gI, rfl⟩ : ∃ m, gk = m + 1 := ⟨gk - 1, by have := hk.out; omega⟩
          have hbl2 : b2 ≤ w.heap.size := by omega
          have hbn2 : b2 ≠ w.heap.size := by omega
          have hby2 : b2 < y.val.heap.size := by omega
          rw [drop_cons hnet, pinPlaces, List.cons_append] at hG hL
          have hkh := Lib.hid hk.out
          have hLh := Lib.hid hL.out
          clear hk hL hnet
          go_wp2_with (go_at_call 53; refine (use_step y hR hG).mono ?_; rintro e w' ⟨rfl, z, rfl, hRz, hGz, -, -⟩)
          go_roundg gI
          case measure => have := hkh.out; omega
          case rel => exact ⟨k + 1, z, _, by go_num, rfl, by show k + 1 + gI = gi.f2.length; have := hkh.out; omega, hRz, hGz, hLh.out⟩
        · obtain rfl : k = gi.f2.length := by have := hk.out; omega
          rw [drop_end, pinPlaces, List.nil_append] at hG hL
          have hLh := Lib.hid hL.out
          clear hk hL
          go_wp2
          go_roundg gO
          case measure => have := hih.out; omega
          case rel => exact ⟨i + 1, y, _, by go_num, rfl, by show i + 1 + gO = l3.length; have := hih.out; omega, hR, hG, hLh.out⟩
    · obtain rfl : i = l3.length := by have := hi.out; omega
      rw [drop_end, gatePlaces, List.nil_append] at hG hL
      have hLh0 := Lib.hid hL.out
      clear hi hL
      go_wp2
      go_loopg [11, 12, 51] l2.length (fun d _ _ t wr => ∃ (i : Nat) (y : Under (w.alloc (.cells #[.slice A0 n0 c0, .slice A1 n1 c1, .slice A2 l2.length c2, .slice A3 l3.length c3, .slice A4 l4.length c4] 27))) (rows : List (List Load)), t = .int .i64 i ∧ wr = y.val ∧ Aside (i + d = l2.length) ∧ Rows70 (w.alloc (.cells #[.slice A0 n0 c0, .slice A1 n1 c1, .slice A2 l2.length c2, .slice A3 l3.length c3, .slice A4 l4.length c4] 27)) y.val g5 (.slice B3 nets d3) rows ∧
        GoodP nets rows (flopPlaces (l2.drop i) i ++ outPlaces l4 0) ∧ Aside (loadsFrom rows (flopPlaces (l2.drop i) i ++ outPlaces l4 0) = loadsFrom (List.replicate nets []) (placesOf l2 l3 l4)))
      case atStart => exact ⟨0, y, rows, rfl, rfl, by show 0 + l2.length = l2.length; omega, hR, hG, hLh0.out⟩
      case round =>
        clear hR hG hLh0 hyl hgy
        obtain ⟨i, y, rows, rfl, rfl, hi, hR, hG, hL⟩ := hrel
        have hyl := hsz y
        have hgy := Array.getElem?_eq_some_iff.1 hR.blk |>.1
        by_cases hlt2 : i < l2.length
        · obtain ⟨fi, hfi⟩ := get_ex hlt2
          obtain ⟨b, ob, rfl, hb, hk0, hk1, hk2, hk3, hk4⟩ := kd_flop h2 hfi
          obtain ⟨gO, rfl⟩ : ∃ m, gk = m + 1 := ⟨gk - 1, by have := hi.out; omega⟩
          have hbl : b ≤ w.heap.size := by omega
          have hbn : b ≠ w.heap.size := by omega
          have hby : b < y.val.heap.size := by omega
          rw [drop_cons hfi, flopPlaces, List.cons_append, List.cons_append] at hG hL
          have hih := Lib.hid hi.out
          have hLh := Lib.hid hL.out
          clear hi hL hfi
          have hR1 := hR.below (below_alloc (Below.refl _ _) (.cells #[.string fi.f0, .int .i64 fi.f1, .int .i64 fi.f2, .int .i64 fi.f3, .bool fi.f4] 82))
          go_wp2_with (first
            | (go_at_call 53; refine (use_step z1 hRz1 hGz1).mono ?_; rintro e w' ⟨rfl, z2, rfl, hRz2, hGz2, -, -⟩)
            | (go_at_call 53; refine (use_step (y.alloc (.cells #[.string fi.f0, .int .i64 fi.f1, .int .i64 fi.f2, .int .i64 fi.f3, .bool fi.f4] 82)) hR1 hG).mono ?_; rintro e w' ⟨rfl, z1, rfl, hRz1, hGz1, hz1s, hz1k⟩; have hz1b := (hz1k y.val.heap.size _ _ (heap_alloc_new _ _) (by decide) (by decide)).trans (heap_alloc_new _ _); have hz1c : z1.val.cell? ⟨y.val.heap.size, 3, none⟩ = some (.int .i64 fi.f3) := (cell_of_row _ _ 3 _ _ _ hz1b).trans rfl; clear hz1b hz1k hz1s))
          go_roundg gO
          case measure => have := hih.out; omega
          case rel => exact ⟨i + 1, z2, _, by go_num, rfl, by show i + 1 + gO = l2.length; have := hih.out; omega, hRz2, hGz2, hLh.out⟩
        · obtain rfl : i = l2.length := by have := hi.out; omega
          rw [drop_end, flopPlaces, List.nil_append] at hG hL
          have hLh1 := Lib.hid hL.out
          clear hi hL
          go_wp2
          go_loopg [13, 14, 72] l4.length (fun d _ _ t wr => ∃ (i : Nat) (y : Under (w.alloc (.cells #[.slice A0 n0 c0, .slice A1 n1 c1, .slice A2 l2.length c2, .slice A3 l3.length c3, .slice A4 l4.length c4] 27))) (rows : List (List Load)), t = .int .i64 i ∧ wr = y.val ∧ Aside (i + d = l4.length) ∧ Rows70 (w.alloc (.cells #[.slice A0 n0 c0, .slice A1 n1 c1, .slice A2 l2.length c2, .slice A3 l3.length c3, .slice A4 l4.length c4] 27)) y.val g5 (.slice B3 nets d3) rows ∧
            GoodP nets rows (outPlaces (l4.drop i) i) ∧ Aside (loadsFrom rows (outPlaces (l4.drop i) i) = loadsFrom (List.replicate nets []) (placesOf l2 l3 l4)))
          case atStart => exact ⟨0, y, rows, rfl, rfl, by show 0 + l4.length = l4.length; omega, hR, hG, hLh1.out⟩
          case round =>
            clear hR hG hLh1 hyl hgy
            obtain ⟨i, y, rows, rfl, rfl, hi, hR, hG, hL⟩ := hrel
            have hyl := hsz y
            have hgy := Array.getElem?_eq_some_iff.1 hR.blk |>.1
            by_cases hlt4 : i < l4.length
            · obtain ⟨net, hnet⟩ := get_ex hlt4
              obtain ⟨b, ob, rfl, hb, hkn⟩ := kd_int h4 hnet
              obtain ⟨gO, rfl⟩ : ∃ m, gk = m + 1 := ⟨gk - 1, by have := hi.out; omega⟩
              have hbl : b ≤ w.heap.size := by omega
              have hbn : b ≠ w.heap.size := by omega
              have hby : b < y.val.heap.size := by omega
              rw [drop_cons hnet, outPlaces] at hG hL
              have hih := Lib.hid hi.out
              have hLh := Lib.hid hL.out
              clear hi hL hnet
              go_wp2_with (go_at_call 53; refine (use_step y hR hG).mono ?_; rintro e w' ⟨rfl, z, rfl, hRz, hGz, -, -⟩)
              go_roundg gO
              case measure => have := hih.out; omega
              case rel => exact ⟨i + 1, z, _, by go_num, rfl, by show i + 1 + gO = l4.length; have := hih.out; omega, hRz, hGz, hLh.out⟩
            · obtain rfl : i = l4.length := by have := hi.out; omega
              rw [drop_end, outPlaces] at hL
              have hLh2 := Lib.hid hL.out
              have hcv : y.val.cell? ⟨g5, 0, none⟩ = some (.slice B3 nets d3) := (cell_of_row _ _ 0 _ _ _ hR.blk).trans rfl
              clear hi hL hG
              go_wp2
              go_ret2
              refine ⟨_, rfl, ?_, bel y⟩
              rw [← hLh2.out]
              exact Kd.S_lower hR.s (by simp)
end Go.Proofs.Ytimjccfpobhpeaa
namespace Go.Proofs.Ytimjccfpobhpeaa
open Go.RowKit Go.Proofs.YtimjccfpobhpeaaW.PrintWords Go.Proofs.Ytimjccfpobhpeaa.PF
set_option maxRecDepth 100000
structure NetR (T : Nat → Prop) (B : Nat) (w : World) (v0 v1 v2 v3 v4 : Value) (l0 l1 : List ByteArray) (l2 : List Flop) (l3 : List Gate) (l4 : List Int) : Prop where
  r0 : Kd.R Kd.string 9 w B (fun k => T k ∧ some k ≠ v1.ownBlock) v0 l0
  r1 : Kd.R Kd.string 9 w B (fun k => T k ∧ some k ≠ v0.ownBlock) v1 l1
  r2 : Kd.R kFlop 82 w B T v2 l2
  r3 : Kd.S kGate 80 w B (fun k => T k ∧ some k ≠ v4.ownBlock) v3 l3
  r4 : Kd.R (Kd.int .i64) 3 w B T v4 l4
section
variable {T : Nat → Prop} {B : Nat} {w w1 : World} {v0 v1 v2 v3 v4 : Value} {l0 l1 : List ByteArray} {l2 : List Flop} {l3 : List Gate} {l4 : List Int}
theorem NetR.below (h : NetR T B w v0 v1 v2 v3 v4 l0 l1 l2 l3 l4) (hb : Below w.heap.size w w1) : NetR T B w1 v0 v1 v2 v3 v4 l0 l1 l2 l3 l4 :=
  ⟨Kd.R_below h.r0 hb, Kd.R_below h.r1 hb, Kd.R_below h.r2 hb, Kd.S_below h.r3 hb, Kd.R_below h.r4 hb⟩
theorem NetR.lower {B' : Nat} (h : NetR T B w v0 v1 v2 v3 v4 l0 l1 l2 l3 l4) (hb : B' ≤ B) : NetR T B' w v0 v1 v2 v3 v4 l0 l1 l2 l3 l4 :=
  ⟨Kd.R_lower h.r0 hb, Kd.R_lower h.r1 hb, Kd.R_lower h.r2 hb, Kd.S_lower h.r3 hb, Kd.R_lower h.r4 hb⟩
theorem NetR.vars (h : NetR T B w v0 v1 v2 v3 v4 l0 l1 l2 l3 l4) (hm : ∀ k, k < w.heap.size → B ≤ k → w1.heap[k]? = w.heap[k]?) : NetR T B w1 v0 v1 v2 v3 v4 l0 l1 l2 l3 l4 := by
  have mv : ∀ {α : Type} {d : Kd α} {e : Nat} {v : Value} {xs : List α} {ok : Nat → Prop}, Kd.R d e w B ok v xs → Kd.R d e w1 B ok v xs := fun h =>
    Kd.R_mono (Kd.R_step (Kd.R_bound h) (fun k hk hl => hm k hl hk.2.1)) (fun _ hk => hk.1)
  exact ⟨mv h.r0, mv h.r1, mv h.r2, Kd.S_mono (Kd.S_step (Kd.S_bound h.r3) (fun k hk hl => hm k hl hk.2.1)) (fun _ hk => hk.1), mv h.r4⟩
theorem mvT {α : Type} {d : Kd α} {e gi t : Nat} {v : Value} {xs : List α} {ok : Nat → Prop} {cells : Array Value} (h : Kd.R d e w B ok v xs) (hc : w.heap[gi]? = some (.cells cells t (0, 0))) (ht : ∀ q, q ∈ e :: d.E → q ≠ t) (hg : w.grownBy w1 (some gi)) : Kd.R d e w1 B ok v xs :=
  Kd.R_mono (Kd.R_step (Kd.R_types h hc ht) (fun k hk hl => hg.block k hl (fun e => hk.2 (by injection e)))) (fun _ hk => hk.1)
theorem ne_typed {g gi t t' : Nat} {cs cs' : Array Value} (h : w.heap[g]? = some (.cells cs t (0, 0))) (h' : w.heap[gi]? = some (.cells cs' t' (0, 0))) (ht : t ≠ t') : g ≠ gi := by
  rintro rfl
  rw [h] at h'
  injection h' with h'
  injection h' with _ h'
  exact ht h'
theorem flop_set {g c2 : Nat} (h : Kd.R kFlop 82 w B T (.slice (some ⟨g, 0, none⟩) l2.length c2) l2) {i : Nat} {x : Flop} (hx : l2[i]? = some x) (j : Nat) (hj : j = 2 ∨ j = 3) (val : Int) :
    w.cell? ⟨g, i * 5 + j, none⟩ = some (.int .i64 (if j = 2 then x.f2 else x.f3)) ∧ w.frozen? ⟨g, i * 5 + j, none⟩ = false ∧
      Kd.R kFlop 82 (w.setCell ⟨g, i * 5 + j, none⟩ (.int .i64 val)) B T (.slice (some ⟨g, 0, none⟩) l2.length c2) (l2.set i (if j = 2 then ⟨x.f0, x.f1, val, x.f3, x.f4⟩ else ⟨x.f0, x.f1, x.f2, val, x.f4⟩)) ∧
      w.grownBy (w.setCell ⟨g, i * 5 + j, none⟩ (.int .i64 val)) (some g) := by
  have hi : i < l2.length := (List.getElem?_eq_some_iff.1 hx).1
  obtain ⟨c, hcl, hM, hcc, hfr⟩ := Kd.R_elem h x (i : Int) (by omega) (by omega)
  rw [show l2.getD (i : Int).toNat x = x by simp [List.getD, hx]] at hM
  obtain rfl := k82_openM hM
  have hseg := fun (x' : Flop) (hM' : kFlop.M w B (fun _ => False) x' _) => Kd.R_seg h (i : Int) (by omega) (by omega) (c := [.string x.f0, .int .i64 x.f1, .int .i64 x.f2, .int .i64 x.f3, .bool x.f4]) (seg := [.int .i64 val]) (j := j) hcl hcc (by rcases hj with rfl | rfl; exact (by show 2 + 1 ≤ 5; decide); exact (by show 3 + 1 ≤ 5; decide)) (x' := x') hM' (fun _ hk => hk.elim)
  rcases hj with rfl | rfl
  · obtain ⟨h1, h2⟩ := hseg ⟨x.f0, x.f1, val, x.f3, x.f4⟩ (k82_mkM _ _ _ _)
    exact ⟨hcc 2 _ rfl, hfr 2, h1, h2⟩
  · obtain ⟨h1, h2⟩ := hseg ⟨x.f0, x.f1, x.f2, val, x.f4⟩ (k82_mkM _ _ _ _)
    exact ⟨hcc 3 _ rfl, hfr 3, h1, h2⟩
theorem NetR.pin (h : NetR T B w v0 v1 v2 v3 v4 l0 l1 l2 l3 l4) {i k : Nat} {x : Gate} (hx : l3[i]? = some x) (hk : k < x.f2.length) :
    ∃ g3 c3 gi ci, v3 = .slice (some ⟨g3, 0, none⟩) l3.length c3 ∧ w.cell? ⟨g3, i * 3 + 2, none⟩ = some (.slice (some ⟨gi, 0, none⟩) x.f2.length ci) ∧ w.cell? ⟨gi, k, none⟩ = some (.int .i64 (x.f2.getD k 0)) ∧ w.frozen? ⟨gi, k, none⟩ = false ∧
      g3 < w.heap.size ∧ gi < w.heap.size ∧ B ≤ g3 ∧ B ≤ gi ∧ T gi ∧ (∃ cs, w.heap[g3]? = some (.cells cs 80 (0, 0))) ∧ (∃ cs, w.heap[gi]? = some (.cells cs 3 (0, 0))) ∧
      ∀ val, NetR T B (w.setCell ⟨gi, k, none⟩ (.int .i64 val)) v0 v1 v2 v3 v4 l0 l1 l2 (l3.set i ⟨x.f0, x.f1, x.f2.set k val⟩) l4 := by
  have hi : i < l3.length := (List.getElem?_eq_some_iff.1 hx).1
  obtain ⟨g3, c3, rfl, hg3, hg3l, hg3c⟩ := Kd.S_form h.r3 (by omega)
  obtain ⟨oki, c, hcl, hM, hcc, hoki, hback⟩ := Kd.S_borrow h.r3 x (i : Int) (by omega) (by omega)
  rw [show l3.getD (i : Int).toNat x = x by simp [List.getD, hx]] at hM
  obtain ⟨u2, rfl, hR⟩ := k80_openM hM
  obtain ⟨gi, ci, rfl, hgi, hgil, hgic⟩ := Kd.R_form hR (by omega)
  obtain ⟨hcell, hfr⟩ := Kd.R_cell (0 : Int) hR (k : Int) (by omega) (by omega)
  refine ⟨g3, c3, gi, ci, rfl, ?_, hcell, hfr, hg3l, hgil, hg3, hgi, (hoki gi (hR.1 gi (by simp [Value.ownBlock]))).1.1, hg3c, hgic, fun val => ?_⟩
  · have := hcc 2 _ rfl
    simp only [Addr.add_lit, Nat.zero_add] at this
    exact this
  obtain ⟨hR2, hg2⟩ := Kd.R_put hR (k : Int) val
  have hgio : oki gi := hR.1 gi (by simp [Value.ownBlock])
  obtain ⟨cs, hgc⟩ := hgic
  have hS := hback (x' := ⟨x.f0, x.f1, x.f2.set k val⟩) hg2 (fun k hk => by injection hk with hk; subst hk; exact hgio) (k80_mkM _ _ _ ⟨x.f0, x.f1, x.f2.set k val⟩ (by rw [Int.toNat_natCast] at hR2; exact hR2))
  refine ⟨mvT h.r0 hgc (by decide) hg2, mvT h.r1 hgc (by decide) hg2, mvT h.r2 hgc (by decide) hg2, hS, ?_⟩
  exact Kd.R_mono (Kd.R_step (Kd.R_tight rfl h.r4) (fun k hk hl => hg2.block k hl (fun e => (hoki gi hgio).1.2 (by rw [← e, hk])))) (fun k hk => h.r4.1 k hk.symm)
theorem NetR.flop (h : NetR T B w v0 v1 v2 v3 v4 l0 l1 l2 l3 l4) {i : Nat} {x : Flop} (hx : l2[i]? = some x) :
    ∃ g2 c2, v2 = .slice (some ⟨g2, 0, none⟩) l2.length c2 ∧ g2 < w.heap.size ∧ B ≤ g2 ∧ T g2 ∧ (∃ cs, w.heap[g2]? = some (.cells cs 82 (0, 0))) ∧
      w.cell? ⟨g2, i * 5 + 2, none⟩ = some (.int .i64 x.f2) ∧ w.cell? ⟨g2, i * 5 + 3, none⟩ = some (.int .i64 x.f3) ∧ w.frozen? ⟨g2, i * 5 + 2, none⟩ = false ∧ w.frozen? ⟨g2, i * 5 + 3, none⟩ = false ∧
      ∀ val, NetR T B (w.setCell ⟨g2, i * 5 + 2, none⟩ (.int .i64 val)) v0 v1 v2 v3 v4 l0 l1 (l2.set i ⟨x.f0, x.f1, val, x.f3, x.f4⟩) l3 l4 ∧
        NetR T B (w.setCell ⟨g2, i * 5 + 3, none⟩ (.int .i64 val)) v0 v1 v2 v3 v4 l0 l1 (l2.set i ⟨x.f0, x.f1, x.f2, val, x.f4⟩) l3 l4 := by
  have hi : i < l2.length := (List.getElem?_eq_some_iff.1 hx).1
  obtain ⟨g2, c2, rfl, hg2, hg2l, cs, hgc⟩ := Kd.R_form h.r2 (by omega)
  have h2 := fun val => flop_set h.r2 hx 2 (.inl rfl) val
  have h3 := fun val => flop_set h.r2 hx 3 (.inr rfl) val
  refine ⟨g2, c2, rfl, hg2l, hg2, h.r2.1 g2 (by simp [Value.ownBlock]), ⟨cs, hgc⟩, (h2 0).1, (h3 0).1, (h2 0).2.1, (h3 0).2.1, fun val => ⟨?_, ?_⟩⟩
  · have hg := (h2 val).2.2.2
    refine ⟨mvT h.r0 hgc (by decide) hg, mvT h.r1 hgc (by decide) hg, (h2 val).2.2.1, ?_, mvT h.r4 hgc (by decide) hg⟩
    exact Kd.S_mono (Kd.S_step (Kd.S_types h.r3 hgc (by decide)) (fun k hk hl => hg.block k hl (fun e => hk.2 (by injection e)))) (fun _ hk => hk.1)
  · have hg := (h3 val).2.2.2
    refine ⟨mvT h.r0 hgc (by decide) hg, mvT h.r1 hgc (by decide) hg, (h3 val).2.2.1, ?_, mvT h.r4 hgc (by decide) hg⟩
    exact Kd.S_mono (Kd.S_step (Kd.S_types h.r3 hgc (by decide)) (fun k hk hl => hg.block k hl (fun e => hk.2 (by injection e)))) (fun _ hk => hk.1)
theorem NetR.out (h : NetR T B w v0 v1 v2 v3 v4 l0 l1 l2 l3 l4) {i : Nat} (hi : i < l4.length) :
    ∃ g4 c4, v4 = .slice (some ⟨g4, 0, none⟩) l4.length c4 ∧ g4 < w.heap.size ∧ B ≤ g4 ∧ T g4 ∧ (∃ cs, w.heap[g4]? = some (.cells cs 3 (0, 0))) ∧
      w.cell? ⟨g4, i, none⟩ = some (.int .i64 (l4.getD i 0)) ∧ w.frozen? ⟨g4, i, none⟩ = false ∧
      ∀ val, NetR T B (w.setCell ⟨g4, i, none⟩ (.int .i64 val)) v0 v1 v2 v3 v4 l0 l1 l2 l3 (l4.set i val) := by
  obtain ⟨g4, c4, rfl, hg4, hg4l, cs, hgc⟩ := Kd.R_form h.r4 (by omega)
  obtain ⟨hcell, hfr⟩ := Kd.R_cell (0 : Int) h.r4 (i : Int) (by omega) (by omega)
  refine ⟨g4, c4, rfl, hg4l, hg4, h.r4.1 g4 (by simp [Value.ownBlock]), ⟨cs, hgc⟩, hcell, hfr, fun val => ?_⟩
  obtain ⟨hR2, hg2⟩ := Kd.R_put h.r4 (i : Int) val
  refine ⟨mvT h.r0 hgc (by decide) hg2, mvT h.r1 hgc (by decide) hg2, mvT h.r2 hgc (by decide) hg2, ?_, by rw [Int.toNat_natCast] at hR2; exact hR2⟩
  exact Kd.S_step h.r3 (fun k hk hl => hg2.block k hl (fun e => hk.2 (by rw [e]; simp [Value.ownBlock])))
end
end Go.Proofs.Ytimjccfpobhpeaa
namespace Go.Proofs.Ytimjccfpobhpeaa
open Go.RowKit Go.Proofs.YtimjccfpobhpeaaW.PrintWords Go.Proofs.Ytimjccfpobhpeaa.PF
abbrev GateS := S80
abbrev FlopS := S82
structure NetP where
  fl : List FlopS
  ga : List GateS
  ou : List Int
def putOne (s : NetP) (l : Load) (v : Int) : NetP :=
  if l.f0 = 0 then { s with ga := s.ga.modify l.f1.toNat fun x => ⟨x.f0, x.f1, x.f2.set l.f2.toNat v⟩ }
  else if l.f0 = 1 then { s with fl := s.fl.modify l.f1.toNat fun x => ⟨x.f0, x.f1, v, x.f3, x.f4⟩ }
  else if l.f0 = 2 then { s with fl := s.fl.modify l.f1.toNat fun x => ⟨x.f0, x.f1, x.f2, v, x.f4⟩ }
  else { s with ou := s.ou.set l.f1.toNat v }
def injectF (load v : Int) : List Load → Nat → NetP → NetP
  | [], _, s => s
  | l :: r, i, s => injectF load v r (i + 1) (if 0 ≤ load ∧ load ≠ i then s else putOne s l v)
def ValidL (s : NetP) (l : Load) : Prop :=
  (l.f0 = 0 ∧ ∃ (i k : Nat) (x : GateS), l.f1 = i ∧ l.f2 = k ∧ s.ga[i]? = some x ∧ k < x.f2.length) ∨ (l.f0 = 1 ∧ ∃ (i : Nat) (x : FlopS), l.f1 = i ∧ s.fl[i]? = some x) ∨ (l.f0 = 2 ∧ ∃ (i : Nat) (x : FlopS), l.f1 = i ∧ s.fl[i]? = some x) ∨ (l.f0 = 3 ∧ ∃ i : Nat, l.f1 = i ∧ i < s.ou.length)
structure Shape (s s' : NetP) : Prop where
  fl : s'.fl.length = s.fl.length
  ou : s'.ou.length = s.ou.length
  ga : ∀ (i : Nat) (x : GateS), s.ga[i]? = some x → ∃ x', s'.ga[i]? = some x' ∧ x'.f2.length = x.f2.length
theorem Shape.refl (s : NetP) : Shape s s := ⟨rfl, rfl, fun _ x h => ⟨x, h, rfl⟩⟩
theorem Shape.trans {s s' s'' : NetP} (h : Shape s s') (k : Shape s' s'') : Shape s s'' := ⟨k.fl.trans h.fl, k.ou.trans h.ou, fun i x hx => by
  obtain ⟨x', h1, h2⟩ := h.ga i x hx
  obtain ⟨x'', h3, h4⟩ := k.ga i x' h1
  exact ⟨x'', h3, h4.trans h2⟩⟩
theorem ValidL.shape {s s' : NetP} {l : Load} (h : ValidL s l) (k : Shape s s') : ValidL s' l := by
  rcases h with ⟨h0, i, kk, x, h1, h2, h3, h4⟩ | ⟨h0, i, x, h1, h2⟩ | ⟨h0, i, x, h1, h2⟩ | ⟨h0, i, h1, h2⟩
  · obtain ⟨x', h5, h6⟩ := k.ga i x h3
    exact .inl ⟨h0, i, kk, x', h1, h2, h5, by omega⟩
  · have hl := (List.getElem?_eq_some_iff.1 h2).1
    exact .inr (.inl ⟨h0, i, s'.fl[i]'(by rw [k.fl]; exact hl), h1, List.getElem?_eq_getElem _⟩)
  · have hl := (List.getElem?_eq_some_iff.1 h2).1
    exact .inr (.inr (.inl ⟨h0, i, s'.fl[i]'(by rw [k.fl]; exact hl), h1, List.getElem?_eq_getElem _⟩))
  · exact .inr (.inr (.inr ⟨h0, i, h1, by rw [k.ou]; exact h2⟩))
theorem putOne_shape (s : NetP) (l : Load) (v : Int) : Shape s (putOne s l v) := by
  unfold putOne
  split
  · refine ⟨rfl, rfl, fun i x hx => ?_⟩
    simp only [List.getElem?_modify, hx, Option.map_eq_map, Option.map_some]
    split
    · exact ⟨_, rfl, by simp⟩
    · exact ⟨_, rfl, rfl⟩
  · split
    · exact ⟨by simp, rfl, fun _ x h => ⟨x, h, rfl⟩⟩
    · split
      · exact ⟨by simp, rfl, fun _ x h => ⟨x, h, rfl⟩⟩
      · exact ⟨rfl, by simp, fun _ x h => ⟨x, h, rfl⟩⟩
theorem modify_at {α : Type} {xs : List α} {i : Nat} {x : α} (f : α → α) (h : xs[i]? = some x) : xs.modify i f = xs.set i (f x) := by
  apply List.ext_getElem?
  intro j
  rw [List.getElem?_modify, List.getElem?_set]
  obtain ⟨hi, rfl⟩ := List.getElem?_eq_some_iff.1 h
  by_cases hj : i = j
  · subst hj
    simp [hi]
  · simp [hj]
theorem pinPlaces_mem {i : Nat} {p : Int × Load} : ∀ {xs : List Int} {k : Nat}, p ∈ pinPlaces i xs k → ∃ j net, xs[j]? = some net ∧ p = (net, ⟨0, i, (k + j : Nat)⟩)
  | [], k, h => by simp [pinPlaces] at h
  | net :: r, k, h => by
    rw [pinPlaces] at h
    rcases List.mem_cons.1 h with rfl | h
    · exact ⟨0, net, rfl, rfl⟩
    · obtain ⟨j, n2, h1, h2⟩ := pinPlaces_mem h
      exact ⟨j + 1, n2, h1, by rw [h2]; congr 3; omega⟩
theorem gatePlaces_mem {p : Int × Load} : ∀ {xs : List GateS} {i : Nat}, p ∈ gatePlaces xs i → ∃ (j k : Nat) (x : GateS) (net : Int), xs[j]? = some x ∧ x.f2[k]? = some net ∧ p = (net, ⟨0, (i + j : Nat), k⟩)
  | [], i, h => by simp [gatePlaces] at h
  | x :: r, i, h => by
    rw [gatePlaces] at h
    rcases List.mem_append.1 h with h | h
    · obtain ⟨j, net, h1, h2⟩ := pinPlaces_mem h
      exact ⟨0, j, x, net, rfl, h1, by rw [h2]; simp⟩
    · obtain ⟨j, k, y, net, h1, h2, h3⟩ := gatePlaces_mem h
      exact ⟨j + 1, k, y, net, h1, h2, by rw [h3]; congr 3; omega⟩
theorem flopPlaces_mem {p : Int × Load} : ∀ {xs : List FlopS} {i : Nat}, p ∈ flopPlaces xs i → ∃ (j : Nat) (x : FlopS), xs[j]? = some x ∧ (p = (x.f2, ⟨1, (i + j : Nat), 0⟩) ∨ p = (x.f3, ⟨2, (i + j : Nat), 0⟩))
  | [], i, h => by simp [flopPlaces] at h
  | x :: r, i, h => by
    rw [flopPlaces] at h
    rcases List.mem_cons.1 h with rfl | h
    · exact ⟨0, x, rfl, .inl rfl⟩
    rcases List.mem_cons.1 h with rfl | h
    · exact ⟨0, x, rfl, .inr rfl⟩
    · obtain ⟨j, y, h1, h2⟩ := flopPlaces_mem h
      have e : i + 1 + j = i + (j + 1) := by omega
      rw [e] at h2
      exact ⟨j + 1, y, h1, h2⟩
theorem outPlaces_mem {p : Int × Load} : ∀ {xs : List Int} {i : Nat}, p ∈ outPlaces xs i → ∃ (j : Nat) (net : Int), xs[j]? = some net ∧ p = (net, ⟨3, (i + j : Nat), 0⟩)
  | [], i, h => by simp [outPlaces] at h
  | x :: r, i, h => by
    rw [outPlaces] at h
    rcases List.mem_cons.1 h with rfl | h
    · exact ⟨0, x, rfl, rfl⟩
    · obtain ⟨j, y, h1, h2⟩ := outPlaces_mem h
      have e : i + 1 + j = i + (j + 1) := by omega
      rw [e] at h2
      exact ⟨j + 1, y, h1, h2⟩
theorem placesOf_valid {l2 : List FlopS} {l3 : List GateS} {l4 : List Int} {p : Int × Load} (h : p ∈ placesOf l2 l3 l4) : ValidL ⟨l2, l3, l4⟩ p.2 := by
  unfold placesOf at h
  rcases List.mem_append.1 h with h | h
  · obtain ⟨j, k, x, net, h1, h2, rfl⟩ := gatePlaces_mem h
    exact .inl ⟨rfl, j, k, x, by simp, rfl, h1, (List.getElem?_eq_some_iff.1 h2).1⟩
  rcases List.mem_append.1 h with h | h
  · obtain ⟨j, x, h1, rfl | rfl⟩ := flopPlaces_mem h
    · exact .inr (.inl ⟨rfl, j, x, by simp, h1⟩)
    · exact .inr (.inr (.inl ⟨rfl, j, x, by simp, h1⟩))
  · obtain ⟨j, net, h1, rfl⟩ := outPlaces_mem h
    exact .inr (.inr (.inr ⟨rfl, j, by simp, (List.getElem?_eq_some_iff.1 h1).1⟩))
theorem loadsFrom_row (ps : List (Int × Load)) : ∀ (rows : List (List Load)), (∀ p ∈ ps, 0 ≤ p.1 ∧ p.1 < rows.length) → ∀ j, j < rows.length → (loadsFrom rows ps).getD j [] = rows.getD j [] ++ (ps.filter fun p => decide (p.1 = (j : Int))).map (·.2) := by
  induction ps with
  | nil => intro rows _ j _; simp [loadsFrom]
  | cons p ps ih =>
    intro rows hr j hj
    have h1 := hr p List.mem_cons_self
    have hl : (useF rows p.1 p.2).length = rows.length := by unfold useF; rw [List.length_set]
    show (loadsFrom (useF rows p.1 p.2) ps).getD j [] = _
    rw [ih (useF rows p.1 p.2) (fun q hq => by rw [hl]; exact hr q (List.mem_cons_of_mem _ hq)) j (by omega), List.filter_cons]
    by_cases hp : p.1 = (j : Int)
    · rw [decide_eq_true hp, if_pos rfl]
      have : p.1.toNat = j := by omega
      unfold useF
      rw [this, List.getD_eq_getElem?_getD, List.getElem?_set, if_pos rfl, if_pos hj]
      simp
    · rw [decide_eq_false hp, if_neg (by decide)]
      have : p.1.toNat ≠ j := by omega
      unfold useF
      rw [List.getD_eq_getElem?_getD, List.getElem?_set, if_neg this, ← List.getD_eq_getElem?_getD]
theorem loadsFrom_len (ps : List (Int × Load)) : ∀ (rows : List (List Load)), (loadsFrom rows ps).length = rows.length := by
  induction ps with
  | nil => intro rows; rfl
  | cons p ps ih =>
    intro rows
    show (loadsFrom (useF rows p.1 p.2) ps).length = _
    rw [ih]
    unfold useF
    rw [List.length_set]
end Go.Proofs.Ytimjccfpobhpeaa
namespace Go.Proofs.Ytimjccfpobhpeaa
open Go.RowKit Go.Proofs.YtimjccfpobhpeaaW.PrintWords Go.Proofs.Ytimjccfpobhpeaa.PF
set_option maxRecDepth 100000
theorem results_cell_tmp_row {P : Program} {fn : Func} {p u : Tmp} {ty : TypeId} (h : fn.results = #[.cell p ty, .tmp u]) (tmps : Array Value) (w : World) (g : Nat) (t : TypeId) (cs : Array Value) (fr : Nat × Nat) (d : TypeDesc)
    (hp : tmps.getD p undef = .pointer (some ⟨g, 0, none⟩)) (hg : w.heap[g]? = some (.cells cs t fr))
    (hu : P.underlying ty = some d) (hd : (match d with | .struct _ | .array _ _ => true | _ => false) = true) (hi : (P.info? ty).map (·.size) = some cs.size) :
    (results fn tmps).run P w = .ok (.tuple #[.agg cs, tmps.getD u undef]) w := by
  rw [results_cell_tmp h, hp]
  simp [asAddr, run_loadVar_row w g t ty cs fr d hg hu hd hi]
theorem kd_load {w : World} {A : Option Addr} {n : Nat} {xs : List Load} (h : Kd.C kLoad w A n xs) {i : Nat} {x : Load} (hx : xs[i]? = some x) :
    ∃ b o, A = some ⟨b, o, none⟩ ∧ b < w.heap.size ∧ w.cell? ⟨b, o + i * 3, none⟩ = some (.int .i64 x.f0) ∧ w.cell? ⟨b, o + i * 3 + 1, none⟩ = some (.int .i64 x.f1) ∧ w.cell? ⟨b, o + i * 3 + 2, none⟩ = some (.int .i64 x.f2) := by
  obtain ⟨b, o, cs, rfl, hb, _, hK, hc⟩ := kd_at h (by exact Nat.succ_pos _) hx
  obtain rfl := k77_open hK
  exact ⟨b, o, rfl, hb, hc 0 _ rfl, by have := hc 1 _ rfl; rwa [← Nat.add_assoc] at this, by have := hc 2 _ rfl; rwa [← Nat.add_assoc] at this⟩
theorem kd_rows {w : World} {A : Option Addr} {n : Nat} {xs : List (List Load)} (h : Kd.C (Kd.slice 77 kLoad) w A n xs) {i : Nat} {x : List Load} (hx : xs[i]? = some x) :
    ∃ b o A2 c2, A = some ⟨b, o, none⟩ ∧ b < w.heap.size ∧ w.cell? ⟨b, o + i, none⟩ = some (.slice A2 x.length c2) ∧ Kd.C kLoad w A2 x.length x := by
  obtain ⟨b, o, cs, rfl, hb, _, hK, hc⟩ := kd_at h (by exact Nat.succ_pos _) hx
  obtain ⟨A2, c2, rfl, _, hC⟩ := hK
  refine ⟨b, o, A2, c2, rfl, hb, ?_, hC⟩
  have := hc 0 _ rfl
  simpa [Kd.slice] using this
theorem heap_alloc3_new (w : World) (A B C : Obj) : (((w.alloc A).alloc B).alloc C).heap[w.heap.size + 1 + 1]? = some C := by
  have := heap_alloc_new ((w.alloc A).alloc B) C
  simpa using this
theorem NetR.nil (B : Nat) (w : World) : NetR (fun _ => True) B w (.slice none 0 0) (.slice none 0 0) (.slice none 0 0) (.slice none 0 0) (.slice none 0 0) [] [] [] [] [] :=
  ⟨Kd.R_nil _ _ _ _ _, Kd.R_nil _ _ _ _ _, Kd.R_nil _ _ _ _ _, Kd.S_nil _ _ _ _ _, Kd.R_nil _ _ _ _ _⟩
set_option maxHeartbeats 16000000 in
theorem inject_err1 (A0 A1 A2 A3 A4 : Option Addr) (c0 c1 c2 c3 c4 : Nat) (l0 l1 : List ByteArray) (l2 : List Flop) (l3 : List Gate) (l4 : List Int) (net : Int) (load : Int) (one : Bool) (w : World)
    (err : Int) (he : err ≠ 0) (HL : ∀ W, Below w.heap.size w W → Calls Try.prog 27 #[.agg #[.slice A0 l0.length c0, .slice A1 l1.length c1, .slice A2 l2.length c2, .slice A3 l3.length c3, .slice A4 l4.length c4]] W fun e w' => ∃ v, e = .returned (.tuple #[v, .int .i64 err]) ∧ Below W.heap.size W w') :
    Calls Try.prog 8 #[.agg #[.slice A0 l0.length c0, .slice A1 l1.length c1, .slice A2 l2.length c2, .slice A3 l3.length c3, .slice A4 l4.length c4], .agg #[.int .i64 net, .int .i64 load, .bool one]] w fun e w' => ∃ v0 v1 v2 v3 v4 : Value, e = .returned (.tuple #[.agg #[v0, v1, v2, v3, v4], .int .i64 err]) ∧ NetR (fun _ => True) w.heap.size w' v0 v1 v2 v3 v4 [] [] [] [] [] ∧ Below w.heap.size w w' := by
  have hu := Try.underlying27
  have huF := Try.underlying29
  have hW0 : Below w.heap.size w (((w.alloc (.cells #[.slice A0 l0.length c0, .slice A1 l1.length c1, .slice A2 l2.length c2, .slice A3 l3.length c3, .slice A4 l4.length c4] 27)).alloc (.cells #[.int .i64 net, .int .i64 load, .bool one] 29)).alloc (.cells #[.slice none 0 0, .slice none 0 0, .slice none 0 0, .slice none 0 0, .slice none 0 0] 27)) := (((Below.refl _ _).alloc (Nat.le_refl _) _).alloc (by simp) _).alloc (by simp; omega) _
  have bel : ∀ x : Under (((w.alloc (.cells #[.slice A0 l0.length c0, .slice A1 l1.length c1, .slice A2 l2.length c2, .slice A3 l3.length c3, .slice A4 l4.length c4] 27)).alloc (.cells #[.int .i64 net, .int .i64 load, .bool one] 29)).alloc (.cells #[.slice none 0 0, .slice none 0 0, .slice none 0 0, .slice none 0 0, .slice none 0 0] 27)), Below w.heap.size w x.val := fun x => hW0.trans (x.ok.mono (by simp; omega))
  have hW0s : (((w.alloc (.cells #[.slice A0 l0.length c0, .slice A1 l1.length c1, .slice A2 l2.length c2, .slice A3 l3.length c3, .slice A4 l4.length c4] 27)).alloc (.cells #[.int .i64 net, .int .i64 load, .bool one] 29)).alloc (.cells #[.slice none 0 0, .slice none 0 0, .slice none 0 0, .slice none 0 0, .slice none 0 0] 27)).heap.size = w.heap.size + 3 := by simp
  have hsz : ∀ x : Under (((w.alloc (.cells #[.slice A0 l0.length c0, .slice A1 l1.length c1, .slice A2 l2.length c2, .slice A3 l3.length c3, .slice A4 l4.length c4] 27)).alloc (.cells #[.int .i64 net, .int .i64 load, .bool one] 29)).alloc (.cells #[.slice none 0 0, .slice none 0 0, .slice none 0 0, .slice none 0 0, .slice none 0 0] 27)), w.heap.size + 2 < x.val.heap.size := fun x => Nat.lt_of_lt_of_le (by simp) x.size
  have hrb : ∀ x : Under (((w.alloc (.cells #[.slice A0 l0.length c0, .slice A1 l1.length c1, .slice A2 l2.length c2, .slice A3 l3.length c3, .slice A4 l4.length c4] 27)).alloc (.cells #[.int .i64 net, .int .i64 load, .bool one] 29)).alloc (.cells #[.slice none 0 0, .slice none 0 0, .slice none 0 0, .slice none 0 0, .slice none 0 0] 27)), x.val.heap[w.heap.size + 1 + 1]? = some (.cells #[.slice none 0 0, .slice none 0 0, .slice none 0 0, .slice none 0 0, .slice none 0 0] 27 (0, 0)) := fun x => (x.ok.block (w.heap.size + 1 + 1) (by simp)).trans (heap_alloc3_new w _ _ _)
  have q1 : (err != 0) = true := by simpa using he
  have hWx := hsz
  go_enter Try.func8, Try.ntmps8
  go_wp2_with (go_at_call 27; refine (HL _ hW0).mono ?_; rintro e w1 ⟨v, rfl, hB1⟩; obtain ⟨x1, rfl⟩ : ∃ x : Under (((w.alloc (.cells #[.slice A0 l0.length c0, .slice A1 l1.length c1, .slice A2 l2.length c2, .slice A3 l3.length c3, .slice A4 l4.length c4] 27)).alloc (.cells #[.int .i64 net, .int .i64 load, .bool one] 29)).alloc (.cells #[.slice none 0 0, .slice none 0 0, .slice none 0 0, .slice none 0 0, .slice none 0 0] 27)), w1 = x.val := ⟨⟨w1, hB1⟩, rfl⟩; have hs1 := hsz x1)
  ((try simp only [Exit.inBlock, Exit.then]); refine bodyPost_ret (results_cell_tmp_row rfl _ _ (w.heap.size + 1 + 1) _ _ _ _ rfl (set5 (.slice none 0 0) (.slice none 0 0) (.slice none 0 0) (.slice none 0 0) (.slice none 0 0) (hrb x1)).1 Try.underlying27 rfl (by kernel_rfl)) rfl ?_)
  exact ⟨_, _, _, _, _, rfl, NetR.nil _ _, (((((bel x1).setCell (p := ⟨w.heap.size + 1 + 1, 0, none⟩) (by simp; omega) _).setCell (p := ⟨w.heap.size + 1 + 1, 1, none⟩) (by simp; omega) _).setCell (p := ⟨w.heap.size + 1 + 1, 2, none⟩) (by simp; omega) _).setCell (p := ⟨w.heap.size + 1 + 1, 3, none⟩) (by simp; omega) _).setCell (p := ⟨w.heap.size + 1 + 1, 4, none⟩) (by simp; omega) _⟩
set_option maxHeartbeats 16000000 in
theorem inject_err2 (A0 A1 A2 A3 A4 : Option Addr) (c0 c1 c2 c3 c4 : Nat) (l0 l1 : List ByteArray) (l2 : List Flop) (l3 : List Gate) (l4 : List Int) (net : Int) (load : Int) (one : Bool) (w : World)
    (rows : List (List Load)) (err : Int) (he : err ≠ 0) (HL : ∀ W, Below w.heap.size w W → Calls Try.prog 27 #[.agg #[.slice A0 l0.length c0, .slice A1 l1.length c1, .slice A2 l2.length c2, .slice A3 l3.length c3, .slice A4 l4.length c4]] W fun e w' => ∃ v, e = .returned (.tuple #[v, .int .i64 0]) ∧ Kd.S (Kd.slice 77 kLoad) 75 w' W.heap.size (fun _ => True) v rows ∧ Below W.heap.size W w')
    (HC : ∀ W v, Kd.S (Kd.slice 77 kLoad) 75 W (w.heap.size + 3) (fun _ => True) v rows → Calls Try.prog 28 #[v, .agg #[.int .i64 net, .int .i64 load, .bool one]] W fun e w' => e = .returned (.int .i64 err) ∧ Below W.heap.size W w') :
    Calls Try.prog 8 #[.agg #[.slice A0 l0.length c0, .slice A1 l1.length c1, .slice A2 l2.length c2, .slice A3 l3.length c3, .slice A4 l4.length c4], .agg #[.int .i64 net, .int .i64 load, .bool one]] w fun e w' => ∃ v0 v1 v2 v3 v4 : Value, e = .returned (.tuple #[.agg #[v0, v1, v2, v3, v4], .int .i64 err]) ∧ NetR (fun _ => True) w.heap.size w' v0 v1 v2 v3 v4 [] [] [] [] [] ∧ Below w.heap.size w w' := by
  have hu := Try.underlying27
  have huF := Try.underlying29
  have hW0 : Below w.heap.size w (((w.alloc (.cells #[.slice A0 l0.length c0, .slice A1 l1.length c1, .slice A2 l2.length c2, .slice A3 l3.length c3, .slice A4 l4.length c4] 27)).alloc (.cells #[.int .i64 net, .int .i64 load, .bool one] 29)).alloc (.cells #[.slice none 0 0, .slice none 0 0, .slice none 0 0, .slice none 0 0, .slice none 0 0] 27)) := (((Below.refl _ _).alloc (Nat.le_refl _) _).alloc (by simp) _).alloc (by simp; omega) _
  have bel : ∀ x : Under (((w.alloc (.cells #[.slice A0 l0.length c0, .slice A1 l1.length c1, .slice A2 l2.length c2, .slice A3 l3.length c3, .slice A4 l4.length c4] 27)).alloc (.cells #[.int .i64 net, .int .i64 load, .bool one] 29)).alloc (.cells #[.slice none 0 0, .slice none 0 0, .slice none 0 0, .slice none 0 0, .slice none 0 0] 27)), Below w.heap.size w x.val := fun x => hW0.trans (x.ok.mono (by simp; omega))
  have hW0s : (((w.alloc (.cells #[.slice A0 l0.length c0, .slice A1 l1.length c1, .slice A2 l2.length c2, .slice A3 l3.length c3, .slice A4 l4.length c4] 27)).alloc (.cells #[.int .i64 net, .int .i64 load, .bool one] 29)).alloc (.cells #[.slice none 0 0, .slice none 0 0, .slice none 0 0, .slice none 0 0, .slice none 0 0] 27)).heap.size = w.heap.size + 3 := by simp
  have hsz : ∀ x : Under (((w.alloc (.cells #[.slice A0 l0.length c0, .slice A1 l1.length c1, .slice A2 l2.length c2, .slice A3 l3.length c3, .slice A4 l4.length c4] 27)).alloc (.cells #[.int .i64 net, .int .i64 load, .bool one] 29)).alloc (.cells #[.slice none 0 0, .slice none 0 0, .slice none 0 0, .slice none 0 0, .slice none 0 0] 27)), w.heap.size + 2 < x.val.heap.size := fun x => Nat.lt_of_lt_of_le (by simp) x.size
  have hrb : ∀ x : Under (((w.alloc (.cells #[.slice A0 l0.length c0, .slice A1 l1.length c1, .slice A2 l2.length c2, .slice A3 l3.length c3, .slice A4 l4.length c4] 27)).alloc (.cells #[.int .i64 net, .int .i64 load, .bool one] 29)).alloc (.cells #[.slice none 0 0, .slice none 0 0, .slice none 0 0, .slice none 0 0, .slice none 0 0] 27)), x.val.heap[w.heap.size + 1 + 1]? = some (.cells #[.slice none 0 0, .slice none 0 0, .slice none 0 0, .slice none 0 0, .slice none 0 0] 27 (0, 0)) := fun x => (x.ok.block (w.heap.size + 1 + 1) (by simp)).trans (heap_alloc3_new w _ _ _)
  have q1 : (err != 0) = true := by simpa using he
  go_enter Try.func8, Try.ntmps8
  go_wp2_with (first
    | (go_at_call 27; refine (HL _ hW0).mono ?_; rintro e w1 ⟨v, rfl, hS1, hB1⟩; obtain ⟨x1, rfl⟩ : ∃ x : Under (((w.alloc (.cells #[.slice A0 l0.length c0, .slice A1 l1.length c1, .slice A2 l2.length c2, .slice A3 l3.length c3, .slice A4 l4.length c4] 27)).alloc (.cells #[.int .i64 net, .int .i64 load, .bool one] 29)).alloc (.cells #[.slice none 0 0, .slice none 0 0, .slice none 0 0, .slice none 0 0, .slice none 0 0] 27)), w1 = x.val := ⟨⟨w1, hB1⟩, rfl⟩; have hs1 := hsz x1; have hS1' := Kd.S_lower (base' := w.heap.size + 3) hS1 (Nat.le_of_eq hW0s.symm); have hs1a : w.heap.size < x1.val.heap.size := (by omega); have hs1b : w.heap.size + 1 < x1.val.heap.size := (by omega))
    | (go_at_call 28; refine (HC _ _ hS1').mono ?_; rintro e w2 ⟨rfl, hB2⟩; obtain ⟨x2, rfl⟩ : ∃ x : Under (((w.alloc (.cells #[.slice A0 l0.length c0, .slice A1 l1.length c1, .slice A2 l2.length c2, .slice A3 l3.length c3, .slice A4 l4.length c4] 27)).alloc (.cells #[.int .i64 net, .int .i64 load, .bool one] 29)).alloc (.cells #[.slice none 0 0, .slice none 0 0, .slice none 0 0, .slice none 0 0, .slice none 0 0] 27)), w2 = x.val := ⟨⟨w2, x1.ok.trans (hB2.mono x1.size)⟩, rfl⟩; have hs2 := hsz x2))
  ((try simp only [Exit.inBlock, Exit.then]); refine bodyPost_ret (results_cell_tmp_row rfl _ _ (w.heap.size + 1 + 1) _ _ _ _ rfl (set5 (.slice none 0 0) (.slice none 0 0) (.slice none 0 0) (.slice none 0 0) (.slice none 0 0) (hrb x2)).1 Try.underlying27 rfl (by kernel_rfl)) rfl ?_)
  exact ⟨_, _, _, _, _, rfl, NetR.nil _ _, (((((bel x2).setCell (p := ⟨w.heap.size + 1 + 1, 0, none⟩) (by simp; omega) _).setCell (p := ⟨w.heap.size + 1 + 1, 1, none⟩) (by simp; omega) _).setCell (p := ⟨w.heap.size + 1 + 1, 2, none⟩) (by simp; omega) _).setCell (p := ⟨w.heap.size + 1 + 1, 3, none⟩) (by simp; omega) _).setCell (p := ⟨w.heap.size + 1 + 1, 4, none⟩) (by simp; omega) _⟩
end Go.Proofs.Ytimjccfpobhpeaa
namespace Go.Proofs.Ytimjccfpobhpeaa
open Go.RowKit Go.Proofs.YtimjccfpobhpeaaW.PrintWords Go.Proofs.Ytimjccfpobhpeaa.PF
open Go.ChangeMaps (setBlock)
set_option maxRecDepth 100000
def keyL (l : Load) : Int × Int × Int := (l.f0, l.f1, l.f2)
def numsRow : List Load → Nat → List ((Int × Int × Int) × Int) → List ((Int × Int × Int) × Int)
  | [], _, m => m
  | l :: r, i, m => numsRow r (i + 1) (mput m (keyL l) (i : Int))
def numsFrom : List (List Load) → List ((Int × Int × Int) × Int) → List ((Int × Int × Int) × Int)
  | [], m => m
  | row :: r, m => numsFrom r (numsRow row 0 m)
end Go.Proofs.Ytimjccfpobhpeaa
namespace Go.Proofs.Ytimjccfpobhpeaa
open Go.RowKit Go.Proofs.YtimjccfpobhpeaaW.PrintWords Go.Proofs.Ytimjccfpobhpeaa.PF
open Go.ChangeMaps (setBlock)
set_option maxRecDepth 100000
def putC (net load x pl : Int) : Bool := decide (x = net) && (decide (load < 0) || decide (pl = load))
end Go.Proofs.Ytimjccfpobhpeaa
namespace Go.Proofs.Ytimjccfpobhpeaa
open Go.RowKit Go.Proofs.YtimjccfpobhpeaaW.PrintWords Go.Proofs.Ytimjccfpobhpeaa.PF
set_option maxRecDepth 100000
instance (w : World) : Nonempty (Under w) := ⟨Under.refl w⟩
structure NetAt (T : Nat → Prop) (B : Nat) (w : World) (g : Nat) (v0 v1 v2 v3 v4 : Value) (l0 l1 : List ByteArray) (s : NetP) : Prop where
  blk : w.heap[g]? = some (.cells #[v0, v1, v2, v3, v4] 27 (0, 0))
  r : NetR T B w v0 v1 v2 v3 v4 l0 l1 s.fl s.ga s.ou
theorem NetAt.below {T : Nat → Prop} {B : Nat} {w w1 : World} {g : Nat} {v0 v1 v2 v3 v4 : Value} {l0 l1 : List ByteArray} {s : NetP} (h : NetAt T B w g v0 v1 v2 v3 v4 l0 l1 s) (hb : Below w.heap.size w w1) : NetAt T B w1 g v0 v1 v2 v3 v4 l0 l1 s :=
  ⟨(hb.block g (Array.getElem?_eq_some_iff.1 h.blk).1).trans h.blk, h.r.below hb⟩
theorem blkFar {w : World} {g gi t t' : Nat} {cs cs' : Array Value} {v : Value} {j : Nat} (h : w.heap[g]? = some (.cells cs t (0, 0))) (h' : w.heap[gi]? = some (.cells cs' t' (0, 0))) (ht : t ≠ t') : (w.setCell ⟨gi, j, none⟩ v).heap[g]? = some (.cells cs t (0, 0)) :=
  (Below.heap_setCell w ⟨gi, j, none⟩ v g (ne_typed h h' ht)).trans h
theorem NetAt.set {T : Nat → Prop} {B : Nat} {w : World} {g gi t j : Nat} {v0 v1 v2 v3 v4 v : Value} {l0 l1 : List ByteArray} {s s' : NetP} {cs : Array Value} (h : NetAt T B w g v0 v1 v2 v3 v4 l0 l1 s) (hc : w.heap[gi]? = some (.cells cs t (0, 0))) (ht : 27 ≠ t)
    (hr : NetR T B (w.setCell ⟨gi, j, none⟩ v) v0 v1 v2 v3 v4 l0 l1 s'.fl s'.ga s'.ou) : NetAt T B (w.setCell ⟨gi, j, none⟩ v) g v0 v1 v2 v3 v4 l0 l1 s' := ⟨blkFar h.blk hc ht, hr⟩
theorem NetAt.cell {T : Nat → Prop} {B : Nat} {w : World} {g : Nat} {v0 v1 v2 v3 v4 : Value} {l0 l1 : List ByteArray} {s : NetP} (h : NetAt T B w g v0 v1 v2 v3 v4 l0 l1 s) : g < w.heap.size ∧ w.cell? ⟨g, 0, none⟩ = some v0 ∧ w.cell? ⟨g, 1, none⟩ = some v1 ∧ w.cell? ⟨g, 2, none⟩ = some v2 ∧ w.cell? ⟨g, 3, none⟩ = some v3 ∧ w.cell? ⟨g, 4, none⟩ = some v4 :=
  ⟨(Array.getElem?_eq_some_iff.1 h.blk).1, (cell_of_row _ _ 0 _ _ _ h.blk).trans rfl, (cell_of_row _ _ 1 _ _ _ h.blk).trans rfl, (cell_of_row _ _ 2 _ _ _ h.blk).trans rfl, (cell_of_row _ _ 3 _ _ _ h.blk).trans rfl, (cell_of_row _ _ 4 _ _ _ h.blk).trans rfl⟩
set_option maxHeartbeats 16000000 in
theorem inject_ok_t (A0 A1 A2 A3 A4 : Option Addr) (c0 c1 c2 c3 c4 : Nat) (l0 l1 : List ByteArray) (l2 : List Flop) (l3 : List Gate) (l4 : List Int) (nn : Nat) (load : Int) (w : World)
    (h0 : Kd.C Kd.string w A0 l0.length l0) (h1 : Kd.C Kd.string w A1 l1.length l1) (h2 : Kd.C kFlop w A2 l2.length l2) (h3 : Kd.C kGate w A3 l3.length l3) (h4 : Kd.C (Kd.int .i64) w A4 l4.length l4)
    (m0 : l0.length * 16 ≤ 140737488355328) (m1 : l1.length * 16 ≤ 140737488355328) (m2 : l2.length * 48 ≤ 140737488355328) (m3 : l3.length * 40 ≤ 140737488355328) (m4 : l4.length * 8 ≤ 140737488355328) (m5 : ∀ x ∈ l3, x.f2.length * 8 ≤ 140737488355328)
    (rows : List (List Load)) (row : List Load) (hrow : rows[nn]? = some row) (hval : ∀ l ∈ row, ValidL ⟨l2, l3, l4⟩ l)
    (HL : ∀ W, Below w.heap.size w W → Calls Try.prog 27 #[.agg #[.slice A0 l0.length c0, .slice A1 l1.length c1, .slice A2 l2.length c2, .slice A3 l3.length c3, .slice A4 l4.length c4]] W fun e w' => ∃ v, e = .returned (.tuple #[v, .int .i64 0]) ∧ Kd.S (Kd.slice 77 kLoad) 75 w' W.heap.size (fun _ => True) v rows ∧ Below W.heap.size W w')
    (HC : ∀ W v, Kd.S (Kd.slice 77 kLoad) 75 W (w.heap.size + 3) (fun _ => True) v rows → Calls Try.prog 28 #[v, .agg #[.int .i64 (nn : Int), .int .i64 load, .bool true]] W fun e w' => e = .returned (.int .i64 0) ∧ Below W.heap.size W w') :
    Calls Try.prog 8 #[.agg #[.slice A0 l0.length c0, .slice A1 l1.length c1, .slice A2 l2.length c2, .slice A3 l3.length c3, .slice A4 l4.length c4], .agg #[.int .i64 (nn : Int), .int .i64 load, .bool true]] w fun e w' => ∃ v0 v1 v2 v3 v4 : Value, e = .returned (.tuple #[.agg #[v0, v1, v2, v3, v4], .int .i64 0]) ∧
      NetR (fun _ => True) w.heap.size w' v0 v1 v2 v3 v4 l0 l1 (injectF load 1 row 0 ⟨l2, l3, l4⟩).fl (injectF load 1 row 0 ⟨l2, l3, l4⟩).ga (injectF load 1 row 0 ⟨l2, l3, l4⟩).ou ∧ Below w.heap.size w w' := by
  have hu := Try.underlying27
  have huF := Try.underlying29
  have huL := Try.underlying77
  have huG := Try.underlying80
  have huP := Try.underlying82
  have hW0 : Below w.heap.size w (((w.alloc (.cells #[.slice A0 l0.length c0, .slice A1 l1.length c1, .slice A2 l2.length c2, .slice A3 l3.length c3, .slice A4 l4.length c4] 27)).alloc (.cells #[.int .i64 (nn : Int), .int .i64 load, .bool true] 29)).alloc (.cells #[.slice none 0 0, .slice none 0 0, .slice none 0 0, .slice none 0 0, .slice none 0 0] 27)) := (((Below.refl _ _).alloc (Nat.le_refl _) _).alloc (by simp) _).alloc (by simp; omega) _
  have bel : ∀ x : Under (((w.alloc (.cells #[.slice A0 l0.length c0, .slice A1 l1.length c1, .slice A2 l2.length c2, .slice A3 l3.length c3, .slice A4 l4.length c4] 27)).alloc (.cells #[.int .i64 (nn : Int), .int .i64 load, .bool true] 29)).alloc (.cells #[.slice none 0 0, .slice none 0 0, .slice none 0 0, .slice none 0 0, .slice none 0 0] 27)), Below w.heap.size w x.val := fun x => hW0.trans (x.ok.mono (by simp; omega))
  have hsz : ∀ x : Under (((w.alloc (.cells #[.slice A0 l0.length c0, .slice A1 l1.length c1, .slice A2 l2.length c2, .slice A3 l3.length c3, .slice A4 l4.length c4] 27)).alloc (.cells #[.int .i64 (nn : Int), .int .i64 load, .bool true] 29)).alloc (.cells #[.slice none 0 0, .slice none 0 0, .slice none 0 0, .slice none 0 0, .slice none 0 0] 27)), w.heap.size + 2 < x.val.heap.size := fun x => Nat.lt_of_lt_of_le (by simp) x.size
  have hb3 : w.heap.size + 3 ≤ ((((w.alloc (.cells #[.slice A0 l0.length c0, .slice A1 l1.length c1, .slice A2 l2.length c2, .slice A3 l3.length c3, .slice A4 l4.length c4] 27)).alloc (.cells #[.int .i64 (nn : Int), .int .i64 load, .bool true] 29)).alloc (.cells #[.slice none 0 0, .slice none 0 0, .slice none 0 0, .slice none 0 0, .slice none 0 0] 27))).heap.size := Nat.le_of_eq (by simp)
  have hrb : ∀ x : Under (((w.alloc (.cells #[.slice A0 l0.length c0, .slice A1 l1.length c1, .slice A2 l2.length c2, .slice A3 l3.length c3, .slice A4 l4.length c4] 27)).alloc (.cells #[.int .i64 (nn : Int), .int .i64 load, .bool true] 29)).alloc (.cells #[.slice none 0 0, .slice none 0 0, .slice none 0 0, .slice none 0 0, .slice none 0 0] 27)), x.val.heap[w.heap.size + 1 + 1]? = some (.cells #[.slice none 0 0, .slice none 0 0, .slice none 0 0, .slice none 0 0, .slice none 0 0] 27 (0, 0)) := fun x => (x.ok.block (w.heap.size + 1 + 1) (by simp)).trans (heap_alloc3_new w _ _ _)
  have hnl : nn < rows.length := (List.getElem?_eq_some_iff.1 hrow).1
  have hnl2 : (nn : Int) < (rows.length : Int) := by omega
  have hrowh := Lib.hid hrow
  have hvalh := Lib.hid hval
  clear hrow hval
  go_enter Try.func8, Try.ntmps8
  go_wp2_with (first
    | (go_at_call 27; refine (HL _ hW0).mono ?_; rintro e w1 ⟨v, rfl, hS1, hB1⟩; obtain ⟨x1, rfl⟩ : ∃ x : Under (((w.alloc (.cells #[.slice A0 l0.length c0, .slice A1 l1.length c1, .slice A2 l2.length c2, .slice A3 l3.length c3, .slice A4 l4.length c4] 27)).alloc (.cells #[.int .i64 (nn : Int), .int .i64 load, .bool true] 29)).alloc (.cells #[.slice none 0 0, .slice none 0 0, .slice none 0 0, .slice none 0 0, .slice none 0 0] 27)), w1 = x.val := ⟨⟨w1, hB1⟩, rfl⟩; have hs1 := hsz x1; have hS1' := Kd.S_lower (base' := w.heap.size + 3) hS1 hb3; have hs1a : w.heap.size < x1.val.heap.size := (by omega); have hs1b : w.heap.size + 1 < x1.val.heap.size := (by omega); have HC1 := HC _ _ hS1'; obtain ⟨AR, cR, rfl, _, hR1⟩ := Kd.S_reads hS1)
    | (go_at_call 28; refine HC1.mono ?_; rintro e w2 ⟨rfl, hB2⟩; obtain ⟨x2, rfl⟩ : ∃ x : Under (((w.alloc (.cells #[.slice A0 l0.length c0, .slice A1 l1.length c1, .slice A2 l2.length c2, .slice A3 l3.length c3, .slice A4 l4.length c4] 27)).alloc (.cells #[.int .i64 (nn : Int), .int .i64 load, .bool true] 29)).alloc (.cells #[.slice none 0 0, .slice none 0 0, .slice none 0 0, .slice none 0 0, .slice none 0 0] 27)), w2 = x.val := ⟨⟨w2, x1.ok.trans (hB2.mono x1.size)⟩, rfl⟩; have hs2 := hsz x2; have hR2 := Kd.C_below hR1 hB2; have hs2a : w.heap.size < x2.val.heap.size := (by omega); have hs2b : w.heap.size + 1 < x2.val.heap.size := (by omega))
    | (go_at_call 29; refine (copy_calls A0 A1 A2 A3 A4 c0 c1 c2 c3 c4 l0 l1 l2 l3 l4 x2.val (Kd.C_below h0 (bel x2)) (Kd.C_below h1 (bel x2)) (Kd.C_below h2 (bel x2)) (Kd.C_below h3 (bel x2)) (Kd.C_below h4 (bel x2)) m0 m1 m2 m3 m4 m5).mono ?_; rintro e w3 ⟨v0, v1, v2, v3, v4, rfl, hr0, hr1, hr2, hr3, hr4, hB3⟩; obtain ⟨x3, rfl⟩ : ∃ x : Under x2.val, w3 = x.val := ⟨⟨w3, hB3⟩, rfl⟩; obtain ⟨B0, d0, rfl⟩ := Kd.R_slice hr0; obtain ⟨B1, d1, rfl⟩ := Kd.R_slice hr1; obtain ⟨B2, d2, rfl⟩ := Kd.R_slice hr2; obtain ⟨B3, d3, rfl⟩ := Kd.S_slice hr3; obtain ⟨B4, d4, rfl⟩ := Kd.R_slice hr4; have hs3 := x3.size; obtain ⟨br, or, Al, cl, rfl, hbr, hcr, hCl⟩ := kd_rows hR2 hrowh.out; have hs3a : w.heap.size < x3.val.heap.size := (by omega); have hs3b : w.heap.size + 1 < x3.val.heap.size := (by omega); have hs3c : br < x3.val.heap.size := (by omega)))
  have hN0 : NetAt (fun _ => True) x2.val.heap.size (x3.val.alloc (.cells #[.slice B0 l0.length d0, .slice B1 l1.length d1, .slice B2 l2.length d2, .slice B3 l3.length d3, .slice B4 l4.length d4] 27)) x3.val.heap.size (.slice B0 l0.length d0) (.slice B1 l1.length d1) (.slice B2 l2.length d2) (.slice B3 l3.length d3) (.slice B4 l4.length d4) l0 l1 ⟨l2, l3, l4⟩ :=
    ⟨heap_alloc_new _ _, NetR.below ⟨Kd.R_mono hr0 (fun _ h => ⟨trivial, h⟩), Kd.R_mono hr1 (fun _ h => ⟨trivial, h⟩), hr2, Kd.S_mono hr3 (fun _ h => ⟨trivial, h⟩), hr4⟩ (below_alloc (Below.refl _ _) _)⟩
  have hg9B := x3.size
  clear hr0 hr1 hr2 hr3 hr4 hR1 hR2 hS1 hS1' HC1 HL HC hB1 hB2 hB3
  generalize hg9 : x3.val.heap.size = g9 at *
  have hml := (kd_len hCl).2
  have hcb := Lib.hid (show True from trivial)
  go_loopg [11, 12, 39] row.length (fun d _ _ t wr => ∃ (i : Nat) (y : Under x2.val) (s : NetP), t = .int .i64 i ∧ wr = y.val ∧ Aside (i + d = row.length) ∧ NetAt (fun _ => True) x2.val.heap.size y.val g9 (.slice B0 l0.length d0) (.slice B1 l1.length d1) (.slice B2 l2.length d2) (.slice B3 l3.length d3) (.slice B4 l4.length d4) l0 l1 s ∧
    Shape ⟨l2, l3, l4⟩ s ∧ Aside (injectF load 1 (row.drop i) i s = injectF load 1 row 0 ⟨l2, l3, l4⟩))
  case atStart => exact ⟨0, x3.alloc _, ⟨l2, l3, l4⟩, rfl, rfl, by show 0 + row.length = row.length; omega, hN0, Shape.refl _, rfl⟩
  case round =>
    clear hN0
    obtain ⟨i, y, s, rfl, rfl, hi, hN, hSh, hL⟩ := hrel
    obtain ⟨hgl, hn0, hn1, hn2, hn3, hn4⟩ := hN.cell
    have hyl := y.size
    have hya : w.heap.size < y.val.heap.size := by omega
    have hyb : w.heap.size + 1 < y.val.heap.size := by omega
    have hyc : w.heap.size + 1 + 1 < y.val.heap.size := by omega
    by_cases hlt : i < row.length
    · obtain ⟨l, hl⟩ := get_ex hlt
      obtain ⟨b, ob, rfl, hb, hk0, hk1, hk2⟩ := kd_load hCl hl
      obtain ⟨gO, rfl⟩ : ∃ m, gk = m + 1 := ⟨gk - 1, by have := hi.out; omega⟩
      have hvl := (hvalh.out l (List.mem_of_getElem? hl)).shape hSh
      have hby : b < y.val.heap.size := by omega
      have hbn : b ≠ y.val.heap.size := by omega
      rw [drop_cons hl, injectF] at hL
      have hih := Lib.hid hi.out
      have hLh := Lib.hid hL.out
      clear hi hL hl
      by_cases hskip : 0 ≤ load ∧ load ≠ (i : Int)
      · obtain ⟨hs0, hs1⟩ := hskip
        rw [if_pos ⟨hs0, hs1⟩] at hLh
        have q1 : (load != (i : Int)) = true := by simpa using hs1
        have q2 : decide (0 ≤ load) = true := decide_eq_true hs0
        have hsh := Lib.hid hSh
        have hNh := Lib.hid hN
        clear hs1 hSh hN hvl
        go_wp2
        go_roundg gO
        case measure => have := hih.out; omega
        case rel => exact ⟨i + 1, y.alloc _, s, by go_num, rfl, by show i + 1 + gO = row.length; have := hih.out; omega, hNh.out.below (below_alloc (Below.refl _ _) _), hsh.out, hLh.out⟩
      · rw [if_neg hskip] at hLh
        have q12 : (decide (0 ≤ load) = false) ∨ (decide (0 ≤ load) = true ∧ (load != (i : Int)) = false) := by
          by_cases h : 0 ≤ load
          · exact .inr ⟨decide_eq_true h, by simpa using fun e => hskip ⟨h, e⟩⟩
          · exact .inl (decide_eq_false h)
        have hput := putOne_shape s l 1
        have hsh := Lib.hid (hSh.trans hput)
        have hNh := Lib.hid hN
        obtain ⟨f0, f1, f2⟩ := l
        simp only [ValidL] at hvl
        clear hskip hput hSh
        rcases hvl with ⟨rfl, i', k', x, rfl, rfl, hx, hk⟩ | ⟨rfl, i', x, rfl, hx⟩ | ⟨rfl, i', x, rfl, hx⟩ | ⟨rfl, i', rfl, hx⟩
        · obtain ⟨g3, c3', gi, ci, he3, hc3, hci, hfi, hg3l, hgil, hg3B, hgiB, -, hg3t, ⟨cs, hgit⟩, hset⟩ := hN.r.pin hx hk
          have hi3 : i' < l3.length := by
            have h5 := (List.getElem?_eq_some_iff.1 hx).1
            injection he3 with _ h6 _
            omega
          have hs' : putOne s ⟨0, i', k'⟩ 1 = ⟨s.fl, s.ga.set i' ⟨x.f0, x.f1, x.f2.set k' 1⟩, s.ou⟩ := by
            unfold putOne
            rw [if_pos rfl, Int.toNat_natCast, Int.toNat_natCast, modify_at _ hx]
          injection he3 with he3 he6 he3'
          clear he6
          subst he3
          subst he3'
          rw [hs'] at hsh hLh
          have hg9t := hN.blk
          have hx2 := Lib.hid hx
          clear hs' hN hx hg3t
          rcases q12 with q1 | ⟨q1, q2⟩
          all_goals
            go_wp2
            refine wp_region_splitT (fun w' => ∃ z : Under (y.val.alloc (.cells #[.int .i64 0, .int .i64 i', .int .i64 k'] 77)), w' = z.val) [true, true, true, true, true, true, true, true, true, true, false, false] (by kernel_rfl) (by kernel_rfl) (by decide) ⟨(Under.refl _).drew, rfl⟩ (fun _ _ d _ _ h => by cases d <;> exact h) ?_
            simp only [pickB, dropB]
            repeat (go_big_quiet_step (fail))
            refine wpQuiet_nil ?_
            refine wpListT_step (fun Q' hQ' => ?_)
            go_wp2_with fail
            refine ⟨⟨(Under.refl _).drew, rfl⟩, ?_⟩
            refine wpListT_last (fun Q' hQ' => ?_)
            go_wp2
            go_roundg gO
            case measure => have := hih.out; omega
            case rel =>
              refine ⟨i + 1, ((y.setCell ⟨gi, k', none⟩ hgiB _).alloc _).drew, _, by go_num, rfl, by show i + 1 + gO = row.length; have := hih.out; omega, ((NetAt.set hNh.out hgit (by decide) (hset 1)).below (below_alloc (Below.refl _ _) _)).below (below_drew (Below.refl _ _)), hsh.out, hLh.out⟩
        · obtain ⟨g2, c2', he2, hg2l, hg2B, -, ⟨cs, hg2t⟩, hd2, hd3, hf2, hf3, hset⟩ := hN.r.flop hx
          have hi2 : i' < l2.length := by
            have h5 := (List.getElem?_eq_some_iff.1 hx).1
            injection he2 with _ h6 _
            omega
          have hs' : putOne s ⟨1, i', f2⟩ 1 = ⟨s.fl.set i' ⟨x.f0, x.f1, 1, x.f3, x.f4⟩, s.ga, s.ou⟩ := by
            unfold putOne
            rw [if_neg (show ¬ ((1 : Int) = 0) by decide), if_pos rfl, Int.toNat_natCast, modify_at _ hx]
          injection he2 with he2 he6 he2'
          clear he6
          subst he2
          subst he2'
          rw [hs'] at hsh hLh
          clear hs' hN hx
          rcases q12 with q1 | ⟨q1, q2⟩
          all_goals
            go_wp2
            go_roundg gO
            case measure => have := hih.out; omega
            case rel =>
              refine ⟨i + 1, (y.setCell ⟨g2, i' * 5 + 2, none⟩ hg2B _).alloc _, _, by go_num, rfl, by show i + 1 + gO = row.length; have := hih.out; omega, (NetAt.set hNh.out hg2t (by decide) (hset 1).1).below (below_alloc (Below.refl _ _) _), hsh.out, hLh.out⟩
        · obtain ⟨g2, c2', he2, hg2l, hg2B, -, ⟨cs, hg2t⟩, hd2, hd3, hf2, hf3, hset⟩ := hN.r.flop hx
          have hi2 : i' < l2.length := by
            have h5 := (List.getElem?_eq_some_iff.1 hx).1
            injection he2 with _ h6 _
            omega
          have hs' : putOne s ⟨2, i', f2⟩ 1 = ⟨s.fl.set i' ⟨x.f0, x.f1, x.f2, 1, x.f4⟩, s.ga, s.ou⟩ := by
            unfold putOne
            rw [if_neg (show ¬ ((2 : Int) = 0) by decide), if_neg (show ¬ ((2 : Int) = 1) by decide), if_pos rfl, Int.toNat_natCast, modify_at _ hx]
          injection he2 with he2 he6 he2'
          clear he6
          subst he2
          subst he2'
          rw [hs'] at hsh hLh
          clear hs' hN hx
          rcases q12 with q1 | ⟨q1, q2⟩
          all_goals
            go_wp2
            go_roundg gO
            case measure => have := hih.out; omega
            case rel =>
              refine ⟨i + 1, (y.setCell ⟨g2, i' * 5 + 3, none⟩ hg2B _).alloc _, _, by go_num, rfl, by show i + 1 + gO = row.length; have := hih.out; omega, (NetAt.set hNh.out hg2t (by decide) (hset 1).2).below (below_alloc (Below.refl _ _) _), hsh.out, hLh.out⟩
        · obtain ⟨g4, c4', he4, hg4l, hg4B, -, ⟨cs, hg4t⟩, hd4, hf4, hset⟩ := hN.r.out hx
          have hi4 : i' < l4.length := by
            injection he4 with _ h6 _
            omega
          have hs' : putOne s ⟨3, i', f2⟩ 1 = ⟨s.fl, s.ga, s.ou.set i' 1⟩ := by
            unfold putOne
            rw [if_neg (show ¬ ((3 : Int) = 0) by decide), if_neg (show ¬ ((3 : Int) = 1) by decide), if_neg (show ¬ ((3 : Int) = 2) by decide), Int.toNat_natCast]
          injection he4 with he4 he6 he4'
          clear he6
          subst he4
          subst he4'
          rw [hs'] at hsh hLh
          clear hs' hN hx
          rcases q12 with q1 | ⟨q1, q2⟩
          all_goals
            go_wp2
            go_roundg gO
            case measure => have := hih.out; omega
            case rel =>
              refine ⟨i + 1, (y.setCell ⟨g4, i', none⟩ hg4B _).alloc _, _, by go_num, rfl, by show i + 1 + gO = row.length; have := hih.out; omega, (NetAt.set hNh.out hg4t (by decide) (hset 1)).below (below_alloc (Below.refl _ _) _), hsh.out, hLh.out⟩
    · obtain rfl : i = row.length := by have := hi.out; omega
      rw [drop_end, injectF] at hL
      have hrbx := (y.ok.block (w.heap.size + 1 + 1) (by omega)).trans (hrb x2)
      have hLh := Lib.hid hL.out
      have hNh := Lib.hid hN
      clear hi hL hN hSh
      go_wp2
      ((try simp only [Exit.inBlock, Exit.then]); refine bodyPost_ret (results_cell_tmp_row rfl _ _ (w.heap.size + 1 + 1) _ _ _ _ rfl (set5 (.slice B0 l0.length d0) (.slice B1 l1.length d1) (.slice B2 l2.length d2) (.slice B3 l3.length d3) (.slice B4 l4.length d4) hrbx).1 Try.underlying27 rfl (by kernel_rfl)) rfl ?_)
      have hBy : Below w.heap.size w y.val := (bel x2).trans (y.ok.mono (by omega))
      rw [hLh.out] at hNh
      refine ⟨_, _, _, _, _, rfl, (hNh.out.r.vars (fun k hk hB => (set5 _ _ _ _ _ hrbx).2 k (by omega))).lower (by omega), ((((hBy.setCell (p := ⟨w.heap.size + 1 + 1, 0, none⟩) (by simp; omega) _).setCell (p := ⟨w.heap.size + 1 + 1, 1, none⟩) (by simp; omega) _).setCell (p := ⟨w.heap.size + 1 + 1, 2, none⟩) (by simp; omega) _).setCell (p := ⟨w.heap.size + 1 + 1, 3, none⟩) (by simp; omega) _).setCell (p := ⟨w.heap.size + 1 + 1, 4, none⟩) (by simp; omega) _⟩
set_option maxHeartbeats 16000000 in
theorem inject_ok_f (A0 A1 A2 A3 A4 : Option Addr) (c0 c1 c2 c3 c4 : Nat) (l0 l1 : List ByteArray) (l2 : List Flop) (l3 : List Gate) (l4 : List Int) (nn : Nat) (load : Int) (w : World)
    (h0 : Kd.C Kd.string w A0 l0.length l0) (h1 : Kd.C Kd.string w A1 l1.length l1) (h2 : Kd.C kFlop w A2 l2.length l2) (h3 : Kd.C kGate w A3 l3.length l3) (h4 : Kd.C (Kd.int .i64) w A4 l4.length l4)
    (m0 : l0.length * 16 ≤ 140737488355328) (m1 : l1.length * 16 ≤ 140737488355328) (m2 : l2.length * 48 ≤ 140737488355328) (m3 : l3.length * 40 ≤ 140737488355328) (m4 : l4.length * 8 ≤ 140737488355328) (m5 : ∀ x ∈ l3, x.f2.length * 8 ≤ 140737488355328)
    (rows : List (List Load)) (row : List Load) (hrow : rows[nn]? = some row) (hval : ∀ l ∈ row, ValidL ⟨l2, l3, l4⟩ l)
    (HL : ∀ W, Below w.heap.size w W → Calls Try.prog 27 #[.agg #[.slice A0 l0.length c0, .slice A1 l1.length c1, .slice A2 l2.length c2, .slice A3 l3.length c3, .slice A4 l4.length c4]] W fun e w' => ∃ v, e = .returned (.tuple #[v, .int .i64 0]) ∧ Kd.S (Kd.slice 77 kLoad) 75 w' W.heap.size (fun _ => True) v rows ∧ Below W.heap.size W w')
    (HC : ∀ W v, Kd.S (Kd.slice 77 kLoad) 75 W (w.heap.size + 3) (fun _ => True) v rows → Calls Try.prog 28 #[v, .agg #[.int .i64 (nn : Int), .int .i64 load, .bool false]] W fun e w' => e = .returned (.int .i64 0) ∧ Below W.heap.size W w') :
    Calls Try.prog 8 #[.agg #[.slice A0 l0.length c0, .slice A1 l1.length c1, .slice A2 l2.length c2, .slice A3 l3.length c3, .slice A4 l4.length c4], .agg #[.int .i64 (nn : Int), .int .i64 load, .bool false]] w fun e w' => ∃ v0 v1 v2 v3 v4 : Value, e = .returned (.tuple #[.agg #[v0, v1, v2, v3, v4], .int .i64 0]) ∧
      NetR (fun _ => True) w.heap.size w' v0 v1 v2 v3 v4 l0 l1 (injectF load 0 row 0 ⟨l2, l3, l4⟩).fl (injectF load 0 row 0 ⟨l2, l3, l4⟩).ga (injectF load 0 row 0 ⟨l2, l3, l4⟩).ou ∧ Below w.heap.size w w' := by
  have hu := Try.underlying27
  have huF := Try.underlying29
  have huL := Try.underlying77
  have huG := Try.underlying80
  have huP := Try.underlying82
  have hW0 : Below w.heap.size w (((w.alloc (.cells #[.slice A0 l0.length c0, .slice A1 l1.length c1, .slice A2 l2.length c2, .slice A3 l3.length c3, .slice A4 l4.length c4] 27)).alloc (.cells #[.int .i64 (nn : Int), .int .i64 load, .bool false] 29)).alloc (.cells #[.slice none 0 0, .slice none 0 0, .slice none 0 0, .slice none 0 0, .slice none 0 0] 27)) := (((Below.refl _ _).alloc (Nat.le_refl _) _).alloc (by simp) _).alloc (by simp; omega) _
  have bel : ∀ x : Under (((w.alloc (.cells #[.slice A0 l0.length c0, .slice A1 l1.length c1, .slice A2 l2.length c2, .slice A3 l3.length c3, .slice A4 l4.length c4] 27)).alloc (.cells #[.int .i64 (nn : Int), .int .i64 load, .bool false] 29)).alloc (.cells #[.slice none 0 0, .slice none 0 0, .slice none 0 0, .slice none 0 0, .slice none 0 0] 27)), Below w.heap.size w x.val := fun x => hW0.trans (x.ok.mono (by simp; omega))
  have hsz : ∀ x : Under (((w.alloc (.cells #[.slice A0 l0.length c0, .slice A1 l1.length c1, .slice A2 l2.length c2, .slice A3 l3.length c3, .slice A4 l4.length c4] 27)).alloc (.cells #[.int .i64 (nn : Int), .int .i64 load, .bool false] 29)).alloc (.cells #[.slice none 0 0, .slice none 0 0, .slice none 0 0, .slice none 0 0, .slice none 0 0] 27)), w.heap.size + 2 < x.val.heap.size := fun x => Nat.lt_of_lt_of_le (by simp) x.size
  have hb3 : w.heap.size + 3 ≤ ((((w.alloc (.cells #[.slice A0 l0.length c0, .slice A1 l1.length c1, .slice A2 l2.length c2, .slice A3 l3.length c3, .slice A4 l4.length c4] 27)).alloc (.cells #[.int .i64 (nn : Int), .int .i64 load, .bool false] 29)).alloc (.cells #[.slice none 0 0, .slice none 0 0, .slice none 0 0, .slice none 0 0, .slice none 0 0] 27))).heap.size := Nat.le_of_eq (by simp)
  have hrb : ∀ x : Under (((w.alloc (.cells #[.slice A0 l0.length c0, .slice A1 l1.length c1, .slice A2 l2.length c2, .slice A3 l3.length c3, .slice A4 l4.length c4] 27)).alloc (.cells #[.int .i64 (nn : Int), .int .i64 load, .bool false] 29)).alloc (.cells #[.slice none 0 0, .slice none 0 0, .slice none 0 0, .slice none 0 0, .slice none 0 0] 27)), x.val.heap[w.heap.size + 1 + 1]? = some (.cells #[.slice none 0 0, .slice none 0 0, .slice none 0 0, .slice none 0 0, .slice none 0 0] 27 (0, 0)) := fun x => (x.ok.block (w.heap.size + 1 + 1) (by simp)).trans (heap_alloc3_new w _ _ _)
  have hnl : nn < rows.length := (List.getElem?_eq_some_iff.1 hrow).1
  have hnl2 : (nn : Int) < (rows.length : Int) := by omega
  have hrowh := Lib.hid hrow
  have hvalh := Lib.hid hval
  clear hrow hval
  go_enter Try.func8, Try.ntmps8
  go_wp2_with (first
    | (go_at_call 27; refine (HL _ hW0).mono ?_; rintro e w1 ⟨v, rfl, hS1, hB1⟩; obtain ⟨x1, rfl⟩ : ∃ x : Under (((w.alloc (.cells #[.slice A0 l0.length c0, .slice A1 l1.length c1, .slice A2 l2.length c2, .slice A3 l3.length c3, .slice A4 l4.length c4] 27)).alloc (.cells #[.int .i64 (nn : Int), .int .i64 load, .bool false] 29)).alloc (.cells #[.slice none 0 0, .slice none 0 0, .slice none 0 0, .slice none 0 0, .slice none 0 0] 27)), w1 = x.val := ⟨⟨w1, hB1⟩, rfl⟩; have hs1 := hsz x1; have hS1' := Kd.S_lower (base' := w.heap.size + 3) hS1 hb3; have hs1a : w.heap.size < x1.val.heap.size := (by omega); have hs1b : w.heap.size + 1 < x1.val.heap.size := (by omega); have HC1 := HC _ _ hS1'; obtain ⟨AR, cR, rfl, _, hR1⟩ := Kd.S_reads hS1)
    | (go_at_call 28; refine HC1.mono ?_; rintro e w2 ⟨rfl, hB2⟩; obtain ⟨x2, rfl⟩ : ∃ x : Under (((w.alloc (.cells #[.slice A0 l0.length c0, .slice A1 l1.length c1, .slice A2 l2.length c2, .slice A3 l3.length c3, .slice A4 l4.length c4] 27)).alloc (.cells #[.int .i64 (nn : Int), .int .i64 load, .bool false] 29)).alloc (.cells #[.slice none 0 0, .slice none 0 0, .slice none 0 0, .slice none 0 0, .slice none 0 0] 27)), w2 = x.val := ⟨⟨w2, x1.ok.trans (hB2.mono x1.size)⟩, rfl⟩; have hs2 := hsz x2; have hR2 := Kd.C_below hR1 hB2; have hs2a : w.heap.size < x2.val.heap.size := (by omega); have hs2b : w.heap.size + 1 < x2.val.heap.size := (by omega))
    | (go_at_call 29; refine (copy_calls A0 A1 A2 A3 A4 c0 c1 c2 c3 c4 l0 l1 l2 l3 l4 x2.val (Kd.C_below h0 (bel x2)) (Kd.C_below h1 (bel x2)) (Kd.C_below h2 (bel x2)) (Kd.C_below h3 (bel x2)) (Kd.C_below h4 (bel x2)) m0 m1 m2 m3 m4 m5).mono ?_; rintro e w3 ⟨v0, v1, v2, v3, v4, rfl, hr0, hr1, hr2, hr3, hr4, hB3⟩; obtain ⟨x3, rfl⟩ : ∃ x : Under x2.val, w3 = x.val := ⟨⟨w3, hB3⟩, rfl⟩; obtain ⟨B0, d0, rfl⟩ := Kd.R_slice hr0; obtain ⟨B1, d1, rfl⟩ := Kd.R_slice hr1; obtain ⟨B2, d2, rfl⟩ := Kd.R_slice hr2; obtain ⟨B3, d3, rfl⟩ := Kd.S_slice hr3; obtain ⟨B4, d4, rfl⟩ := Kd.R_slice hr4; have hs3 := x3.size; obtain ⟨br, or, Al, cl, rfl, hbr, hcr, hCl⟩ := kd_rows hR2 hrowh.out; have hs3a : w.heap.size < x3.val.heap.size := (by omega); have hs3b : w.heap.size + 1 < x3.val.heap.size := (by omega); have hs3c : br < x3.val.heap.size := (by omega)))
  have hN0 : NetAt (fun _ => True) x2.val.heap.size (x3.val.alloc (.cells #[.slice B0 l0.length d0, .slice B1 l1.length d1, .slice B2 l2.length d2, .slice B3 l3.length d3, .slice B4 l4.length d4] 27)) x3.val.heap.size (.slice B0 l0.length d0) (.slice B1 l1.length d1) (.slice B2 l2.length d2) (.slice B3 l3.length d3) (.slice B4 l4.length d4) l0 l1 ⟨l2, l3, l4⟩ :=
    ⟨heap_alloc_new _ _, NetR.below ⟨Kd.R_mono hr0 (fun _ h => ⟨trivial, h⟩), Kd.R_mono hr1 (fun _ h => ⟨trivial, h⟩), hr2, Kd.S_mono hr3 (fun _ h => ⟨trivial, h⟩), hr4⟩ (below_alloc (Below.refl _ _) _)⟩
  have hg9B := x3.size
  clear hr0 hr1 hr2 hr3 hr4 hR1 hR2 hS1 hS1' HC1 HL HC hB1 hB2 hB3
  generalize hg9 : x3.val.heap.size = g9 at *
  have hml := (kd_len hCl).2
  have hcb := Lib.hid (show True from trivial)
  go_loopg [11, 12, 39] row.length (fun d _ _ t wr => ∃ (i : Nat) (y : Under x2.val) (s : NetP), t = .int .i64 i ∧ wr = y.val ∧ Aside (i + d = row.length) ∧ NetAt (fun _ => True) x2.val.heap.size y.val g9 (.slice B0 l0.length d0) (.slice B1 l1.length d1) (.slice B2 l2.length d2) (.slice B3 l3.length d3) (.slice B4 l4.length d4) l0 l1 s ∧
    Shape ⟨l2, l3, l4⟩ s ∧ Aside (injectF load 0 (row.drop i) i s = injectF load 0 row 0 ⟨l2, l3, l4⟩))
  case atStart => exact ⟨0, x3.alloc _, ⟨l2, l3, l4⟩, rfl, rfl, by show 0 + row.length = row.length; omega, hN0, Shape.refl _, rfl⟩
  case round =>
    clear hN0
    obtain ⟨i, y, s, rfl, rfl, hi, hN, hSh, hL⟩ := hrel
    obtain ⟨hgl, hn0, hn1, hn2, hn3, hn4⟩ := hN.cell
    have hyl := y.size
    have hya : w.heap.size < y.val.heap.size := by omega
    have hyb : w.heap.size + 1 < y.val.heap.size := by omega
    have hyc : w.heap.size + 1 + 1 < y.val.heap.size := by omega
    by_cases hlt : i < row.length
    · obtain ⟨l, hl⟩ := get_ex hlt
      obtain ⟨b, ob, rfl, hb, hk0, hk1, hk2⟩ := kd_load hCl hl
      obtain ⟨gO, rfl⟩ : ∃ m, gk = m + 1 := ⟨gk - 1, by have := hi.out; omega⟩
      have hvl := (hvalh.out l (List.mem_of_getElem? hl)).shape hSh
      have hby : b < y.val.heap.size := by omega
      have hbn : b ≠ y.val.heap.size := by omega
      rw [drop_cons hl, injectF] at hL
      have hih := Lib.hid hi.out
      have hLh := Lib.hid hL.out
      clear hi hL hl
      by_cases hskip : 0 ≤ load ∧ load ≠ (i : Int)
      · obtain ⟨hs0, hs1⟩ := hskip
        rw [if_pos ⟨hs0, hs1⟩] at hLh
        have q1 : (load != (i : Int)) = true := by simpa using hs1
        have q2 : decide (0 ≤ load) = true := decide_eq_true hs0
        have hsh := Lib.hid hSh
        have hNh := Lib.hid hN
        clear hs1 hSh hN hvl
        go_wp2
        go_roundg gO
        case measure => have := hih.out; omega
        case rel => exact ⟨i + 1, y.alloc _, s, by go_num, rfl, by show i + 1 + gO = row.length; have := hih.out; omega, hNh.out.below (below_alloc (Below.refl _ _) _), hsh.out, hLh.out⟩
      · rw [if_neg hskip] at hLh
        have q12 : (decide (0 ≤ load) = false) ∨ (decide (0 ≤ load) = true ∧ (load != (i : Int)) = false) := by
          by_cases h : 0 ≤ load
          · exact .inr ⟨decide_eq_true h, by simpa using fun e => hskip ⟨h, e⟩⟩
          · exact .inl (decide_eq_false h)
        have hput := putOne_shape s l 0
        have hsh := Lib.hid (hSh.trans hput)
        have hNh := Lib.hid hN
        obtain ⟨f0, f1, f2⟩ := l
        simp only [ValidL] at hvl
        clear hskip hput hSh
        rcases hvl with ⟨rfl, i', k', x, rfl, rfl, hx, hk⟩ | ⟨rfl, i', x, rfl, hx⟩ | ⟨rfl, i', x, rfl, hx⟩ | ⟨rfl, i', rfl, hx⟩
        · obtain ⟨g3, c3', gi, ci, he3, hc3, hci, hfi, hg3l, hgil, hg3B, hgiB, -, hg3t, ⟨cs, hgit⟩, hset⟩ := hN.r.pin hx hk
          have hi3 : i' < l3.length := by
            have h5 := (List.getElem?_eq_some_iff.1 hx).1
            injection he3 with _ h6 _
            omega
          have hs' : putOne s ⟨0, i', k'⟩ 0 = ⟨s.fl, s.ga.set i' ⟨x.f0, x.f1, x.f2.set k' 0⟩, s.ou⟩ := by
            unfold putOne
            rw [if_pos rfl, Int.toNat_natCast, Int.toNat_natCast, modify_at _ hx]
          injection he3 with he3 he6 he3'
          clear he6
          subst he3
          subst he3'
          rw [hs'] at hsh hLh
          have hg9t := hN.blk
          have hx2 := Lib.hid hx
          clear hs' hN hx hg3t
          rcases q12 with q1 | ⟨q1, q2⟩
          all_goals
            go_wp2
            refine wp_region_splitT (fun w' => ∃ z : Under (y.val.alloc (.cells #[.int .i64 0, .int .i64 i', .int .i64 k'] 77)), w' = z.val) [true, true, true, true, true, true, true, true, true, true, false, false] (by kernel_rfl) (by kernel_rfl) (by decide) ⟨(Under.refl _).drew, rfl⟩ (fun _ _ d _ _ h => by cases d <;> exact h) ?_
            simp only [pickB, dropB]
            repeat (go_big_quiet_step (fail))
            refine wpQuiet_nil ?_
            refine wpListT_step (fun Q' hQ' => ?_)
            go_wp2_with fail
            refine ⟨⟨(Under.refl _).drew, rfl⟩, ?_⟩
            refine wpListT_last (fun Q' hQ' => ?_)
            go_wp2
            go_roundg gO
            case measure => have := hih.out; omega
            case rel =>
              refine ⟨i + 1, ((y.setCell ⟨gi, k', none⟩ hgiB _).alloc _).drew, _, by go_num, rfl, by show i + 1 + gO = row.length; have := hih.out; omega, ((NetAt.set hNh.out hgit (by decide) (hset 0)).below (below_alloc (Below.refl _ _) _)).below (below_drew (Below.refl _ _)), hsh.out, hLh.out⟩
        · obtain ⟨g2, c2', he2, hg2l, hg2B, -, ⟨cs, hg2t⟩, hd2, hd3, hf2, hf3, hset⟩ := hN.r.flop hx
          have hi2 : i' < l2.length := by
            have h5 := (List.getElem?_eq_some_iff.1 hx).1
            injection he2 with _ h6 _
            omega
          have hs' : putOne s ⟨1, i', f2⟩ 0 = ⟨s.fl.set i' ⟨x.f0, x.f1, 0, x.f3, x.f4⟩, s.ga, s.ou⟩ := by
            unfold putOne
            rw [if_neg (show ¬ ((1 : Int) = 0) by decide), if_pos rfl, Int.toNat_natCast, modify_at _ hx]
          injection he2 with he2 he6 he2'
          clear he6
          subst he2
          subst he2'
          rw [hs'] at hsh hLh
          clear hs' hN hx
          rcases q12 with q1 | ⟨q1, q2⟩
          all_goals
            go_wp2
            go_roundg gO
            case measure => have := hih.out; omega
            case rel =>
              refine ⟨i + 1, (y.setCell ⟨g2, i' * 5 + 2, none⟩ hg2B _).alloc _, _, by go_num, rfl, by show i + 1 + gO = row.length; have := hih.out; omega, (NetAt.set hNh.out hg2t (by decide) (hset 0).1).below (below_alloc (Below.refl _ _) _), hsh.out, hLh.out⟩
        · obtain ⟨g2, c2', he2, hg2l, hg2B, -, ⟨cs, hg2t⟩, hd2, hd3, hf2, hf3, hset⟩ := hN.r.flop hx
          have hi2 : i' < l2.length := by
            have h5 := (List.getElem?_eq_some_iff.1 hx).1
            injection he2 with _ h6 _
            omega
          have hs' : putOne s ⟨2, i', f2⟩ 0 = ⟨s.fl.set i' ⟨x.f0, x.f1, x.f2, 0, x.f4⟩, s.ga, s.ou⟩ := by
            unfold putOne
            rw [if_neg (show ¬ ((2 : Int) = 0) by decide), if_neg (show ¬ ((2 : Int) = 1) by decide), if_pos rfl, Int.toNat_natCast, modify_at _ hx]
          injection he2 with he2 he6 he2'
          clear he6
          subst he2
          subst he2'
          rw [hs'] at hsh hLh
          clear hs' hN hx
          rcases q12 with q1 | ⟨q1, q2⟩
          all_goals
            go_wp2
            go_roundg gO
            case measure => have := hih.out; omega
            case rel =>
              refine ⟨i + 1, (y.setCell ⟨g2, i' * 5 + 3, none⟩ hg2B _).alloc _, _, by go_num, rfl, by show i + 1 + gO = row.length; have := hih.out; omega, (NetAt.set hNh.out hg2t (by decide) (hset 0).2).below (below_alloc (Below.refl _ _) _), hsh.out, hLh.out⟩
        · obtain ⟨g4, c4', he4, hg4l, hg4B, -, ⟨cs, hg4t⟩, hd4, hf4, hset⟩ := hN.r.out hx
          have hi4 : i' < l4.length := by
            injection he4 with _ h6 _
            omega
          have hs' : putOne s ⟨3, i', f2⟩ 0 = ⟨s.fl, s.ga, s.ou.set i' 0⟩ := by
            unfold putOne
            rw [if_neg (show ¬ ((3 : Int) = 0) by decide), if_neg (show ¬ ((3 : Int) = 1) by decide), if_neg (show ¬ ((3 : Int) = 2) by decide), Int.toNat_natCast]
          injection he4 with he4 he6 he4'
          clear he6
          subst he4
          subst he4'
          rw [hs'] at hsh hLh
          clear hs' hN hx
          rcases q12 with q1 | ⟨q1, q2⟩
          all_goals
            go_wp2
            go_roundg gO
            case measure => have := hih.out; omega
            case rel =>
              refine ⟨i + 1, (y.setCell ⟨g4, i', none⟩ hg4B _).alloc _, _, by go_num, rfl, by show i + 1 + gO = row.length; have := hih.out; omega, (NetAt.set hNh.out hg4t (by decide) (hset 0)).below (below_alloc (Below.refl _ _) _), hsh.out, hLh.out⟩
    · obtain rfl : i = row.length := by have := hi.out; omega
      rw [drop_end, injectF] at hL
      have hrbx := (y.ok.block (w.heap.size + 1 + 1) (by omega)).trans (hrb x2)
      have hLh := Lib.hid hL.out
      have hNh := Lib.hid hN
      clear hi hL hN hSh
      go_wp2
      ((try simp only [Exit.inBlock, Exit.then]); refine bodyPost_ret (results_cell_tmp_row rfl _ _ (w.heap.size + 1 + 1) _ _ _ _ rfl (set5 (.slice B0 l0.length d0) (.slice B1 l1.length d1) (.slice B2 l2.length d2) (.slice B3 l3.length d3) (.slice B4 l4.length d4) hrbx).1 Try.underlying27 rfl (by kernel_rfl)) rfl ?_)
      have hBy : Below w.heap.size w y.val := (bel x2).trans (y.ok.mono (by omega))
      rw [hLh.out] at hNh
      refine ⟨_, _, _, _, _, rfl, (hNh.out.r.vars (fun k hk hB => (set5 _ _ _ _ _ hrbx).2 k (by omega))).lower (by omega), ((((hBy.setCell (p := ⟨w.heap.size + 1 + 1, 0, none⟩) (by simp; omega) _).setCell (p := ⟨w.heap.size + 1 + 1, 1, none⟩) (by simp; omega) _).setCell (p := ⟨w.heap.size + 1 + 1, 2, none⟩) (by simp; omega) _).setCell (p := ⟨w.heap.size + 1 + 1, 3, none⟩) (by simp; omega) _).setCell (p := ⟨w.heap.size + 1 + 1, 4, none⟩) (by simp; omega) _⟩
end Go.Proofs.Ytimjccfpobhpeaa
namespace Go.Proofs.Ytimjccfpobhpeaa
open Go.RowKit Go.Proofs.YtimjccfpobhpeaaW.PrintWords Go.Proofs.Ytimjccfpobhpeaa.PF
set_option maxRecDepth 100000
def newv (net load val : Int) (m : List ((Int × Int × Int) × Int)) (l : Load) (x : Int) : Int := if putC net load x ((mget m (keyL l)).getD 0) = true then val else x
end Go.Proofs.Ytimjccfpobhpeaa
namespace Go.Proofs.Ytimjccfpobhpeaa
open Go.RowKit Go.Proofs.YtimjccfpobhpeaaW.PrintWords Go.Proofs.Ytimjccfpobhpeaa.PF
set_option maxRecDepth 100000
section
variable (nv : Load → Int → Int)
def brPins (i : Nat) : List Int → Nat → List Int
  | [], _ => []
  | x :: r, k => nv ⟨0, i, k⟩ x :: brPins i r (k + 1)
def brGates : List GateS → Nat → List GateS
  | [], _ => []
  | g :: r, i => ⟨g.f0, g.f1, brPins nv i g.f2 0⟩ :: brGates r (i + 1)
def brFlops : List FlopS → Nat → List FlopS
  | [], _ => []
  | f :: r, i => ⟨f.f0, f.f1, nv ⟨1, i, 0⟩ f.f2, nv ⟨2, i, 0⟩ f.f3, f.f4⟩ :: brFlops r (i + 1)
def brOuts : List Int → Nat → List Int
  | [], _ => []
  | x :: r, i => nv ⟨3, i, 0⟩ x :: brOuts r (i + 1)
theorem brPins_at (i : Nat) : ∀ (xs : List Int) (k0 k : Nat), (brPins nv i xs k0)[k]? = xs[k]?.map (nv ⟨0, i, (k0 + k : Nat)⟩)
  | [], k0, k => by simp [brPins]
  | x :: r, k0, 0 => by simp [brPins]
  | x :: r, k0, k + 1 => by
    rw [brPins, List.getElem?_cons_succ, List.getElem?_cons_succ, brPins_at i r (k0 + 1) k, show k0 + 1 + k = k0 + (k + 1) by omega]
theorem brPins_len (i : Nat) : ∀ (xs : List Int) (k0 : Nat), (brPins nv i xs k0).length = xs.length
  | [], k0 => rfl
  | x :: r, k0 => by rw [brPins, List.length_cons, brPins_len i r, List.length_cons]
theorem brGates_at : ∀ (xs : List GateS) (i0 i : Nat), (brGates nv xs i0)[i]? = xs[i]?.map (fun g => ⟨g.f0, g.f1, brPins nv (i0 + i) g.f2 0⟩)
  | [], i0, i => by simp [brGates]
  | x :: r, i0, 0 => by simp [brGates]
  | x :: r, i0, i + 1 => by
    rw [brGates, List.getElem?_cons_succ, List.getElem?_cons_succ, brGates_at r (i0 + 1) i, show i0 + 1 + i = i0 + (i + 1) by omega]
theorem brGates_len : ∀ (xs : List GateS) (i0 : Nat), (brGates nv xs i0).length = xs.length
  | [], i0 => rfl
  | x :: r, i0 => by rw [brGates, List.length_cons, brGates_len r, List.length_cons]
theorem brFlops_at : ∀ (xs : List FlopS) (i0 i : Nat), (brFlops nv xs i0)[i]? = xs[i]?.map (fun f => ⟨f.f0, f.f1, nv ⟨1, (i0 + i : Nat), 0⟩ f.f2, nv ⟨2, (i0 + i : Nat), 0⟩ f.f3, f.f4⟩)
  | [], i0, i => by simp [brFlops]
  | x :: r, i0, 0 => by simp [brFlops]
  | x :: r, i0, i + 1 => by
    rw [brFlops, List.getElem?_cons_succ, List.getElem?_cons_succ, brFlops_at r (i0 + 1) i, show i0 + 1 + i = i0 + (i + 1) by omega]
theorem brFlops_len : ∀ (xs : List FlopS) (i0 : Nat), (brFlops nv xs i0).length = xs.length
  | [], i0 => rfl
  | x :: r, i0 => by rw [brFlops, List.length_cons, brFlops_len r, List.length_cons]
theorem brOuts_at : ∀ (xs : List Int) (k0 k : Nat), (brOuts nv xs k0)[k]? = xs[k]?.map (nv ⟨3, (k0 + k : Nat), 0⟩)
  | [], k0, k => by simp [brOuts]
  | x :: r, k0, 0 => by simp [brOuts]
  | x :: r, k0, k + 1 => by
    rw [brOuts, List.getElem?_cons_succ, List.getElem?_cons_succ, brOuts_at r (k0 + 1) k, show k0 + 1 + k = k0 + (k + 1) by omega]
theorem brOuts_len : ∀ (xs : List Int) (k0 : Nat), (brOuts nv xs k0).length = xs.length
  | [], k0 => rfl
  | x :: r, k0 => by rw [brOuts, List.length_cons, brOuts_len r, List.length_cons]
end
end Go.Proofs.Ytimjccfpobhpeaa
namespace Go.Proofs.Ytimjccfpobhpeaa.PF
open Go.RowKit Go.Proofs.YtimjccfpobhpeaaW.PrintWords Go.Proofs.YtimjccfpobhpeaaW.PrintLast Go.Proofs.YtimjccfpobhpeaaW.PrintMore
set_option linter.unusedVariables false
set_option linter.unusedSimpArgs false
def slices_Clone_string_string.f (l0 : List ByteArray) : Option (List ByteArray) := if l0.length * 16 ≤ 140737488355328 then some l0 else none
theorem slices_Clone_string_string.calls (A0 : Option Addr) (c0 : Nat) (l0 : List ByteArray) (r : List ByteArray) (w : World) (hr0 : Kd.C Kd.string w A0 l0.length l0) (hc0 : l0.length ≤ c0) (h : slices_Clone_string_string.f l0 = some r) :
    Calls Try.prog 30 #[.slice A0 l0.length c0] w fun e w' => ∃ v0_ : Value, e = .returned (v0_) ∧ Kd.R Kd.string 9 w' w.heap.size (fun _ => True) v0_ r ∧ Below w.heap.size w w' := by
  have h2 : (if l0.length * 16 ≤ 140737488355328 then some l0 else none) = some r := h
  by_cases hc : l0.length * 16 ≤ 140737488355328
  · rw [if_pos hc] at h2
    obtain rfl := Option.some.inj h2
    exact (clone_strs A0 c0 l0 w hr0 hc).mono fun e w' ⟨v, he, hR, hB⟩ => ⟨v, he, hR, hB⟩
  · rw [if_neg hc] at h2
    cases h2
end Go.Proofs.Ytimjccfpobhpeaa.PF
namespace Go.Proofs.Ytimjccfpobhpeaa.PF
open Go.RowKit Go.Proofs.YtimjccfpobhpeaaW.PrintWords Go.Proofs.YtimjccfpobhpeaaW.PrintLast Go.Proofs.YtimjccfpobhpeaaW.PrintMore
set_option linter.unusedVariables false
set_option linter.unusedSimpArgs false
def graph_Names.f (l0 : List ByteArray) : Option (Int) := some (namesF [] l0)
theorem graph_Names.calls (A0 : Option Addr) (c0 : Nat) (l0 : List ByteArray) (r : Int) (w : World) (hr0 : Kd.C Kd.string w A0 l0.length l0) (hc0 : l0.length ≤ c0) (h : graph_Names.f l0 = some r) :
    Calls Try.prog 31 #[.slice A0 l0.length c0] w fun e w' => e = .returned (.int .i64 r) ∧ Below w.heap.size w w' := by
  obtain rfl := Option.some.inj h
  exact (names_calls A0 c0 l0 w hr0).mono fun e w' ⟨he, hw⟩ => ⟨he, hw.below⟩
end Go.Proofs.Ytimjccfpobhpeaa.PF
namespace Go.Proofs.Ytimjccfpobhpeaa.PF
open Go.RowKit Go.Proofs.YtimjccfpobhpeaaW.PrintWords Go.Proofs.YtimjccfpobhpeaaW.PrintLast Go.Proofs.YtimjccfpobhpeaaW.PrintMore
set_option linter.unusedVariables false
set_option linter.unusedSimpArgs false
def netlist_First.f (l0_0 : List ByteArray) (l0_1 : List ByteArray) (l0_2 : List (S82)) (l0_3 : List (S80)) (l0_4 : List Int) : Option (Int) := some (wrap64 ((wrap64 (2 + (l0_0.length : Int))) + (l0_2.length : Int)))
set_option maxHeartbeats 8000000 in
set_option maxRecDepth 100000 in
theorem netlist_First.calls (A0_0 : Option Addr) (c0_0 : Nat) (l0_0 : List ByteArray) (A0_1 : Option Addr) (c0_1 : Nat) (l0_1 : List ByteArray) (A0_2 : Option Addr) (c0_2 : Nat) (l0_2 : List (S82)) (A0_3 : Option Addr) (c0_3 : Nat) (l0_3 : List (S80)) (A0_4 : Option Addr) (c0_4 : Nat) (l0_4 : List Int) (r : Int) (w : World) (hr0_0 : Kd.C Kd.string w A0_0 l0_0.length l0_0) (hc0_0 : l0_0.length ≤ c0_0) (hr0_1 : Kd.C Kd.string w A0_1 l0_1.length l0_1) (hc0_1 : l0_1.length ≤ c0_1) (hr0_2 : Kd.C k82 w A0_2 l0_2.length l0_2) (hc0_2 : l0_2.length ≤ c0_2) (hr0_3 : Kd.C k80 w A0_3 l0_3.length l0_3) (hc0_3 : l0_3.length ≤ c0_3) (hr0_4 : Kd.C (Kd.int .i64) w A0_4 l0_4.length l0_4) (hc0_4 : l0_4.length ≤ c0_4) (h : netlist_First.f l0_0 l0_1 l0_2 l0_3 l0_4 = some r) :
    Calls Try.prog 32 #[.agg #[.slice A0_0 l0_0.length c0_0, .slice A0_1 l0_1.length c0_1, .slice A0_2 l0_2.length c0_2, .slice A0_3 l0_3.length c0_3, .slice A0_4 l0_4.length c0_4]] w fun e w' => e = .returned (.int .i64 r) ∧ Below w.heap.size w w' := by
  have hu27 := Try.underlying27
  have HR0_0 := Aside0.mk hr0_0
  have HC0_0 := Aside0.mk hc0_0
  clear hr0_0 hc0_0
  have HR0_1 := Aside0.mk hr0_1
  have HC0_1 := Aside0.mk hc0_1
  clear hr0_1 hc0_1
  have HR0_2 := Aside0.mk hr0_2
  have HC0_2 := Aside0.mk hc0_2
  clear hr0_2 hc0_2
  have HR0_3 := Aside0.mk hr0_3
  have HC0_3 := Aside0.mk hc0_3
  clear hr0_3 hc0_3
  have HR0_4 := Aside0.mk hr0_4
  have HC0_4 := Aside0.mk hc0_4
  clear hr0_4 hc0_4
  have HB := Aside0.mk (Below.refl w.heap.size w)
  have H : (some (wrap64 ((wrap64 (2 + (l0_0.length : Int))) + (l0_2.length : Int)))) = some r := h
  clear h
  obtain rfl := Option.some.inj H
  go_enter Try.func32, Try.ntmps32
  go_wp2_with (first | ((with_reducible refine gate_dst (N := 1) rfl ?_); refine box_event ?hg (N := 1) ?hd (cs := #[.slice A0_0 l0_0.length c0_0, .slice A0_1 l0_1.length c0_1, .slice A0_2 l0_2.length c0_2, .slice A0_3 l0_3.length c0_3, .slice A0_4 l0_4.length c0_4]) (t := 27) ?hr ?_; (case hd => rfl); (case hg => rfl); (case hr => first | (go_simp; done) | (go_simp; rfl)); intro gb101 hg w2 hbox hb; have n0_ := Aside0.mk (below_step (by repeat (first | (with_reducible first | exact HB.out | apply below_alloc | apply pw_below_drewN | apply below_drew1) | exact HB.out)) hb); have n1_ := Aside0.mk (hbox); have n2_ := Aside0.mk ((by rw [hg]; exact (below_size (by repeat (first | (with_reducible first | exact HB.out | apply below_alloc | apply pw_below_drewN | apply below_drew1) | exact HB.out))) : w.heap.size ≤ gb101)); have n3_ := Aside0.mk ((by rw [hg]; exact (below_size (by repeat (first | (with_reducible first | exact HB.out | apply below_alloc | apply pw_below_drewN | apply below_drew1) | exact HB.out))) : w.heap.size ≤ gb101)); clear HB; have HB := n0_; have BK101 := n1_; have GW101 := n2_; have GE101 := n3_; clear n0_ n1_ n2_ n3_; clear hb hbox hg; have hcz3_0 : w2.cell? ⟨gb101, 0, none⟩ = some (.slice A0_0 l0_0.length c0_0) := (blk_cell BK101.out 0).trans rfl; have hcz3_1 : w2.cell? ⟨gb101, 1, none⟩ = some (.slice A0_1 l0_1.length c0_1) := (blk_cell BK101.out 1).trans rfl; have hcz3_2 : w2.cell? ⟨gb101, 2, none⟩ = some (.slice A0_2 l0_2.length c0_2) := (blk_cell BK101.out 2).trans rfl; have hcz3_3 : w2.cell? ⟨gb101, 3, none⟩ = some (.slice A0_3 l0_3.length c0_3) := (blk_cell BK101.out 3).trans rfl; have hcz3_4 : w2.cell? ⟨gb101, 4, none⟩ = some (.slice A0_4 l0_4.length c0_4) := (blk_cell BK101.out 4).trans rfl; have hfz3_0 := blk_frozen BK101.out 0; have hfz3_1 := blk_frozen BK101.out 1; have hfz3_2 := blk_frozen BK101.out 2; have hfz3_3 := blk_frozen BK101.out 3; have hfz3_4 := blk_frozen BK101.out 4))
  go_ret
  exact ⟨by first | rfl | (simp [errW_none, errW_some] <;> rfl) | (simp [*, errW_none, errW_some] <;> rfl), by repeat (first | (with_reducible first | exact HB.out | apply below_alloc | apply pw_below_drewN | apply below_drew1 | refine below_set ?_ GE101.out) | exact HB.out)⟩
end Go.Proofs.Ytimjccfpobhpeaa.PF
namespace Go.Proofs.Ytimjccfpobhpeaa.PF
open Go.RowKit Go.Proofs.YtimjccfpobhpeaaW.PrintWords Go.Proofs.YtimjccfpobhpeaaW.PrintLast Go.Proofs.YtimjccfpobhpeaaW.PrintMore
set_option linter.unusedVariables false
set_option linter.unusedSimpArgs false
def netlist_Mask.f (a0 : Int) : Option (Int) := some (if a0 < 0 then 0 else if 6 < a0 then 0 else if a0 = 6 then 18446744073709551615 else if a0 = 5 then 4294967295 else if a0 = 4 then 65535 else if a0 = 3 then 255 else if a0 = 2 then 15 else if a0 = 1 then 3 else 1)
set_option maxHeartbeats 2000000 in
theorem netlist_Mask.calls (a0 : Int) (r : Int) (w : World) (h : netlist_Mask.f a0 = some r) :
    Calls Try.prog 33 #[.int .i64 a0] w fun e w' => e = .returned (.int .u64 r) ∧ Below w.heap.size w w' := by
  obtain rfl := Option.some.inj h
  by_cases h1 : a0 < 0
  · rw [if_pos h1]
    go_enter Try.func33, Try.ntmps33
    go_wp2
    all_goals (go_ret; exact ⟨rfl, Below.refl _ _⟩)
  · rw [if_neg h1]
    by_cases h2 : 6 < a0
    · rw [if_pos h2]
      have q1 : decide (a0 < 0) = false := decide_eq_false h1
      have q2 : decide (6 < a0) = true := decide_eq_true h2
      clear h
      go_enter Try.func33, Try.ntmps33
      go_wp2
      all_goals (go_ret; exact ⟨rfl, Below.refl _ _⟩)
    · rw [if_neg h2]
      clear h
      have hc : a0 = 0 ∨ a0 = 1 ∨ a0 = 2 ∨ a0 = 3 ∨ a0 = 4 ∨ a0 = 5 ∨ a0 = 6 := by omega
      clear h1 h2
      rcases hc with rfl | rfl | rfl | rfl | rfl | rfl | rfl
      all_goals
        go_enter Try.func33, Try.ntmps33
        go_wp2
        (go_ret; exact ⟨rfl, Below.refl _ _⟩)
end Go.Proofs.Ytimjccfpobhpeaa.PF
namespace Go.Proofs.Ytimjccfpobhpeaa.PF
open Go.RowKit Go.Proofs.YtimjccfpobhpeaaW.PrintWords Go.Proofs.YtimjccfpobhpeaaW.PrintLast Go.Proofs.YtimjccfpobhpeaaW.PrintMore
set_option linter.unusedVariables false
set_option linter.unusedSimpArgs false
def netlist_Nets.f (l0_0 : List ByteArray) (l0_1 : List ByteArray) (l0_2 : List (S82)) (l0_3 : List (S80)) (l0_4 : List Int) : Option (Int) := (netlist_First.f l0_0 l0_1 l0_2 l0_3 l0_4).bind fun t103 => (some (wrap64 (t103 + (l0_3.length : Int))))
set_option maxHeartbeats 8000000 in
set_option maxRecDepth 100000 in
theorem netlist_Nets.calls (A0_0 : Option Addr) (c0_0 : Nat) (l0_0 : List ByteArray) (A0_1 : Option Addr) (c0_1 : Nat) (l0_1 : List ByteArray) (A0_2 : Option Addr) (c0_2 : Nat) (l0_2 : List (S82)) (A0_3 : Option Addr) (c0_3 : Nat) (l0_3 : List (S80)) (A0_4 : Option Addr) (c0_4 : Nat) (l0_4 : List Int) (r : Int) (w : World) (hr0_0 : Kd.C Kd.string w A0_0 l0_0.length l0_0) (hc0_0 : l0_0.length ≤ c0_0) (hr0_1 : Kd.C Kd.string w A0_1 l0_1.length l0_1) (hc0_1 : l0_1.length ≤ c0_1) (hr0_2 : Kd.C k82 w A0_2 l0_2.length l0_2) (hc0_2 : l0_2.length ≤ c0_2) (hr0_3 : Kd.C k80 w A0_3 l0_3.length l0_3) (hc0_3 : l0_3.length ≤ c0_3) (hr0_4 : Kd.C (Kd.int .i64) w A0_4 l0_4.length l0_4) (hc0_4 : l0_4.length ≤ c0_4) (h : netlist_Nets.f l0_0 l0_1 l0_2 l0_3 l0_4 = some r) :
    Calls Try.prog 52 #[.agg #[.slice A0_0 l0_0.length c0_0, .slice A0_1 l0_1.length c0_1, .slice A0_2 l0_2.length c0_2, .slice A0_3 l0_3.length c0_3, .slice A0_4 l0_4.length c0_4]] w fun e w' => e = .returned (.int .i64 r) ∧ Below w.heap.size w w' := by
  have hu27 := Try.underlying27
  have HR0_0 := Aside0.mk hr0_0
  have HC0_0 := Aside0.mk hc0_0
  clear hr0_0 hc0_0
  have HR0_1 := Aside0.mk hr0_1
  have HC0_1 := Aside0.mk hc0_1
  clear hr0_1 hc0_1
  have HR0_2 := Aside0.mk hr0_2
  have HC0_2 := Aside0.mk hc0_2
  clear hr0_2 hc0_2
  have HR0_3 := Aside0.mk hr0_3
  have HC0_3 := Aside0.mk hc0_3
  clear hr0_3 hc0_3
  have HR0_4 := Aside0.mk hr0_4
  have HC0_4 := Aside0.mk hc0_4
  clear hr0_4 hc0_4
  have HB := Aside0.mk (Below.refl w.heap.size w)
  have H : ((netlist_First.f l0_0 l0_1 l0_2 l0_3 l0_4).bind fun t103 => (some (wrap64 (t103 + (l0_3.length : Int))))) = some r := h
  clear h
  replace H := Option.bind_eq_some_iff.mp H
  obtain ⟨t103, A20, H⟩ := H
  replace H : (some (wrap64 (t103 + (l0_3.length : Int)))) = some r := H
  have A2 := Aside0.mk A20
  clear A20
  obtain rfl := Option.some.inj H
  go_enter Try.func52, Try.ntmps52
  try go_wp2_with (first | ((with_reducible refine gate_dst (N := 1) rfl ?_); refine box_event ?hg (N := 1) ?hd (cs := #[.slice A0_0 l0_0.length c0_0, .slice A0_1 l0_1.length c0_1, .slice A0_2 l0_2.length c0_2, .slice A0_3 l0_3.length c0_3, .slice A0_4 l0_4.length c0_4]) (t := 27) ?hr ?_; (case hd => rfl); (case hg => rfl); (case hr => first | (go_simp; done) | (go_simp; rfl)); intro gb102 hg w3 hbox hb; have n0_ := Aside0.mk (below_step (by repeat (first | (with_reducible first | exact HB.out | apply below_alloc | apply pw_below_drewN | apply below_drew1) | exact HB.out)) hb); have n1_ := Aside0.mk (hbox); have n2_ := Aside0.mk ((by rw [hg]; exact (below_size (by repeat (first | (with_reducible first | exact HB.out | apply below_alloc | apply pw_below_drewN | apply below_drew1) | exact HB.out))) : w.heap.size ≤ gb102)); have n3_ := Aside0.mk ((by rw [hg]; exact (below_size (by repeat (first | (with_reducible first | exact HB.out | apply below_alloc | apply pw_below_drewN | apply below_drew1) | exact HB.out))) : w.heap.size ≤ gb102)); clear HB; have HB := n0_; have BK102 := n1_; have GW102 := n2_; have GE102 := n3_; clear n0_ n1_ n2_ n3_; clear hb hbox hg))
  have n0_ := Aside0.mk (blk_drew BK102.out)
  have n1_ := Aside0.mk (below_drew1 HB.out)
  clear BK102
  clear HB
  have BK102 := n0_
  have HB := n1_
  clear n0_ n1_
  refine start_ (n := 7) (S := fun w' => w'.cell? ⟨gb102, 0, none⟩ = some (.slice A0_0 l0_0.length c0_0) ∧ w'.cell? ⟨gb102, 1, none⟩ = some (.slice A0_1 l0_1.length c0_1) ∧ w'.cell? ⟨gb102, 2, none⟩ = some (.slice A0_2 l0_2.length c0_2) ∧ w'.cell? ⟨gb102, 3, none⟩ = some (.slice A0_3 l0_3.length c0_3) ∧ w'.cell? ⟨gb102, 4, none⟩ = some (.slice A0_4 l0_4.length c0_4)) (ds := []) #[false, false, false, false, false, false, false] (by kernel_rfl) rfl rfl ⟨(blk_cell BK102.out 0).trans rfl, (blk_cell BK102.out 1).trans rfl, (blk_cell BK102.out 2).trans rfl, (blk_cell BK102.out 3).trans rfl, (blk_cell BK102.out 4).trans rfl⟩ (fun hHeld => ?_)
  generalize w3.drew = w4 at BK102 HB hHeld ⊢
  refine pure_ (i := 2) (N := some 5) (v := ?_) (a' := ?_) #[false, false, true, false, false, false, false] rfl rfl (by kernel_rfl) (fun _ _ _ h => h) (Or.inl ⟨by rfl, ?_⟩) ?_ ?_
  rotate_left
  · intro w'
    go_simp
    with_reducible rfl
  rotate_left
  · simp only [Act.put, List.setIfInBounds_toArray, List.set_cons_zero, List.set_cons_succ, i64_w, i32_w]
    rfl
  refine take_ (i := 0) (N := some 3) (v := ?_) (a' := ?_) #[true, false, true, false, false, false, false] rfl rfl (by kernel_rfl) (fun _ _ _ h => h) (Or.inl ⟨by rfl, ?_⟩) hHeld ?_ ?_
  rotate_left
  · rintro w' ⟨s0, s1, s2, s3, s4⟩
    go_simp
    with_reducible rfl
  rotate_left
  · simp only [Act.put, List.setIfInBounds_toArray, List.set_cons_zero, List.set_cons_succ, i64_w, i32_w]
    rfl
  refine take_ (i := 3) (N := some 6) (v := ?_) (a' := ?_) #[true, false, true, true, false, false, false] rfl rfl (by kernel_rfl) (fun _ _ _ h => h) (Or.inl ⟨by rfl, ?_⟩) hHeld ?_ ?_
  rotate_left
  · rintro w' ⟨s0, s1, s2, s3, s4⟩
    go_simp
    with_reducible rfl
  rotate_left
  · simp only [Act.put, List.setIfInBounds_toArray, List.set_cons_zero, List.set_cons_succ, i64_w, i32_w]
    rfl
  refine pure_ (i := 4) (N := some 7) (v := ?_) (a' := ?_) #[true, false, true, true, true, false, false] rfl rfl (by kernel_rfl) (fun _ _ _ h => h) (Or.inl ⟨by rfl, ?_⟩) ?_ ?_
  rotate_left
  · intro w'
    go_simp
    with_reducible rfl
  rotate_left
  · simp only [Act.put, List.setIfInBounds_toArray, List.set_cons_zero, List.set_cons_succ, i64_w, i32_w]
    rfl
  refine one_ (i := 1) (N := some 4) #[true, true, true, true, true, false, false] rfl rfl (by kernel_rfl) (by decide) (fun K hK => ?_)
  refine goes_ Try.func32 (by kernel_rfl) rfl #[.agg #[.slice A0_0 l0_0.length c0_0, .slice A0_1 l0_1.length c0_1, .slice A0_2 l0_2.length c0_2, .slice A0_3 l0_3.length c0_3, .slice A0_4 l0_4.length c0_4]] (by rfl) rfl rfl (by (try simp only [List.map_toArray, List.map_cons, List.map_nil]); first | done | rfl | (simp only [List.length_drop, List.length_take]; rfl)) ?_
  with_reducible refine (netlist_First.calls _ _ l0_0 _ _ l0_1 _ _ l0_2 _ _ l0_3 _ _ l0_4 t103 _ ?side1 ?side2 ?side3 ?side4 ?side5 ?side6 ?side7 ?side8 ?side9 ?side10 A2.out).mono ?_
  (case side1 => repeat (first | exact (Kd.C_below HR0_0.out HB.out) | (with_reducible refine Kd.C_alloc ?_ _) | (with_reducible refine Kd.C_drewN ?_ _) | (with_reducible refine Kd.C_drew ?_)))
  (case side2 => exact HC0_0.out)
  (case side3 => repeat (first | exact (Kd.C_below HR0_1.out HB.out) | (with_reducible refine Kd.C_alloc ?_ _) | (with_reducible refine Kd.C_drewN ?_ _) | (with_reducible refine Kd.C_drew ?_)))
  (case side4 => exact HC0_1.out)
  (case side5 => repeat (first | exact (Kd.C_below HR0_2.out HB.out) | (with_reducible refine Kd.C_alloc ?_ _) | (with_reducible refine Kd.C_drewN ?_ _) | (with_reducible refine Kd.C_drew ?_)))
  (case side6 => exact HC0_2.out)
  (case side7 => repeat (first | exact (Kd.C_below HR0_3.out HB.out) | (with_reducible refine Kd.C_alloc ?_ _) | (with_reducible refine Kd.C_drewN ?_ _) | (with_reducible refine Kd.C_drew ?_)))
  (case side8 => exact HC0_3.out)
  (case side9 => repeat (first | exact (Kd.C_below HR0_4.out HB.out) | (with_reducible refine Kd.C_alloc ?_ _) | (with_reducible refine Kd.C_drewN ?_ _) | (with_reducible refine Kd.C_drew ?_)))
  (case side10 => exact HC0_4.out)
  rintro e w5 ⟨rfl, hb⟩
  refine ⟨_, rfl, ?_⟩
  have n0_ := Aside0.mk (blk_below (g := gb102) (o := .cells #[.slice A0_0 l0_0.length c0_0, .slice A0_1 l0_1.length c0_1, .slice A0_2 l0_2.length c0_2, .slice A0_3 l0_3.length c0_3, .slice A0_4 l0_4.length c0_4] 27 (0, 0)) (by (with_reducible repeat (first | refine blk_drewN ?_ _ | refine blk_drew ?_ | refine blk_alloc ?_ _)); exact BK102.out) hb)
  have n1_ := Aside0.mk (below_step (by repeat (first | (with_reducible first | exact HB.out | apply below_alloc | apply pw_below_drewN | apply below_drew1 | refine below_set ?_ GE102.out) | exact HB.out)) hb)
  clear BK102
  clear HB
  have BK102 := n0_
  have HB := n1_
  clear n0_ n1_
  (try clear hb)
  (try clear hb2)
  (try clear hk)
  (try clear hi)
  refine hK.out _ _ ⟨(blk_cell BK102.out 0).trans rfl, (blk_cell BK102.out 1).trans rfl, (blk_cell BK102.out 2).trans rfl, (blk_cell BK102.out 3).trans rfl, (blk_cell BK102.out 4).trans rfl⟩ (fun hHeld => ?_)
  clear hK K
  refine norm_ (a' := ?_) ?_ ?_
  rotate_left
  · show Act.put _ (some 4) _ = _
    simp only [Act.put, List.setIfInBounds_toArray, List.set_cons_zero, List.set_cons_succ, i64_w, i32_w]
    rfl
  refine pure_ (i := 5) (N := some 8) (v := ?_) (a' := ?_) #[true, true, true, true, true, true, false] rfl rfl (by kernel_rfl) (fun _ _ _ h => h) (Or.inl ⟨by rfl, ?_⟩) ?_ ?_
  rotate_left
  · intro w'
    go_simp
    with_reducible rfl
  rotate_left
  · simp only [Act.put, List.setIfInBounds_toArray, List.set_cons_zero, List.set_cons_succ, i64_w, i32_w]
    rfl
  refine pure_ (i := 6) (N := some 2) (v := ?_) (a' := ?_) #[true, true, true, true, true, true, true] rfl rfl (by kernel_rfl) (fun _ _ _ h => h) (Or.inl ⟨by rfl, ?_⟩) ?_ ?_
  rotate_left
  · intro w'
    go_simp
    with_reducible rfl
  rotate_left
  · simp only [Act.put, List.setIfInBounds_toArray, List.set_cons_zero, List.set_cons_succ, i64_w, i32_w]
    rfl
  refine done_ (by kernel_rfl) ?_
  try go_wp2
  go_ret
  exact ⟨by first | rfl | (simp [errW_none, errW_some] <;> rfl) | (simp [*, errW_none, errW_some] <;> rfl), by repeat (first | (with_reducible first | exact HB.out | apply below_alloc | apply pw_below_drewN | apply below_drew1 | refine below_set ?_ GE102.out) | exact HB.out)⟩
end Go.Proofs.Ytimjccfpobhpeaa.PF
namespace Go.Proofs.Ytimjccfpobhpeaa.PF
open Go.RowKit Go.Proofs.YtimjccfpobhpeaaW.PrintWords Go.Proofs.YtimjccfpobhpeaaW.PrintLast Go.Proofs.YtimjccfpobhpeaaW.PrintMore
set_option linter.unusedVariables false
set_option linter.unusedSimpArgs false
mutual
def netlist_ends.l0 : Nat → Int → List (S82) → Int → Int → List ByteArray → List ByteArray → List (S82) → List (S80) → List Int → Option (Int)
  | 0, _, _, _, _, _, _, _, _, _ => none
  | k + 1, x3, x11, x12, x13, x105000, x105001, x105002, x105003, x105004 => if x13 < x12 then (if 0 ≤ x13 then (if x13 < (x11.length : Int) then (if ((rd_T82 x11 x13).f2) < 0 then (some 2) else (if ((rd_T82 x11 x13).f2) ≥ x3 then (some 2) else (if ((rd_T82 x11 x13).f3) < 0 then (some 2) else (if ((rd_T82 x11 x13).f3) ≥ x3 then (some 2) else (netlist_ends.l0 k x3 x11 x12 (wrap64 (x13 + 1)) x105000 x105001 x105002 x105003 x105004))))) else (none)) else (none)) else (netlist_ends.l1 k x3 x105004 (x105004.length : Int) 0)
def netlist_ends.l1 : Nat → Int → List Int → Int → Int → Option (Int)
  | 0, _, _, _, _ => none
  | k + 1, x3, x39, x40, x41 => if x41 < x40 then (if 0 ≤ x41 then (if x41 < (x39.length : Int) then (if (rd x39 x41) < 0 then (some 2) else (if (rd x39 x41) ≥ x3 then (some 2) else (netlist_ends.l1 k x3 x39 x40 (wrap64 (x41 + 1))))) else (none)) else (none)) else (some 0)
end
def netlist_ends.f (k : Nat) (l0_0 : List ByteArray) (l0_1 : List ByteArray) (l0_2 : List (S82)) (l0_3 : List (S80)) (l0_4 : List Int) : Option (Int) := (netlist_Nets.f l0_0 l0_1 l0_2 l0_3 l0_4).bind fun t105 => (netlist_ends.l0 k t105 l0_2 (l0_2.length : Int) 0 l0_0 l0_1 l0_2 l0_3 l0_4)
theorem netlist_ends.mono_l : ∀ k, (∀ y0 y1 y2 y3 y4 y5 y6 y7 y8, LeO (netlist_ends.l0 k y0 y1 y2 y3 y4 y5 y6 y7 y8) (netlist_ends.l0 (k + 1) y0 y1 y2 y3 y4 y5 y6 y7 y8)) ∧ (∀ y0 y1 y2 y3, LeO (netlist_ends.l1 k y0 y1 y2 y3) (netlist_ends.l1 (k + 1) y0 y1 y2 y3))
  | 0 => ⟨fun _ _ _ _ _ _ _ _ _ r h => by simp [netlist_ends.l0] at h, fun _ _ _ _ r h => by simp [netlist_ends.l1] at h⟩
  | k + 1 => by
    obtain ⟨ih0, ih1⟩ := netlist_ends.mono_l k
    refine ⟨?_, ?_⟩
    · intro y0 y1 y2 y3 y4 y5 y6 y7 y8
      unfold netlist_ends.l0
      repeat' first
      | (with_reducible exact ih0 _ _ _ _ _ _ _ _ _)
      | (with_reducible exact ih1 _ _ _ _)
      | (with_reducible exact LeO.refl _)
      | (with_reducible exact LeO.none _)
      | (with_reducible refine LeO.ite ?_ ?_)
      | (with_reducible refine LeO.bind ?_ (fun _ => ?_))
      | exact ih0 _ _ _ _ _ _ _ _ _
      | exact ih1 _ _ _ _
      | exact LeO.none _
      | refine LeO.ite ?_ ?_
      | refine LeO.bind ?_ (fun _ => ?_)
    · intro y0 y1 y2 y3
      unfold netlist_ends.l1
      repeat' first
      | (with_reducible exact ih0 _ _ _ _ _ _ _ _ _)
      | (with_reducible exact ih1 _ _ _ _)
      | (with_reducible exact LeO.refl _)
      | (with_reducible exact LeO.none _)
      | (with_reducible refine LeO.ite ?_ ?_)
      | (with_reducible refine LeO.bind ?_ (fun _ => ?_))
      | exact ih0 _ _ _ _ _ _ _ _ _
      | exact ih1 _ _ _ _
      | exact LeO.none _
      | refine LeO.ite ?_ ?_
      | refine LeO.bind ?_ (fun _ => ?_)
theorem netlist_ends.mono : ∀ a0 a1 a2 a3 a4 k, LeO (netlist_ends.f k a0 a1 a2 a3 a4) (netlist_ends.f (k + 1) a0 a1 a2 a3 a4) := by
  intro a0 a1 a2 a3 a4 k
  obtain ⟨ih0, ih1⟩ := netlist_ends.mono_l k
  unfold netlist_ends.f
  repeat' first
      | (with_reducible exact ih0 _ _ _ _ _ _ _ _ _)
      | (with_reducible exact ih1 _ _ _ _)
      | (with_reducible exact LeO.refl _)
      | (with_reducible exact LeO.none _)
      | (with_reducible refine LeO.ite ?_ ?_)
      | (with_reducible refine LeO.bind ?_ (fun _ => ?_))
      | exact ih0 _ _ _ _ _ _ _ _ _
      | exact ih1 _ _ _ _
      | exact LeO.none _
      | refine LeO.ite ?_ ?_
      | refine LeO.bind ?_ (fun _ => ?_)
set_option maxHeartbeats 8000000 in
set_option maxRecDepth 100000 in
theorem netlist_ends.calls (k : Nat) (A0_0 : Option Addr) (c0_0 : Nat) (l0_0 : List ByteArray) (A0_1 : Option Addr) (c0_1 : Nat) (l0_1 : List ByteArray) (A0_2 : Option Addr) (c0_2 : Nat) (l0_2 : List (S82)) (A0_3 : Option Addr) (c0_3 : Nat) (l0_3 : List (S80)) (A0_4 : Option Addr) (c0_4 : Nat) (l0_4 : List Int) (r : Int) (w : World) (hr0_0 : Kd.C Kd.string w A0_0 l0_0.length l0_0) (hc0_0 : l0_0.length ≤ c0_0) (hr0_1 : Kd.C Kd.string w A0_1 l0_1.length l0_1) (hc0_1 : l0_1.length ≤ c0_1) (hr0_2 : Kd.C k82 w A0_2 l0_2.length l0_2) (hc0_2 : l0_2.length ≤ c0_2) (hr0_3 : Kd.C k80 w A0_3 l0_3.length l0_3) (hc0_3 : l0_3.length ≤ c0_3) (hr0_4 : Kd.C (Kd.int .i64) w A0_4 l0_4.length l0_4) (hc0_4 : l0_4.length ≤ c0_4) (h : netlist_ends.f k l0_0 l0_1 l0_2 l0_3 l0_4 = some r) :
    Calls Try.prog 34 #[.agg #[.slice A0_0 l0_0.length c0_0, .slice A0_1 l0_1.length c0_1, .slice A0_2 l0_2.length c0_2, .slice A0_3 l0_3.length c0_3, .slice A0_4 l0_4.length c0_4]] w fun e w' => e = .returned (.int .i64 r) ∧ Below w.heap.size w w' := by
  have hu27 := Try.underlying27
  have hu82 := Try.underlying82
  have HR0_0 := Aside0.mk hr0_0
  have HC0_0 := Aside0.mk hc0_0
  clear hr0_0 hc0_0
  have HR0_1 := Aside0.mk hr0_1
  have HC0_1 := Aside0.mk hc0_1
  clear hr0_1 hc0_1
  have HR0_2 := Aside0.mk hr0_2
  have HC0_2 := Aside0.mk hc0_2
  clear hr0_2 hc0_2
  have HR0_3 := Aside0.mk hr0_3
  have HC0_3 := Aside0.mk hc0_3
  clear hr0_3 hc0_3
  have HR0_4 := Aside0.mk hr0_4
  have HC0_4 := Aside0.mk hc0_4
  clear hr0_4 hc0_4
  have HB := Aside0.mk (Below.refl w.heap.size w)
  have H : ((netlist_Nets.f l0_0 l0_1 l0_2 l0_3 l0_4).bind fun t105 => (netlist_ends.l0 k t105 l0_2 (l0_2.length : Int) 0 l0_0 l0_1 l0_2 l0_3 l0_4)) = some r := h
  clear h
  replace H := Option.bind_eq_some_iff.mp H
  obtain ⟨t105, A20, H⟩ := H
  replace H : (netlist_ends.l0 k t105 l0_2 (l0_2.length : Int) 0 l0_0 l0_1 l0_2 l0_3 l0_4) = some r := H
  have A2 := Aside0.mk A20
  clear A20
  have H' := Aside0.mk H
  clear H
  go_enter Try.func34, Try.ntmps34
  go_wp2_with (first | ((with_reducible refine gate_dst (N := 1) rfl ?_); refine box_event ?hg (N := 1) ?hd (cs := #[.slice A0_0 l0_0.length c0_0, .slice A0_1 l0_1.length c0_1, .slice A0_2 l0_2.length c0_2, .slice A0_3 l0_3.length c0_3, .slice A0_4 l0_4.length c0_4]) (t := 27) ?hr ?_; (case hd => rfl); (case hg => rfl); (case hr => first | (go_simp; done) | (go_simp; rfl)); intro gb104 hg w3 hbox hb; have n0_ := Aside0.mk (below_step (by repeat (first | (with_reducible first | exact HB.out | apply below_alloc | apply pw_below_drewN | apply below_drew1) | exact HB.out)) hb); have n1_ := Aside0.mk (hbox); have n2_ := Aside0.mk ((by rw [hg]; exact (below_size (by repeat (first | (with_reducible first | exact HB.out | apply below_alloc | apply pw_below_drewN | apply below_drew1) | exact HB.out))) : w.heap.size ≤ gb104)); have n3_ := Aside0.mk ((by rw [hg]; exact (below_size (by repeat (first | (with_reducible first | exact HB.out | apply below_alloc | apply pw_below_drewN | apply below_drew1) | exact HB.out))) : w.heap.size ≤ gb104)); clear HB; have HB := n0_; have BK104 := n1_; have GW104 := n2_; have GE104 := n3_; clear n0_ n1_ n2_ n3_; clear hb hbox hg; have hcz4_0 : w3.cell? ⟨gb104, 0, none⟩ = some (.slice A0_0 l0_0.length c0_0) := (blk_cell BK104.out 0).trans rfl; have hcz4_1 : w3.cell? ⟨gb104, 1, none⟩ = some (.slice A0_1 l0_1.length c0_1) := (blk_cell BK104.out 1).trans rfl; have hcz4_2 : w3.cell? ⟨gb104, 2, none⟩ = some (.slice A0_2 l0_2.length c0_2) := (blk_cell BK104.out 2).trans rfl; have hcz4_3 : w3.cell? ⟨gb104, 3, none⟩ = some (.slice A0_3 l0_3.length c0_3) := (blk_cell BK104.out 3).trans rfl; have hcz4_4 : w3.cell? ⟨gb104, 4, none⟩ = some (.slice A0_4 l0_4.length c0_4) := (blk_cell BK104.out 4).trans rfl; have hfz4_0 := blk_frozen BK104.out 0; have hfz4_1 := blk_frozen BK104.out 1; have hfz4_2 := blk_frozen BK104.out 2; have hfz4_3 := blk_frozen BK104.out 3; have hfz4_4 := blk_frozen BK104.out 4) | ((with_reducible refine gate_callee (f := 52) rfl ?_); refine goesL_ (some 9) rfl rfl Try.func52 (by kernel_rfl) rfl #[.agg #[.slice A0_0 l0_0.length c0_0, .slice A0_1 l0_1.length c0_1, .slice A0_2 l0_2.length c0_2, .slice A0_3 l0_3.length c0_3, .slice A0_4 l0_4.length c0_4]] rfl (by (try simp only [List.map_toArray, List.map_cons, List.map_nil]); first | done | rfl | (simp only [List.length_drop, List.length_take]; rfl)) ?_; (with_reducible refine (netlist_Nets.calls _ _ l0_0 _ _ l0_1 _ _ l0_2 _ _ l0_3 _ _ l0_4 t105 _ ?side1 ?side2 ?side3 ?side4 ?side5 ?side6 ?side7 ?side8 ?side9 ?side10 A2.out).mono ?_); (case side1 => repeat (first | exact (Kd.C_below HR0_0.out HB.out) | (with_reducible refine Kd.C_alloc ?_ _) | (with_reducible refine Kd.C_drewN ?_ _) | (with_reducible refine Kd.C_drew ?_))); (case side2 => exact HC0_0.out); (case side3 => repeat (first | exact (Kd.C_below HR0_1.out HB.out) | (with_reducible refine Kd.C_alloc ?_ _) | (with_reducible refine Kd.C_drewN ?_ _) | (with_reducible refine Kd.C_drew ?_))); (case side4 => exact HC0_1.out); (case side5 => repeat (first | exact (Kd.C_below HR0_2.out HB.out) | (with_reducible refine Kd.C_alloc ?_ _) | (with_reducible refine Kd.C_drewN ?_ _) | (with_reducible refine Kd.C_drew ?_))); (case side6 => exact HC0_2.out); (case side7 => repeat (first | exact (Kd.C_below HR0_3.out HB.out) | (with_reducible refine Kd.C_alloc ?_ _) | (with_reducible refine Kd.C_drewN ?_ _) | (with_reducible refine Kd.C_drew ?_))); (case side8 => exact HC0_3.out); (case side9 => repeat (first | exact (Kd.C_below HR0_4.out HB.out) | (with_reducible refine Kd.C_alloc ?_ _) | (with_reducible refine Kd.C_drewN ?_ _) | (with_reducible refine Kd.C_drew ?_))); (case side10 => exact HC0_4.out); rintro e w5 ⟨rfl, hb⟩; refine ⟨_, rfl, ?_⟩; have n0_ := Aside0.mk (blk_below (g := gb104) (o := .cells #[.slice A0_0 l0_0.length c0_0, .slice A0_1 l0_1.length c0_1, .slice A0_2 l0_2.length c0_2, .slice A0_3 l0_3.length c0_3, .slice A0_4 l0_4.length c0_4] 27 (0, 0)) (by (with_reducible repeat (first | refine blk_drewN ?_ _ | refine blk_drew ?_ | refine blk_alloc ?_ _)); exact BK104.out) hb); have n1_ := Aside0.mk (below_step (by repeat (first | (with_reducible first | exact HB.out | apply below_alloc | apply pw_below_drewN | apply below_drew1 | refine below_set ?_ GE104.out) | exact HB.out)) hb); clear BK104; clear HB; have BK104 := n0_; have HB := n1_; clear n0_ n1_; (try clear hb); (try clear hb2); (try clear hk); (try clear hi); have hcz6_0 : w5.cell? ⟨gb104, 0, none⟩ = some (.slice A0_0 l0_0.length c0_0) := (blk_cell BK104.out 0).trans rfl; have hcz6_1 : w5.cell? ⟨gb104, 1, none⟩ = some (.slice A0_1 l0_1.length c0_1) := (blk_cell BK104.out 1).trans rfl; have hcz6_2 : w5.cell? ⟨gb104, 2, none⟩ = some (.slice A0_2 l0_2.length c0_2) := (blk_cell BK104.out 2).trans rfl; have hcz6_3 : w5.cell? ⟨gb104, 3, none⟩ = some (.slice A0_3 l0_3.length c0_3) := (blk_cell BK104.out 3).trans rfl; have hcz6_4 : w5.cell? ⟨gb104, 4, none⟩ = some (.slice A0_4 l0_4.length c0_4) := (blk_cell BK104.out 4).trans rfl; have hfz6_0 := blk_frozen BK104.out 0; have hfz6_1 := blk_frozen BK104.out 1; have hfz6_2 := blk_frozen BK104.out 2; have hfz6_3 := blk_frozen BK104.out 3; have hfz6_4 := blk_frozen BK104.out 4))
  go_loopg [13] k (fun kq v13 w' => ∃ (x13_1 : Int), v13 = .int .i64 x13_1 ∧ Aside0 (netlist_ends.l0 kq t105 l0_2 (l0_2.length : Int) x13_1 l0_0 l0_1 l0_2 l0_3 l0_4 = some r) ∧ Aside0 (kq ≤ k) ∧ Aside0 (w'.heap[gb104]? = some (.cells #[(.slice A0_0 l0_0.length c0_0), (.slice A0_1 l0_1.length c0_1), (.slice A0_2 l0_2.length c0_2), (.slice A0_3 l0_3.length c0_3), (.slice A0_4 l0_4.length c0_4)] 27 (0, 0))) ∧ Aside0 (Below w.heap.size w w'))
  case atStart => exact ⟨(0), (by first | rfl | (simp; done) | (simp [*]; done)), H', ⟨Nat.le_refl _⟩, ⟨by (with_reducible repeat (first | refine blk_drewN ?_ _ | refine blk_drew ?_ | refine blk_alloc ?_ _)); exact BK104.out⟩, ⟨by repeat (first | (with_reducible first | exact HB.out | apply below_alloc | apply pw_below_drewN | apply below_drew1 | refine below_set ?_ GE104.out) | exact HB.out)⟩⟩
  case round =>
    clear H'
    try clear p2
    try clear c3
    try clear c5
    try clear hcz4_0
    try clear hcz4_1
    try clear hcz4_2
    try clear hcz4_3
    try clear hcz4_4
    try clear hcz6_0
    try clear hcz6_1
    try clear hcz6_2
    try clear hcz6_3
    try clear hcz6_4
    try clear hfz4_0
    try clear hfz4_1
    try clear hfz4_2
    try clear hfz4_3
    try clear hfz4_4
    try clear hfz6_0
    try clear hfz6_1
    try clear hfz6_2
    try clear hfz6_3
    try clear hfz6_4
    obtain ⟨x13_1, rfl, HA, HK1, BK104, HB⟩ := hrel
    cases gk with
    | zero => exact absurd HA.out (by simp [netlist_ends.l0])
    | succ k1 =>
      have H := HA.out
      clear HA
      simp only [netlist_ends.l0] at H
      by_cases c7 : x13_1 < (l0_2.length : Int)
      · rw [if_pos c7] at H
        have c7b0 : decide (x13_1 < (l0_2.length : Int)) = true := decide_eq_true c7
        clear c7
        by_cases c8 : 0 ≤ x13_1
        · rw [if_pos c8] at H
          have c8b0 : decide (0 ≤ x13_1) = true := decide_eq_true c8
          clear c8
          by_cases c9 : x13_1 < (l0_2.length : Int)
          · rw [if_pos c9] at H
            have c9b0 : decide (x13_1 < (l0_2.length : Int)) = true := decide_eq_true c9
            clear c9
            by_cases c10 : ((rd_T82 l0_2 x13_1).f2) < 0
            · rw [if_pos c10] at H
              have c10b0 : decide (((rd_T82 l0_2 x13_1).f2) < 0) = true := decide_eq_true c10
              clear c10
              obtain rfl := Option.some.inj H
              have p106 : 0 ≤ (x13_1 : Int) := of_decide_eq_true (by first | (with_reducible assumption) | assumption)
              have q106 : x13_1 < (l0_2.length : Int) := of_decide_eq_true (by first | (with_reducible assumption) | assumption)
              obtain ⟨ad106, e106, hx106_0, hx106_1, hx106_2, hx106_3, hx106_4⟩ := at_T82 HR0_2.out x13_1 p106 q106
              cases e106
              replace hx106_0 := (HB.out.cell (World.block_lt_of_cell? w _ hx106_0)).trans hx106_0
              replace hx106_1 := (HB.out.cell (World.block_lt_of_cell? w _ hx106_1)).trans hx106_1
              replace hx106_2 := (HB.out.cell (World.block_lt_of_cell? w _ hx106_2)).trans hx106_2
              replace hx106_3 := (HB.out.cell (World.block_lt_of_cell? w _ hx106_3)).trans hx106_3
              replace hx106_4 := (HB.out.cell (World.block_lt_of_cell? w _ hx106_4)).trans hx106_4
              replace p106 := eq_true p106
              replace q106 := eq_true q106
              go_wp2_with (first | ((with_reducible refine gate_dst (N := 5) rfl ?_); refine box_event ?hg (N := 5) ?hd (cs := #[.string (⟨#[]⟩ : ByteArray), .int .i64 0, .int .i64 0, .int .i64 0, .bool false]) (t := 82) ?hr ?_; (case hd => rfl); (case hg => rfl); (case hr => first | (go_simp; done) | (go_simp; rfl)); intro gb107 hg w11 hbox hb; have n0_ := Aside0.mk (blk_below (g := gb104) (o := .cells #[.slice A0_0 l0_0.length c0_0, .slice A0_1 l0_1.length c0_1, .slice (some ad106) l0_2.length c0_2, .slice A0_3 l0_3.length c0_3, .slice A0_4 l0_4.length c0_4] 27 (0, 0)) (by (with_reducible repeat (first | refine blk_drewN ?_ _ | refine blk_drew ?_ | refine blk_alloc ?_ _)); exact BK104.out) hb); have n1_ := Aside0.mk (below_step (by repeat (first | (with_reducible first | exact HB.out | apply below_alloc | apply pw_below_drewN | apply below_drew1 | refine below_set ?_ GE104.out) | exact HB.out)) hb); have n2_ := Aside0.mk (hbox); have n3_ := Aside0.mk ((by rw [hg]; exact (below_size (by repeat (first | (with_reducible first | exact HB.out | apply below_alloc | apply pw_below_drewN | apply below_drew1 | refine below_set ?_ GE104.out) | exact HB.out))) : w.heap.size ≤ gb107)); have n4_ := Aside0.mk ((by rw [hg]; exact (below_size (by repeat (first | (with_reducible first | exact HB.out | apply below_alloc | apply pw_below_drewN | apply below_drew1 | refine below_set ?_ GE104.out) | exact HB.out))) : w.heap.size ≤ gb107)); have n5_ := Aside0.mk ((by rw [hg]; exact Nat.ne_of_lt (blk_lt (g := gb104) (o := .cells #[.slice A0_0 l0_0.length c0_0, .slice A0_1 l0_1.length c0_1, .slice (some ad106) l0_2.length c0_2, .slice A0_3 l0_3.length c0_3, .slice A0_4 l0_4.length c0_4] 27 (0, 0)) (by (with_reducible repeat (first | refine blk_drewN ?_ _ | refine blk_drew ?_ | refine blk_alloc ?_ _)); exact BK104.out)) : gb104 ≠ gb107)); have n6_ := Aside0.mk ((by rw [hg]; exact Nat.ne_of_gt (blk_lt (g := gb104) (o := .cells #[.slice A0_0 l0_0.length c0_0, .slice A0_1 l0_1.length c0_1, .slice (some ad106) l0_2.length c0_2, .slice A0_3 l0_3.length c0_3, .slice A0_4 l0_4.length c0_4] 27 (0, 0)) (by (with_reducible repeat (first | refine blk_drewN ?_ _ | refine blk_drew ?_ | refine blk_alloc ?_ _)); exact BK104.out)) : gb107 ≠ gb104)); clear BK104; clear HB; have BK104 := n0_; have HB := n1_; have BK107 := n2_; have GW107 := n3_; have GE107 := n4_; have NB104_107 := n5_; have NB107_104 := n6_; clear n0_ n1_ n2_ n3_ n4_ n5_ n6_; clear hb hbox hg; have hnb12 := NB107_104.out; have hnc12 := NB104_107.out; have hcz13_0 : w11.cell? ⟨gb107, 0, none⟩ = some (.string (⟨#[]⟩ : ByteArray)) := (blk_cell BK107.out 0).trans rfl; have hcz13_1 : w11.cell? ⟨gb107, 1, none⟩ = some (.int .i64 0) := (blk_cell BK107.out 1).trans rfl; have hcz13_2 : w11.cell? ⟨gb107, 2, none⟩ = some (.int .i64 0) := (blk_cell BK107.out 2).trans rfl; have hcz13_3 : w11.cell? ⟨gb107, 3, none⟩ = some (.int .i64 0) := (blk_cell BK107.out 3).trans rfl; have hcz13_4 : w11.cell? ⟨gb107, 4, none⟩ = some (.bool false) := (blk_cell BK107.out 4).trans rfl; have hfz13_0 := blk_frozen BK107.out 0; have hfz13_1 := blk_frozen BK107.out 1; have hfz13_2 := blk_frozen BK107.out 2; have hfz13_3 := blk_frozen BK107.out 3; have hfz13_4 := blk_frozen BK107.out 4))
              go_ret
              exact ⟨by first | rfl | (simp [errW_none, errW_some] <;> rfl) | (simp [*, errW_none, errW_some] <;> rfl), by repeat (first | (with_reducible first | exact HB.out | apply below_alloc | apply pw_below_drewN | apply below_drew1 | refine below_set ?_ GE104.out | refine below_set ?_ GE107.out) | exact HB.out)⟩
            · rw [if_neg c10] at H
              have c10b0 : decide (((rd_T82 l0_2 x13_1).f2) < 0) = false := decide_eq_false c10
              clear c10
              by_cases c14 : ((rd_T82 l0_2 x13_1).f2) ≥ t105
              · rw [if_pos c14] at H
                have c14b0 : decide (t105 ≤ ((rd_T82 l0_2 x13_1).f2)) = true := decide_eq_true c14
                clear c14
                obtain rfl := Option.some.inj H
                have p106 : 0 ≤ (x13_1 : Int) := of_decide_eq_true (by first | (with_reducible assumption) | assumption)
                have q106 : x13_1 < (l0_2.length : Int) := of_decide_eq_true (by first | (with_reducible assumption) | assumption)
                obtain ⟨ad106, e106, hx106_0, hx106_1, hx106_2, hx106_3, hx106_4⟩ := at_T82 HR0_2.out x13_1 p106 q106
                cases e106
                replace hx106_0 := (HB.out.cell (World.block_lt_of_cell? w _ hx106_0)).trans hx106_0
                replace hx106_1 := (HB.out.cell (World.block_lt_of_cell? w _ hx106_1)).trans hx106_1
                replace hx106_2 := (HB.out.cell (World.block_lt_of_cell? w _ hx106_2)).trans hx106_2
                replace hx106_3 := (HB.out.cell (World.block_lt_of_cell? w _ hx106_3)).trans hx106_3
                replace hx106_4 := (HB.out.cell (World.block_lt_of_cell? w _ hx106_4)).trans hx106_4
                replace p106 := eq_true p106
                replace q106 := eq_true q106
                go_wp2_with (first | ((with_reducible refine gate_dst (N := 5) rfl ?_); refine box_event ?hg (N := 5) ?hd (cs := #[.string (⟨#[]⟩ : ByteArray), .int .i64 0, .int .i64 0, .int .i64 0, .bool false]) (t := 82) ?hr ?_; (case hd => rfl); (case hg => rfl); (case hr => first | (go_simp; done) | (go_simp; rfl)); intro gb107 hg w15 hbox hb; have n0_ := Aside0.mk (blk_below (g := gb104) (o := .cells #[.slice A0_0 l0_0.length c0_0, .slice A0_1 l0_1.length c0_1, .slice (some ad106) l0_2.length c0_2, .slice A0_3 l0_3.length c0_3, .slice A0_4 l0_4.length c0_4] 27 (0, 0)) (by (with_reducible repeat (first | refine blk_drewN ?_ _ | refine blk_drew ?_ | refine blk_alloc ?_ _)); exact BK104.out) hb); have n1_ := Aside0.mk (below_step (by repeat (first | (with_reducible first | exact HB.out | apply below_alloc | apply pw_below_drewN | apply below_drew1 | refine below_set ?_ GE104.out) | exact HB.out)) hb); have n2_ := Aside0.mk (hbox); have n3_ := Aside0.mk ((by rw [hg]; exact (below_size (by repeat (first | (with_reducible first | exact HB.out | apply below_alloc | apply pw_below_drewN | apply below_drew1 | refine below_set ?_ GE104.out) | exact HB.out))) : w.heap.size ≤ gb107)); have n4_ := Aside0.mk ((by rw [hg]; exact (below_size (by repeat (first | (with_reducible first | exact HB.out | apply below_alloc | apply pw_below_drewN | apply below_drew1 | refine below_set ?_ GE104.out) | exact HB.out))) : w.heap.size ≤ gb107)); have n5_ := Aside0.mk ((by rw [hg]; exact Nat.ne_of_lt (blk_lt (g := gb104) (o := .cells #[.slice A0_0 l0_0.length c0_0, .slice A0_1 l0_1.length c0_1, .slice (some ad106) l0_2.length c0_2, .slice A0_3 l0_3.length c0_3, .slice A0_4 l0_4.length c0_4] 27 (0, 0)) (by (with_reducible repeat (first | refine blk_drewN ?_ _ | refine blk_drew ?_ | refine blk_alloc ?_ _)); exact BK104.out)) : gb104 ≠ gb107)); have n6_ := Aside0.mk ((by rw [hg]; exact Nat.ne_of_gt (blk_lt (g := gb104) (o := .cells #[.slice A0_0 l0_0.length c0_0, .slice A0_1 l0_1.length c0_1, .slice (some ad106) l0_2.length c0_2, .slice A0_3 l0_3.length c0_3, .slice A0_4 l0_4.length c0_4] 27 (0, 0)) (by (with_reducible repeat (first | refine blk_drewN ?_ _ | refine blk_drew ?_ | refine blk_alloc ?_ _)); exact BK104.out)) : gb107 ≠ gb104)); clear BK104; clear HB; have BK104 := n0_; have HB := n1_; have BK107 := n2_; have GW107 := n3_; have GE107 := n4_; have NB104_107 := n5_; have NB107_104 := n6_; clear n0_ n1_ n2_ n3_ n4_ n5_ n6_; clear hb hbox hg; have hnb16 := NB107_104.out; have hnc16 := NB104_107.out; have hcz17_0 : w15.cell? ⟨gb107, 0, none⟩ = some (.string (⟨#[]⟩ : ByteArray)) := (blk_cell BK107.out 0).trans rfl; have hcz17_1 : w15.cell? ⟨gb107, 1, none⟩ = some (.int .i64 0) := (blk_cell BK107.out 1).trans rfl; have hcz17_2 : w15.cell? ⟨gb107, 2, none⟩ = some (.int .i64 0) := (blk_cell BK107.out 2).trans rfl; have hcz17_3 : w15.cell? ⟨gb107, 3, none⟩ = some (.int .i64 0) := (blk_cell BK107.out 3).trans rfl; have hcz17_4 : w15.cell? ⟨gb107, 4, none⟩ = some (.bool false) := (blk_cell BK107.out 4).trans rfl; have hfz17_0 := blk_frozen BK107.out 0; have hfz17_1 := blk_frozen BK107.out 1; have hfz17_2 := blk_frozen BK107.out 2; have hfz17_3 := blk_frozen BK107.out 3; have hfz17_4 := blk_frozen BK107.out 4))
                go_ret
                exact ⟨by first | rfl | (simp [errW_none, errW_some] <;> rfl) | (simp [*, errW_none, errW_some] <;> rfl), by repeat (first | (with_reducible first | exact HB.out | apply below_alloc | apply pw_below_drewN | apply below_drew1 | refine below_set ?_ GE104.out | refine below_set ?_ GE107.out) | exact HB.out)⟩
              · rw [if_neg c14] at H
                have c14b0 : decide (t105 ≤ ((rd_T82 l0_2 x13_1).f2)) = false := decide_eq_false c14
                clear c14
                by_cases c18 : ((rd_T82 l0_2 x13_1).f3) < 0
                · rw [if_pos c18] at H
                  have c18b0 : decide (((rd_T82 l0_2 x13_1).f3) < 0) = true := decide_eq_true c18
                  clear c18
                  obtain rfl := Option.some.inj H
                  have p106 : 0 ≤ (x13_1 : Int) := of_decide_eq_true (by first | (with_reducible assumption) | assumption)
                  have q106 : x13_1 < (l0_2.length : Int) := of_decide_eq_true (by first | (with_reducible assumption) | assumption)
                  obtain ⟨ad106, e106, hx106_0, hx106_1, hx106_2, hx106_3, hx106_4⟩ := at_T82 HR0_2.out x13_1 p106 q106
                  cases e106
                  replace hx106_0 := (HB.out.cell (World.block_lt_of_cell? w _ hx106_0)).trans hx106_0
                  replace hx106_1 := (HB.out.cell (World.block_lt_of_cell? w _ hx106_1)).trans hx106_1
                  replace hx106_2 := (HB.out.cell (World.block_lt_of_cell? w _ hx106_2)).trans hx106_2
                  replace hx106_3 := (HB.out.cell (World.block_lt_of_cell? w _ hx106_3)).trans hx106_3
                  replace hx106_4 := (HB.out.cell (World.block_lt_of_cell? w _ hx106_4)).trans hx106_4
                  replace p106 := eq_true p106
                  replace q106 := eq_true q106
                  go_wp2_with (first | ((with_reducible refine gate_dst (N := 5) rfl ?_); refine box_event ?hg (N := 5) ?hd (cs := #[.string (⟨#[]⟩ : ByteArray), .int .i64 0, .int .i64 0, .int .i64 0, .bool false]) (t := 82) ?hr ?_; (case hd => rfl); (case hg => rfl); (case hr => first | (go_simp; done) | (go_simp; rfl)); intro gb107 hg w19 hbox hb; have n0_ := Aside0.mk (blk_below (g := gb104) (o := .cells #[.slice A0_0 l0_0.length c0_0, .slice A0_1 l0_1.length c0_1, .slice (some ad106) l0_2.length c0_2, .slice A0_3 l0_3.length c0_3, .slice A0_4 l0_4.length c0_4] 27 (0, 0)) (by (with_reducible repeat (first | refine blk_drewN ?_ _ | refine blk_drew ?_ | refine blk_alloc ?_ _)); exact BK104.out) hb); have n1_ := Aside0.mk (below_step (by repeat (first | (with_reducible first | exact HB.out | apply below_alloc | apply pw_below_drewN | apply below_drew1 | refine below_set ?_ GE104.out) | exact HB.out)) hb); have n2_ := Aside0.mk (hbox); have n3_ := Aside0.mk ((by rw [hg]; exact (below_size (by repeat (first | (with_reducible first | exact HB.out | apply below_alloc | apply pw_below_drewN | apply below_drew1 | refine below_set ?_ GE104.out) | exact HB.out))) : w.heap.size ≤ gb107)); have n4_ := Aside0.mk ((by rw [hg]; exact (below_size (by repeat (first | (with_reducible first | exact HB.out | apply below_alloc | apply pw_below_drewN | apply below_drew1 | refine below_set ?_ GE104.out) | exact HB.out))) : w.heap.size ≤ gb107)); have n5_ := Aside0.mk ((by rw [hg]; exact Nat.ne_of_lt (blk_lt (g := gb104) (o := .cells #[.slice A0_0 l0_0.length c0_0, .slice A0_1 l0_1.length c0_1, .slice (some ad106) l0_2.length c0_2, .slice A0_3 l0_3.length c0_3, .slice A0_4 l0_4.length c0_4] 27 (0, 0)) (by (with_reducible repeat (first | refine blk_drewN ?_ _ | refine blk_drew ?_ | refine blk_alloc ?_ _)); exact BK104.out)) : gb104 ≠ gb107)); have n6_ := Aside0.mk ((by rw [hg]; exact Nat.ne_of_gt (blk_lt (g := gb104) (o := .cells #[.slice A0_0 l0_0.length c0_0, .slice A0_1 l0_1.length c0_1, .slice (some ad106) l0_2.length c0_2, .slice A0_3 l0_3.length c0_3, .slice A0_4 l0_4.length c0_4] 27 (0, 0)) (by (with_reducible repeat (first | refine blk_drewN ?_ _ | refine blk_drew ?_ | refine blk_alloc ?_ _)); exact BK104.out)) : gb107 ≠ gb104)); clear BK104; clear HB; have BK104 := n0_; have HB := n1_; have BK107 := n2_; have GW107 := n3_; have GE107 := n4_; have NB104_107 := n5_; have NB107_104 := n6_; clear n0_ n1_ n2_ n3_ n4_ n5_ n6_; clear hb hbox hg; have hnb20 := NB107_104.out; have hnc20 := NB104_107.out; have hcz21_0 : w19.cell? ⟨gb107, 0, none⟩ = some (.string (⟨#[]⟩ : ByteArray)) := (blk_cell BK107.out 0).trans rfl; have hcz21_1 : w19.cell? ⟨gb107, 1, none⟩ = some (.int .i64 0) := (blk_cell BK107.out 1).trans rfl; have hcz21_2 : w19.cell? ⟨gb107, 2, none⟩ = some (.int .i64 0) := (blk_cell BK107.out 2).trans rfl; have hcz21_3 : w19.cell? ⟨gb107, 3, none⟩ = some (.int .i64 0) := (blk_cell BK107.out 3).trans rfl; have hcz21_4 : w19.cell? ⟨gb107, 4, none⟩ = some (.bool false) := (blk_cell BK107.out 4).trans rfl; have hfz21_0 := blk_frozen BK107.out 0; have hfz21_1 := blk_frozen BK107.out 1; have hfz21_2 := blk_frozen BK107.out 2; have hfz21_3 := blk_frozen BK107.out 3; have hfz21_4 := blk_frozen BK107.out 4))
                  go_ret
                  exact ⟨by first | rfl | (simp [errW_none, errW_some] <;> rfl) | (simp [*, errW_none, errW_some] <;> rfl), by repeat (first | (with_reducible first | exact HB.out | apply below_alloc | apply pw_below_drewN | apply below_drew1 | refine below_set ?_ GE104.out | refine below_set ?_ GE107.out) | exact HB.out)⟩
                · rw [if_neg c18] at H
                  have c18b0 : decide (((rd_T82 l0_2 x13_1).f3) < 0) = false := decide_eq_false c18
                  clear c18
                  by_cases c22 : ((rd_T82 l0_2 x13_1).f3) ≥ t105
                  · rw [if_pos c22] at H
                    have c22b0 : decide (t105 ≤ ((rd_T82 l0_2 x13_1).f3)) = true := decide_eq_true c22
                    clear c22
                    obtain rfl := Option.some.inj H
                    have p106 : 0 ≤ (x13_1 : Int) := of_decide_eq_true (by first | (with_reducible assumption) | assumption)
                    have q106 : x13_1 < (l0_2.length : Int) := of_decide_eq_true (by first | (with_reducible assumption) | assumption)
                    obtain ⟨ad106, e106, hx106_0, hx106_1, hx106_2, hx106_3, hx106_4⟩ := at_T82 HR0_2.out x13_1 p106 q106
                    cases e106
                    replace hx106_0 := (HB.out.cell (World.block_lt_of_cell? w _ hx106_0)).trans hx106_0
                    replace hx106_1 := (HB.out.cell (World.block_lt_of_cell? w _ hx106_1)).trans hx106_1
                    replace hx106_2 := (HB.out.cell (World.block_lt_of_cell? w _ hx106_2)).trans hx106_2
                    replace hx106_3 := (HB.out.cell (World.block_lt_of_cell? w _ hx106_3)).trans hx106_3
                    replace hx106_4 := (HB.out.cell (World.block_lt_of_cell? w _ hx106_4)).trans hx106_4
                    replace p106 := eq_true p106
                    replace q106 := eq_true q106
                    go_wp2_with (first | ((with_reducible refine gate_dst (N := 5) rfl ?_); refine box_event ?hg (N := 5) ?hd (cs := #[.string (⟨#[]⟩ : ByteArray), .int .i64 0, .int .i64 0, .int .i64 0, .bool false]) (t := 82) ?hr ?_; (case hd => rfl); (case hg => rfl); (case hr => first | (go_simp; done) | (go_simp; rfl)); intro gb107 hg w23 hbox hb; have n0_ := Aside0.mk (blk_below (g := gb104) (o := .cells #[.slice A0_0 l0_0.length c0_0, .slice A0_1 l0_1.length c0_1, .slice (some ad106) l0_2.length c0_2, .slice A0_3 l0_3.length c0_3, .slice A0_4 l0_4.length c0_4] 27 (0, 0)) (by (with_reducible repeat (first | refine blk_drewN ?_ _ | refine blk_drew ?_ | refine blk_alloc ?_ _)); exact BK104.out) hb); have n1_ := Aside0.mk (below_step (by repeat (first | (with_reducible first | exact HB.out | apply below_alloc | apply pw_below_drewN | apply below_drew1 | refine below_set ?_ GE104.out) | exact HB.out)) hb); have n2_ := Aside0.mk (hbox); have n3_ := Aside0.mk ((by rw [hg]; exact (below_size (by repeat (first | (with_reducible first | exact HB.out | apply below_alloc | apply pw_below_drewN | apply below_drew1 | refine below_set ?_ GE104.out) | exact HB.out))) : w.heap.size ≤ gb107)); have n4_ := Aside0.mk ((by rw [hg]; exact (below_size (by repeat (first | (with_reducible first | exact HB.out | apply below_alloc | apply pw_below_drewN | apply below_drew1 | refine below_set ?_ GE104.out) | exact HB.out))) : w.heap.size ≤ gb107)); have n5_ := Aside0.mk ((by rw [hg]; exact Nat.ne_of_lt (blk_lt (g := gb104) (o := .cells #[.slice A0_0 l0_0.length c0_0, .slice A0_1 l0_1.length c0_1, .slice (some ad106) l0_2.length c0_2, .slice A0_3 l0_3.length c0_3, .slice A0_4 l0_4.length c0_4] 27 (0, 0)) (by (with_reducible repeat (first | refine blk_drewN ?_ _ | refine blk_drew ?_ | refine blk_alloc ?_ _)); exact BK104.out)) : gb104 ≠ gb107)); have n6_ := Aside0.mk ((by rw [hg]; exact Nat.ne_of_gt (blk_lt (g := gb104) (o := .cells #[.slice A0_0 l0_0.length c0_0, .slice A0_1 l0_1.length c0_1, .slice (some ad106) l0_2.length c0_2, .slice A0_3 l0_3.length c0_3, .slice A0_4 l0_4.length c0_4] 27 (0, 0)) (by (with_reducible repeat (first | refine blk_drewN ?_ _ | refine blk_drew ?_ | refine blk_alloc ?_ _)); exact BK104.out)) : gb107 ≠ gb104)); clear BK104; clear HB; have BK104 := n0_; have HB := n1_; have BK107 := n2_; have GW107 := n3_; have GE107 := n4_; have NB104_107 := n5_; have NB107_104 := n6_; clear n0_ n1_ n2_ n3_ n4_ n5_ n6_; clear hb hbox hg; have hnb24 := NB107_104.out; have hnc24 := NB104_107.out; have hcz25_0 : w23.cell? ⟨gb107, 0, none⟩ = some (.string (⟨#[]⟩ : ByteArray)) := (blk_cell BK107.out 0).trans rfl; have hcz25_1 : w23.cell? ⟨gb107, 1, none⟩ = some (.int .i64 0) := (blk_cell BK107.out 1).trans rfl; have hcz25_2 : w23.cell? ⟨gb107, 2, none⟩ = some (.int .i64 0) := (blk_cell BK107.out 2).trans rfl; have hcz25_3 : w23.cell? ⟨gb107, 3, none⟩ = some (.int .i64 0) := (blk_cell BK107.out 3).trans rfl; have hcz25_4 : w23.cell? ⟨gb107, 4, none⟩ = some (.bool false) := (blk_cell BK107.out 4).trans rfl; have hfz25_0 := blk_frozen BK107.out 0; have hfz25_1 := blk_frozen BK107.out 1; have hfz25_2 := blk_frozen BK107.out 2; have hfz25_3 := blk_frozen BK107.out 3; have hfz25_4 := blk_frozen BK107.out 4))
                    go_ret
                    exact ⟨by first | rfl | (simp [errW_none, errW_some] <;> rfl) | (simp [*, errW_none, errW_some] <;> rfl), by repeat (first | (with_reducible first | exact HB.out | apply below_alloc | apply pw_below_drewN | apply below_drew1 | refine below_set ?_ GE104.out | refine below_set ?_ GE107.out) | exact HB.out)⟩
                  · rw [if_neg c22] at H
                    have c22b0 : decide (t105 ≤ ((rd_T82 l0_2 x13_1).f3)) = false := decide_eq_false c22
                    clear c22
                    have H' := Aside0.mk H
                    clear H
                    have p106 : 0 ≤ (x13_1 : Int) := of_decide_eq_true (by first | (with_reducible assumption) | assumption)
                    have q106 : x13_1 < (l0_2.length : Int) := of_decide_eq_true (by first | (with_reducible assumption) | assumption)
                    obtain ⟨ad106, e106, hx106_0, hx106_1, hx106_2, hx106_3, hx106_4⟩ := at_T82 HR0_2.out x13_1 p106 q106
                    cases e106
                    replace hx106_0 := (HB.out.cell (World.block_lt_of_cell? w _ hx106_0)).trans hx106_0
                    replace hx106_1 := (HB.out.cell (World.block_lt_of_cell? w _ hx106_1)).trans hx106_1
                    replace hx106_2 := (HB.out.cell (World.block_lt_of_cell? w _ hx106_2)).trans hx106_2
                    replace hx106_3 := (HB.out.cell (World.block_lt_of_cell? w _ hx106_3)).trans hx106_3
                    replace hx106_4 := (HB.out.cell (World.block_lt_of_cell? w _ hx106_4)).trans hx106_4
                    replace p106 := eq_true p106
                    replace q106 := eq_true q106
                    go_wp2_with (first | ((with_reducible refine gate_dst (N := 5) rfl ?_); refine box_event ?hg (N := 5) ?hd (cs := #[.string (⟨#[]⟩ : ByteArray), .int .i64 0, .int .i64 0, .int .i64 0, .bool false]) (t := 82) ?hr ?_; (case hd => rfl); (case hg => rfl); (case hr => first | (go_simp; done) | (go_simp; rfl)); intro gb107 hg w26 hbox hb; have n0_ := Aside0.mk (blk_below (g := gb104) (o := .cells #[.slice A0_0 l0_0.length c0_0, .slice A0_1 l0_1.length c0_1, .slice (some ad106) l0_2.length c0_2, .slice A0_3 l0_3.length c0_3, .slice A0_4 l0_4.length c0_4] 27 (0, 0)) (by (with_reducible repeat (first | refine blk_drewN ?_ _ | refine blk_drew ?_ | refine blk_alloc ?_ _)); exact BK104.out) hb); have n1_ := Aside0.mk (below_step (by repeat (first | (with_reducible first | exact HB.out | apply below_alloc | apply pw_below_drewN | apply below_drew1 | refine below_set ?_ GE104.out) | exact HB.out)) hb); have n2_ := Aside0.mk (hbox); have n3_ := Aside0.mk ((by rw [hg]; exact (below_size (by repeat (first | (with_reducible first | exact HB.out | apply below_alloc | apply pw_below_drewN | apply below_drew1 | refine below_set ?_ GE104.out) | exact HB.out))) : w.heap.size ≤ gb107)); have n4_ := Aside0.mk ((by rw [hg]; exact (below_size (by repeat (first | (with_reducible first | exact HB.out | apply below_alloc | apply pw_below_drewN | apply below_drew1 | refine below_set ?_ GE104.out) | exact HB.out))) : w.heap.size ≤ gb107)); have n5_ := Aside0.mk ((by rw [hg]; exact Nat.ne_of_lt (blk_lt (g := gb104) (o := .cells #[.slice A0_0 l0_0.length c0_0, .slice A0_1 l0_1.length c0_1, .slice (some ad106) l0_2.length c0_2, .slice A0_3 l0_3.length c0_3, .slice A0_4 l0_4.length c0_4] 27 (0, 0)) (by (with_reducible repeat (first | refine blk_drewN ?_ _ | refine blk_drew ?_ | refine blk_alloc ?_ _)); exact BK104.out)) : gb104 ≠ gb107)); have n6_ := Aside0.mk ((by rw [hg]; exact Nat.ne_of_gt (blk_lt (g := gb104) (o := .cells #[.slice A0_0 l0_0.length c0_0, .slice A0_1 l0_1.length c0_1, .slice (some ad106) l0_2.length c0_2, .slice A0_3 l0_3.length c0_3, .slice A0_4 l0_4.length c0_4] 27 (0, 0)) (by (with_reducible repeat (first | refine blk_drewN ?_ _ | refine blk_drew ?_ | refine blk_alloc ?_ _)); exact BK104.out)) : gb107 ≠ gb104)); clear BK104; clear HB; have BK104 := n0_; have HB := n1_; have BK107 := n2_; have GW107 := n3_; have GE107 := n4_; have NB104_107 := n5_; have NB107_104 := n6_; clear n0_ n1_ n2_ n3_ n4_ n5_ n6_; clear hb hbox hg; have hnb27 := NB107_104.out; have hnc27 := NB104_107.out; have hcz28_0 : w26.cell? ⟨gb107, 0, none⟩ = some (.string (⟨#[]⟩ : ByteArray)) := (blk_cell BK107.out 0).trans rfl; have hcz28_1 : w26.cell? ⟨gb107, 1, none⟩ = some (.int .i64 0) := (blk_cell BK107.out 1).trans rfl; have hcz28_2 : w26.cell? ⟨gb107, 2, none⟩ = some (.int .i64 0) := (blk_cell BK107.out 2).trans rfl; have hcz28_3 : w26.cell? ⟨gb107, 3, none⟩ = some (.int .i64 0) := (blk_cell BK107.out 3).trans rfl; have hcz28_4 : w26.cell? ⟨gb107, 4, none⟩ = some (.bool false) := (blk_cell BK107.out 4).trans rfl; have hfz28_0 := blk_frozen BK107.out 0; have hfz28_1 := blk_frozen BK107.out 1; have hfz28_2 := blk_frozen BK107.out 2; have hfz28_3 := blk_frozen BK107.out 3; have hfz28_4 := blk_frozen BK107.out 4))
                    go_roundg k1
                    case measure => have := HK1.out; omega
                    case rel => exact ⟨(wrap64 (x13_1 + 1)), (by first | rfl | (simp; done) | (simp [*]; done)), H', ⟨by have := HK1.out; omega⟩, ⟨by (with_reducible repeat (first | refine blk_drewN ?_ _ | refine blk_drew ?_ | refine blk_alloc ?_ _)); refine blk_far ?_ NB104_107.out _; (with_reducible repeat (first | refine blk_drewN ?_ _ | refine blk_drew ?_ | refine blk_alloc ?_ _)); refine blk_far ?_ NB104_107.out _; (with_reducible repeat (first | refine blk_drewN ?_ _ | refine blk_drew ?_ | refine blk_alloc ?_ _)); refine blk_far ?_ NB104_107.out _; (with_reducible repeat (first | refine blk_drewN ?_ _ | refine blk_drew ?_ | refine blk_alloc ?_ _)); refine blk_far ?_ NB104_107.out _; (with_reducible repeat (first | refine blk_drewN ?_ _ | refine blk_drew ?_ | refine blk_alloc ?_ _)); refine blk_far ?_ NB104_107.out _; (with_reducible repeat (first | refine blk_drewN ?_ _ | refine blk_drew ?_ | refine blk_alloc ?_ _)); exact BK104.out⟩, ⟨by repeat (first | (with_reducible first | exact HB.out | apply below_alloc | apply pw_below_drewN | apply below_drew1 | refine below_set ?_ GE104.out | refine below_set ?_ GE107.out) | exact HB.out)⟩⟩
          · rw [if_neg c9] at H
            exact absurd H (by simp)
        · rw [if_neg c8] at H
          exact absurd H (by simp)
      · rw [if_neg c7] at H
        have c7b0 : decide (x13_1 < (l0_2.length : Int)) = false := decide_eq_false c7
        clear c7
        have H' := Aside0.mk H
        clear H
        have hcz29_0 : wr.cell? ⟨gb104, 0, none⟩ = some (.slice A0_0 l0_0.length c0_0) := (blk_cell BK104.out 0).trans rfl
        have hcz29_1 : wr.cell? ⟨gb104, 1, none⟩ = some (.slice A0_1 l0_1.length c0_1) := (blk_cell BK104.out 1).trans rfl
        have hcz29_2 : wr.cell? ⟨gb104, 2, none⟩ = some (.slice A0_2 l0_2.length c0_2) := (blk_cell BK104.out 2).trans rfl
        have hcz29_3 : wr.cell? ⟨gb104, 3, none⟩ = some (.slice A0_3 l0_3.length c0_3) := (blk_cell BK104.out 3).trans rfl
        have hcz29_4 : wr.cell? ⟨gb104, 4, none⟩ = some (.slice A0_4 l0_4.length c0_4) := (blk_cell BK104.out 4).trans rfl
        have hfz29_0 := blk_frozen BK104.out 0
        have hfz29_1 := blk_frozen BK104.out 1
        have hfz29_2 := blk_frozen BK104.out 2
        have hfz29_3 := blk_frozen BK104.out 3
        have hfz29_4 := blk_frozen BK104.out 4
        go_wp2
        go_loopg [41] k1 (fun kq v41 w' => ∃ (x41_2 : Int), v41 = .int .i64 x41_2 ∧ Aside0 (netlist_ends.l1 kq t105 l0_4 (l0_4.length : Int) x41_2 = some r) ∧ Aside0 (kq ≤ k1) ∧ Aside0 (w'.heap[gb104]? = some (.cells #[(.slice A0_0 l0_0.length c0_0), (.slice A0_1 l0_1.length c0_1), (.slice A0_2 l0_2.length c0_2), (.slice A0_3 l0_3.length c0_3), (.slice A0_4 l0_4.length c0_4)] 27 (0, 0))) ∧ Aside0 (Below w.heap.size w w'))
        case atStart => exact ⟨(0), (by first | rfl | (simp; done) | (simp [*]; done)), H', ⟨Nat.le_refl _⟩, ⟨by (with_reducible repeat (first | refine blk_drewN ?_ _ | refine blk_drew ?_ | refine blk_alloc ?_ _)); exact BK104.out⟩, ⟨by repeat (first | (with_reducible first | exact HB.out | apply below_alloc | apply pw_below_drewN | apply below_drew1 | refine below_set ?_ GE104.out) | exact HB.out)⟩⟩
        case round =>
          clear H'
          try clear c1
          try clear p1
          try clear q1
          try clear hx1
          try clear c2
          try clear p2
          try clear c3
          try clear c5
          try clear p6
          try clear c7
          try clear c7b0
          try clear c8
          try clear c8b0
          try clear c9
          try clear c9b0
          try clear c10
          try clear c10b0
          try clear p10
          try clear q10
          try clear hx10
          try clear c12
          try clear c14
          try clear c14b0
          try clear c16
          try clear c18
          try clear c18b0
          try clear c20
          try clear c22
          try clear c22b0
          try clear c24
          try clear c27
          try clear hcz13_0
          try clear hcz13_1
          try clear hcz13_2
          try clear hcz13_3
          try clear hcz13_4
          try clear hcz17_0
          try clear hcz17_1
          try clear hcz17_2
          try clear hcz17_3
          try clear hcz17_4
          try clear hcz21_0
          try clear hcz21_1
          try clear hcz21_2
          try clear hcz21_3
          try clear hcz21_4
          try clear hcz25_0
          try clear hcz25_1
          try clear hcz25_2
          try clear hcz25_3
          try clear hcz25_4
          try clear hcz28_0
          try clear hcz28_1
          try clear hcz28_2
          try clear hcz28_3
          try clear hcz28_4
          try clear hcz29_0
          try clear hcz29_1
          try clear hcz29_2
          try clear hcz29_3
          try clear hcz29_4
          try clear hcz4_0
          try clear hcz4_1
          try clear hcz4_2
          try clear hcz4_3
          try clear hcz4_4
          try clear hcz6_0
          try clear hcz6_1
          try clear hcz6_2
          try clear hcz6_3
          try clear hcz6_4
          try clear hfz13_0
          try clear hfz13_1
          try clear hfz13_2
          try clear hfz13_3
          try clear hfz13_4
          try clear hfz17_0
          try clear hfz17_1
          try clear hfz17_2
          try clear hfz17_3
          try clear hfz17_4
          try clear hfz21_0
          try clear hfz21_1
          try clear hfz21_2
          try clear hfz21_3
          try clear hfz21_4
          try clear hfz25_0
          try clear hfz25_1
          try clear hfz25_2
          try clear hfz25_3
          try clear hfz25_4
          try clear hfz28_0
          try clear hfz28_1
          try clear hfz28_2
          try clear hfz28_3
          try clear hfz28_4
          try clear hfz29_0
          try clear hfz29_1
          try clear hfz29_2
          try clear hfz29_3
          try clear hfz29_4
          try clear hfz4_0
          try clear hfz4_1
          try clear hfz4_2
          try clear hfz4_3
          try clear hfz4_4
          try clear hfz6_0
          try clear hfz6_1
          try clear hfz6_2
          try clear hfz6_3
          try clear hfz6_4
          try clear hx106_0
          try clear hx106_1
          try clear hx106_2
          try clear hx106_3
          try clear hx106_4
          try clear p106
          try clear p2
          try clear q106
          obtain ⟨x41_2, rfl, HA, HK2, BK104, HB⟩ := hrel
          cases gk with
          | zero => exact absurd HA.out (by simp [netlist_ends.l1])
          | succ k2 =>
            have H := HA.out
            clear HA
            simp only [netlist_ends.l1] at H
            by_cases c30 : x41_2 < (l0_4.length : Int)
            · rw [if_pos c30] at H
              have c30b0 : decide (x41_2 < (l0_4.length : Int)) = true := decide_eq_true c30
              clear c30
              by_cases c31 : 0 ≤ x41_2
              · rw [if_pos c31] at H
                have c31b0 : decide (0 ≤ x41_2) = true := decide_eq_true c31
                clear c31
                by_cases c32 : x41_2 < (l0_4.length : Int)
                · rw [if_pos c32] at H
                  have c32b0 : decide (x41_2 < (l0_4.length : Int)) = true := decide_eq_true c32
                  clear c32
                  by_cases c33 : (rd l0_4 x41_2) < 0
                  · rw [if_pos c33] at H
                    have c33b0 : decide ((rd l0_4 x41_2) < 0) = true := decide_eq_true c33
                    clear c33
                    obtain rfl := Option.some.inj H
                    have p108 : 0 ≤ (x41_2 : Int) := of_decide_eq_true (by first | (with_reducible assumption) | assumption)
                    have q108 : x41_2 < (l0_4.length : Int) := of_decide_eq_true (by first | (with_reducible assumption) | assumption)
                    obtain ⟨ad108, e108, hx108_0⟩ := Kd.at_int HR0_4.out x41_2 p108 q108
                    cases e108
                    replace hx108_0 := (HB.out.cell (World.block_lt_of_cell? w _ hx108_0)).trans hx108_0
                    replace p108 := eq_true p108
                    replace q108 := eq_true q108
                    go_wp2
                    go_ret
                    exact ⟨by first | rfl | (simp [errW_none, errW_some] <;> rfl) | (simp [*, errW_none, errW_some] <;> rfl), by repeat (first | (with_reducible first | exact HB.out | apply below_alloc | apply pw_below_drewN | apply below_drew1 | refine below_set ?_ GE104.out) | exact HB.out)⟩
                  · rw [if_neg c33] at H
                    have c33b0 : decide ((rd l0_4 x41_2) < 0) = false := decide_eq_false c33
                    clear c33
                    by_cases c34 : (rd l0_4 x41_2) ≥ t105
                    · rw [if_pos c34] at H
                      have c34b0 : decide (t105 ≤ (rd l0_4 x41_2)) = true := decide_eq_true c34
                      clear c34
                      obtain rfl := Option.some.inj H
                      have p108 : 0 ≤ (x41_2 : Int) := of_decide_eq_true (by first | (with_reducible assumption) | assumption)
                      have q108 : x41_2 < (l0_4.length : Int) := of_decide_eq_true (by first | (with_reducible assumption) | assumption)
                      obtain ⟨ad108, e108, hx108_0⟩ := Kd.at_int HR0_4.out x41_2 p108 q108
                      cases e108
                      replace hx108_0 := (HB.out.cell (World.block_lt_of_cell? w _ hx108_0)).trans hx108_0
                      replace p108 := eq_true p108
                      replace q108 := eq_true q108
                      go_wp2
                      go_ret
                      exact ⟨by first | rfl | (simp [errW_none, errW_some] <;> rfl) | (simp [*, errW_none, errW_some] <;> rfl), by repeat (first | (with_reducible first | exact HB.out | apply below_alloc | apply pw_below_drewN | apply below_drew1 | refine below_set ?_ GE104.out) | exact HB.out)⟩
                    · rw [if_neg c34] at H
                      have c34b0 : decide (t105 ≤ (rd l0_4 x41_2)) = false := decide_eq_false c34
                      clear c34
                      have H' := Aside0.mk H
                      clear H
                      have p108 : 0 ≤ (x41_2 : Int) := of_decide_eq_true (by first | (with_reducible assumption) | assumption)
                      have q108 : x41_2 < (l0_4.length : Int) := of_decide_eq_true (by first | (with_reducible assumption) | assumption)
                      obtain ⟨ad108, e108, hx108_0⟩ := Kd.at_int HR0_4.out x41_2 p108 q108
                      cases e108
                      replace hx108_0 := (HB.out.cell (World.block_lt_of_cell? w _ hx108_0)).trans hx108_0
                      replace p108 := eq_true p108
                      replace q108 := eq_true q108
                      go_wp2
                      go_roundg k2
                      case measure => have := HK1.out; have := HK2.out; omega
                      case rel => exact ⟨(wrap64 (x41_2 + 1)), (by first | rfl | (simp; done) | (simp [*]; done)), H', ⟨by have := HK1.out; have := HK2.out; omega⟩, ⟨by (with_reducible repeat (first | refine blk_drewN ?_ _ | refine blk_drew ?_ | refine blk_alloc ?_ _)); exact BK104.out⟩, ⟨by repeat (first | (with_reducible first | exact HB.out | apply below_alloc | apply pw_below_drewN | apply below_drew1 | refine below_set ?_ GE104.out) | exact HB.out)⟩⟩
                · rw [if_neg c32] at H
                  exact absurd H (by simp)
              · rw [if_neg c31] at H
                exact absurd H (by simp)
            · rw [if_neg c30] at H
              have c30b0 : decide (x41_2 < (l0_4.length : Int)) = false := decide_eq_false c30
              clear c30
              obtain rfl := Option.some.inj H
              go_wp2
              go_ret
              exact ⟨by first | rfl | (simp [errW_none, errW_some] <;> rfl) | (simp [*, errW_none, errW_some] <;> rfl), by repeat (first | (with_reducible first | exact HB.out | apply below_alloc | apply pw_below_drewN | apply below_drew1 | refine below_set ?_ GE104.out) | exact HB.out)⟩
end Go.Proofs.Ytimjccfpobhpeaa.PF
