-- joined from: PFx24 NumP PFx18 PFx19
import Derived.Test.YtimjccfpobhpeaaWRepsOne
import Derived.Test.YtimjccfpobhpeaaM0
import Derived.Test.YtimjccfpobhpeaaM3
import Derived.Test.YtimjccfpobhpeaaM2
namespace Go.Proofs.Ytimjccfpobhpeaa.PF
open Go.RowKit Go.Proofs.YtimjccfpobhpeaaW.PrintWords Go.Proofs.YtimjccfpobhpeaaW.PrintLast Go.Proofs.YtimjccfpobhpeaaW.PrintMore
attribute [local go_sem] max2_int min2_int max_two min_two max_three min_three max_four min_four   -- for this text's walks alone
set_option linter.unusedVariables false
set_option linter.unusedSimpArgs false
theorem placesOf_key {l2 : List S82} {l3 : List S80} {l4 : List Int} {p : Int × S77} (h : p ∈ placesOf l2 l3 l4) (m2 : l2.length ≤ 140737488355328) (m3 : l3.length ≤ 140737488355328) (m4 : l4.length ≤ 140737488355328) (m5 : ∀ x ∈ l3, x.f2.length ≤ 140737488355328) : key3.ok (keyL p.2) := by
 have key : ∀ (a : Int) (i k : Nat), 0 ≤ a → a ≤ 3 → i ≤ 140737488355328 → k ≤ 140737488355328 → key3.ok (keyL ⟨a, i, k⟩) := fun a i k h1 h2 h3 h4 => ⟨InK.mk64 (by show _ ≤ a ∧ a ≤ _; omega), InK.mk64 (by show _ ≤ (i : Int) ∧ (i : Int) ≤ _; omega), InK.mk64 (by show _ ≤ (k : Int) ∧ (k : Int) ≤ _; omega)⟩
 unfold placesOf at h
 rcases List.mem_append.1 h with h | h
 · obtain ⟨j, k, x, net, h1, h2, rfl⟩ := gatePlaces_mem h
   have b1 := (List.getElem?_eq_some_iff.1 h1).1
   have b2 := (List.getElem?_eq_some_iff.1 h2).1
   have b3 := m5 x (List.mem_of_getElem? h1)
   exact key 0 _ _ (by decide) (by decide) (by omega) (by omega)
 rcases List.mem_append.1 h with h | h
 · obtain ⟨j, x, h1, rfl | rfl⟩ := flopPlaces_mem h
   · have b1 := (List.getElem?_eq_some_iff.1 h1).1
     exact key 1 _ 0 (by decide) (by decide) (by omega) (by decide)
   · have b1 := (List.getElem?_eq_some_iff.1 h1).1
     exact key 2 _ 0 (by decide) (by decide) (by omega) (by decide)
 · obtain ⟨j, net, h1, rfl⟩ := outPlaces_mem h
   have b1 := (List.getElem?_eq_some_iff.1 h1).1
   exact key 3 _ 0 (by decide) (by decide) (by omega) (by decide)
theorem loadsOf_key {l0 : List ByteArray} {l2 : List S82} {l3 : List S80} {l4 : List Int} (hfit : loadsFit l0 l2 l3 l4 = true) (m2 : l2.length ≤ 140737488355328) (m3 : l3.length ≤ 140737488355328) (m4 : l4.length ≤ 140737488355328) (m5 : ∀ x ∈ l3, x.f2.length ≤ 140737488355328) :
   ∀ row ∈ loadsOf l0 l2 l3 l4, ∀ l ∈ row, key3.ok (keyL l) := by
 intro row hrow l hl
 obtain ⟨j, hjr⟩ := List.getElem?_of_mem hrow
 have hj := (List.getElem?_eq_some_iff.1 hjr).1
 rw [loadsOf_len] at hj
 have hr := loadsOf_row hfit hj
 rw [hjr] at hr
 injection hr with hr
 rw [hr] at hl
 obtain ⟨p, hp, rfl⟩ := List.mem_map.1 hl
 exact placesOf_key (List.mem_filter.1 hp).1 m2 m3 m4 m5
def numsOf (l0 : List ByteArray) (l2 : List S82) (l3 : List S80) (l4 : List Int) : List ((Int × Int × Int) × Int) := numsFrom (loadsOf l0 l2 l3 l4) []
def nvOf (l0 : List ByteArray) (l2 : List S82) (l3 : List S80) (l4 : List Int) (a b : Int) (c : Bool) : S77 → Int → Int := newv a b (if c = true then 1 else 0) (numsOf l0 l2 l3 l4)
def maskref2_Broken.f (k : Nat) (l0_0 : List ByteArray) (l0_1 : List ByteArray) (l0_2 : List (S82)) (l0_3 : List (S80)) (l0_4 : List Int) (a1_0 : Int) (a1_1 : Int) (a1_2 : Bool) : Option (List ByteArray × List ByteArray × (List (S82)) × (List (S80)) × List Int) := (netlist_Loads.f k l0_0 l0_1 l0_2 l0_3 l0_4).bind fun r => if r.2 = 0 ∧ copyFits l0_0 l0_1 l0_2 l0_3 l0_4 = true then some (l0_0, l0_1, brFlops (nvOf l0_0 l0_2 l0_3 l0_4 a1_0 a1_1 a1_2) l0_2 0, brGates (nvOf l0_0 l0_2 l0_3 l0_4 a1_0 a1_1 a1_2) l0_3 0, brOuts (nvOf l0_0 l0_2 l0_3 l0_4 a1_0 a1_1 a1_2) l0_4 0) else none
theorem maskref2_Broken.mono : ∀ a0 a1 a2 a3 a4 a5 a6 a7 k, LeO (maskref2_Broken.f k a0 a1 a2 a3 a4 a5 a6 a7) (maskref2_Broken.f (k + 1) a0 a1 a2 a3 a4 a5 a6 a7) := fun a0 a1 a2 a3 a4 a5 a6 a7 k => LeO.bind (netlist_Loads.mono a0 a1 a2 a3 a4 k) (fun r => LeO.refl _)
set_option maxHeartbeats 2000000 in
theorem maskref2_Broken.calls (k : Nat) (A0_0 : Option Addr) (c0_0 : Nat) (l0_0 : List ByteArray) (A0_1 : Option Addr) (c0_1 : Nat) (l0_1 : List ByteArray) (A0_2 : Option Addr) (c0_2 : Nat) (l0_2 : List (S82)) (A0_3 : Option Addr) (c0_3 : Nat) (l0_3 : List (S80)) (A0_4 : Option Addr) (c0_4 : Nat) (l0_4 : List Int) (a1_0 : Int) (a1_1 : Int) (a1_2 : Bool) (r1 : List ByteArray) (r2 : List ByteArray) (r3 : List (S82)) (r4 : List (S80)) (r5 : List Int) (w : World) (hr0_0 : Kd.C Kd.string w A0_0 l0_0.length l0_0) (hc0_0 : l0_0.length ≤ c0_0) (hr0_1 : Kd.C Kd.string w A0_1 l0_1.length l0_1) (hc0_1 : l0_1.length ≤ c0_1) (hr0_2 : Kd.C k82 w A0_2 l0_2.length l0_2) (hc0_2 : l0_2.length ≤ c0_2) (hr0_3 : Kd.C k80 w A0_3 l0_3.length l0_3) (hc0_3 : l0_3.length ≤ c0_3) (hr0_4 : Kd.C (Kd.int .i64) w A0_4 l0_4.length l0_4) (hc0_4 : l0_4.length ≤ c0_4) (h : maskref2_Broken.f k l0_0 l0_1 l0_2 l0_3 l0_4 a1_0 a1_1 a1_2 = some (r1, r2, r3, r4, r5)) :
   Calls Try.prog 13 #[.agg #[.slice A0_0 l0_0.length c0_0, .slice A0_1 l0_1.length c0_1, .slice A0_2 l0_2.length c0_2, .slice A0_3 l0_3.length c0_3, .slice A0_4 l0_4.length c0_4], .agg #[.int .i64 a1_0, .int .i64 a1_1, .bool a1_2]] w fun e w' => ∃ v0_ v1_ v2_ v3_ v4_ : Value, e = .returned (.agg #[v0_, v1_, v2_, v3_, v4_]) ∧ Kd.R Kd.string 9 w' w.heap.size (fun k_ => some k_ ≠ (v1_ : Value).ownBlock) v0_ r1 ∧ Kd.R Kd.string 9 w' w.heap.size (fun k_ => some k_ ≠ (v0_ : Value).ownBlock) v1_ r2 ∧ Kd.R k82 82 w' w.heap.size (fun _ => True) v2_ r3 ∧ Kd.S k80 80 w' w.heap.size (fun k_ => some k_ ≠ (v4_ : Value).ownBlock) v3_ r4 ∧ Kd.R (Kd.int .i64) 3 w' w.heap.size (fun _ => True) v4_ r5 ∧ Below w.heap.size w w' := by
 unfold maskref2_Broken.f at h
 obtain ⟨⟨rows, e1⟩, hL, h2⟩ := Option.bind_eq_some_iff.1 h
 by_cases h0 : e1 = 0 ∧ copyFits l0_0 l0_1 l0_2 l0_3 l0_4 = true
 · obtain ⟨rfl, hf⟩ := h0
   rw [if_pos ⟨rfl, hf⟩] at h2
   simp only [Option.some.injEq, Prod.mk.injEq] at h2
   obtain ⟨rfl, rfl, rfl, rfl, rfl⟩ := h2
   obtain ⟨hF, hfit, rfl⟩ := netlist_Loads.ok hL
   simp only [copyFits, Bool.and_eq_true, decide_eq_true_eq, List.all_eq_true] at hf
   obtain ⟨⟨⟨⟨⟨m0, m1⟩, m2⟩, m3⟩, m4⟩, m5⟩ := hf
   have HL := fun (W : World) (hW : Below w.heap.size w W) => netlist_Loads.calls k A0_0 c0_0 l0_0 A0_1 c0_1 l0_1 A0_2 c0_2 l0_2 A0_3 c0_3 l0_3 A0_4 c0_4 l0_4 _ 0 W (Kd.C_below hr0_0 hW) hc0_0 (Kd.C_below hr0_1 hW) hc0_1 (Kd.C_below hr0_2 hW) hc0_2 (Kd.C_below hr0_3 hW) hc0_3 (Kd.C_below hr0_4 hW) hc0_4 hL
   have HM := fun (W : World) (hW : Below w.heap.size w W) => nums_calls A0_0 A0_1 A0_2 A0_3 A0_4 l0_0.length l0_1.length l0_2.length l0_3.length l0_4.length c0_0 c0_1 c0_2 c0_3 c0_4 W _ (loadsOf_key hfit (by omega) (by omega) (by omega) (fun x hx => by have := m5 x hx; omega)) (fun W' hW' => HL W' (hW.trans (hW'.mono hW.size)))
   have fin : ∀ {l2 : List S82} {l3 : List S80} {l4 : List Int} {e : Ending} {w' : World}, (∃ v0 v1 v2 v3 v4 : Value, e = .returned (.agg #[v0, v1, v2, v3, v4]) ∧ NetR (fun _ => True) w.heap.size w' v0 v1 v2 v3 v4 l0_0 l0_1 l2 l3 l4 ∧ Below w.heap.size w w') → ∃ v0_ v1_ v2_ v3_ v4_ : Value, e = .returned (.agg #[v0_, v1_, v2_, v3_, v4_]) ∧ Kd.R Kd.string 9 w' w.heap.size (fun k_ => some k_ ≠ (v1_ : Value).ownBlock) v0_ l0_0 ∧ Kd.R Kd.string 9 w' w.heap.size (fun k_ => some k_ ≠ (v0_ : Value).ownBlock) v1_ l0_1 ∧ Kd.R k82 82 w' w.heap.size (fun _ => True) v2_ l2 ∧ Kd.S k80 80 w' w.heap.size (fun k_ => some k_ ≠ (v4_ : Value).ownBlock) v3_ l3 ∧ Kd.R (Kd.int .i64) 3 w' w.heap.size (fun _ => True) v4_ l4 ∧ Below w.heap.size w w' := by
     rintro l2 l3 l4 e w' ⟨v0, v1, v2, v3, v4, he, hr, hb⟩
     exact ⟨v0, v1, v2, v3, v4, he, Kd.R_mono hr.r0 (fun _ h => h.2), Kd.R_mono hr.r1 (fun _ h => h.2), hr.r2, Kd.S_mono hr.r3 (fun _ h => h.2), hr.r4, hb⟩
   cases a1_2
   · exact (broken_f A0_0 A0_1 A0_2 A0_3 A0_4 c0_0 c0_1 c0_2 c0_3 c0_4 l0_0 l0_1 l0_2 l0_3 l0_4 a1_0 a1_1 w hr0_0 hr0_1 hr0_2 hr0_3 hr0_4 m0 m1 m2 m3 m4 m5 _ _ rfl HM).mono fun _ _ hp => fin hp
   · exact (broken_t A0_0 A0_1 A0_2 A0_3 A0_4 c0_0 c0_1 c0_2 c0_3 c0_4 l0_0 l0_1 l0_2 l0_3 l0_4 a1_0 a1_1 w hr0_0 hr0_1 hr0_2 hr0_3 hr0_4 m0 m1 m2 m3 m4 m5 _ _ rfl HM).mono fun _ _ hp => fin hp
 · rw [if_neg h0] at h2
   cases h2
end Go.Proofs.Ytimjccfpobhpeaa.PF
/- Plain: Inject's netlist is Broken's. -/
namespace Go.Proofs.Ytimjccfpobhpeaa
open Go.RowKit Go.Proofs.YtimjccfpobhpeaaW.PrintWords Go.Proofs.Ytimjccfpobhpeaa.PF
set_option linter.unusedVariables false
theorem pin_mem {i : Nat} {net : Int} : ∀ {xs : List Int} {k j : Nat}, xs[j]? = some net → ((net, ⟨0, i, (k + j : Nat)⟩) : Int × Load) ∈ pinPlaces i xs k
 | [], _, _, h => by simp at h
 | x :: r, k, 0, h => by
   obtain rfl : x = net := by simpa using h
   rw [pinPlaces]
   exact List.mem_cons_self
 | x :: r, k, j + 1, h => by
   rw [pinPlaces]
   have := pin_mem (i := i) (k := k + 1) (j := j) (xs := r) (net := net) (by simpa using h)
   rw [show k + 1 + j = k + (j + 1) by omega] at this
   exact List.mem_cons_of_mem _ this
theorem gate_mem {k : Nat} {net : Int} : ∀ {xs : List GateS} {i j : Nat} {x : GateS}, xs[j]? = some x → x.f2[k]? = some net → ((net, ⟨0, (i + j : Nat), k⟩) : Int × Load) ∈ gatePlaces xs i
 | [], _, _, _, h, _ => by simp at h
 | y :: r, i, 0, x, h, hk => by
   obtain rfl : y = x := by simpa using h
   rw [gatePlaces]
   have := pin_mem (i := i) (k := 0) hk
   rw [Nat.zero_add] at this
   exact List.mem_append_left _ this
 | y :: r, i, j + 1, x, h, hk => by
   rw [gatePlaces]
   have := gate_mem (i := i + 1) (j := j) (xs := r) (x := x) (by simpa using h) hk
   rw [show i + 1 + j = i + (j + 1) by omega] at this
   exact List.mem_append_right _ this
theorem flop_mem : ∀ {xs : List FlopS} {i j : Nat} {x : FlopS}, xs[j]? = some x → ((x.f2, ⟨1, (i + j : Nat), 0⟩) : Int × Load) ∈ flopPlaces xs i ∧ ((x.f3, ⟨2, (i + j : Nat), 0⟩) : Int × Load) ∈ flopPlaces xs i
 | [], _, _, _, h => by simp at h
 | y :: r, i, 0, x, h => by
   obtain rfl : y = x := by simpa using h
   rw [flopPlaces]
   exact ⟨List.mem_cons_self, List.mem_cons_of_mem _ List.mem_cons_self⟩
 | y :: r, i, j + 1, x, h => by
   rw [flopPlaces]
   have := flop_mem (i := i + 1) (j := j) (xs := r) (x := x) (by simpa using h)
   rw [show i + 1 + j = i + (j + 1) by omega] at this
   exact ⟨List.mem_cons_of_mem _ (List.mem_cons_of_mem _ this.1), List.mem_cons_of_mem _ (List.mem_cons_of_mem _ this.2)⟩
theorem out_mem {net : Int} : ∀ {xs : List Int} {i j : Nat}, xs[j]? = some net → ((net, ⟨3, (i + j : Nat), 0⟩) : Int × Load) ∈ outPlaces xs i
 | [], _, _, h => by simp at h
 | x :: r, i, 0, h => by
   obtain rfl : x = net := by simpa using h
   rw [outPlaces]
   exact List.mem_cons_self
 | x :: r, i, j + 1, h => by
   rw [outPlaces]
   have := out_mem (i := i + 1) (j := j) (xs := r) (net := net) (by simpa using h)
   rw [show i + 1 + j = i + (j + 1) by omega] at this
   exact List.mem_cons_of_mem _ this
section
variable {l2 : List FlopS} {l3 : List GateS} {l4 : List Int}
theorem places_to {p : Int × Load} (h : p ∈ placesOf l2 l3 l4) : ∃ q, p.2 = toL q ∧ getP ⟨l2, l3, l4⟩ q = some p.1 := by
 unfold placesOf at h
 rcases List.mem_append.1 h with h | h
 · obtain ⟨j, k, x, net, h1, h2, rfl⟩ := gatePlaces_mem h
   exact ⟨.pin j k, by rw [Nat.zero_add]; rfl, by simp only [getP]; rw [h1]; exact h2⟩
 rcases List.mem_append.1 h with h | h
 · obtain ⟨j, x, h1, rfl | rfl⟩ := flopPlaces_mem h
   · exact ⟨.d j, by rw [Nat.zero_add]; rfl, by simp only [getP]; rw [h1]; rfl⟩
   · exact ⟨.en j, by rw [Nat.zero_add]; rfl, by simp only [getP]; rw [h1]; rfl⟩
 · obtain ⟨j, net, h1, rfl⟩ := outPlaces_mem h
   exact ⟨.out j, by rw [Nat.zero_add]; rfl, h1⟩
theorem places_of {q : Pl} {x : Int} (h : getP ⟨l2, l3, l4⟩ q = some x) : ((x, toL q) : Int × Load) ∈ placesOf l2 l3 l4 := by
 unfold placesOf
 cases q with
 | pin i k =>
   obtain ⟨g, h1, h2⟩ := Option.bind_eq_some_iff.1 h
   have := gate_mem (i := 0) h1 h2
   rw [Nat.zero_add] at this
   exact List.mem_append_left _ this
 | d i =>
   obtain ⟨g, h1, rfl⟩ := Option.map_eq_some_iff.1 h
   have := (flop_mem (i := 0) h1).1
   rw [Nat.zero_add] at this
   exact List.mem_append_right _ (List.mem_append_left _ this)
 | en i =>
   obtain ⟨g, h1, rfl⟩ := Option.map_eq_some_iff.1 h
   have := (flop_mem (i := 0) h1).2
   rw [Nat.zero_add] at this
   exact List.mem_append_right _ (List.mem_append_left _ this)
 | out i =>
   have := out_mem (i := 0) h
   rw [Nat.zero_add] at this
   exact List.mem_append_right _ (List.mem_append_right _ this)
end
theorem load_f0 {a b : Load} (h : a = b) : a.f0 = b.f0 := by rw [h]
theorem load_f1 {a b : Load} (h : a = b) : a.f1 = b.f1 := by rw [h]
theorem load_f2 {a b : Load} (h : a = b) : a.f2 = b.f2 := by rw [h]
theorem pin_nodup (i : Nat) : ∀ (xs : List Int) (k : Nat), ((pinPlaces i xs k).map (·.2)).Nodup
 | [], k => List.nodup_nil
 | x :: r, k => by
   rw [pinPlaces, List.map_cons]
   refine List.nodup_cons.2 ⟨fun h => ?_, pin_nodup i r (k + 1)⟩
   obtain ⟨p, hp, e⟩ := List.mem_map.1 h
   obtain ⟨j, net, _, rfl⟩ := pinPlaces_mem hp
   have := load_f2 e
   simp only at this
   omega
theorem gate_nodup : ∀ (xs : List GateS) (i : Nat), ((gatePlaces xs i).map (·.2)).Nodup
 | [], i => List.nodup_nil
 | x :: r, i => by
   rw [gatePlaces, List.map_append]
   refine List.nodup_append.2 ⟨pin_nodup i x.f2 0, gate_nodup r (i + 1), fun a ha b hb e => ?_⟩
   obtain ⟨p, hp, rfl⟩ := List.mem_map.1 ha
   obtain ⟨p2, hp2, rfl⟩ := List.mem_map.1 hb
   obtain ⟨j, net, _, rfl⟩ := pinPlaces_mem hp
   obtain ⟨j2, k2, x2, net2, _, _, rfl⟩ := gatePlaces_mem hp2
   have := load_f1 e
   simp only at this
   omega
theorem flop_nodup : ∀ (xs : List FlopS) (i : Nat), ((flopPlaces xs i).map (·.2)).Nodup
 | [], i => List.nodup_nil
 | x :: r, i => by
   rw [flopPlaces, List.map_cons, List.map_cons]
   refine List.nodup_cons.2 ⟨fun h => ?_, List.nodup_cons.2 ⟨fun h => ?_, flop_nodup r (i + 1)⟩⟩
   · rcases List.mem_cons.1 h with e | h
     · have := load_f0 e
       simp only at this
       omega
     · obtain ⟨p, hp, e⟩ := List.mem_map.1 h
       obtain ⟨j, y, _, rfl | rfl⟩ := flopPlaces_mem hp
       · have := load_f1 e
         simp only at this
         omega
       · have := load_f1 e
         simp only at this
         omega
   · obtain ⟨p, hp, e⟩ := List.mem_map.1 h
     obtain ⟨j, y, _, rfl | rfl⟩ := flopPlaces_mem hp
     · have := load_f1 e
       simp only at this
       omega
     · have := load_f1 e
       simp only at this
       omega
theorem out_nodup : ∀ (xs : List Int) (i : Nat), ((outPlaces xs i).map (·.2)).Nodup
 | [], i => List.nodup_nil
 | x :: r, i => by
   rw [outPlaces, List.map_cons]
   refine List.nodup_cons.2 ⟨fun h => ?_, out_nodup r (i + 1)⟩
   obtain ⟨p, hp, e⟩ := List.mem_map.1 h
   obtain ⟨j, net, _, rfl⟩ := outPlaces_mem hp
   have := load_f1 e
   simp only at this
   omega
theorem places_nodup (l2 : List FlopS) (l3 : List GateS) (l4 : List Int) : ((placesOf l2 l3 l4).map (·.2)).Nodup := by
 unfold placesOf
 rw [List.map_append, List.map_append]
 refine List.nodup_append.2 ⟨gate_nodup l3 0, List.nodup_append.2 ⟨flop_nodup l2 0, out_nodup l4 0, fun a ha b hb e => ?_⟩, fun a ha b hb e => ?_⟩
 · obtain ⟨p, hp, rfl⟩ := List.mem_map.1 ha
   obtain ⟨p2, hp2, rfl⟩ := List.mem_map.1 hb
   obtain ⟨j2, net2, _, rfl⟩ := outPlaces_mem hp2
   obtain ⟨j, y, _, rfl | rfl⟩ := flopPlaces_mem hp
   all_goals
     have := load_f0 e
     simp only at this
     omega
 · obtain ⟨p, hp, rfl⟩ := List.mem_map.1 ha
   obtain ⟨j, k, x, net, _, _, rfl⟩ := gatePlaces_mem hp
   rcases List.mem_append.1 hb with hb | hb
   · obtain ⟨p2, hp2, rfl⟩ := List.mem_map.1 hb
     obtain ⟨j, y, _, rfl | rfl⟩ := flopPlaces_mem hp2
     all_goals
       have := load_f0 e
       simp only at this
       omega
   · obtain ⟨p2, hp2, rfl⟩ := List.mem_map.1 hb
     obtain ⟨j2, net2, _, rfl⟩ := outPlaces_mem hp2
     have := load_f0 e
     simp only at this
     omega
theorem keyL_inj {l l' : Load} (h : keyL l = keyL l') : l = l' := by
 cases l
 cases l'
 simp only [keyL, Prod.mk.injEq] at h
 obtain ⟨rfl, rfl, rfl⟩ := h
 rfl
theorem numsRow_out {l : Load} : ∀ (row : List Load) (i : Nat) (m : List ((Int × Int × Int) × Int)), l ∉ row → mget (numsRow row i m) (keyL l) = mget m (keyL l)
 | [], i, m, h => rfl
 | l' :: r, i, m, h => by
   rw [numsRow, numsRow_out r (i + 1) _ (fun e => h (List.mem_cons_of_mem _ e)), mget_mput, if_neg (fun e => h (by rw [keyL_inj e]; exact List.mem_cons_self))]
theorem numsRow_in {l : Load} : ∀ (row : List Load) (i : Nat) (m : List ((Int × Int × Int) × Int)) (j : Nat), row.Nodup → row[j]? = some l → mget (numsRow row i m) (keyL l) = some ((i + j : Nat) : Int)
 | [], i, m, j, hn, h => by simp at h
 | l' :: r, i, m, 0, hn, h => by
   obtain rfl : l' = l := by simpa using h
   rw [numsRow, numsRow_out r (i + 1) _ (List.nodup_cons.1 hn).1, mget_mput, if_pos rfl, Nat.add_zero]
 | l' :: r, i, m, j + 1, hn, h => by
   rw [numsRow, numsRow_in r (i + 1) _ j (List.nodup_cons.1 hn).2 (by simpa using h), show i + 1 + j = i + (j + 1) by omega]
theorem numsFrom_out {l : Load} : ∀ (rows : List (List Load)) (m : List ((Int × Int × Int) × Int)), (∀ row ∈ rows, l ∉ row) → mget (numsFrom rows m) (keyL l) = mget m (keyL l)
 | [], m, h => rfl
 | row :: r, m, h => by
   rw [numsFrom, numsFrom_out r _ (fun x hx => h x (List.mem_cons_of_mem _ hx)), numsRow_out _ _ _ (h row List.mem_cons_self)]
theorem numsFrom_in {l : Load} : ∀ (rows : List (List Load)) (m : List ((Int × Int × Int) × Int)) (n : Nat) (row : List Load) (j : Nat), rows[n]? = some row → row.Nodup → row[j]? = some l → (∀ n' row', n < n' → rows[n']? = some row' → l ∉ row') → mget (numsFrom rows m) (keyL l) = some (j : Int)
 | [], m, n, row, j, h, _, _, _ => by simp at h
 | row0 :: r, m, 0, row, j, h, hn, hj, hl => by
   obtain rfl : row0 = row := by simpa using h
   rw [numsFrom, numsFrom_out r _ (fun x hx => by
     obtain ⟨n', hn'⟩ := List.getElem?_of_mem hx
     exact hl (n' + 1) x (by omega) (by rw [List.getElem?_cons_succ]; exact hn')), numsRow_in _ _ _ j hn hj, Nat.zero_add]
 | row0 :: r, m, n + 1, row, j, h, hn, hj, hl => by
   rw [numsFrom]
   exact numsFrom_in r _ n row j (by simpa using h) hn hj (fun n' row' h1 h2 => hl (n' + 1) row' (by omega) (by rw [List.getElem?_cons_succ]; exact h2))
theorem Skel.symm {s s' : NetP} (h : Skel s s') : Skel s' s := ⟨h.fl.symm, h.ga.symm, h.ou.symm⟩
def rowAt (l2 : List FlopS) (l3 : List GateS) (l4 : List Int) (n : Nat) : List Load := ((placesOf l2 l3 l4).filter fun p => decide (p.1 = (n : Int))).map (·.2)
section
variable {l2 : List FlopS} {l3 : List GateS} {l4 : List Int}
theorem rowAt_mem {n : Nat} {q : Pl} : toL q ∈ rowAt l2 l3 l4 n ↔ getP ⟨l2, l3, l4⟩ q = some (n : Int) := by
 constructor
 · intro h
   obtain ⟨p, hp, e⟩ := List.mem_map.1 h
   obtain ⟨hp, hd⟩ := List.mem_filter.1 hp
   obtain ⟨q', e', hq⟩ := places_to hp
   obtain rfl := toL_inj (e'.symm.trans e)
   rw [hq, of_decide_eq_true hd]
 · intro h
   exact List.mem_map.2 ⟨_, List.mem_filter.2 ⟨places_of h, by simp⟩, rfl⟩
theorem rowAt_nodup (n : Nat) : (rowAt l2 l3 l4 n).Nodup := List.Nodup.sublist (List.Sublist.map _ List.filter_sublist) (places_nodup l2 l3 l4)
theorem rowAt_to {n : Nat} : ∀ l ∈ rowAt l2 l3 l4 n, ∃ p, l = toL p := by
 intro l hl
 obtain ⟨p, hp, rfl⟩ := List.mem_map.1 hl
 obtain ⟨q, hq, _⟩ := places_to (List.mem_filter.1 hp).1
 exact ⟨q, hq⟩
theorem inj_br {l0 : List ByteArray} (hfit : loadsFit l0 l2 l3 l4 = true) (a : Nat) (b : Int) (c : Bool) (ha : a < netsOf l0 l2 l3) :
   injRes (loadsOf l0 l2 l3 l4) (a : Int) b c l2 l3 l4 = brOf (nvOf l0 l2 l3 l4 a b c) ⟨l2, l3, l4⟩ := by
 have hrow : ∀ n, n < netsOf l0 l2 l3 → (loadsOf l0 l2 l3 l4)[n]? = some (rowAt l2 l3 l4 n) := fun n hn => loadsOf_row hfit hn
 unfold injRes
 rw [Int.toNat_natCast, List.getD_eq_getElem?_getD, hrow a ha, Option.getD_some]
 refine netP_ext ((skel_br _ _).symm.trans (skel_inject b _ _ 0 _ rowAt_to)) fun q => ?_
 obtain ⟨i1, i2⟩ := getP_inject b (if c = true then 1 else 0) q (rowAt l2 l3 l4 a) 0 ⟨l2, l3, l4⟩ rowAt_to (rowAt_nodup a)
 rw [getP_br]
 cases hq : getP ⟨l2, l3, l4⟩ q with
 | none =>
   rw [hq] at i1 i2
   by_cases hc : ∃ j, (rowAt l2 l3 l4 a)[j]? = some (toL q) ∧ (b < 0 ∨ b = (0 + j : Nat))
   · rw [i1 hc]
     rfl
   · rw [i2 hc]
     rfl
 | some x =>
   rw [hq] at i1 i2
   obtain ⟨r1, r2⟩ := (loadsFit_good hfit).1.rng _ (places_of hq)
   simp only at r1 r2
   obtain ⟨n, rfl⟩ := Int.eq_ofNat_of_zero_le r1
   obtain ⟨j, hj⟩ := List.getElem?_of_mem (rowAt_mem.2 hq)
   have hm : mget (numsOf l0 l2 l3 l4) (keyL (toL q)) = some (j : Int) := by
     unfold numsOf
     refine numsFrom_in _ _ n _ j (hrow n (by omega)) (rowAt_nodup n) hj fun n' row' h1 h2 h3 => ?_
     have hn' := (List.getElem?_eq_some_iff.1 h2).1
     rw [loadsOf_len] at hn'
     rw [hrow n' hn'] at h2
     cases h2
     rw [rowAt_mem, hq] at h3
     injection h3 with h3
     omega
   have hnv : nvOf l0 l2 l3 l4 a b c (toL q) (n : Int) = if (n : Int) = a ∧ (b < 0 ∨ (j : Int) = b) then (if c = true then 1 else 0) else (n : Int) := by
     unfold nvOf newv
     rw [hm, Option.getD_some]
     simp only [putC, Bool.and_eq_true, Bool.or_eq_true, decide_eq_true_eq]
   rw [Option.map_some, hnv]
   by_cases hc : ∃ j, (rowAt l2 l3 l4 a)[j]? = some (toL q) ∧ (b < 0 ∨ b = (0 + j : Nat))
   · rw [i1 hc]
     obtain ⟨j', hj', hb⟩ := hc
     have hna := rowAt_mem.1 (List.mem_of_getElem? hj')
     rw [hq] at hna
     injection hna with hna
     obtain rfl : n = a := by omega
     obtain rfl : j = j' := List.getElem?_inj (List.getElem?_eq_some_iff.1 hj).1 (rowAt_nodup n) |>.1 (hj.trans hj'.symm)
     have hP : (n : Int) = n ∧ (b < 0 ∨ (j : Int) = b) := ⟨rfl, by rcases hb with hb | hb; exact .inl hb; exact .inr (by rw [hb, Nat.zero_add])⟩
     rw [if_pos hP]
     rfl
   · rw [i2 hc]
     have hN : ¬ ((n : Int) = a ∧ (b < 0 ∨ (j : Int) = b)) := by
       rintro ⟨h1, h2⟩
       obtain rfl : n = a := Int.ofNat.inj h1
       exact hc ⟨j, hj, by rcases h2 with h2 | h2; exact .inl h2; exact .inr (by rw [Nat.zero_add]; exact h2.symm)⟩
     rw [if_neg hN]
end
end Go.Proofs.Ytimjccfpobhpeaa
namespace Go.Proofs.Ytimjccfpobhpeaa.PF
open Go.RowKit Go.Proofs.YtimjccfpobhpeaaW.PrintWords Go.Proofs.YtimjccfpobhpeaaW.PrintLast Go.Proofs.YtimjccfpobhpeaaW.PrintMore
attribute [local go_sem] max2_int min2_int max_two min_two max_three min_three max_four min_four   -- for this text's walks alone
set_option linter.unusedVariables false
set_option linter.unusedSimpArgs false
def maskref2_FaultFault.j0 : Nat → List (List (S77)) → Bool → Int → Int → Bool → Option (Int)
 | 0, _, _, _, _, _ => none
 | k + 1, x5, x21, x130000, x130001, x130002 => if x21 = true then (some 7) else (if x130001 < (-1) then (some 2) else (if 0 ≤ x130000 then (if x130000 < (x5.length : Int) then (if x130001 ≥ ((rd_L12 x5 x130000).length : Int) then (some 2) else (some 0)) else (none)) else (none)))
def maskref2_FaultFault.f (k : Nat) (l0_0 : List ByteArray) (l0_1 : List ByteArray) (l0_2 : List (S82)) (l0_3 : List (S80)) (l0_4 : List Int) (a1_0 : Int) (a1_1 : Int) (a1_2 : Bool) : Option (Int) := (netlist_Loads.f k l0_0 l0_1 l0_2 l0_3 l0_4).bind fun bt130 => (if a1_0 < 2 then (maskref2_FaultFault.j0 k bt130.1 true a1_0 a1_1 a1_2) else (maskref2_FaultFault.j0 k bt130.1 (decide (a1_0 ≥ (bt130.1.length : Int))) a1_0 a1_1 a1_2))
theorem maskref2_FaultFault.mono_l : ∀ k, (∀ y0 y1 y2 y3 y4, LeO (maskref2_FaultFault.j0 k y0 y1 y2 y3 y4) (maskref2_FaultFault.j0 (k + 1) y0 y1 y2 y3 y4))
 | 0 => fun _ _ _ _ _ r h => by simp [maskref2_FaultFault.j0] at h
 | k + 1 => by
   have ih0 := maskref2_FaultFault.mono_l k
   · intro y0 y1 y2 y3 y4
     unfold maskref2_FaultFault.j0
     repeat' first
     | (with_reducible exact ih0 _ _ _ _ _)
     | (with_reducible exact netlist_Loads.mono _ _ _ _ _ _)
     | (with_reducible exact LeO.refl _)
     | (with_reducible exact LeO.none _)
     | (with_reducible refine LeO.ite ?_ ?_)
     | (with_reducible refine LeO.bind ?_ (fun _ => ?_))
     | exact ih0 _ _ _ _ _
     | exact netlist_Loads.mono _ _ _ _ _ _
     | exact LeO.none _
     | refine LeO.ite ?_ ?_
     | refine LeO.bind ?_ (fun _ => ?_)
theorem maskref2_FaultFault.mono : ∀ a0 a1 a2 a3 a4 a5 a6 a7 k, LeO (maskref2_FaultFault.f k a0 a1 a2 a3 a4 a5 a6 a7) (maskref2_FaultFault.f (k + 1) a0 a1 a2 a3 a4 a5 a6 a7) := by
 intro a0 a1 a2 a3 a4 a5 a6 a7 k
 have ih0 := maskref2_FaultFault.mono_l k
 unfold maskref2_FaultFault.f
 repeat' first
     | (with_reducible exact ih0 _ _ _ _ _)
     | (with_reducible exact netlist_Loads.mono _ _ _ _ _ _)
     | (with_reducible exact LeO.refl _)
     | (with_reducible exact LeO.none _)
     | (with_reducible refine LeO.ite ?_ ?_)
     | (with_reducible refine LeO.bind ?_ (fun _ => ?_))
     | exact ih0 _ _ _ _ _
     | exact netlist_Loads.mono _ _ _ _ _ _
     | exact LeO.none _
     | refine LeO.ite ?_ ?_
     | refine LeO.bind ?_ (fun _ => ?_)
set_option maxHeartbeats 8000000 in
set_option maxRecDepth 100000 in
theorem maskref2_FaultFault.calls (k : Nat) (A0_0 : Option Addr) (c0_0 : Nat) (l0_0 : List ByteArray) (A0_1 : Option Addr) (c0_1 : Nat) (l0_1 : List ByteArray) (A0_2 : Option Addr) (c0_2 : Nat) (l0_2 : List (S82)) (A0_3 : Option Addr) (c0_3 : Nat) (l0_3 : List (S80)) (A0_4 : Option Addr) (c0_4 : Nat) (l0_4 : List Int) (a1_0 : Int) (a1_1 : Int) (a1_2 : Bool) (r : Int) (w : World) (hr0_0 : Kd.C Kd.string w A0_0 l0_0.length l0_0) (hc0_0 : l0_0.length ≤ c0_0) (hr0_1 : Kd.C Kd.string w A0_1 l0_1.length l0_1) (hc0_1 : l0_1.length ≤ c0_1) (hr0_2 : Kd.C k82 w A0_2 l0_2.length l0_2) (hc0_2 : l0_2.length ≤ c0_2) (hr0_3 : Kd.C k80 w A0_3 l0_3.length l0_3) (hc0_3 : l0_3.length ≤ c0_3) (hr0_4 : Kd.C (Kd.int .i64) w A0_4 l0_4.length l0_4) (hc0_4 : l0_4.length ≤ c0_4) (h : maskref2_FaultFault.f k l0_0 l0_1 l0_2 l0_3 l0_4 a1_0 a1_1 a1_2 = some r) :
   Calls Try.prog 10 #[.agg #[.slice A0_0 l0_0.length c0_0, .slice A0_1 l0_1.length c0_1, .slice A0_2 l0_2.length c0_2, .slice A0_3 l0_3.length c0_3, .slice A0_4 l0_4.length c0_4], .agg #[.int .i64 a1_0, .int .i64 a1_1, .bool a1_2]] w fun e w' => e = .returned (.int .i64 r) ∧ Below w.heap.size w w' := by
 have hu27 := Try.underlying27
 have hu29 := Try.underlying29
 have HR0_0 := Aside0.mk hr0_0
 have HC0_0 := Aside0.mk hc0_0
 clear hr0_0 hc0_0
 have HR0_1 := Aside0.mk hr0_1
 have HC0_1 := Aside0.mk hc0_1
 clear hr0_1 hc0_1
 have HR0_2 := Aside0.mk hr0_2
 have HC0_2 := Aside0.mk hc0_2
 clear hr0_2 hc0_2
 have HR0_3 := Aside0.mk hr0_3
 have HC0_3 := Aside0.mk hc0_3
 clear hr0_3 hc0_3
 have HR0_4 := Aside0.mk hr0_4
 have HC0_4 := Aside0.mk hc0_4
 clear hr0_4 hc0_4
 have HB := Aside0.mk (Below.refl w.heap.size w)
 have H : ((netlist_Loads.f k l0_0 l0_1 l0_2 l0_3 l0_4).bind fun bt130 => (if a1_0 < 2 then (maskref2_FaultFault.j0 k bt130.1 true a1_0 a1_1 a1_2) else (maskref2_FaultFault.j0 k bt130.1 (decide (a1_0 ≥ (bt130.1.length : Int))) a1_0 a1_1 a1_2))) = some r := h
 clear h
 replace H := Option.bind_eq_some_iff.mp H
 obtain ⟨⟨t130, t133⟩, A30, H⟩ := H
 replace H : (if a1_0 < 2 then (maskref2_FaultFault.j0 k t130 true a1_0 a1_1 a1_2) else (maskref2_FaultFault.j0 k t130 (decide (a1_0 ≥ (t130.length : Int))) a1_0 a1_1 a1_2)) = some r := H
 have A3 := Aside0.mk A30
 clear A30
 have HC4 := Aside0.mk H
 clear H
 go_enter Try.func10, Try.ntmps10
 go_upto_region 2 with (first | ((with_reducible refine gate_dst (N := 2) rfl ?_); (try (refine gate_guard (by rfl) ?_; dsimp only)); refine box_event ?hg (N := 2) ?hd (cs := #[.slice A0_0 l0_0.length c0_0, .slice A0_1 l0_1.length c0_1, .slice A0_2 l0_2.length c0_2, .slice A0_3 l0_3.length c0_3, .slice A0_4 l0_4.length c0_4]) (t := 27) ?hr ?_; (case hd => rfl); (case hg => rfl); (case hr => first | (go_simp; done) | (go_simp; rfl)); intro gb128 hg w5 hbox hb; have n0_ := Aside0.mk (below_step (by repeat (first | (with_reducible first | exact HB.out | apply below_alloc | apply pw_below_drewN | apply below_drew1) | exact HB.out)) hb); have n1_ := Aside0.mk (hbox); have n2_ := Aside0.mk ((by rw [hg]; exact (below_size (by repeat (first | (with_reducible first | exact HB.out | apply below_alloc | apply pw_below_drewN | apply below_drew1) | exact HB.out))) : w.heap.size ≤ gb128)); have n3_ := Aside0.mk ((by rw [hg]; exact (below_size (by repeat (first | (with_reducible first | exact HB.out | apply below_alloc | apply pw_below_drewN | apply below_drew1) | exact HB.out))) : w.heap.size ≤ gb128)); clear HB; have HB := n0_; have BK128 := n1_; have GW128 := n2_; have GE128 := n3_; clear n0_ n1_ n2_ n3_; clear hb hbox hg) | ((with_reducible refine gate_dst (N := 3) rfl ?_); (try (refine gate_guard (by rfl) ?_; dsimp only)); refine box_event ?hg (N := 3) ?hd (cs := #[.int .i64 a1_0, .int .i64 a1_1, .bool a1_2]) (t := 29) ?hr ?_; (case hd => rfl); (case hg => rfl); (case hr => first | (go_simp; done) | (go_simp; rfl)); intro gb129 hg w6 hbox hb; have n0_ := Aside0.mk (blk_below (g := gb128) (o := .cells #[.slice A0_0 l0_0.length c0_0, .slice A0_1 l0_1.length c0_1, .slice A0_2 l0_2.length c0_2, .slice A0_3 l0_3.length c0_3, .slice A0_4 l0_4.length c0_4] 27 (0, 0)) (by (with_reducible repeat (first | refine blk_drewN ?_ _ | refine blk_drew ?_ | refine blk_alloc ?_ _)); exact BK128.out) hb); have n1_ := Aside0.mk (below_step (by repeat (first | (with_reducible first | exact HB.out | apply below_alloc | apply pw_below_drewN | apply below_drew1 | refine below_set ?_ GE128.out) | exact HB.out)) hb); have n2_ := Aside0.mk (hbox); have n3_ := Aside0.mk ((by rw [hg]; exact (below_size (by repeat (first | (with_reducible first | exact HB.out | apply below_alloc | apply pw_below_drewN | apply below_drew1 | refine below_set ?_ GE128.out) | exact HB.out))) : w.heap.size ≤ gb129)); have n4_ := Aside0.mk ((by rw [hg]; exact (below_size (by repeat (first | (with_reducible first | exact HB.out | apply below_alloc | apply pw_below_drewN | apply below_drew1 | refine below_set ?_ GE128.out) | exact HB.out))) : w.heap.size ≤ gb129)); have n5_ := Aside0.mk ((by rw [hg]; exact Nat.ne_of_lt (blk_lt (g := gb128) (o := .cells #[.slice A0_0 l0_0.length c0_0, .slice A0_1 l0_1.length c0_1, .slice A0_2 l0_2.length c0_2, .slice A0_3 l0_3.length c0_3, .slice A0_4 l0_4.length c0_4] 27 (0, 0)) (by (with_reducible repeat (first | refine blk_drewN ?_ _ | refine blk_drew ?_ | refine blk_alloc ?_ _)); exact BK128.out)) : gb128 ≠ gb129)); have n6_ := Aside0.mk ((by rw [hg]; exact Nat.ne_of_gt (blk_lt (g := gb128) (o := .cells #[.slice A0_0 l0_0.length c0_0, .slice A0_1 l0_1.length c0_1, .slice A0_2 l0_2.length c0_2, .slice A0_3 l0_3.length c0_3, .slice A0_4 l0_4.length c0_4] 27 (0, 0)) (by (with_reducible repeat (first | refine blk_drewN ?_ _ | refine blk_drew ?_ | refine blk_alloc ?_ _)); exact BK128.out)) : gb129 ≠ gb128)); clear BK128; clear HB; have BK128 := n0_; have HB := n1_; have BK129 := n2_; have GW129 := n3_; have GE129 := n4_; have NB128_129 := n5_; have NB129_128 := n6_; clear n0_ n1_ n2_ n3_ n4_ n5_ n6_; clear hb hbox hg; have hnb7 := NB128_129.out; have hnc7 := NB129_128.out; have hcz8_0 : w6.cell? ⟨gb128, 0, none⟩ = some (.slice A0_0 l0_0.length c0_0) := (blk_cell BK128.out 0).trans rfl; have hcz8_1 : w6.cell? ⟨gb128, 1, none⟩ = some (.slice A0_1 l0_1.length c0_1) := (blk_cell BK128.out 1).trans rfl; have hcz8_2 : w6.cell? ⟨gb128, 2, none⟩ = some (.slice A0_2 l0_2.length c0_2) := (blk_cell BK128.out 2).trans rfl; have hcz8_3 : w6.cell? ⟨gb128, 3, none⟩ = some (.slice A0_3 l0_3.length c0_3) := (blk_cell BK128.out 3).trans rfl; have hcz8_4 : w6.cell? ⟨gb128, 4, none⟩ = some (.slice A0_4 l0_4.length c0_4) := (blk_cell BK128.out 4).trans rfl; have hfz8_0 := blk_frozen BK128.out 0; have hfz8_1 := blk_frozen BK128.out 1; have hfz8_2 := blk_frozen BK128.out 2; have hfz8_3 := blk_frozen BK128.out 3; have hfz8_4 := blk_frozen BK128.out 4) | (go_at_call 27; (with_reducible refine (netlist_Loads.calls k _ _ l0_0 _ _ l0_1 _ _ l0_2 _ _ l0_3 _ _ l0_4 t130 t133 _ ?side1 ?side2 ?side3 ?side4 ?side5 ?side6 ?side7 ?side8 ?side9 ?side10 A3.out).mono ?_); (case side1 => repeat (first | exact (Kd.C_below HR0_0.out HB.out) | (with_reducible refine Kd.C_alloc ?_ _) | (with_reducible refine Kd.C_drewN ?_ _) | (with_reducible refine Kd.C_drew ?_))); (case side2 => exact HC0_0.out); (case side3 => repeat (first | exact (Kd.C_below HR0_1.out HB.out) | (with_reducible refine Kd.C_alloc ?_ _) | (with_reducible refine Kd.C_drewN ?_ _) | (with_reducible refine Kd.C_drew ?_))); (case side4 => exact HC0_1.out); (case side5 => repeat (first | exact (Kd.C_below HR0_2.out HB.out) | (with_reducible refine Kd.C_alloc ?_ _) | (with_reducible refine Kd.C_drewN ?_ _) | (with_reducible refine Kd.C_drew ?_))); (case side6 => exact HC0_2.out); (case side7 => repeat (first | exact (Kd.C_below HR0_3.out HB.out) | (with_reducible refine Kd.C_alloc ?_ _) | (with_reducible refine Kd.C_drewN ?_ _) | (with_reducible refine Kd.C_drew ?_))); (case side8 => exact HC0_3.out); (case side9 => repeat (first | exact (Kd.C_below HR0_4.out HB.out) | (with_reducible refine Kd.C_alloc ?_ _) | (with_reducible refine Kd.C_drewN ?_ _) | (with_reducible refine Kd.C_drew ?_))); (case side10 => exact HC0_4.out); rintro e w9 ⟨v131, rfl, ho0, hb⟩; have n0_ := Aside0.mk (Kd.S_lower ho0 (below_size (by repeat (first | (with_reducible first | exact HB.out | apply below_alloc | apply pw_below_drewN | apply below_drew1 | refine below_set ?_ GE128.out | refine below_set ?_ GE129.out) | exact HB.out)))); have n1_ := Aside0.mk (blk_below (g := gb128) (o := .cells #[.slice A0_0 l0_0.length c0_0, .slice A0_1 l0_1.length c0_1, .slice A0_2 l0_2.length c0_2, .slice A0_3 l0_3.length c0_3, .slice A0_4 l0_4.length c0_4] 27 (0, 0)) (by (with_reducible repeat (first | refine blk_drewN ?_ _ | refine blk_drew ?_ | refine blk_alloc ?_ _)); exact BK128.out) hb); have n2_ := Aside0.mk (blk_below (g := gb129) (o := .cells #[.int .i64 a1_0, .int .i64 a1_1, .bool a1_2] 29 (0, 0)) (by (with_reducible repeat (first | refine blk_drewN ?_ _ | refine blk_drew ?_ | refine blk_alloc ?_ _)); exact BK129.out) hb); have n3_ := Aside0.mk (below_step (by repeat (first | (with_reducible first | exact HB.out | apply below_alloc | apply pw_below_drewN | apply below_drew1 | refine below_set ?_ GE128.out | refine below_set ?_ GE129.out) | exact HB.out)) hb); clear BK128; clear BK129; clear HB; have HO132 := n0_; have BK128 := n1_; have BK129 := n2_; have HB := n3_; clear n0_ n1_ n2_ n3_; (try clear hb); (try clear hb2); (try clear hk); (try clear hi); (try clear ho0)))
 repeat (go_quiet (first | ((with_reducible refine gate_dst (N := 2) rfl ?_); (try (refine gate_guard (by rfl) ?_; dsimp only)); refine box_event ?hg (N := 2) ?hd (cs := #[.slice A0_0 l0_0.length c0_0, .slice A0_1 l0_1.length c0_1, .slice A0_2 l0_2.length c0_2, .slice A0_3 l0_3.length c0_3, .slice A0_4 l0_4.length c0_4]) (t := 27) ?hr ?_; (case hd => rfl); (case hg => rfl); (case hr => first | (go_simp; done) | (go_simp; rfl)); intro gb128 hg w5 hbox hb; have n0_ := Aside0.mk (below_step (by repeat (first | (with_reducible first | exact HB.out | apply below_alloc | apply pw_below_drewN | apply below_drew1) | exact HB.out)) hb); have n1_ := Aside0.mk (hbox); have n2_ := Aside0.mk ((by rw [hg]; exact (below_size (by repeat (first | (with_reducible first | exact HB.out | apply below_alloc | apply pw_below_drewN | apply below_drew1) | exact HB.out))) : w.heap.size ≤ gb128)); have n3_ := Aside0.mk ((by rw [hg]; exact (below_size (by repeat (first | (with_reducible first | exact HB.out | apply below_alloc | apply pw_below_drewN | apply below_drew1) | exact HB.out))) : w.heap.size ≤ gb128)); clear HB; have HB := n0_; have BK128 := n1_; have GW128 := n2_; have GE128 := n3_; clear n0_ n1_ n2_ n3_; clear hb hbox hg) | ((with_reducible refine gate_dst (N := 3) rfl ?_); (try (refine gate_guard (by rfl) ?_; dsimp only)); refine box_event ?hg (N := 3) ?hd (cs := #[.int .i64 a1_0, .int .i64 a1_1, .bool a1_2]) (t := 29) ?hr ?_; (case hd => rfl); (case hg => rfl); (case hr => first | (go_simp; done) | (go_simp; rfl)); intro gb129 hg w6 hbox hb; have n0_ := Aside0.mk (blk_below (g := gb128) (o := .cells #[.slice A0_0 l0_0.length c0_0, .slice A0_1 l0_1.length c0_1, .slice A0_2 l0_2.length c0_2, .slice A0_3 l0_3.length c0_3, .slice A0_4 l0_4.length c0_4] 27 (0, 0)) (by (with_reducible repeat (first | refine blk_drewN ?_ _ | refine blk_drew ?_ | refine blk_alloc ?_ _)); exact BK128.out) hb); have n1_ := Aside0.mk (below_step (by repeat (first | (with_reducible first | exact HB.out | apply below_alloc | apply pw_below_drewN | apply below_drew1 | refine below_set ?_ GE128.out) | exact HB.out)) hb); have n2_ := Aside0.mk (hbox); have n3_ := Aside0.mk ((by rw [hg]; exact (below_size (by repeat (first | (with_reducible first | exact HB.out | apply below_alloc | apply pw_below_drewN | apply below_drew1 | refine below_set ?_ GE128.out) | exact HB.out))) : w.heap.size ≤ gb129)); have n4_ := Aside0.mk ((by rw [hg]; exact (below_size (by repeat (first | (with_reducible first | exact HB.out | apply below_alloc | apply pw_below_drewN | apply below_drew1 | refine below_set ?_ GE128.out) | exact HB.out))) : w.heap.size ≤ gb129)); have n5_ := Aside0.mk ((by rw [hg]; exact Nat.ne_of_lt (blk_lt (g := gb128) (o := .cells #[.slice A0_0 l0_0.length c0_0, .slice A0_1 l0_1.length c0_1, .slice A0_2 l0_2.length c0_2, .slice A0_3 l0_3.length c0_3, .slice A0_4 l0_4.length c0_4] 27 (0, 0)) (by (with_reducible repeat (first | refine blk_drewN ?_ _ | refine blk_drew ?_ | refine blk_alloc ?_ _)); exact BK128.out)) : gb128 ≠ gb129)); have n6_ := Aside0.mk ((by rw [hg]; exact Nat.ne_of_gt (blk_lt (g := gb128) (o := .cells #[.slice A0_0 l0_0.length c0_0, .slice A0_1 l0_1.length c0_1, .slice A0_2 l0_2.length c0_2, .slice A0_3 l0_3.length c0_3, .slice A0_4 l0_4.length c0_4] 27 (0, 0)) (by (with_reducible repeat (first | refine blk_drewN ?_ _ | refine blk_drew ?_ | refine blk_alloc ?_ _)); exact BK128.out)) : gb129 ≠ gb128)); clear BK128; clear HB; have BK128 := n0_; have HB := n1_; have BK129 := n2_; have GW129 := n3_; have GE129 := n4_; have NB128_129 := n5_; have NB129_128 := n6_; clear n0_ n1_ n2_ n3_ n4_ n5_ n6_; clear hb hbox hg; have hnb7 := NB128_129.out; have hnc7 := NB129_128.out; have hcz8_0 : w6.cell? ⟨gb128, 0, none⟩ = some (.slice A0_0 l0_0.length c0_0) := (blk_cell BK128.out 0).trans rfl; have hcz8_1 : w6.cell? ⟨gb128, 1, none⟩ = some (.slice A0_1 l0_1.length c0_1) := (blk_cell BK128.out 1).trans rfl; have hcz8_2 : w6.cell? ⟨gb128, 2, none⟩ = some (.slice A0_2 l0_2.length c0_2) := (blk_cell BK128.out 2).trans rfl; have hcz8_3 : w6.cell? ⟨gb128, 3, none⟩ = some (.slice A0_3 l0_3.length c0_3) := (blk_cell BK128.out 3).trans rfl; have hcz8_4 : w6.cell? ⟨gb128, 4, none⟩ = some (.slice A0_4 l0_4.length c0_4) := (blk_cell BK128.out 4).trans rfl; have hfz8_0 := blk_frozen BK128.out 0; have hfz8_1 := blk_frozen BK128.out 1; have hfz8_2 := blk_frozen BK128.out 2; have hfz8_3 := blk_frozen BK128.out 3; have hfz8_4 := blk_frozen BK128.out 4) | (go_at_call 27; (with_reducible refine (netlist_Loads.calls k _ _ l0_0 _ _ l0_1 _ _ l0_2 _ _ l0_3 _ _ l0_4 t130 t133 _ ?side1 ?side2 ?side3 ?side4 ?side5 ?side6 ?side7 ?side8 ?side9 ?side10 A3.out).mono ?_); (case side1 => repeat (first | exact (Kd.C_below HR0_0.out HB.out) | (with_reducible refine Kd.C_alloc ?_ _) | (with_reducible refine Kd.C_drewN ?_ _) | (with_reducible refine Kd.C_drew ?_))); (case side2 => exact HC0_0.out); (case side3 => repeat (first | exact (Kd.C_below HR0_1.out HB.out) | (with_reducible refine Kd.C_alloc ?_ _) | (with_reducible refine Kd.C_drewN ?_ _) | (with_reducible refine Kd.C_drew ?_))); (case side4 => exact HC0_1.out); (case side5 => repeat (first | exact (Kd.C_below HR0_2.out HB.out) | (with_reducible refine Kd.C_alloc ?_ _) | (with_reducible refine Kd.C_drewN ?_ _) | (with_reducible refine Kd.C_drew ?_))); (case side6 => exact HC0_2.out); (case side7 => repeat (first | exact (Kd.C_below HR0_3.out HB.out) | (with_reducible refine Kd.C_alloc ?_ _) | (with_reducible refine Kd.C_drewN ?_ _) | (with_reducible refine Kd.C_drew ?_))); (case side8 => exact HC0_3.out); (case side9 => repeat (first | exact (Kd.C_below HR0_4.out HB.out) | (with_reducible refine Kd.C_alloc ?_ _) | (with_reducible refine Kd.C_drewN ?_ _) | (with_reducible refine Kd.C_drew ?_))); (case side10 => exact HC0_4.out); rintro e w9 ⟨v131, rfl, ho0, hb⟩; have n0_ := Aside0.mk (Kd.S_lower ho0 (below_size (by repeat (first | (with_reducible first | exact HB.out | apply below_alloc | apply pw_below_drewN | apply below_drew1 | refine below_set ?_ GE128.out | refine below_set ?_ GE129.out) | exact HB.out)))); have n1_ := Aside0.mk (blk_below (g := gb128) (o := .cells #[.slice A0_0 l0_0.length c0_0, .slice A0_1 l0_1.length c0_1, .slice A0_2 l0_2.length c0_2, .slice A0_3 l0_3.length c0_3, .slice A0_4 l0_4.length c0_4] 27 (0, 0)) (by (with_reducible repeat (first | refine blk_drewN ?_ _ | refine blk_drew ?_ | refine blk_alloc ?_ _)); exact BK128.out) hb); have n2_ := Aside0.mk (blk_below (g := gb129) (o := .cells #[.int .i64 a1_0, .int .i64 a1_1, .bool a1_2] 29 (0, 0)) (by (with_reducible repeat (first | refine blk_drewN ?_ _ | refine blk_drew ?_ | refine blk_alloc ?_ _)); exact BK129.out) hb); have n3_ := Aside0.mk (below_step (by repeat (first | (with_reducible first | exact HB.out | apply below_alloc | apply pw_below_drewN | apply below_drew1 | refine below_set ?_ GE128.out | refine below_set ?_ GE129.out) | exact HB.out)) hb); clear BK128; clear BK129; clear HB; have HO132 := n0_; have BK128 := n1_; have BK129 := n2_; have HB := n3_; clear n0_ n1_ n2_ n3_; (try clear hb); (try clear hb2); (try clear hk); (try clear hi); (try clear ho0))); go_upto_region 2 with (first | ((with_reducible refine gate_dst (N := 2) rfl ?_); (try (refine gate_guard (by rfl) ?_; dsimp only)); refine box_event ?hg (N := 2) ?hd (cs := #[.slice A0_0 l0_0.length c0_0, .slice A0_1 l0_1.length c0_1, .slice A0_2 l0_2.length c0_2, .slice A0_3 l0_3.length c0_3, .slice A0_4 l0_4.length c0_4]) (t := 27) ?hr ?_; (case hd => rfl); (case hg => rfl); (case hr => first | (go_simp; done) | (go_simp; rfl)); intro gb128 hg w5 hbox hb; have n0_ := Aside0.mk (below_step (by repeat (first | (with_reducible first | exact HB.out | apply below_alloc | apply pw_below_drewN | apply below_drew1) | exact HB.out)) hb); have n1_ := Aside0.mk (hbox); have n2_ := Aside0.mk ((by rw [hg]; exact (below_size (by repeat (first | (with_reducible first | exact HB.out | apply below_alloc | apply pw_below_drewN | apply below_drew1) | exact HB.out))) : w.heap.size ≤ gb128)); have n3_ := Aside0.mk ((by rw [hg]; exact (below_size (by repeat (first | (with_reducible first | exact HB.out | apply below_alloc | apply pw_below_drewN | apply below_drew1) | exact HB.out))) : w.heap.size ≤ gb128)); clear HB; have HB := n0_; have BK128 := n1_; have GW128 := n2_; have GE128 := n3_; clear n0_ n1_ n2_ n3_; clear hb hbox hg) | ((with_reducible refine gate_dst (N := 3) rfl ?_); (try (refine gate_guard (by rfl) ?_; dsimp only)); refine box_event ?hg (N := 3) ?hd (cs := #[.int .i64 a1_0, .int .i64 a1_1, .bool a1_2]) (t := 29) ?hr ?_; (case hd => rfl); (case hg => rfl); (case hr => first | (go_simp; done) | (go_simp; rfl)); intro gb129 hg w6 hbox hb; have n0_ := Aside0.mk (blk_below (g := gb128) (o := .cells #[.slice A0_0 l0_0.length c0_0, .slice A0_1 l0_1.length c0_1, .slice A0_2 l0_2.length c0_2, .slice A0_3 l0_3.length c0_3, .slice A0_4 l0_4.length c0_4] 27 (0, 0)) (by (with_reducible repeat (first | refine blk_drewN ?_ _ | refine blk_drew ?_ | refine blk_alloc ?_ _)); exact BK128.out) hb); have n1_ := Aside0.mk (below_step (by repeat (first | (with_reducible first | exact HB.out | apply below_alloc | apply pw_below_drewN | apply below_drew1 | refine below_set ?_ GE128.out) | exact HB.out)) hb); have n2_ := Aside0.mk (hbox); have n3_ := Aside0.mk ((by rw [hg]; exact (below_size (by repeat (first | (with_reducible first | exact HB.out | apply below_alloc | apply pw_below_drewN | apply below_drew1 | refine below_set ?_ GE128.out) | exact HB.out))) : w.heap.size ≤ gb129)); have n4_ := Aside0.mk ((by rw [hg]; exact (below_size (by repeat (first | (with_reducible first | exact HB.out | apply below_alloc | apply pw_below_drewN | apply below_drew1 | refine below_set ?_ GE128.out) | exact HB.out))) : w.heap.size ≤ gb129)); have n5_ := Aside0.mk ((by rw [hg]; exact Nat.ne_of_lt (blk_lt (g := gb128) (o := .cells #[.slice A0_0 l0_0.length c0_0, .slice A0_1 l0_1.length c0_1, .slice A0_2 l0_2.length c0_2, .slice A0_3 l0_3.length c0_3, .slice A0_4 l0_4.length c0_4] 27 (0, 0)) (by (with_reducible repeat (first | refine blk_drewN ?_ _ | refine blk_drew ?_ | refine blk_alloc ?_ _)); exact BK128.out)) : gb128 ≠ gb129)); have n6_ := Aside0.mk ((by rw [hg]; exact Nat.ne_of_gt (blk_lt (g := gb128) (o := .cells #[.slice A0_0 l0_0.length c0_0, .slice A0_1 l0_1.length c0_1, .slice A0_2 l0_2.length c0_2, .slice A0_3 l0_3.length c0_3, .slice A0_4 l0_4.length c0_4] 27 (0, 0)) (by (with_reducible repeat (first | refine blk_drewN ?_ _ | refine blk_drew ?_ | refine blk_alloc ?_ _)); exact BK128.out)) : gb129 ≠ gb128)); clear BK128; clear HB; have BK128 := n0_; have HB := n1_; have BK129 := n2_; have GW129 := n3_; have GE129 := n4_; have NB128_129 := n5_; have NB129_128 := n6_; clear n0_ n1_ n2_ n3_ n4_ n5_ n6_; clear hb hbox hg; have hnb7 := NB128_129.out; have hnc7 := NB129_128.out; have hcz8_0 : w6.cell? ⟨gb128, 0, none⟩ = some (.slice A0_0 l0_0.length c0_0) := (blk_cell BK128.out 0).trans rfl; have hcz8_1 : w6.cell? ⟨gb128, 1, none⟩ = some (.slice A0_1 l0_1.length c0_1) := (blk_cell BK128.out 1).trans rfl; have hcz8_2 : w6.cell? ⟨gb128, 2, none⟩ = some (.slice A0_2 l0_2.length c0_2) := (blk_cell BK128.out 2).trans rfl; have hcz8_3 : w6.cell? ⟨gb128, 3, none⟩ = some (.slice A0_3 l0_3.length c0_3) := (blk_cell BK128.out 3).trans rfl; have hcz8_4 : w6.cell? ⟨gb128, 4, none⟩ = some (.slice A0_4 l0_4.length c0_4) := (blk_cell BK128.out 4).trans rfl; have hfz8_0 := blk_frozen BK128.out 0; have hfz8_1 := blk_frozen BK128.out 1; have hfz8_2 := blk_frozen BK128.out 2; have hfz8_3 := blk_frozen BK128.out 3; have hfz8_4 := blk_frozen BK128.out 4) | (go_at_call 27; (with_reducible refine (netlist_Loads.calls k _ _ l0_0 _ _ l0_1 _ _ l0_2 _ _ l0_3 _ _ l0_4 t130 t133 _ ?side1 ?side2 ?side3 ?side4 ?side5 ?side6 ?side7 ?side8 ?side9 ?side10 A3.out).mono ?_); (case side1 => repeat (first | exact (Kd.C_below HR0_0.out HB.out) | (with_reducible refine Kd.C_alloc ?_ _) | (with_reducible refine Kd.C_drewN ?_ _) | (with_reducible refine Kd.C_drew ?_))); (case side2 => exact HC0_0.out); (case side3 => repeat (first | exact (Kd.C_below HR0_1.out HB.out) | (with_reducible refine Kd.C_alloc ?_ _) | (with_reducible refine Kd.C_drewN ?_ _) | (with_reducible refine Kd.C_drew ?_))); (case side4 => exact HC0_1.out); (case side5 => repeat (first | exact (Kd.C_below HR0_2.out HB.out) | (with_reducible refine Kd.C_alloc ?_ _) | (with_reducible refine Kd.C_drewN ?_ _) | (with_reducible refine Kd.C_drew ?_))); (case side6 => exact HC0_2.out); (case side7 => repeat (first | exact (Kd.C_below HR0_3.out HB.out) | (with_reducible refine Kd.C_alloc ?_ _) | (with_reducible refine Kd.C_drewN ?_ _) | (with_reducible refine Kd.C_drew ?_))); (case side8 => exact HC0_3.out); (case side9 => repeat (first | exact (Kd.C_below HR0_4.out HB.out) | (with_reducible refine Kd.C_alloc ?_ _) | (with_reducible refine Kd.C_drewN ?_ _) | (with_reducible refine Kd.C_drew ?_))); (case side10 => exact HC0_4.out); rintro e w9 ⟨v131, rfl, ho0, hb⟩; have n0_ := Aside0.mk (Kd.S_lower ho0 (below_size (by repeat (first | (with_reducible first | exact HB.out | apply below_alloc | apply pw_below_drewN | apply below_drew1 | refine below_set ?_ GE128.out | refine below_set ?_ GE129.out) | exact HB.out)))); have n1_ := Aside0.mk (blk_below (g := gb128) (o := .cells #[.slice A0_0 l0_0.length c0_0, .slice A0_1 l0_1.length c0_1, .slice A0_2 l0_2.length c0_2, .slice A0_3 l0_3.length c0_3, .slice A0_4 l0_4.length c0_4] 27 (0, 0)) (by (with_reducible repeat (first | refine blk_drewN ?_ _ | refine blk_drew ?_ | refine blk_alloc ?_ _)); exact BK128.out) hb); have n2_ := Aside0.mk (blk_below (g := gb129) (o := .cells #[.int .i64 a1_0, .int .i64 a1_1, .bool a1_2] 29 (0, 0)) (by (with_reducible repeat (first | refine blk_drewN ?_ _ | refine blk_drew ?_ | refine blk_alloc ?_ _)); exact BK129.out) hb); have n3_ := Aside0.mk (below_step (by repeat (first | (with_reducible first | exact HB.out | apply below_alloc | apply pw_below_drewN | apply below_drew1 | refine below_set ?_ GE128.out | refine below_set ?_ GE129.out) | exact HB.out)) hb); clear BK128; clear BK129; clear HB; have HO132 := n0_; have BK128 := n1_; have BK129 := n2_; have HB := n3_; clear n0_ n1_ n2_ n3_; (try clear hb); (try clear hb2); (try clear hk); (try clear hi); (try clear ho0))))
 (try simp only [Act.put, List.setIfInBounds_toArray, List.set_cons_zero, List.set_cons_succ])
 go_cut [21] (fun v21 wc => ∃ (kq : Nat) (x21_3 : Bool), v21 = .bool x21_3 ∧ Aside0 (maskref2_FaultFault.j0 kq t130 x21_3 a1_0 a1_1 a1_2 = some r) ∧ Aside0 (kq ≤ k) ∧ Aside0 (Kd.S (Kd.slice 77 k77) 75 wc w.heap.size (fun _ => True) v131 t130) ∧ Aside0 (wc.heap[gb128]? = some (.cells #[(.slice A0_0 l0_0.length c0_0), (.slice A0_1 l0_1.length c0_1), (.slice A0_2 l0_2.length c0_2), (.slice A0_3 l0_3.length c0_3), (.slice A0_4 l0_4.length c0_4)] 27 (0, 0))) ∧ Aside0 (wc.heap[gb129]? = some (.cells #[.int .i64 a1_0, .int .i64 a1_1, .bool a1_2] 29 (0, 0))) ∧ Aside0 (Below w.heap.size w wc))
 case first =>
   have H := HC4.out
   clear HC4
   by_cases c10 : a1_0 < 2
   · rw [if_pos c10] at H
     have c10b0 : decide (a1_0 < 2) = true := decide_eq_true c10
     clear c10
     (first | rw [c10b0] | (simp only [i64_w, i32_w]; rw [c10b0]) | skip)
     have H' := Aside0.mk H
     clear H
     have hnb11 := NB129_128.out
     have hnc11 := NB128_129.out
     have hcz12_0 : w9.cell? ⟨gb129, 0, none⟩ = some (.int .i64 a1_0) := (blk_cell BK129.out 0).trans rfl
     have hcz12_1 : w9.cell? ⟨gb129, 1, none⟩ = some (.int .i64 a1_1) := (blk_cell BK129.out 1).trans rfl
     have hcz12_2 : w9.cell? ⟨gb129, 2, none⟩ = some (.bool a1_2) := (blk_cell BK129.out 2).trans rfl
     have hfz12_0 := blk_frozen BK129.out 0
     have hfz12_1 := blk_frozen BK129.out 1
     have hfz12_2 := blk_frozen BK129.out 2
     go_wp2
     repeat (go_quiet (fail); try go_wp2)
     go_meet
     case rel => exact ⟨_, (true), (by first | rfl | (simp; done) | (simp [*]; done)), H', ⟨by first | omega | exact Nat.le_refl _⟩, ⟨by (with_reducible repeat (first | apply Kd.S_alloc | apply Kd.S_drewN | apply Kd.S_drew)); exact HO132.out⟩, ⟨by (with_reducible repeat (first | refine blk_drewN ?_ _ | refine blk_drew ?_ | refine blk_alloc ?_ _)); exact BK128.out⟩, ⟨by (with_reducible repeat (first | refine blk_drewN ?_ _ | refine blk_drew ?_ | refine blk_alloc ?_ _)); exact BK129.out⟩, ⟨by repeat (first | (with_reducible first | exact HB.out | apply below_alloc | apply pw_below_drewN | apply below_drew1 | refine below_set ?_ GE128.out | refine below_set ?_ GE129.out) | exact HB.out)⟩⟩
   · rw [if_neg c10] at H
     have c10b0 : decide (a1_0 < 2) = false := decide_eq_false c10
     clear c10
     (first | rw [c10b0] | (simp only [i64_w, i32_w]; rw [c10b0]) | skip)
     have H' := Aside0.mk H
     clear H
     have hnb13 := NB129_128.out
     have hnc13 := NB128_129.out
     have hcz14_0 : w9.cell? ⟨gb129, 0, none⟩ = some (.int .i64 a1_0) := (blk_cell BK129.out 0).trans rfl
     have hcz14_1 : w9.cell? ⟨gb129, 1, none⟩ = some (.int .i64 a1_1) := (blk_cell BK129.out 1).trans rfl
     have hcz14_2 : w9.cell? ⟨gb129, 2, none⟩ = some (.bool a1_2) := (blk_cell BK129.out 2).trans rfl
     have hfz14_0 := blk_frozen BK129.out 0
     have hfz14_1 := blk_frozen BK129.out 1
     have hfz14_2 := blk_frozen BK129.out 2
     obtain ⟨Ao15, co15, eo15⟩ := Kd.S_slice HO132.out
     subst eo15
     go_wp2
     repeat (go_quiet (fail); try go_wp2)
     go_meet
     case rel => exact ⟨_, (decide (a1_0 ≥ (t130.length : Int))), (by first | rfl | (simp; done) | (simp [*]; done)), H', ⟨by first | omega | exact Nat.le_refl _⟩, ⟨by (with_reducible repeat (first | apply Kd.S_alloc | apply Kd.S_drewN | apply Kd.S_drew)); exact HO132.out⟩, ⟨by (with_reducible repeat (first | refine blk_drewN ?_ _ | refine blk_drew ?_ | refine blk_alloc ?_ _)); exact BK128.out⟩, ⟨by (with_reducible repeat (first | refine blk_drewN ?_ _ | refine blk_drew ?_ | refine blk_alloc ?_ _)); exact BK129.out⟩, ⟨by repeat (first | (with_reducible first | exact HB.out | apply below_alloc | apply pw_below_drewN | apply below_drew1 | refine below_set ?_ GE128.out | refine below_set ?_ GE129.out) | exact HB.out)⟩⟩
 case rest =>
   clear HC4
   try clear c1
   try clear p2
   try clear c7
   try clear c10
   try clear c10b0
   try clear c11
   try clear c13
   try clear hcz12_0
   try clear hcz12_1
   try clear hcz12_2
   try clear hcz14_0
   try clear hcz14_1
   try clear hcz14_2
   try clear hcz8_0
   try clear hcz8_1
   try clear hcz8_2
   try clear hcz8_3
   try clear hcz8_4
   try clear hfz12_0
   try clear hfz12_1
   try clear hfz12_2
   try clear hfz14_0
   try clear hfz14_1
   try clear hfz14_2
   try clear hfz8_0
   try clear hfz8_1
   try clear hfz8_2
   try clear hfz8_3
   try clear hfz8_4
   obtain ⟨kq, x21_3, rfl, HA, HJ3, HO_5, BK128, BK129, HB⟩ := hcut
   cases kq with
   | zero => exact absurd HA.out (by simp [maskref2_FaultFault.j0])
   | succ kj3 =>
     have H := HA.out
     clear HA
     simp only [maskref2_FaultFault.j0] at H
     by_cases c16 : x21_3 = true
     · subst c16
       have H1 : (some 7) = some r := by rw [if_pos rfl] at H; exact H
       clear H
       have H := H1
       clear H1
       obtain rfl := Option.some.inj H
       go_wp2
       repeat (go_quiet (fail); try go_wp2)
       go_ret
       exact ⟨by first | rfl | (simp [errW_none, errW_some] <;> rfl) | (simp [*, errW_none, errW_some] <;> rfl), by repeat (first | (with_reducible first | exact HB.out | apply below_alloc | apply pw_below_drewN | apply below_drew1 | refine below_set ?_ GE128.out | refine below_set ?_ GE129.out) | exact HB.out)⟩
     · replace c16 := Bool.eq_false_iff.mpr c16
       subst c16
       have H1 : (if a1_1 < (-1) then (some 2) else (if 0 ≤ a1_0 then (if a1_0 < (t130.length : Int) then (if a1_1 ≥ ((rd_L12 t130 a1_0).length : Int) then (some 2) else (some 0)) else (none)) else (none))) = some r := by rw [if_neg (show ¬ (false = true) by decide)] at H; exact H
       clear H
       have H := H1
       clear H1
       by_cases c17 : a1_1 < (-1)
       · rw [if_pos c17] at H
         have c17b0 : decide (a1_1 < (-1)) = true := decide_eq_true c17
         clear c17
         obtain rfl := Option.some.inj H
         have hnb18 := NB129_128.out
         have hnc18 := NB128_129.out
         have hcz19_0 : wc.cell? ⟨gb129, 0, none⟩ = some (.int .i64 a1_0) := (blk_cell BK129.out 0).trans rfl
         have hcz19_1 : wc.cell? ⟨gb129, 1, none⟩ = some (.int .i64 a1_1) := (blk_cell BK129.out 1).trans rfl
         have hcz19_2 : wc.cell? ⟨gb129, 2, none⟩ = some (.bool a1_2) := (blk_cell BK129.out 2).trans rfl
         have hfz19_0 := blk_frozen BK129.out 0
         have hfz19_1 := blk_frozen BK129.out 1
         have hfz19_2 := blk_frozen BK129.out 2
         go_wp2
         repeat (go_quiet (fail); try go_wp2)
         go_ret
         exact ⟨by first | rfl | (simp [errW_none, errW_some] <;> rfl) | (simp [*, errW_none, errW_some] <;> rfl), by repeat (first | (with_reducible first | exact HB.out | apply below_alloc | apply pw_below_drewN | apply below_drew1 | refine below_set ?_ GE128.out | refine below_set ?_ GE129.out) | exact HB.out)⟩
       · rw [if_neg c17] at H
         have c17b0 : decide (a1_1 < (-1)) = false := decide_eq_false c17
         clear c17
         by_cases c20 : 0 ≤ a1_0
         · rw [if_pos c20] at H
           have c20b0 : decide (0 ≤ a1_0) = true := decide_eq_true c20
           clear c20
           by_cases c21 : a1_0 < (t130.length : Int)
           · rw [if_pos c21] at H
             have c21b0 : decide (a1_0 < (t130.length : Int)) = true := decide_eq_true c21
             clear c21
             by_cases c22 : a1_1 ≥ ((rd_L12 t130 a1_0).length : Int)
             · rw [if_pos c22] at H
               have c22b0 : decide (((rd_L12 t130 a1_0).length : Int) ≤ a1_1) = true := decide_eq_true c22
               clear c22
               obtain rfl := Option.some.inj H
               have hnb23 := NB129_128.out
               have hnc23 := NB128_129.out
               have hcz24_0 : wc.cell? ⟨gb129, 0, none⟩ = some (.int .i64 a1_0) := (blk_cell BK129.out 0).trans rfl
               have hcz24_1 : wc.cell? ⟨gb129, 1, none⟩ = some (.int .i64 a1_1) := (blk_cell BK129.out 1).trans rfl
               have hcz24_2 : wc.cell? ⟨gb129, 2, none⟩ = some (.bool a1_2) := (blk_cell BK129.out 2).trans rfl
               have hfz24_0 := blk_frozen BK129.out 0
               have hfz24_1 := blk_frozen BK129.out 1
               have hfz24_2 := blk_frozen BK129.out 2
               obtain ⟨Ao25, co25, eo25⟩ := Kd.S_slice HO_5.out
               subst eo25
               have p134 : 0 ≤ (a1_0 : Int) := of_decide_eq_true (by first | (with_reducible assumption) | assumption)
               have q134 : a1_0 < (t130.length : Int) := of_decide_eq_true (by first | (with_reducible assumption) | assumption)
               obtain ⟨ad134, A134_0, c134_0, e134, hx134_0, hl134_0, hi134_0⟩ := at_L12 (Kd.S_reads' HO_5.out).2.2 a1_0 p134 q134
               cases e134
               obtain ⟨ce134, hce134, hMe134, hcc134⟩ := Kd.S_get HO_5.out [] a1_0 p134 (by first | exact q134 | exact of_decide_eq_true (by first | (with_reducible assumption) | assumption) | (have e_ := (Kd.S_reads' HO_5.out).1; omega))
               obtain ⟨ve134_0, rfl, ge134_0⟩ := hMe134
               have hv134_0 := hcc134 0 _ rfl
               rw [Nat.add_zero, show ((Kd.slice 77 k77)).sz = 1 from rfl, Nat.mul_one] at hv134_0
               replace hv134_0 := Option.some.inj (hv134_0.symm.trans hx134_0)
               rw [hv134_0] at ge134_0
               have HL134_0 := Aside0.mk (show Kd.R k77 77 _ _ _ _ (rd_L12 t130 a1_0) from ge134_0)
               clear hv134_0 ge134_0
               clear hcc134 hce134
               have HR134_0 := Aside0.mk hi134_0
               have HC134_0 := Aside0.mk hl134_0
               clear hi134_0 hl134_0
               replace p134 := eq_true p134
               replace q134 := eq_true q134
               go_wp2
               repeat (go_quiet (fail); try go_wp2)
               go_ret
               exact ⟨by first | rfl | (simp [errW_none, errW_some] <;> rfl) | (simp [*, errW_none, errW_some] <;> rfl), by repeat (first | (with_reducible first | exact HB.out | apply below_alloc | apply pw_below_drewN | apply below_drew1 | refine below_set ?_ GE128.out | refine below_set ?_ GE129.out) | exact HB.out)⟩
             · rw [if_neg c22] at H
               have c22b0 : decide (((rd_L12 t130 a1_0).length : Int) ≤ a1_1) = false := decide_eq_false c22
               clear c22
               obtain rfl := Option.some.inj H
               have hnb26 := NB129_128.out
               have hnc26 := NB128_129.out
               have hcz27_0 : wc.cell? ⟨gb129, 0, none⟩ = some (.int .i64 a1_0) := (blk_cell BK129.out 0).trans rfl
               have hcz27_1 : wc.cell? ⟨gb129, 1, none⟩ = some (.int .i64 a1_1) := (blk_cell BK129.out 1).trans rfl
               have hcz27_2 : wc.cell? ⟨gb129, 2, none⟩ = some (.bool a1_2) := (blk_cell BK129.out 2).trans rfl
               have hfz27_0 := blk_frozen BK129.out 0
               have hfz27_1 := blk_frozen BK129.out 1
               have hfz27_2 := blk_frozen BK129.out 2
               obtain ⟨Ao28, co28, eo28⟩ := Kd.S_slice HO_5.out
               subst eo28
               have p134 : 0 ≤ (a1_0 : Int) := of_decide_eq_true (by first | (with_reducible assumption) | assumption)
               have q134 : a1_0 < (t130.length : Int) := of_decide_eq_true (by first | (with_reducible assumption) | assumption)
               obtain ⟨ad134, A134_0, c134_0, e134, hx134_0, hl134_0, hi134_0⟩ := at_L12 (Kd.S_reads' HO_5.out).2.2 a1_0 p134 q134
               cases e134
               obtain ⟨ce134, hce134, hMe134, hcc134⟩ := Kd.S_get HO_5.out [] a1_0 p134 (by first | exact q134 | exact of_decide_eq_true (by first | (with_reducible assumption) | assumption) | (have e_ := (Kd.S_reads' HO_5.out).1; omega))
               obtain ⟨ve134_0, rfl, ge134_0⟩ := hMe134
               have hv134_0 := hcc134 0 _ rfl
               rw [Nat.add_zero, show ((Kd.slice 77 k77)).sz = 1 from rfl, Nat.mul_one] at hv134_0
               replace hv134_0 := Option.some.inj (hv134_0.symm.trans hx134_0)
               rw [hv134_0] at ge134_0
               have HL134_0 := Aside0.mk (show Kd.R k77 77 _ _ _ _ (rd_L12 t130 a1_0) from ge134_0)
               clear hv134_0 ge134_0
               clear hcc134 hce134
               have HR134_0 := Aside0.mk hi134_0
               have HC134_0 := Aside0.mk hl134_0
               clear hi134_0 hl134_0
               replace p134 := eq_true p134
               replace q134 := eq_true q134
               go_wp2
               repeat (go_quiet (fail); try go_wp2)
               go_ret
               exact ⟨by first | rfl | (simp [errW_none, errW_some] <;> rfl) | (simp [*, errW_none, errW_some] <;> rfl), by repeat (first | (with_reducible first | exact HB.out | apply below_alloc | apply pw_below_drewN | apply below_drew1 | refine below_set ?_ GE128.out | refine below_set ?_ GE129.out) | exact HB.out)⟩
           · rw [if_neg c21] at H
             exact absurd H (by simp)
         · rw [if_neg c20] at H
           exact absurd H (by simp)
mutual
def fault_List.l0 : Nat → List (List (S77)) → List (S29) → Int → Option ((List (S29)) × Int)
 | 0, _, _, _ => none
 | k + 1, x4, x6, x7 => if x7 < (x4.length : Int) then (if 0 ≤ x7 then (fault_List.l1 k x4 x6 x7 ((rd_L12 x4 x7).length : Int) (-1)) else (none)) else (some (x6, 0))
def fault_List.l1 : Nat → List (List (S77)) → List (S29) → Int → Int → Int → Option ((List (S29)) × Int)
 | 0, _, _, _, _, _ => none
 | k + 1, x4, x6, x7, x8, x9 => if x9 < x8 then (if x8 > 0 then (if x9 < 0 then ((some (([(⟨x7, x9, false⟩ : S29), (⟨x7, x9, true⟩ : S29)] : List (S29)) : List (S29))).bind fun y141 => (if x6.length + y141.length < 5864062014805 then (fault_List.l1 k x4 (x6 ++ y141) x7 x8 (wrap64 (x9 + 1))) else (none))) else (if x8 > 1 then ((some (([(⟨x7, x9, false⟩ : S29), (⟨x7, x9, true⟩ : S29)] : List (S29)) : List (S29))).bind fun y147 => (if x6.length + y147.length < 5864062014805 then (fault_List.l1 k x4 (x6 ++ y147) x7 x8 (wrap64 (x9 + 1))) else (none))) else (fault_List.l1 k x4 x6 x7 x8 (wrap64 (x9 + 1))))) else (fault_List.l1 k x4 x6 x7 x8 (wrap64 (x9 + 1)))) else (fault_List.l0 k x4 x6 (wrap64 (x7 + 1)))
end
def fault_List.f (k : Nat) (l0_0 : List ByteArray) (l0_1 : List ByteArray) (l0_2 : List (S82)) (l0_3 : List (S80)) (l0_4 : List Int) : Option ((List (S29)) × Int) := (netlist_Loads.f k l0_0 l0_1 l0_2 l0_3 l0_4).bind fun bt136 => (if bt136.2 = 0 then (fault_List.l0 k bt136.1 ([] : List (S29)) 2) else (some (([] : List (S29)), bt136.2)))
theorem fault_List.mono_l : ∀ k, (∀ y0 y1 y2, LeO (fault_List.l0 k y0 y1 y2) (fault_List.l0 (k + 1) y0 y1 y2)) ∧ (∀ y0 y1 y2 y3 y4, LeO (fault_List.l1 k y0 y1 y2 y3 y4) (fault_List.l1 (k + 1) y0 y1 y2 y3 y4))
 | 0 => ⟨fun _ _ _ r h => by simp [fault_List.l0] at h, fun _ _ _ _ _ r h => by simp [fault_List.l1] at h⟩
 | k + 1 => by
   obtain ⟨ih0, ih1⟩ := fault_List.mono_l k
   refine ⟨?_, ?_⟩
   · intro y0 y1 y2
     unfold fault_List.l0
     repeat' first
     | (with_reducible exact ih0 _ _ _)
     | (with_reducible exact ih1 _ _ _ _ _)
     | (with_reducible exact netlist_Loads.mono _ _ _ _ _ _)
     | (with_reducible exact LeO.refl _)
     | (with_reducible exact LeO.none _)
     | (with_reducible refine LeO.ite ?_ ?_)
     | (with_reducible refine LeO.bind ?_ (fun _ => ?_))
     | exact ih0 _ _ _
     | exact ih1 _ _ _ _ _
     | exact netlist_Loads.mono _ _ _ _ _ _
     | exact LeO.none _
     | refine LeO.ite ?_ ?_
     | refine LeO.bind ?_ (fun _ => ?_)
   · intro y0 y1 y2 y3 y4
     unfold fault_List.l1
     repeat' first
     | (with_reducible exact ih0 _ _ _)
     | (with_reducible exact ih1 _ _ _ _ _)
     | (with_reducible exact netlist_Loads.mono _ _ _ _ _ _)
     | (with_reducible exact LeO.refl _)
     | (with_reducible exact LeO.none _)
     | (with_reducible refine LeO.ite ?_ ?_)
     | (with_reducible refine LeO.bind ?_ (fun _ => ?_))
     | exact ih0 _ _ _
     | exact ih1 _ _ _ _ _
     | exact netlist_Loads.mono _ _ _ _ _ _
     | exact LeO.none _
     | refine LeO.ite ?_ ?_
     | refine LeO.bind ?_ (fun _ => ?_)
theorem fault_List.mono : ∀ a0 a1 a2 a3 a4 k, LeO (fault_List.f k a0 a1 a2 a3 a4) (fault_List.f (k + 1) a0 a1 a2 a3 a4) := by
 intro a0 a1 a2 a3 a4 k
 obtain ⟨ih0, ih1⟩ := fault_List.mono_l k
 unfold fault_List.f
 repeat' first
     | (with_reducible exact ih0 _ _ _)
     | (with_reducible exact ih1 _ _ _ _ _)
     | (with_reducible exact netlist_Loads.mono _ _ _ _ _ _)
     | (with_reducible exact LeO.refl _)
     | (with_reducible exact LeO.none _)
     | (with_reducible refine LeO.ite ?_ ?_)
     | (with_reducible refine LeO.bind ?_ (fun _ => ?_))
     | exact ih0 _ _ _
     | exact ih1 _ _ _ _ _
     | exact netlist_Loads.mono _ _ _ _ _ _
     | exact LeO.none _
     | refine LeO.ite ?_ ?_
     | refine LeO.bind ?_ (fun _ => ?_)
set_option maxHeartbeats 8000000 in
set_option maxRecDepth 100000 in
theorem fault_List.calls (k : Nat) (A0_0 : Option Addr) (c0_0 : Nat) (l0_0 : List ByteArray) (A0_1 : Option Addr) (c0_1 : Nat) (l0_1 : List ByteArray) (A0_2 : Option Addr) (c0_2 : Nat) (l0_2 : List (S82)) (A0_3 : Option Addr) (c0_3 : Nat) (l0_3 : List (S80)) (A0_4 : Option Addr) (c0_4 : Nat) (l0_4 : List Int) (r1 : List (S29)) (r2 : Int) (w : World) (hr0_0 : Kd.C Kd.string w A0_0 l0_0.length l0_0) (hc0_0 : l0_0.length ≤ c0_0) (hr0_1 : Kd.C Kd.string w A0_1 l0_1.length l0_1) (hc0_1 : l0_1.length ≤ c0_1) (hr0_2 : Kd.C k82 w A0_2 l0_2.length l0_2) (hc0_2 : l0_2.length ≤ c0_2) (hr0_3 : Kd.C k80 w A0_3 l0_3.length l0_3) (hc0_3 : l0_3.length ≤ c0_3) (hr0_4 : Kd.C (Kd.int .i64) w A0_4 l0_4.length l0_4) (hc0_4 : l0_4.length ≤ c0_4) (h : fault_List.f k l0_0 l0_1 l0_2 l0_3 l0_4 = some (r1, r2)) :
   Calls Try.prog 14 #[.agg #[.slice A0_0 l0_0.length c0_0, .slice A0_1 l0_1.length c0_1, .slice A0_2 l0_2.length c0_2, .slice A0_3 l0_3.length c0_3, .slice A0_4 l0_4.length c0_4]] w fun e w' => ∃ v0_ : Value, e = .returned (.tuple #[v0_, .int .i64 r2]) ∧ Kd.R k29 29 w' w.heap.size (fun _ => True) v0_ r1 ∧ Below w.heap.size w w' := by
 have hu27 := Try.underlying27
 have hu29 := Try.underlying29
 have HR0_0 := Aside0.mk hr0_0
 have HC0_0 := Aside0.mk hc0_0
 clear hr0_0 hc0_0
 have HR0_1 := Aside0.mk hr0_1
 have HC0_1 := Aside0.mk hc0_1
 clear hr0_1 hc0_1
 have HR0_2 := Aside0.mk hr0_2
 have HC0_2 := Aside0.mk hc0_2
 clear hr0_2 hc0_2
 have HR0_3 := Aside0.mk hr0_3
 have HC0_3 := Aside0.mk hc0_3
 clear hr0_3 hc0_3
 have HR0_4 := Aside0.mk hr0_4
 have HC0_4 := Aside0.mk hc0_4
 clear hr0_4 hc0_4
 have HB := Aside0.mk (Below.refl w.heap.size w)
 have H : ((netlist_Loads.f k l0_0 l0_1 l0_2 l0_3 l0_4).bind fun bt136 => (if bt136.2 = 0 then (fault_List.l0 k bt136.1 ([] : List (S29)) 2) else (some (([] : List (S29)), bt136.2)))) = some (r1, r2) := h
 clear h
 replace H := Option.bind_eq_some_iff.mp H
 obtain ⟨⟨t136, t139⟩, A20, H⟩ := H
 replace H : (if t139 = 0 then (fault_List.l0 k t136 ([] : List (S29)) 2) else (some (([] : List (S29)), t139))) = some (r1, r2) := H
 have A2 := Aside0.mk A20
 clear A20
 by_cases c3 : t139 = 0
 · rw [if_pos c3] at H
   have c3b0 : (t139 == 0) = true := beq_iff_eq.mpr c3
   have c3b1 : (t139 != 0) = false := bne_eq_false_iff_eq.mpr c3
   clear c3
   have H' := Aside0.mk H
   clear H
   go_enter Try.func14, Try.ntmps14
   go_wp2_with (first | ((with_reducible refine gate_dst (N := 1) rfl ?_); refine box_event ?hg (N := 1) ?hd (cs := #[.slice A0_0 l0_0.length c0_0, .slice A0_1 l0_1.length c0_1, .slice A0_2 l0_2.length c0_2, .slice A0_3 l0_3.length c0_3, .slice A0_4 l0_4.length c0_4]) (t := 27) ?hr ?_; (case hd => rfl); (case hg => rfl); (case hr => first | (go_simp; done) | (go_simp; rfl)); intro gb135 hg w4 hbox hb; have n0_ := Aside0.mk (below_step (by repeat (first | (with_reducible first | exact HB.out | apply below_alloc | apply pw_below_drewN | apply below_drew1) | exact HB.out)) hb); have n1_ := Aside0.mk (hbox); have n2_ := Aside0.mk ((by rw [hg]; exact (below_size (by repeat (first | (with_reducible first | exact HB.out | apply below_alloc | apply pw_below_drewN | apply below_drew1) | exact HB.out))) : w.heap.size ≤ gb135)); have n3_ := Aside0.mk ((by rw [hg]; exact (below_size (by repeat (first | (with_reducible first | exact HB.out | apply below_alloc | apply pw_below_drewN | apply below_drew1) | exact HB.out))) : w.heap.size ≤ gb135)); clear HB; have HB := n0_; have BK135 := n1_; have GW135 := n2_; have GE135 := n3_; clear n0_ n1_ n2_ n3_; clear hb hbox hg; have hcz5_0 : w4.cell? ⟨gb135, 0, none⟩ = some (.slice A0_0 l0_0.length c0_0) := (blk_cell BK135.out 0).trans rfl; have hcz5_1 : w4.cell? ⟨gb135, 1, none⟩ = some (.slice A0_1 l0_1.length c0_1) := (blk_cell BK135.out 1).trans rfl; have hcz5_2 : w4.cell? ⟨gb135, 2, none⟩ = some (.slice A0_2 l0_2.length c0_2) := (blk_cell BK135.out 2).trans rfl; have hcz5_3 : w4.cell? ⟨gb135, 3, none⟩ = some (.slice A0_3 l0_3.length c0_3) := (blk_cell BK135.out 3).trans rfl; have hcz5_4 : w4.cell? ⟨gb135, 4, none⟩ = some (.slice A0_4 l0_4.length c0_4) := (blk_cell BK135.out 4).trans rfl; have hfz5_0 := blk_frozen BK135.out 0; have hfz5_1 := blk_frozen BK135.out 1; have hfz5_2 := blk_frozen BK135.out 2; have hfz5_3 := blk_frozen BK135.out 3; have hfz5_4 := blk_frozen BK135.out 4) | ((with_reducible refine gate_callee (f := 27) rfl ?_); refine goesL_ (some 12) rfl rfl Try.func27 (by kernel_rfl) rfl #[.agg #[.slice A0_0 l0_0.length c0_0, .slice A0_1 l0_1.length c0_1, .slice A0_2 l0_2.length c0_2, .slice A0_3 l0_3.length c0_3, .slice A0_4 l0_4.length c0_4]] rfl (by (try simp only [List.map_toArray, List.map_cons, List.map_nil]); first | done | rfl | (simp only [List.length_drop, List.length_take]; rfl)) ?_; (with_reducible refine (netlist_Loads.calls k _ _ l0_0 _ _ l0_1 _ _ l0_2 _ _ l0_3 _ _ l0_4 t136 t139 _ ?side1 ?side2 ?side3 ?side4 ?side5 ?side6 ?side7 ?side8 ?side9 ?side10 A2.out).mono ?_); (case side1 => repeat (first | exact (Kd.C_below HR0_0.out HB.out) | (with_reducible refine Kd.C_alloc ?_ _) | (with_reducible refine Kd.C_drewN ?_ _) | (with_reducible refine Kd.C_drew ?_))); (case side2 => exact HC0_0.out); (case side3 => repeat (first | exact (Kd.C_below HR0_1.out HB.out) | (with_reducible refine Kd.C_alloc ?_ _) | (with_reducible refine Kd.C_drewN ?_ _) | (with_reducible refine Kd.C_drew ?_))); (case side4 => exact HC0_1.out); (case side5 => repeat (first | exact (Kd.C_below HR0_2.out HB.out) | (with_reducible refine Kd.C_alloc ?_ _) | (with_reducible refine Kd.C_drewN ?_ _) | (with_reducible refine Kd.C_drew ?_))); (case side6 => exact HC0_2.out); (case side7 => repeat (first | exact (Kd.C_below HR0_3.out HB.out) | (with_reducible refine Kd.C_alloc ?_ _) | (with_reducible refine Kd.C_drewN ?_ _) | (with_reducible refine Kd.C_drew ?_))); (case side8 => exact HC0_3.out); (case side9 => repeat (first | exact (Kd.C_below HR0_4.out HB.out) | (with_reducible refine Kd.C_alloc ?_ _) | (with_reducible refine Kd.C_drewN ?_ _) | (with_reducible refine Kd.C_drew ?_))); (case side10 => exact HC0_4.out); rintro e w6 ⟨v137, rfl, ho0, hb⟩; refine ⟨_, rfl, ?_⟩; have n0_ := Aside0.mk (Kd.S_lower ho0 (below_size (by repeat (first | (with_reducible first | exact HB.out | apply below_alloc | apply pw_below_drewN | apply below_drew1 | refine below_set ?_ GE135.out) | exact HB.out)))); have n1_ := Aside0.mk (blk_below (g := gb135) (o := .cells #[.slice A0_0 l0_0.length c0_0, .slice A0_1 l0_1.length c0_1, .slice A0_2 l0_2.length c0_2, .slice A0_3 l0_3.length c0_3, .slice A0_4 l0_4.length c0_4] 27 (0, 0)) (by (with_reducible repeat (first | refine blk_drewN ?_ _ | refine blk_drew ?_ | refine blk_alloc ?_ _)); exact BK135.out) hb); have n2_ := Aside0.mk (below_step (by repeat (first | (with_reducible first | exact HB.out | apply below_alloc | apply pw_below_drewN | apply below_drew1 | refine below_set ?_ GE135.out) | exact HB.out)) hb); clear BK135; clear HB; have HO138 := n0_; have BK135 := n1_; have HB := n2_; clear n0_ n1_ n2_; (try clear hb); (try clear hb2); (try clear hk); (try clear hi); (try clear ho0)))
   go_loopg [6, 7] k (fun kq v6 v7 w' => ∃ (x6_1 : List (S29)) (x7_1 : Int), v7 = .int .i64 x7_1 ∧ Aside0 (fault_List.l0 kq t136 x6_1 x7_1 = some (r1, r2)) ∧ Aside0 (kq ≤ k) ∧ Aside0 (Kd.S (Kd.slice 77 k77) 75 w' w.heap.size (fun _ => True) v137 t136) ∧ Aside0 (Kd.R k29 29 w' w.heap.size (fun _ => True) v6 x6_1) ∧ Aside0 (w'.heap[gb135]? = some (.cells #[(.slice A0_0 l0_0.length c0_0), (.slice A0_1 l0_1.length c0_1), (.slice A0_2 l0_2.length c0_2), (.slice A0_3 l0_3.length c0_3), (.slice A0_4 l0_4.length c0_4)] 27 (0, 0))) ∧ Aside0 (Below w.heap.size w w'))
   case atStart => exact ⟨(([] : List (S29))), (2), (by first | rfl | (simp; done) | (simp [*]; done)), H', ⟨Nat.le_refl _⟩, ⟨by (with_reducible repeat (first | apply Kd.S_alloc | apply Kd.S_drewN | apply Kd.S_drew)); exact HO138.out⟩, ⟨by first | exact Kd.R_nil _ _ _ _ _ | exact Kd.N_nil _ _ _ _ _ | exact Kd.V_nil _ _ _ _ _ | exact Kd.Q_nil _ _ _ _ _ | exact Kd.S_nil _ _ _ _ _⟩, ⟨by (with_reducible repeat (first | refine blk_drewN ?_ _ | refine blk_drew ?_ | refine blk_alloc ?_ _)); exact BK135.out⟩, ⟨by repeat (first | (with_reducible first | exact HB.out | apply below_alloc | apply pw_below_drewN | apply below_drew1 | refine below_set ?_ GE135.out) | exact HB.out)⟩⟩
   case round =>
     clear H'
     try clear c1
     try clear c2
     try clear p2
     try clear c3
     try clear c3b0
     try clear c3b1
     try clear hcz5_0
     try clear hcz5_1
     try clear hcz5_2
     try clear hcz5_3
     try clear hcz5_4
     try clear hfz5_0
     try clear hfz5_1
     try clear hfz5_2
     try clear hfz5_3
     try clear hfz5_4
     obtain ⟨x6_1, x7_1, rfl, HA, HK1, HO_4, HO_6, BK135, HB⟩ := hrel
     cases gk with
     | zero => exact absurd HA.out (by simp [fault_List.l0])
     | succ k1 =>
       have H := HA.out
       clear HA
       simp only [fault_List.l0] at H
       by_cases c7 : x7_1 < (t136.length : Int)
       · rw [if_pos c7] at H
         have c7b0 : decide (x7_1 < (t136.length : Int)) = true := decide_eq_true c7
         clear c7
         by_cases c8 : 0 ≤ x7_1
         · rw [if_pos c8] at H
           have c8b0 : decide (0 ≤ x7_1) = true := decide_eq_true c8
           clear c8
           have H' := Aside0.mk H
           clear H
           obtain ⟨Ao9, co9, eo9⟩ := Kd.S_slice HO_4.out
           subst eo9
           have p140 : 0 ≤ (x7_1 : Int) := of_decide_eq_true (by first | (with_reducible assumption) | assumption)
           have q140 : x7_1 < (t136.length : Int) := of_decide_eq_true (by first | (with_reducible assumption) | assumption)
           obtain ⟨ad140, A140_0, c140_0, e140, hx140_0, hl140_0, hi140_0⟩ := at_L12 (Kd.S_reads' HO_4.out).2.2 x7_1 p140 q140
           cases e140
           obtain ⟨ce140, hce140, hMe140, hcc140⟩ := Kd.S_get HO_4.out [] x7_1 p140 (by first | exact q140 | exact of_decide_eq_true (by first | (with_reducible assumption) | assumption) | (have e_ := (Kd.S_reads' HO_4.out).1; omega))
           obtain ⟨ve140_0, rfl, ge140_0⟩ := hMe140
           have hv140_0 := hcc140 0 _ rfl
           rw [Nat.add_zero, show ((Kd.slice 77 k77)).sz = 1 from rfl, Nat.mul_one] at hv140_0
           replace hv140_0 := Option.some.inj (hv140_0.symm.trans hx140_0)
           rw [hv140_0] at ge140_0
           have HL140_0 := Aside0.mk (show Kd.R k77 77 _ _ _ _ (rd_L12 t136 x7_1) from ge140_0)
           clear hv140_0 ge140_0
           clear hcc140 hce140
           have HR140_0 := Aside0.mk hi140_0
           have HC140_0 := Aside0.mk hl140_0
           clear hi140_0 hl140_0
           replace p140 := eq_true p140
           replace q140 := eq_true q140
           go_wp2
           go_loopg [6, 9] k1 (fun kq v6 v9 w' => ∃ (x6_2 : List (S29)) (x9_2 : Int), v9 = .int .i64 x9_2 ∧ Aside0 (fault_List.l1 kq t136 x6_2 x7_1 ((rd_L12 t136 x7_1).length : Int) x9_2 = some (r1, r2)) ∧ Aside0 (kq ≤ k1) ∧ Aside0 (Kd.S (Kd.slice 77 k77) 75 w' w.heap.size (fun _ => True) (.slice (some ad140) t136.length co9) t136) ∧ Aside0 (Kd.R k29 29 w' w.heap.size (fun _ => True) v6 x6_2) ∧ Aside0 (w'.heap[gb135]? = some (.cells #[(.slice A0_0 l0_0.length c0_0), (.slice A0_1 l0_1.length c0_1), (.slice A0_2 l0_2.length c0_2), (.slice A0_3 l0_3.length c0_3), (.slice A0_4 l0_4.length c0_4)] 27 (0, 0))) ∧ Aside0 (Below w.heap.size w w'))
           case atStart => exact ⟨(x6_1), ((-1)), (by first | rfl | (simp; done) | (simp [*]; done)), H', ⟨Nat.le_refl _⟩, ⟨by (with_reducible repeat (first | apply Kd.S_alloc | apply Kd.S_drewN | apply Kd.S_drew)); exact HO_4.out⟩, ⟨by (with_reducible repeat (first | apply Kd.R_alloc | apply Kd.R_drewN | apply Kd.R_drew)); exact HO_6.out⟩, ⟨by (with_reducible repeat (first | refine blk_drewN ?_ _ | refine blk_drew ?_ | refine blk_alloc ?_ _)); exact BK135.out⟩, ⟨by repeat (first | (with_reducible first | exact HB.out | apply below_alloc | apply pw_below_drewN | apply below_drew1 | refine below_set ?_ GE135.out) | exact HB.out)⟩⟩
           case round =>
             clear H'
             try clear c1
             try clear p1
             try clear q1
             try clear hx1
             try clear c2
             try clear p2
             try clear c3
             try clear c3b0
             try clear c3b1
             try clear c7
             try clear c7b0
             try clear c8
             try clear c8b0
             try clear hcz5_0
             try clear hcz5_1
             try clear hcz5_2
             try clear hcz5_3
             try clear hcz5_4
             try clear hfz5_0
             try clear hfz5_1
             try clear hfz5_2
             try clear hfz5_3
             try clear hfz5_4
             try clear hx140_0
             try clear p140
             try clear p2
             try clear q140
             obtain ⟨x6_2, x9_2, rfl, HA, HK2, HO_4, HO_6, BK135, HB⟩ := hrel
             cases gk with
             | zero => exact absurd HA.out (by simp [fault_List.l1])
             | succ k2 =>
               have H := HA.out
               clear HA
               simp only [fault_List.l1] at H
               by_cases c10 : x9_2 < ((rd_L12 t136 x7_1).length : Int)
               · rw [if_pos c10] at H
                 have c10b0 : decide (x9_2 < ((rd_L12 t136 x7_1).length : Int)) = true := decide_eq_true c10
                 clear c10
                 by_cases c11 : ((rd_L12 t136 x7_1).length : Int) > 0
                 · rw [if_pos c11] at H
                   have c11b0 : decide (0 < ((rd_L12 t136 x7_1).length : Int)) = true := decide_eq_true c11
                   have c11b1 : decide (0 < (rd_L12 t136 x7_1).length) = true := decide_eq_true (by omega)
                   clear c11
                   by_cases c12 : x9_2 < 0
                   · rw [if_pos c12] at H
                     have c12b0 : decide (x9_2 < 0) = true := decide_eq_true c12
                     clear c12
                     obtain ⟨y141, hy141⟩ : ∃ y_ : List (S29), y_ = (([(⟨x7_1, x9_2, false⟩ : S29), (⟨x7_1, x9_2, true⟩ : S29)] : List (S29))) := ⟨_, rfl⟩
                     replace H : (if x6_2.length + y141.length < 5864062014805 then (fault_List.l1 k2 t136 (x6_2 ++ y141) x7_1 ((rd_L12 t136 x7_1).length : Int) (wrap64 (x9_2 + 1))) else (none)) = some (r1, r2) := by first | (rw [hy141]; with_reducible exact H) | (have H2_ := (Option.bind_some _ _).symm.trans H; rw [hy141]; with_reducible exact H2_) | (have H2_ := (Option.bind_some _ _).symm.trans H; with_reducible exact H2_) | with_reducible exact H | (rw [hy141]; exact H) | exact H
                     have Ny141 := Aside0.mk hy141
                     clear hy141
                     by_cases c13 : x6_2.length + y141.length < 5864062014805
                     · rw [if_pos c13] at H
                       have LMc13 := Aside0.mk c13
                       clear c13
                       obtain ⟨y144, hy144⟩ : ∃ y_ : List (S29), y_ = (x6_2 ++ y141) := ⟨_, rfl⟩
                       replace H : (fault_List.l1 k2 t136 y144 x7_1 ((rd_L12 t136 x7_1).length : Int) (wrap64 (x9_2 + 1))) = some (r1, r2) := by first | (rw [hy144]; with_reducible exact H) | (have H2_ := (Option.bind_some _ _).symm.trans H; rw [hy144]; with_reducible exact H2_) | (have H2_ := (Option.bind_some _ _).symm.trans H; with_reducible exact H2_) | with_reducible exact H | (rw [hy144]; exact H) | exact H
                       have Ny144 := Aside0.mk hy144
                       clear hy144
                       have H' := Aside0.mk H
                       clear H
                       go_wp2_with (first | ((with_reducible refine gate_dst (N := 51) rfl ?_); refine Kd.R_lit k29 _ 29 ?hg (N := 51) ?hd (xs := ([(⟨x7_1, x9_2, false⟩ : S29), (⟨x7_1, x9_2, true⟩ : S29)] : List (S29))) (inner := [.int .i64 x7_1, .int .i64 x9_2, .bool false, .int .i64 x7_1, .int .i64 x9_2, .bool true]) (ok := fun _ => True) (okp := fun _ => True) ?hr ?hp (fun _ hk => hk) trivial (Below.refl _ _) (Nat.le_refl _) (by simp) ?_; (case hd => rfl); (case hg => rfl); (case hr => first | (go_simp; done) | (go_simp; rfl)); (case hp => exact (Reps.c3 (show Kd.M k29 _ _ _ (⟨x7_1, x9_2, false⟩ : S29) [.int .i64 x7_1, .int .i64 x9_2, .bool false] from (k29_mkM _ _ _ (⟨x7_1, x9_2, false⟩ : S29) )) (Reps.c3 (show Kd.M k29 _ _ _ (⟨x7_1, x9_2, true⟩ : S29) [.int .i64 x7_1, .int .i64 x9_2, .bool true] from (k29_mkM _ _ _ (⟨x7_1, x9_2, true⟩ : S29) )) (Reps.none _ _)))); intro v142 w14 ho15 hb hg_ hnew_; clear hg_ hnew_; (first | rw [← Ny141.out] at ho15 | (simp only [Int.reduceToNat] at ho15; rw [← Ny141.out] at ho15)); have n0_ := Aside0.mk (Kd.S_below (by (with_reducible repeat (first | apply Kd.S_alloc | apply Kd.S_drewN | apply Kd.S_drew)); exact HO_4.out) hb); have n1_ := Aside0.mk (Kd.R_elder' (by (with_reducible repeat (first | apply Kd.R_alloc | apply Kd.R_drewN | apply Kd.R_drew)); exact HO_6.out) (Kd.R_base ho15) hb); have n2_ := Aside0.mk (Kd.R_lower (Kd.R_new' ho15 (Kd.R_lt (by (with_reducible repeat (first | apply Kd.R_alloc | apply Kd.R_drewN | apply Kd.R_drew)); exact HO_6.out))) (below_size (by repeat (first | (with_reducible first | exact HB.out | apply below_alloc | apply pw_below_drewN | apply below_drew1 | refine below_set ?_ GE135.out) | exact HB.out)))); have n3_ := Aside0.mk (blk_below (g := gb135) (o := .cells #[.slice A0_0 l0_0.length c0_0, .slice A0_1 l0_1.length c0_1, .slice A0_2 l0_2.length c0_2, .slice A0_3 l0_3.length c0_3, .slice A0_4 l0_4.length c0_4] 27 (0, 0)) (by (with_reducible repeat (first | refine blk_drewN ?_ _ | refine blk_drew ?_ | refine blk_alloc ?_ _)); exact BK135.out) hb); have n4_ := Aside0.mk (below_step (by repeat (first | (with_reducible first | exact HB.out | apply below_alloc | apply pw_below_drewN | apply below_drew1 | refine below_set ?_ GE135.out) | exact HB.out)) hb); clear HO_4; clear HO_6; clear BK135; clear HB; have HO_4 := n0_; have HO_6 := n1_; have HO143 := n2_; have BK135 := n3_; have HB := n4_; clear n0_ n1_ n2_ n3_ n4_; clear hb ho15; obtain ⟨Ao17, co17, eo17⟩ := Kd.R_slice HO143.out; subst eo17) | ((with_reducible refine gate_builtin (b := .append) (xs := #[.tmp 44, .tmp 51]) rfl ?_); at_builtin; refine Kd.R_append_rows k29 (w0 := w) w.heap.size rfl (.tmp 44) (.tmp 51) 39 29 (.agg #[(.int .i64 0), (.int .i64 0), (.bool false)]) 24 rfl Try.underlying39 info29 rfl (by decide) (by omega) u6 x6_2 y141 _ _ _ (fun k_ => some k_ ≠ (.slice Ao17 y141.length co17 : Value).ownBlock) (fun _ => False) rfl rfl ?aO ?aR (fun _ _ h => h) (fun _ h => h.elim) ?aF ?aB ?aS ?aL ?_; (case aR => repeat (first | exact (Kd.R_reads' HO143.out).2.2 | (with_reducible refine Kd.C_alloc ?_ _) | (with_reducible refine Kd.C_drewN ?_ _) | (with_reducible refine Kd.C_drew ?_))); (case aB => exact (by repeat (first | (with_reducible first | exact HB.out | apply below_alloc | apply pw_below_drewN | apply below_drew1 | refine below_set ?_ GE135.out) | exact HB.out))); (case aF => exact (fun k_ hk => Kd.fresh' (Kd.R_lt (by (with_reducible repeat (first | apply Kd.R_alloc | apply Kd.R_drewN | apply Kd.R_drew)); exact HO143.out)) k_ hk)); (case aO => exact (by (with_reducible repeat (first | apply Kd.R_alloc | apply Kd.R_drewN | apply Kd.R_drew)); exact Kd.R_mono HO_6.out (fun _ hk => hk.2))); (case aS => exact (below_size (by repeat (first | (with_reducible first | exact HB.out | apply below_alloc | apply pw_below_drewN | apply below_drew1 | refine below_set ?_ GE135.out) | exact HB.out)))); (case aL => have := LMc13.out; omega); intro v145 w16 ho hb hg hat; rw [← Ny144.out] at ho; have n0_ := Aside0.mk (Kd.S_over' (by (with_reducible repeat (first | apply Kd.S_alloc | apply Kd.S_drewN | apply Kd.S_drew)); exact HO_4.out) (Kd.R_typed (by (with_reducible repeat (first | apply Kd.R_alloc | apply Kd.R_drewN | apply Kd.R_drew)); exact HO_6.out)) (by decide) hg); have n1_ := Aside0.mk (blk_grown (g := gb135) (o := .cells #[.slice A0_0 l0_0.length c0_0, .slice A0_1 l0_1.length c0_1, .slice A0_2 l0_2.length c0_2, .slice A0_3 l0_3.length c0_3, .slice A0_4 l0_4.length c0_4] 27 (0, 0)) (by (with_reducible repeat (first | refine blk_drewN ?_ _ | refine blk_drew ?_ | refine blk_alloc ?_ _)); exact BK135.out) hg (Kd.R_ne HO_6.out BK135.out (by decide))); have n2_ := Aside0.mk (Kd.R_after (ok := (fun _ => True)) (by (with_reducible repeat (first | apply Kd.R_alloc | apply Kd.R_drewN | apply Kd.R_drew)); exact HO143.out) hg hat); have n3_ := Aside0.mk (hb); have n4_ := Aside0.mk (ho); clear HO_4; clear BK135; clear HO143; clear HB; clear HO_6; have HO_4 := n0_; have BK135 := n1_; have HO143 := n2_; have HB := n3_; have HO146 := n4_; clear n0_ n1_ n2_ n3_ n4_; clear ho hb hg hat))
                       go_roundg k2
                       case measure => have := HK1.out; have := HK2.out; omega
                       case rel => exact ⟨(y144), (wrap64 (x9_2 + 1)), (by first | rfl | (simp; done) | (simp [*]; done)), H', ⟨by have := HK1.out; have := HK2.out; omega⟩, ⟨by (with_reducible repeat (first | apply Kd.S_alloc | apply Kd.S_drewN | apply Kd.S_drew)); exact HO_4.out⟩, ⟨by (with_reducible repeat (first | apply Kd.R_alloc | apply Kd.R_drewN | apply Kd.R_drew)); exact Kd.R_mono HO146.out (fun _ hk => trivial)⟩, ⟨by (with_reducible repeat (first | refine blk_drewN ?_ _ | refine blk_drew ?_ | refine blk_alloc ?_ _)); exact BK135.out⟩, ⟨by repeat (first | (with_reducible first | exact HB.out | apply below_alloc | apply pw_below_drewN | apply below_drew1 | refine below_set ?_ GE135.out) | exact HB.out)⟩⟩
                     · rw [if_neg c13] at H
                       exact absurd H (by simp)
                   · rw [if_neg c12] at H
                     have c12b0 : decide (x9_2 < 0) = false := decide_eq_false c12
                     clear c12
                     by_cases c18 : ((rd_L12 t136 x7_1).length : Int) > 1
                     · rw [if_pos c18] at H
                       have c18b0 : decide (1 < ((rd_L12 t136 x7_1).length : Int)) = true := decide_eq_true c18
                       have c18b1 : decide (1 < (rd_L12 t136 x7_1).length) = true := decide_eq_true (by omega)
                       clear c18
                       obtain ⟨y147, hy147⟩ : ∃ y_ : List (S29), y_ = (([(⟨x7_1, x9_2, false⟩ : S29), (⟨x7_1, x9_2, true⟩ : S29)] : List (S29))) := ⟨_, rfl⟩
                       replace H : (if x6_2.length + y147.length < 5864062014805 then (fault_List.l1 k2 t136 (x6_2 ++ y147) x7_1 ((rd_L12 t136 x7_1).length : Int) (wrap64 (x9_2 + 1))) else (none)) = some (r1, r2) := by first | (rw [hy147]; with_reducible exact H) | (have H2_ := (Option.bind_some _ _).symm.trans H; rw [hy147]; with_reducible exact H2_) | (have H2_ := (Option.bind_some _ _).symm.trans H; with_reducible exact H2_) | with_reducible exact H | (rw [hy147]; exact H) | exact H
                       have Ny147 := Aside0.mk hy147
                       clear hy147
                       by_cases c19 : x6_2.length + y147.length < 5864062014805
                       · rw [if_pos c19] at H
                         have LMc19 := Aside0.mk c19
                         clear c19
                         obtain ⟨y150, hy150⟩ : ∃ y_ : List (S29), y_ = (x6_2 ++ y147) := ⟨_, rfl⟩
                         replace H : (fault_List.l1 k2 t136 y150 x7_1 ((rd_L12 t136 x7_1).length : Int) (wrap64 (x9_2 + 1))) = some (r1, r2) := by first | (rw [hy150]; with_reducible exact H) | (have H2_ := (Option.bind_some _ _).symm.trans H; rw [hy150]; with_reducible exact H2_) | (have H2_ := (Option.bind_some _ _).symm.trans H; with_reducible exact H2_) | with_reducible exact H | (rw [hy150]; exact H) | exact H
                         have Ny150 := Aside0.mk hy150
                         clear hy150
                         have H' := Aside0.mk H
                         clear H
                         go_wp2_with (first | ((with_reducible refine gate_dst (N := 51) rfl ?_); refine Kd.R_lit k29 _ 29 ?hg (N := 51) ?hd (xs := ([(⟨x7_1, x9_2, false⟩ : S29), (⟨x7_1, x9_2, true⟩ : S29)] : List (S29))) (inner := [.int .i64 x7_1, .int .i64 x9_2, .bool false, .int .i64 x7_1, .int .i64 x9_2, .bool true]) (ok := fun _ => True) (okp := fun _ => True) ?hr ?hp (fun _ hk => hk) trivial (Below.refl _ _) (Nat.le_refl _) (by simp) ?_; (case hd => rfl); (case hg => rfl); (case hr => first | (go_simp; done) | (go_simp; rfl)); (case hp => exact (Reps.c3 (show Kd.M k29 _ _ _ (⟨x7_1, x9_2, false⟩ : S29) [.int .i64 x7_1, .int .i64 x9_2, .bool false] from (k29_mkM _ _ _ (⟨x7_1, x9_2, false⟩ : S29) )) (Reps.c3 (show Kd.M k29 _ _ _ (⟨x7_1, x9_2, true⟩ : S29) [.int .i64 x7_1, .int .i64 x9_2, .bool true] from (k29_mkM _ _ _ (⟨x7_1, x9_2, true⟩ : S29) )) (Reps.none _ _)))); intro v148 w20 ho21 hb hg_ hnew_; clear hg_ hnew_; (first | rw [← Ny147.out] at ho21 | (simp only [Int.reduceToNat] at ho21; rw [← Ny147.out] at ho21)); have n0_ := Aside0.mk (Kd.S_below (by (with_reducible repeat (first | apply Kd.S_alloc | apply Kd.S_drewN | apply Kd.S_drew)); exact HO_4.out) hb); have n1_ := Aside0.mk (Kd.R_elder' (by (with_reducible repeat (first | apply Kd.R_alloc | apply Kd.R_drewN | apply Kd.R_drew)); exact HO_6.out) (Kd.R_base ho21) hb); have n2_ := Aside0.mk (Kd.R_lower (Kd.R_new' ho21 (Kd.R_lt (by (with_reducible repeat (first | apply Kd.R_alloc | apply Kd.R_drewN | apply Kd.R_drew)); exact HO_6.out))) (below_size (by repeat (first | (with_reducible first | exact HB.out | apply below_alloc | apply pw_below_drewN | apply below_drew1 | refine below_set ?_ GE135.out) | exact HB.out)))); have n3_ := Aside0.mk (blk_below (g := gb135) (o := .cells #[.slice A0_0 l0_0.length c0_0, .slice A0_1 l0_1.length c0_1, .slice A0_2 l0_2.length c0_2, .slice A0_3 l0_3.length c0_3, .slice A0_4 l0_4.length c0_4] 27 (0, 0)) (by (with_reducible repeat (first | refine blk_drewN ?_ _ | refine blk_drew ?_ | refine blk_alloc ?_ _)); exact BK135.out) hb); have n4_ := Aside0.mk (below_step (by repeat (first | (with_reducible first | exact HB.out | apply below_alloc | apply pw_below_drewN | apply below_drew1 | refine below_set ?_ GE135.out) | exact HB.out)) hb); clear HO_4; clear HO_6; clear BK135; clear HB; have HO_4 := n0_; have HO_6 := n1_; have HO149 := n2_; have BK135 := n3_; have HB := n4_; clear n0_ n1_ n2_ n3_ n4_; clear hb ho21; obtain ⟨Ao23, co23, eo23⟩ := Kd.R_slice HO149.out; subst eo23) | ((with_reducible refine gate_builtin (b := .append) (xs := #[.tmp 44, .tmp 51]) rfl ?_); at_builtin; refine Kd.R_append_rows k29 (w0 := w) w.heap.size rfl (.tmp 44) (.tmp 51) 39 29 (.agg #[(.int .i64 0), (.int .i64 0), (.bool false)]) 24 rfl Try.underlying39 info29 rfl (by decide) (by omega) u6 x6_2 y147 _ _ _ (fun k_ => some k_ ≠ (.slice Ao23 y147.length co23 : Value).ownBlock) (fun _ => False) rfl rfl ?aO ?aR (fun _ _ h => h) (fun _ h => h.elim) ?aF ?aB ?aS ?aL ?_; (case aR => repeat (first | exact (Kd.R_reads' HO149.out).2.2 | (with_reducible refine Kd.C_alloc ?_ _) | (with_reducible refine Kd.C_drewN ?_ _) | (with_reducible refine Kd.C_drew ?_))); (case aB => exact (by repeat (first | (with_reducible first | exact HB.out | apply below_alloc | apply pw_below_drewN | apply below_drew1 | refine below_set ?_ GE135.out) | exact HB.out))); (case aF => exact (fun k_ hk => Kd.fresh' (Kd.R_lt (by (with_reducible repeat (first | apply Kd.R_alloc | apply Kd.R_drewN | apply Kd.R_drew)); exact HO149.out)) k_ hk)); (case aO => exact (by (with_reducible repeat (first | apply Kd.R_alloc | apply Kd.R_drewN | apply Kd.R_drew)); exact Kd.R_mono HO_6.out (fun _ hk => hk.2))); (case aS => exact (below_size (by repeat (first | (with_reducible first | exact HB.out | apply below_alloc | apply pw_below_drewN | apply below_drew1 | refine below_set ?_ GE135.out) | exact HB.out)))); (case aL => have := LMc19.out; omega); intro v151 w22 ho hb hg hat; rw [← Ny150.out] at ho; have n0_ := Aside0.mk (Kd.S_over' (by (with_reducible repeat (first | apply Kd.S_alloc | apply Kd.S_drewN | apply Kd.S_drew)); exact HO_4.out) (Kd.R_typed (by (with_reducible repeat (first | apply Kd.R_alloc | apply Kd.R_drewN | apply Kd.R_drew)); exact HO_6.out)) (by decide) hg); have n1_ := Aside0.mk (blk_grown (g := gb135) (o := .cells #[.slice A0_0 l0_0.length c0_0, .slice A0_1 l0_1.length c0_1, .slice A0_2 l0_2.length c0_2, .slice A0_3 l0_3.length c0_3, .slice A0_4 l0_4.length c0_4] 27 (0, 0)) (by (with_reducible repeat (first | refine blk_drewN ?_ _ | refine blk_drew ?_ | refine blk_alloc ?_ _)); exact BK135.out) hg (Kd.R_ne HO_6.out BK135.out (by decide))); have n2_ := Aside0.mk (Kd.R_after (ok := (fun _ => True)) (by (with_reducible repeat (first | apply Kd.R_alloc | apply Kd.R_drewN | apply Kd.R_drew)); exact HO149.out) hg hat); have n3_ := Aside0.mk (hb); have n4_ := Aside0.mk (ho); clear HO_4; clear BK135; clear HO149; clear HB; clear HO_6; have HO_4 := n0_; have BK135 := n1_; have HO149 := n2_; have HB := n3_; have HO152 := n4_; clear n0_ n1_ n2_ n3_ n4_; clear ho hb hg hat))
                         go_roundg k2
                         case measure => have := HK1.out; have := HK2.out; omega
                         case rel => exact ⟨(y150), (wrap64 (x9_2 + 1)), (by first | rfl | (simp; done) | (simp [*]; done)), H', ⟨by have := HK1.out; have := HK2.out; omega⟩, ⟨by (with_reducible repeat (first | apply Kd.S_alloc | apply Kd.S_drewN | apply Kd.S_drew)); exact HO_4.out⟩, ⟨by (with_reducible repeat (first | apply Kd.R_alloc | apply Kd.R_drewN | apply Kd.R_drew)); exact Kd.R_mono HO152.out (fun _ hk => trivial)⟩, ⟨by (with_reducible repeat (first | refine blk_drewN ?_ _ | refine blk_drew ?_ | refine blk_alloc ?_ _)); exact BK135.out⟩, ⟨by repeat (first | (with_reducible first | exact HB.out | apply below_alloc | apply pw_below_drewN | apply below_drew1 | refine below_set ?_ GE135.out) | exact HB.out)⟩⟩
                       · rw [if_neg c19] at H
                         exact absurd H (by simp)
                     · rw [if_neg c18] at H
                       have c18b0 : decide (1 < ((rd_L12 t136 x7_1).length : Int)) = false := decide_eq_false c18
                       have c18b1 : decide (1 < (rd_L12 t136 x7_1).length) = false := decide_eq_false (by omega)
                       clear c18
                       have H' := Aside0.mk H
                       clear H
                       go_wp2
                       go_roundg k2
                       case measure => have := HK1.out; have := HK2.out; omega
                       case rel => exact ⟨(x6_2), (wrap64 (x9_2 + 1)), (by first | rfl | (simp; done) | (simp [*]; done)), H', ⟨by have := HK1.out; have := HK2.out; omega⟩, ⟨by (with_reducible repeat (first | apply Kd.S_alloc | apply Kd.S_drewN | apply Kd.S_drew)); exact HO_4.out⟩, ⟨by (with_reducible repeat (first | apply Kd.R_alloc | apply Kd.R_drewN | apply Kd.R_drew)); exact HO_6.out⟩, ⟨by (with_reducible repeat (first | refine blk_drewN ?_ _ | refine blk_drew ?_ | refine blk_alloc ?_ _)); exact BK135.out⟩, ⟨by repeat (first | (with_reducible first | exact HB.out | apply below_alloc | apply pw_below_drewN | apply below_drew1 | refine below_set ?_ GE135.out) | exact HB.out)⟩⟩
                 · rw [if_neg c11] at H
                   have c11b0 : decide (0 < ((rd_L12 t136 x7_1).length : Int)) = false := decide_eq_false c11
                   have c11b1 : decide (0 < (rd_L12 t136 x7_1).length) = false := decide_eq_false (by omega)
                   clear c11
                   have H' := Aside0.mk H
                   clear H
                   go_wp2
                   go_roundg k2
                   case measure => have := HK1.out; have := HK2.out; omega
                   case rel => exact ⟨(x6_2), (wrap64 (x9_2 + 1)), (by first | rfl | (simp; done) | (simp [*]; done)), H', ⟨by have := HK1.out; have := HK2.out; omega⟩, ⟨by (with_reducible repeat (first | apply Kd.S_alloc | apply Kd.S_drewN | apply Kd.S_drew)); exact HO_4.out⟩, ⟨by (with_reducible repeat (first | apply Kd.R_alloc | apply Kd.R_drewN | apply Kd.R_drew)); exact HO_6.out⟩, ⟨by (with_reducible repeat (first | refine blk_drewN ?_ _ | refine blk_drew ?_ | refine blk_alloc ?_ _)); exact BK135.out⟩, ⟨by repeat (first | (with_reducible first | exact HB.out | apply below_alloc | apply pw_below_drewN | apply below_drew1 | refine below_set ?_ GE135.out) | exact HB.out)⟩⟩
               · rw [if_neg c10] at H
                 have c10b0 : decide (x9_2 < ((rd_L12 t136 x7_1).length : Int)) = false := decide_eq_false c10
                 clear c10
                 have H' := Aside0.mk H
                 clear H
                 go_wp2
                 go_roundg k2
                 case measure => have := HK1.out; have := HK2.out; omega
                 case rel => exact ⟨(x6_2), (wrap64 (x7_1 + 1)), (by first | rfl | (simp; done) | (simp [*]; done)), H', ⟨by have := HK1.out; have := HK2.out; omega⟩, ⟨by (with_reducible repeat (first | apply Kd.S_alloc | apply Kd.S_drewN | apply Kd.S_drew)); exact HO_4.out⟩, ⟨by (with_reducible repeat (first | apply Kd.R_alloc | apply Kd.R_drewN | apply Kd.R_drew)); exact HO_6.out⟩, ⟨by (with_reducible repeat (first | refine blk_drewN ?_ _ | refine blk_drew ?_ | refine blk_alloc ?_ _)); exact BK135.out⟩, ⟨by repeat (first | (with_reducible first | exact HB.out | apply below_alloc | apply pw_below_drewN | apply below_drew1 | refine below_set ?_ GE135.out) | exact HB.out)⟩⟩
         · rw [if_neg c8] at H
           exact absurd H (by simp)
       · rw [if_neg c7] at H
         have c7b0 : decide (x7_1 < (t136.length : Int)) = false := decide_eq_false c7
         clear c7
         simp only [Option.some.injEq, Prod.mk.injEq] at H
         obtain ⟨rfl, rfl⟩ := H
         obtain ⟨Ao24, co24, eo24⟩ := Kd.S_slice HO_4.out
         subst eo24
         go_wp2
         go_ret2
         exact ⟨_, by first | rfl | (simp [errW_none, errW_some] <;> rfl) | (simp [*, errW_none, errW_some] <;> rfl), by (with_reducible repeat (first | apply Kd.R_alloc | apply Kd.R_drewN | apply Kd.R_drew)); exact HO_6.out, by repeat (first | (with_reducible first | exact HB.out | apply below_alloc | apply pw_below_drewN | apply below_drew1 | refine below_set ?_ GE135.out) | exact HB.out)⟩
 · rw [if_neg c3] at H
   have c3b0 : (t139 == 0) = false := beq_eq_false_iff_ne.mpr c3
   have c3b1 : (t139 != 0) = true := bne_iff_ne.mpr c3
   simp only [Option.some.injEq, Prod.mk.injEq] at H
   obtain ⟨rfl, rfl⟩ := H
   go_enter Try.func14, Try.ntmps14
   go_wp2_with (first | ((with_reducible refine gate_dst (N := 1) rfl ?_); refine box_event ?hg (N := 1) ?hd (cs := #[.slice A0_0 l0_0.length c0_0, .slice A0_1 l0_1.length c0_1, .slice A0_2 l0_2.length c0_2, .slice A0_3 l0_3.length c0_3, .slice A0_4 l0_4.length c0_4]) (t := 27) ?hr ?_; (case hd => rfl); (case hg => rfl); (case hr => first | (go_simp; done) | (go_simp; rfl)); intro gb135 hg w25 hbox hb; have n0_ := Aside0.mk (below_step (by repeat (first | (with_reducible first | exact HB.out | apply below_alloc | apply pw_below_drewN | apply below_drew1) | exact HB.out)) hb); have n1_ := Aside0.mk (hbox); have n2_ := Aside0.mk ((by rw [hg]; exact (below_size (by repeat (first | (with_reducible first | exact HB.out | apply below_alloc | apply pw_below_drewN | apply below_drew1) | exact HB.out))) : w.heap.size ≤ gb135)); have n3_ := Aside0.mk ((by rw [hg]; exact (below_size (by repeat (first | (with_reducible first | exact HB.out | apply below_alloc | apply pw_below_drewN | apply below_drew1) | exact HB.out))) : w.heap.size ≤ gb135)); clear HB; have HB := n0_; have BK135 := n1_; have GW135 := n2_; have GE135 := n3_; clear n0_ n1_ n2_ n3_; clear hb hbox hg; have hcz26_0 : w25.cell? ⟨gb135, 0, none⟩ = some (.slice A0_0 l0_0.length c0_0) := (blk_cell BK135.out 0).trans rfl; have hcz26_1 : w25.cell? ⟨gb135, 1, none⟩ = some (.slice A0_1 l0_1.length c0_1) := (blk_cell BK135.out 1).trans rfl; have hcz26_2 : w25.cell? ⟨gb135, 2, none⟩ = some (.slice A0_2 l0_2.length c0_2) := (blk_cell BK135.out 2).trans rfl; have hcz26_3 : w25.cell? ⟨gb135, 3, none⟩ = some (.slice A0_3 l0_3.length c0_3) := (blk_cell BK135.out 3).trans rfl; have hcz26_4 : w25.cell? ⟨gb135, 4, none⟩ = some (.slice A0_4 l0_4.length c0_4) := (blk_cell BK135.out 4).trans rfl; have hfz26_0 := blk_frozen BK135.out 0; have hfz26_1 := blk_frozen BK135.out 1; have hfz26_2 := blk_frozen BK135.out 2; have hfz26_3 := blk_frozen BK135.out 3; have hfz26_4 := blk_frozen BK135.out 4) | ((with_reducible refine gate_callee (f := 27) rfl ?_); refine goesL_ (some 12) rfl rfl Try.func27 (by kernel_rfl) rfl #[.agg #[.slice A0_0 l0_0.length c0_0, .slice A0_1 l0_1.length c0_1, .slice A0_2 l0_2.length c0_2, .slice A0_3 l0_3.length c0_3, .slice A0_4 l0_4.length c0_4]] rfl (by (try simp only [List.map_toArray, List.map_cons, List.map_nil]); first | done | rfl | (simp only [List.length_drop, List.length_take]; rfl)) ?_; (with_reducible refine (netlist_Loads.calls k _ _ l0_0 _ _ l0_1 _ _ l0_2 _ _ l0_3 _ _ l0_4 t136 t139 _ ?side1 ?side2 ?side3 ?side4 ?side5 ?side6 ?side7 ?side8 ?side9 ?side10 A2.out).mono ?_); (case side1 => repeat (first | exact (Kd.C_below HR0_0.out HB.out) | (with_reducible refine Kd.C_alloc ?_ _) | (with_reducible refine Kd.C_drewN ?_ _) | (with_reducible refine Kd.C_drew ?_))); (case side2 => exact HC0_0.out); (case side3 => repeat (first | exact (Kd.C_below HR0_1.out HB.out) | (with_reducible refine Kd.C_alloc ?_ _) | (with_reducible refine Kd.C_drewN ?_ _) | (with_reducible refine Kd.C_drew ?_))); (case side4 => exact HC0_1.out); (case side5 => repeat (first | exact (Kd.C_below HR0_2.out HB.out) | (with_reducible refine Kd.C_alloc ?_ _) | (with_reducible refine Kd.C_drewN ?_ _) | (with_reducible refine Kd.C_drew ?_))); (case side6 => exact HC0_2.out); (case side7 => repeat (first | exact (Kd.C_below HR0_3.out HB.out) | (with_reducible refine Kd.C_alloc ?_ _) | (with_reducible refine Kd.C_drewN ?_ _) | (with_reducible refine Kd.C_drew ?_))); (case side8 => exact HC0_3.out); (case side9 => repeat (first | exact (Kd.C_below HR0_4.out HB.out) | (with_reducible refine Kd.C_alloc ?_ _) | (with_reducible refine Kd.C_drewN ?_ _) | (with_reducible refine Kd.C_drew ?_))); (case side10 => exact HC0_4.out); rintro e w27 ⟨v137, rfl, ho0, hb⟩; refine ⟨_, rfl, ?_⟩; have n0_ := Aside0.mk (Kd.S_lower ho0 (below_size (by repeat (first | (with_reducible first | exact HB.out | apply below_alloc | apply pw_below_drewN | apply below_drew1 | refine below_set ?_ GE135.out) | exact HB.out)))); have n1_ := Aside0.mk (blk_below (g := gb135) (o := .cells #[.slice A0_0 l0_0.length c0_0, .slice A0_1 l0_1.length c0_1, .slice A0_2 l0_2.length c0_2, .slice A0_3 l0_3.length c0_3, .slice A0_4 l0_4.length c0_4] 27 (0, 0)) (by (with_reducible repeat (first | refine blk_drewN ?_ _ | refine blk_drew ?_ | refine blk_alloc ?_ _)); exact BK135.out) hb); have n2_ := Aside0.mk (below_step (by repeat (first | (with_reducible first | exact HB.out | apply below_alloc | apply pw_below_drewN | apply below_drew1 | refine below_set ?_ GE135.out) | exact HB.out)) hb); clear BK135; clear HB; have HO138 := n0_; have BK135 := n1_; have HB := n2_; clear n0_ n1_ n2_; (try clear hb); (try clear hb2); (try clear hk); (try clear hi); (try clear ho0)))
   go_ret2
   exact ⟨_, by first | rfl | (simp [errW_none, errW_some] <;> rfl) | (simp [*, errW_none, errW_some] <;> rfl), by first | exact Kd.R_nil _ _ _ _ _ | exact Kd.N_nil _ _ _ _ _ | exact Kd.V_nil _ _ _ _ _ | exact Kd.Q_nil _ _ _ _ _ | exact Kd.S_nil _ _ _ _ _, by repeat (first | (with_reducible first | exact HB.out | apply below_alloc | apply pw_below_drewN | apply below_drew1 | refine below_set ?_ GE135.out) | exact HB.out)⟩
end Go.Proofs.Ytimjccfpobhpeaa.PF
