/- FaultLists answers true at every input, and the arguments read behind the call as before. No condition. -/
/- Joined by this session's own program out of its texts: OpensN FaultLists. -/
import Derived.Test.YtimjccfpobhpeaaL7
import Derived.Test.YtimjccfpobhpeaaL1
import Derived.Test.YtimjccfpobhpeaaRows
namespace Go.Proofs.Ytimjccfpobhpeaa
open Go.RowKit Go.ChangeShapes Go.WideShapes Go.ChangeAt
open Go.Proofs.YtimjccfpobhpeaaW.PrintWords (Kd)
open Go.Proofs.Ytimjccfpobhpeaa.PF
set_option maxRecDepth 100000
structure KR {α : Type} (d : Rep α) (k : Kd α) : Prop where
  sz : d.sz = k.sz
  tok : ∀ {w : World} {F : Nat → Prop} {x : α} {cs : List Value}, d.rel w F x cs → k.K w x cs
theorem KR.C {α : Type} {d : Rep α} {k : Kd α} (h : KR d k) {w : World} {F : Nat → Prop} {A : Option Addr} {c : Nat} {xs : List α} (hs : Rep.Sl d w F A c xs) : Kd.C k w A xs.length xs ∧ xs.length ≤ c := by
  refine ⟨⟨rfl, by have := hs.len; omega, fun hn => ?_⟩, hs.le⟩
  obtain ⟨b, o, rfl, _⟩ := hs.row.head hn
  refine ⟨⟨b, o, none⟩, rfl, fun j p hp => ?_⟩
  obtain ⟨b', o', cs, hA, _, _, hr, hc⟩ := hs.row j p hp
  simp only [Option.some.injEq, Addr.mk.injEq, and_true] at hA
  obtain ⟨rfl, rfl⟩ := hA
  refine ⟨cs, by rw [d.len hr, h.sz], h.tok hr, fun i u hu => ?_⟩
  rw [Addr.add_lit, ← h.sz, show o + (j * d.sz + i) = o + j * d.sz + i by omega]
  exact hc i u hu
theorem KR.int (k : IntKind) : KR (Rep.int k) (Kd.int k) := ⟨rfl, fun h => h.1⟩
theorem KR.bool : KR Rep.bool Kd.bool := ⟨rfl, fun h => h.1⟩
theorem KR.str : KR Rep.str Kd.string := ⟨rfl, fun h => h.1⟩
theorem KR.slice {α : Type} {d : Rep α} {k : Kd α} (h : KR d k) (e : Nat) : KR (Rep.slice d) (Kd.slice e k) := ⟨rfl, by
  rintro w F x cs ⟨A, c, rfl, hs⟩
  exact ⟨A, c, rfl, (h.C hs).2, (h.C hs).1⟩⟩
theorem KR.pair {α β : Type} {a : Rep α} {b : Rep β} {ka : Kd α} {kb : Kd β} (h : KR a ka) (h2 : KR b kb) : KR (Rep.pair a b) (Kd.pair ka kb) := ⟨by show a.sz + b.sz = ka.sz + kb.sz; rw [h.sz, h2.sz], by
  rintro w F x cs ⟨c0, c1, rfl, h0, h1⟩
  exact ⟨c0, c1, rfl, h.tok h0, h2.tok h1⟩⟩
theorem KR.iso {α β : Type} {d : Rep α} {k : Kd α} (h : KR d k) (f : β → α) : KR (Rep.iso d f) (Kd.iso k f) := ⟨h.sz, fun hr => h.tok hr⟩
theorem opens_int : Opens Try.prog (Rep.int .i64) 3 (fun _ => True) := Opens.int Try.underlying3 (by kernel_rfl)
theorem opens_u64 : Opens Try.prog (Rep.int .u64) 78 (fun _ => True) := Opens.int Try.underlying78 (by kernel_rfl)
theorem opens_bool : Opens Try.prog Rep.bool 4 (fun _ => True) := Opens.bool Try.underlying4 (by kernel_rfl)
theorem opens_str : Opens Try.prog Rep.str 9 (fun x => x.size ≤ reachBytes) := Opens.str Try.underlying9 (by kernel_rfl)
theorem opens_ints : Opens Try.prog (Rep.slice (Rep.int .i64)) 25 (fun xs => xs.length * 8 ≤ reachBytes ∧ ∀ x ∈ xs, True) := opens_int.slice Try.underlying25 (by kernel_rfl) (by decide) 8 (by kernel_rfl)
theorem opens_strs : Opens Try.prog (Rep.slice Rep.str) 22 (fun xs => xs.length * 16 ≤ reachBytes ∧ ∀ x ∈ xs, x.size ≤ reachBytes) := opens_str.slice Try.underlying22 (by kernel_rfl) (by decide) 16 (by kernel_rfl)
def rFlop : Rep S82 := Rep.iso (Rep.pair Rep.str (Rep.pair (Rep.int .i64) (Rep.pair (Rep.int .i64) (Rep.pair (Rep.int .i64) Rep.bool)))) (fun x : S82 => (x.f0, x.f1, x.f2, x.f3, x.f4))
def rGate : Rep S80 := Rep.iso (Rep.pair (Rep.int .i64) (Rep.pair (Rep.int .u64) (Rep.slice (Rep.int .i64)))) (fun x : S80 => (x.f0, x.f1, x.f2))
theorem kr_flop : KR rFlop k82 := KR.iso (KR.pair KR.str (KR.pair (KR.int .i64) (KR.pair (KR.int .i64) (KR.pair (KR.int .i64) KR.bool)))) _
theorem kr_gate : KR rGate k80 := KR.iso (KR.pair (KR.int .i64) (KR.pair (KR.int .u64) (KR.slice (KR.int .i64) 3))) _
theorem opens_flop : ∃ W, Opens Try.prog rFlop 82 W :=
  ⟨_, (Opens.struct (d := Rep.pair Rep.str (Rep.pair (Rep.int .i64) (Rep.pair (Rep.int .i64) (Rep.pair (Rep.int .i64) Rep.bool)))) Try.underlying82 (by kernel_rfl) (OpensF.pair opens_str rfl (OpensF.pair opens_int rfl (OpensF.pair opens_int rfl (OpensF.pair opens_int rfl (OpensF.one opens_bool rfl)))))).iso (fun x => ⟨⟨x.1, x.2.1, x.2.2.1, x.2.2.2.1, x.2.2.2.2⟩, rfl⟩)⟩
theorem opens_gate : ∃ W, Opens Try.prog rGate 80 W :=
  ⟨_, (Opens.struct (d := Rep.pair (Rep.int .i64) (Rep.pair (Rep.int .u64) (Rep.slice (Rep.int .i64)))) Try.underlying80 (by kernel_rfl) (OpensF.pair opens_int rfl (OpensF.pair opens_u64 rfl (OpensF.one opens_ints rfl)))).iso (fun x => ⟨⟨x.1, x.2.1, x.2.2⟩, rfl⟩)⟩
theorem opens_net : ∃ W, Opens Try.prog (Rep.pair (Rep.slice Rep.str) (Rep.pair (Rep.slice Rep.str) (Rep.pair (Rep.slice rFlop) (Rep.pair (Rep.slice rGate) (Rep.slice (Rep.int .i64)))))) 27 W := by
  obtain ⟨W1, h1⟩ := opens_flop
  obtain ⟨W2, h2⟩ := opens_gate
  have h3 := h1.slice Try.underlying23 (by kernel_rfl) (by decide) 48 (by kernel_rfl)
  have h4 := h2.slice Try.underlying24 (by kernel_rfl) (by decide) 40 (by kernel_rfl)
  exact ⟨_, Opens.struct Try.underlying27 (by kernel_rfl) (OpensF.pair opens_strs rfl (OpensF.pair opens_strs rfl (OpensF.pair h3 rfl (OpensF.pair h4 rfl (OpensF.one opens_ints rfl)))))⟩
theorem arg_net {H : Type} {enc : TypeId × Value → H} {w : World} {r : Reach} {b : Nat} {v : Value} {d : DataW H} {p : List MemPlace} (hv : Value.okWide Try.prog w r b 27 v)
    (h : DataW.Trod enc Try.prog w 0 (fun _ => true) true 27 v d p) (hl : Light Try.prog 27 d) :
    ∃ (A0 A1 A2 A3 A4 : Option Addr) (c0 c1 c2 c3 c4 : Nat) (l0 l1 : List ByteArray) (l2 : List S82) (l3 : List S80) (l4 : List Int), v = .agg #[.slice A0 l0.length c0, .slice A1 l1.length c1, .slice A2 l2.length c2, .slice A3 l3.length c3, .slice A4 l4.length c4] ∧
      (Kd.C Kd.string w A0 l0.length l0 ∧ l0.length ≤ c0) ∧ (Kd.C Kd.string w A1 l1.length l1 ∧ l1.length ≤ c1) ∧ (Kd.C k82 w A2 l2.length l2 ∧ l2.length ≤ c2) ∧ (Kd.C k80 w A3 l3.length l3 ∧ l3.length ≤ c3) ∧ Kd.C (Kd.int .i64) w A4 l4.length l4 ∧ l4.length ≤ c4 := by
  obtain ⟨cs, rfl, _⟩ := okWide_struct Try.underlying27 hv
  obtain ⟨n, hf⟩ := h
  obtain ⟨W, hO⟩ := opens_net
  obtain ⟨x, hx, _⟩ := hO.opens enc w n _ _ hf hl
  obtain ⟨_, _, hc, ⟨A0, c0, rfl, s0⟩, _, _, rfl, ⟨A1, c1, rfl, s1⟩, _, _, rfl, ⟨A2, c2, rfl, s2⟩, _, _, rfl, ⟨A3, c3, rfl, s3⟩, ⟨A4, c4, rfl, s4⟩⟩ := hx
  refine ⟨A0, A1, A2, A3, A4, c0, c1, c2, c3, c4, _, _, _, _, _, ?_, KR.str.C s0, KR.str.C s1, kr_flop.C s2, kr_gate.C s3, (KR.int .i64).C s4⟩
  obtain ⟨cs⟩ := cs
  simp only [Value.cells] at hc
  rw [hc]
  rfl
end Go.Proofs.Ytimjccfpobhpeaa
namespace Go.Proofs.Ytimjccfpobhpeaa.FaultLists
open Go.ChangeShapes Go.WideShapes Go.ChangeAt Go.RowKit
open Go.Proofs.Ytimjccfpobhpeaa.PF
set_option linter.unusedVariables false
theorem own : ownKnob Try.prog.godebug = none := by kernel_rfl
theorem laidOut : laidOutB Try.prog = true := by kernel_rfl
set_option maxRecDepth 100000 in
theorem lifted (os : Os) (started : os.Started) (H : Type) (enc : TypeId × Value → H) :
    ReturnsInHanded {} Try.checked os 4 .any (Rows.faultListsSpec.pre6 enc Try.prog Try.f4 Rows.faultListsRow.domain false) (Rows.faultListsSpec.post enc Try.prog Try.f4 false true false false) := by
  refine returnsInHanded_of_change_sized (C := Try.checked) own started (by kernel_rfl) Try.func4
    (ChangeSpec.witness6 (enc := enc) (C := Try.checked) false ⟨#[], #[.agg #[.slice none 0 0, .slice none 0 0, .slice none 0 0, .slice none 0 0, .slice none 0 0]], []⟩ 8 (by kernel_rfl) (by kernel_rfl) (by kernel_rfl) (by kernel_rfl)) ?_
  intro W base args ds gs before hval0 hW hcnd hsz0 _
  have hsz : (DataW.weightsEach Try.prog (Try.f4.params.toList ++ Rows.faultListsSpec.plain.varTypes Try.prog) (ds ++ gs)).all (· ≤ reachBytes) = true := hsz0
  have hval : ∀ (j : Nat) t v, Try.f4.params[j]? = some t → args[j]? = some v → Value.okWide Try.prog W .any base t v := hval0
  have hW' := hW
  obtain ⟨p, q, hA0, hV, rfl, hfz, hnd⟩ := hW
  have hA : DataW.TrodAll enc Try.prog W 0 (fun _ => true) true Try.f4.params.toList args.toList ds p := hA0
  rw [Try.params4] at hA hval hsz
  obtain ⟨v0, vs0, d0, ds0, p0, q0, hargs, rfl, rfl, h0, r0⟩ := trodAll_cons hA
  obtain ⟨rfl, rfl, rfl⟩ := trodAll_nil r0
  obtain rfl : args = #[v0] := by cases args; simp_all
  obtain ⟨rfl, rfl⟩ := trodVars_none hV
  have hall : ∀ n ∈ DataW.weightsEach Try.prog (#[27].toList ++ Rows.faultListsSpec.plain.varTypes Try.prog) ([d0] ++ []), n ≤ reachBytes := by
    intro n hn
    simpa using List.all_eq_true.1 hsz n hn
  obtain ⟨A0_0, A0_1, A0_2, A0_3, A0_4, c0_0, c0_1, c0_2, c0_3, c0_4, l0_0, l0_1, l0_2, l0_3, l0_4, rfl, hr0_0, hr0_1, hr0_2, hr0_3, hr0_4a, hr0_4b⟩ := arg_net (hval 0 27 v0 rfl rfl) h0 (light_each hall (j := 0) rfl rfl)
  have ll0 : ∀ x ∈ p0, x.block < W.heap.size := by obtain ⟨m, hm⟩ := h0; exact DataW.trod_lt m _ _ _ hm
  clear hA0 hval0 hsz0 hsz hall
  refine Calls.mono ((Exists.elim (lists_true l0_0 l0_1 l0_2 l0_3 l0_4) fun k hk => masklaw2_FaultLists.calls k A0_0 c0_0 l0_0 A0_1 c0_1 l0_1 A0_2 c0_2 l0_2 A0_3 c0_3 l0_3 A0_4 c0_4 l0_4 true W hr0_0.1 hr0_0.2 hr0_1.1 hr0_1.2 hr0_2.1 hr0_2.2 hr0_3.1 hr0_3.2 hr0_4a hr0_4b hk)) fun e W' ⟨he, bel⟩ => ?_
  subst he
  exact ⟨_, rfl, _, _, _, [], _, [], hW', trodAll_mk1 (shut_bool Try.underlying4 _),
    (trodAll_cons_mk (Below.trod laidOut (by kernel_rfl) (of_decide_eq_true (by kernel_rfl)) h0 bel ll0) trodAll_mk0), rfl, bel.frame _, fun h => by cases h⟩
theorem over : Rows.faultListsRow.holds Try.pinned (OpenSpec.ofChange Rows.faultListsSpec) :=
  OpenClaim.holds_of_wide 4 Try.f4 rfl rfl rfl rfl rfl rfl rfl ⟨rfl, rfl, rfl, rfl, rfl⟩ rfl rfl rfl rfl rfl (by kernel_rfl) Try.func4 (by kernel_rfl)
    (of_decide_eq_true (by kernel_rfl)) (by unfold Func.isWrapper; first | (rw [if_pos (by decide +kernel)]; kernel_rfl) | (rw [if_neg (by decide +kernel)]; exact ⟨rfl, rfl⟩))
    (fun os started H enc _ => lifted os started H enc)
end Go.Proofs.Ytimjccfpobhpeaa.FaultLists
namespace Go.Proofs.Ytimjccfpobhpeaa
theorem faultLists_holds : Rows.FaultListsSaid := FaultLists.over
#print axioms faultLists_holds
end Go.Proofs.Ytimjccfpobhpeaa
