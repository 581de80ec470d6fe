/- Waves, bytes and numbers that come in as arguments lie as Rep tells. -/
import Derived.Test.YtabhafllkhoefaaOpens
import Derived.Test.YtabhafllkhoefaaWave
import Derived.Test.YtabhafllkhoefaaPack1
namespace Go.Proofs.Ytabhafllkhoefaa
open Go.RowKit Go.ChangeShapes Go.WideShapes Go.ChangeAt
set_option maxRecDepth 100000

theorem opens_int : Opens Try.prog (Rep.int .i64) 3 (fun _ => True) := Opens.int Try.underlying3 (by kernel_rfl)
theorem opens_u64 : Opens Try.prog (Rep.int .u64) 39 (fun _ => True) := Opens.int Try.underlying39 (by kernel_rfl)
theorem opens_byte : Opens Try.prog (Rep.int .u8) 5 (fun _ => True) := Opens.int Try.underlying5 (by kernel_rfl)
theorem opens_str : Opens Try.prog Rep.str 9 (fun x => x.size ≤ reachBytes) := Opens.str Try.underlying9 (by kernel_rfl)
theorem opens_ints : Opens Try.prog (Rep.slice (Rep.int .i64)) 47 (fun xs => xs.length * 8 ≤ reachBytes ∧ ∀ x ∈ xs, True) := opens_int.slice Try.underlying47 (by kernel_rfl) (by decide) 8 (by kernel_rfl)
theorem opens_bytes : Opens Try.prog (Rep.slice kByte) 25 (fun xs => xs.length * 1 ≤ reachBytes ∧ ∀ x ∈ xs, True) := opens_byte.slice Try.underlying25 (by kernel_rfl) (by decide) 1 (by kernel_rfl)
theorem opens_bits : ∃ W, Opens Try.prog kBits 41 W :=
  ⟨_, (Opens.struct (d := Rep.pair (Rep.int .i64) (Rep.pair (Rep.int .u64) (Rep.int .u64))) Try.underlying41 (by kernel_rfl) (OpensF.pair opens_int rfl (OpensF.pair opens_u64 rfl (OpensF.one opens_u64 rfl)))).iso (fun x => ⟨⟨x.1, x.2.1, x.2.2⟩, rfl⟩)⟩
theorem opens_line : Opens Try.prog kLine 50 (fun x => x.Name.size ≤ reachBytes ∧ x.At.length * 8 ≤ reachBytes ∧ x.Val.length * 24 ≤ reachBytes) := by
  obtain ⟨W, hb⟩ := opens_bits
  have hbs := hb.slice Try.underlying48 (by kernel_rfl) (by decide) 24 (by kernel_rfl)
  have h := (Opens.struct (d := Rep.pair Rep.str (Rep.pair (Rep.int .i64) (Rep.pair (Rep.slice (Rep.int .i64)) (Rep.slice kBits)))) Try.underlying50 (by kernel_rfl) (OpensF.pair opens_str rfl (OpensF.pair opens_int rfl (OpensF.pair opens_ints rfl (OpensF.one hbs rfl))))).iso (f := fun x : Line => (x.Name, x.W, x.At, x.Val)) (fun x => ⟨⟨x.1, x.2.1, x.2.2.1, x.2.2.2⟩, rfl⟩)
  refine ⟨h.cells, fun enc w n cs y h1 h2 => ?_⟩
  obtain ⟨x, hx, hW⟩ := h.opens enc w n cs y h1 h2
  exact ⟨x, hx, hW.1, hW.2.2.1.1, hW.2.2.2.1⟩
def LineFits (x : Line) : Prop := x.Name.size ≤ 140737488351232 ∧ x.At.length ≤ 17592186043904 ∧ x.Val.length ≤ 5864062014634
theorem opens_lines : Opens Try.prog (Rep.slice kLine) 22 (fun xs => xs.length * 72 ≤ reachBytes ∧ ∀ x ∈ xs, x.Name.size ≤ reachBytes ∧ x.At.length * 8 ≤ reachBytes ∧ x.Val.length * 24 ≤ reachBytes) :=
  opens_line.slice Try.underlying22 (by kernel_rfl) (by decide) 72 (by kernel_rfl)
theorem opens_wave : Opens Try.prog kWave 24 (fun x => x.Lines.length ≤ 1954687338211 ∧ ∀ l ∈ x.Lines, LineFits l) := by
  have h := (Opens.struct (d := Rep.pair (Rep.int .i64) (Rep.slice kLine)) Try.underlying24 (by kernel_rfl) (OpensF.pair opens_int rfl (OpensF.one opens_lines rfl))).iso (f := fun x : Wave => (x.End, x.Lines)) (fun x => ⟨⟨x.1, x.2⟩, rfl⟩)
  refine ⟨h.cells, fun enc w n cs y h1 h2 => ?_⟩
  obtain ⟨x, hx, hW⟩ := h.opens enc w n cs y h1 h2
  have hr : reachBytes = 140737488351232 := by decide
  have h3 : x.Lines.length * 72 ≤ reachBytes := hW.2.1
  rw [hr] at h3
  refine ⟨x, hx, by omega, fun l hl => ?_⟩
  have h4 := hW.2.2 l hl
  rw [hr] at h4
  exact ⟨h4.1, by omega, by omega⟩

/-- A wave as an argument. -/
theorem arg_wave {H : Type} {enc : TypeId × Value → H} {w : World} {r : Reach} {b : Nat} {v : Value} {d : DataW H} {p : List MemPlace} (hv : Value.okWide Try.prog w r b 24 v)
    (h : DataW.Trod enc Try.prog w 0 (fun _ => true) true 24 v d p) (hl : Light Try.prog 24 d) :
    ∃ (x : Wave) (A : Option Addr) (c : Nat), v = .agg #[.int .i64 x.End, .slice A x.Lines.length c] ∧ InK .i64 x.End ∧ Rep.Sl kLine w (fun k => k < w.heap.size) A c x.Lines ∧ x.Lines.length ≤ 1954687338211 ∧ ∀ l ∈ x.Lines, LineFits l := by
  obtain ⟨cs, rfl, _⟩ := okWide_struct Try.underlying24 hv
  obtain ⟨n, hf⟩ := h
  obtain ⟨x, hx, hW⟩ := opens_wave.opens enc w n _ _ hf hl
  obtain ⟨A, c, hc, he, hs⟩ := kWave_iff.1 hx
  refine ⟨x, A, c, ?_, he, hs, hW⟩
  obtain ⟨cs⟩ := cs
  simp only [Value.cells] at hc
  rw [hc]
theorem arg_bytes {H : Type} {enc : TypeId × Value → H} {w : World} {r : Reach} {b : Nat} {v : Value} {d : DataW H} {p : List MemPlace} (hv : Value.okWide Try.prog w r b 25 v)
    (h : DataW.Trod enc Try.prog w 0 (fun _ => true) true 25 v d p) (hl : Light Try.prog 25 d) :
    ∃ (xs : List Int) (A : Option Addr) (c : Nat), v = .slice A xs.length c ∧ Rep.Sl kByte w (fun k => k < w.heap.size) A c xs ∧ xs.length ≤ 140737488351232 := by
  obtain ⟨a, len, cap, rfl⟩ := okWide_slice Try.underlying25 hv
  obtain ⟨n, hf⟩ := h
  obtain ⟨xs, ⟨A, c, hc, hs⟩, hW⟩ := opens_bytes.opens enc w n _ _ hf hl
  simp [Value.cells] at hc
  obtain ⟨rfl, rfl, rfl⟩ := hc
  have hr : reachBytes = 140737488351232 := by decide
  have h3 := hW.1
  rw [hr] at h3
  exact ⟨xs, a, cap, rfl, hs, by omega⟩
theorem arg_int {H : Type} {enc : TypeId × Value → H} {w : World} {r : Reach} {b : Nat} {v : Value} {d : DataW H} {p : List MemPlace} (hv : Value.okWide Try.prog w r b 3 v)
    (h : DataW.Trod enc Try.prog w 0 (fun _ => true) true 3 v d p) : ∃ x : Int, v = .int .i64 x ∧ InK .i64 x := by
  obtain ⟨n, rfl, _, _, hw⟩ := open_int Try.underlying3 hv h
  exact ⟨n, rfl, by simpa [Lit.wf, InK] using hw⟩
theorem arg_str {H : Type} {enc : TypeId × Value → H} {w : World} {r : Reach} {b : Nat} {v : Value} {d : DataW H} {p : List MemPlace} (hv : Value.okWide Try.prog w r b 9 v)
    (h : DataW.Trod enc Try.prog w 0 (fun _ => true) true 9 v d p) (hl : Light Try.prog 9 d) : ∃ x : ByteArray, v = .string x ∧ x.size ≤ 140737488351232 := by
  obtain ⟨s, rfl⟩ := okWide_string Try.underlying9 hv
  obtain ⟨n, hf⟩ := h
  obtain ⟨x, ⟨hc, _⟩, hW⟩ := opens_str.opens enc w n _ _ hf hl
  simp [Value.cells] at hc
  subst hc
  exact ⟨s, rfl, hW⟩
end Go.Proofs.Ytabhafllkhoefaa
