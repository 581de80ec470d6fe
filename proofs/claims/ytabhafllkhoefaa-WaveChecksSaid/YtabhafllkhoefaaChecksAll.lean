/- The law function WaveChecks at all inputs. -/
import Derived.Test.YtabhafllkhoefaaChecksLaw2
namespace Go.Proofs.Ytabhafllkhoefaa
open Go.RowKit

theorem waveChecks_calls (x y : Wave) (s : ByteArray) (t : Int) (A B : Option Addr) (c d : Nat) (w : World) (F G : Nat → Prop) (he : InK .i64 x.End) (h : Rep.Sl kLine w F A c x.Lines) (hy : Rep.Sl kLine w G B d y.Lines) :
    Calls Try.prog 4 #[.agg #[.int .i64 x.End, .slice A x.Lines.length c], .agg #[.int .i64 y.End, .slice B y.Lines.length d], .string s, .int .i64 t] w fun e w' => e = .returned (.bool true) ∧ Is w w' := by
  by_cases hwf : waveFault x = 0
  · rcases idxFrom_bound s x.Lines 0 (by omega) with hi | hi
    · exact waveChecks_none x y s t A B c d w F G he h hy hwf (by omega)
    · obtain ⟨i, hix⟩ : ∃ i : Nat, idxFrom s x.Lines 0 = i := ⟨(idxFrom s x.Lines 0).toNat, by omega⟩
      obtain ⟨l, hl⟩ := get_ex (xs := x.Lines) (i := i) (by omega)
      have hlv := wave_lv hwf l (List.mem_of_getElem? hl)
      by_cases h0 : t < 0
      · cases ha : after1 t (l.At.drop 1) with
        | none => exact waveChecks_neg_none x y s t A B c d w F G he h hy hwf i l hix hl hlv h0 ha
        | some a => exact waveChecks_neg_some x y s t A B c d w F G he h hy hwf i l hix hl hlv h0 a ha
      · by_cases h1 : x.End < t
        · cases ha : after1 t (l.At.drop 1) with
          | none => exact waveChecks_big_none x y s t A B c d w F G he h hy hwf i l hix hl hlv ⟨h0, h1⟩ ha
          | some a => exact waveChecks_big_some x y s t A B c d w F G he h hy hwf i l hix hl hlv ⟨h0, h1⟩ a ha
        · cases ha : after1 t (l.At.drop 1) with
          | none => exact waveChecks_in_none x y s t A B c d w F G he h hy hwf i l hix hl hlv ⟨by omega, by omega⟩ ha
          | some a => exact waveChecks_in_some x y s t A B c d w F G he h hy hwf i l hix hl hlv ⟨by omega, by omega⟩ a ha
  · exact waveChecks_bad x y s t A B c d w F G he h hy hwf
end Go.Proofs.Ytabhafllkhoefaa
