/- The law function WaveCuts. -/
import Derived.Test.YtabhafllkhoefaaCutOk
import Derived.Test.YtabhafllkhoefaaSame
import Derived.Test.YtabhafllkhoefaaWaved
import Derived.Test.YtabhafllkhoefaaWaveFault
namespace Go.Proofs.Ytabhafllkhoefaa
open Go.RowKit
set_option maxRecDepth 100000

theorem had_at {l : Line} {e t : Int} (h : LV l e) {j : Nat} (hj : l.At[j]? = some t) : l.Val[j]? = some (had l t) := by
  have hl := (List.getElem?_eq_some_iff.1 hj).1
  have ht : l.At.getD j 0 = t := getD_of hj
  have hr := h.rises
  unfold had
  rw [hadFrom_spec l t j hl (fun i hi => by
    by_cases he : i = j
    · subst he; omega
    · have := hr i j (by omega) hl; omega) (fun i hi hil => by have := hr j i hi hil; omega) _ 0 _ (by omega), if_pos (by omega)]
  have hlv : j < l.Val.length := by rw [h.len]; exact hl
  rw [List.getElem?_eq_getElem hlv, List.getD, List.getElem?_eq_getElem hlv]
  rfl
theorem wave_few {x : Wave} (h : waveFault x = 0) (hs : ∀ l ∈ x.Lines, l.At.length ≤ 140737488355328) : x.Lines.length ≤ 160 ∧ ∀ l ∈ x.Lines, l.At.length ≤ 20000 := by
  unfold waveFault at h
  split at h
  · cases h
  split at h
  · cases h
  rename_i hn
  have ht := (totFrom_ge x.Lines 0 160 (by omega) (by omega) (by omega) hs).2
  refine ⟨by omega, fun l hl => ?_⟩
  have := ht l hl
  omega
theorem cutLn_of {l : Line} {e f : Int} (h : LV l e) (he : e ≤ 1099511627776) (hk : LineOk l) (hn : l.At.length ≤ 20000) (hf : 0 ≤ f) : CutLn l f := by
  refine ⟨⟨by rw [h.len]; exact Nat.le_refl _, hn, hk, fun t ht => ?_⟩, fun j t hj => had_at h hj, ?_⟩
  · obtain ⟨i, hi, rfl⟩ := List.getElem_of_mem ht
    have h1 := h.le hi
    have h0 := h.first.1
    have hd : l.At.getD i 0 = l.At[i] := getD_of (List.getElem?_eq_getElem hi)
    rw [hd] at h1
    refine ⟨?_, by omega⟩
    by_cases hz : i = 0
    · subst hz; omega
    · have := h.rises 0 i (by omega) hi
      omega
  · obtain ⟨k, hk1, hk2, hk3, _⟩ := had_index h hf
    exact ⟨k, hk1, by rw [h.len]; exact hk2, hk3⟩

set_option maxHeartbeats 8000000 in
theorem waveCuts_err (x : Wave) (f tq : Int) (A : Option Addr) (c : Nat) (w : World) (F : Nat → Prop) (he : InK .i64 x.End) (h : Rep.Sl kLine w F A c x.Lines) (er : Int) (hnz : er ≠ 0)
    (hc : (waveFault x ≠ 0 ∧ er = waveFault x) ∨ (waveFault x = 0 ∧ (f < 0 ∨ x.End < f ∨ tq < 0 ∨ x.End < tq) ∧ er = 2) ∨ (waveFault x = 0 ∧ ¬ (f < 0 ∨ x.End < f ∨ tq < 0 ∨ x.End < tq) ∧ tq < f ∧ er = 5)) :
    Calls Try.prog 5 #[.agg #[.int .i64 x.End, .slice A x.Lines.length c], .int .i64 f, .int .i64 tq] w fun e w' => e = .returned (.bool true) ∧ Is w w' := by
  have hu := Try.underlying50
  have hu2 := Try.underlying24
  have hm := h.len
  have hch := Lib.hid hc
  have hW : Is w (w.alloc (.cells #[.int .i64 x.End, .slice A x.Lines.length c] 24)) := (Is.refl w).alloc _
  have hB : ∀ z : Under (w.alloc (.cells #[.int .i64 x.End, .slice A x.Lines.length c] 24)), w.heap.size < z.val.heap.size := fun z => z.lt _ (by simp)
  have hnb : (er != 0) = true := by simpa using hnz
  have hz0 : ∀ W, Calls Try.prog 18 #[.agg #[.int .i64 0, .slice none 0 0], .agg #[.int .i64 0, .slice none 0 0]] W fun e w' => e = .returned (.bool true) ∧ Is W w' := fun W => by
    have := same_calls ⟨0, []⟩ ⟨0, []⟩ none none 0 0 W (fun _ => False) (fun _ => False) (Rep.Sl.empty _ _ _) (Rep.Sl.empty _ _ _)
    rw [sameWave_refl] at this
    exact this
  go_enter Try.func5, Try.ntmps5
  rcases hc with ⟨hwf, rfl⟩ | ⟨hwf, hbad, rfl⟩ | ⟨hwf, hin, hlt, rfl⟩
  · clear hwf
    go_wp2_with (first
      | (go_at_call 24; refine (cut_err x f tq A c _ F he (h.is hW) _ hch.out).mono ?_; rintro e w1 ⟨rfl, ⟨x1, rfl⟩⟩; have hW1 := (hW.step x1).alloc (.cells #[.int .i64 0, .slice none 0 0] 24); have p1 := hB x1)
      | (go_at_call 11; refine (waveFault_calls x A c _ F he (h.is hW1)).mono ?_; rintro e w2 ⟨rfl, ⟨x2, rfl⟩⟩; have hW2 := hW1.step x2; have p2 : w.heap.size < x2.val.heap.size := x2.lt _ (by simp; omega); have p3 : x1.val.heap.size < x2.val.heap.size := x2.lt _ (by simp))
      | (go_at_call 12; refine (waved_calls _).mono ?_; rintro e w3 ⟨rfl, ⟨x3, rfl⟩⟩; have hW3 := hW2.step x3; have p4 := x3.lt _ p3)
      | (go_at_call 18; refine (hz0 _).mono ?_; rintro e w4 ⟨rfl, ⟨x4, rfl⟩⟩; have hW4 := hW3.step x4))
    go_ret
    exact ⟨ret_bool (by simp), hW4⟩
  · have hwh := Lib.hid hwf
    clear hwf
    by_cases c1 : f < 0
    · clear hbad
      go_wp2_with (first
        | (go_at_call 24; refine (cut_err x f tq A c _ F he (h.is hW) _ hch.out).mono ?_; rintro e w1 ⟨rfl, ⟨x1, rfl⟩⟩; have hW1 := (hW.step x1).alloc (.cells #[.int .i64 0, .slice none 0 0] 24); have p1 := hB x1)
        | (go_at_call 11; refine (waveFault_calls x A c _ F he (h.is hW1)).mono ?_; rintro e w2 ⟨rfl, ⟨x2, rfl⟩⟩; rw [hwh.out]; have hW2 := hW1.step x2; have p2 : w.heap.size < x2.val.heap.size := x2.lt _ (by simp; omega); have p3 : x1.val.heap.size < x2.val.heap.size := x2.lt _ (by simp))
        | (go_at_call 12; refine (waved_calls _).mono ?_; rintro e w3 ⟨rfl, ⟨x3, rfl⟩⟩; have hW3 := hW2.step x3; have p4 := x3.lt _ p3)
        | (go_at_call 18; refine (hz0 _).mono ?_; rintro e w4 ⟨rfl, ⟨x4, rfl⟩⟩; have hW4 := hW3.step x4))
      go_ret
      exact ⟨ret_bool (by simp), hW4⟩
    by_cases c2 : tq < 0
    · clear hbad
      go_wp2_with (first
        | (go_at_call 24; refine (cut_err x f tq A c _ F he (h.is hW) _ hch.out).mono ?_; rintro e w1 ⟨rfl, ⟨x1, rfl⟩⟩; have hW1 := (hW.step x1).alloc (.cells #[.int .i64 0, .slice none 0 0] 24); have p1 := hB x1)
        | (go_at_call 11; refine (waveFault_calls x A c _ F he (h.is hW1)).mono ?_; rintro e w2 ⟨rfl, ⟨x2, rfl⟩⟩; rw [hwh.out]; have hW2 := hW1.step x2; have p2 : w.heap.size < x2.val.heap.size := x2.lt _ (by simp; omega); have p3 : x1.val.heap.size < x2.val.heap.size := x2.lt _ (by simp))
        | (go_at_call 12; refine (waved_calls _).mono ?_; rintro e w3 ⟨rfl, ⟨x3, rfl⟩⟩; have hW3 := hW2.step x3; have p4 := x3.lt _ p3)
        | (go_at_call 18; refine (hz0 _).mono ?_; rintro e w4 ⟨rfl, ⟨x4, rfl⟩⟩; have hW4 := hW3.step x4))
      go_ret
      exact ⟨ret_bool (by simp), hW4⟩
    by_cases c3 : x.End < f
    · clear hbad
      go_wp2_with (first
        | (go_at_call 24; refine (cut_err x f tq A c _ F he (h.is hW) _ hch.out).mono ?_; rintro e w1 ⟨rfl, ⟨x1, rfl⟩⟩; have hW1 := (hW.step x1).alloc (.cells #[.int .i64 0, .slice none 0 0] 24); have p1 := hB x1)
        | (go_at_call 11; refine (waveFault_calls x A c _ F he (h.is hW1)).mono ?_; rintro e w2 ⟨rfl, ⟨x2, rfl⟩⟩; rw [hwh.out]; have hW2 := hW1.step x2; have p2 : w.heap.size < x2.val.heap.size := x2.lt _ (by simp; omega); have p3 : x1.val.heap.size < x2.val.heap.size := x2.lt _ (by simp))
        | (go_at_call 12; refine (waved_calls _).mono ?_; rintro e w3 ⟨rfl, ⟨x3, rfl⟩⟩; have hW3 := hW2.step x3; have p4 := x3.lt _ p3)
        | (go_at_call 18; refine (hz0 _).mono ?_; rintro e w4 ⟨rfl, ⟨x4, rfl⟩⟩; have hW4 := hW3.step x4))
      go_ret
      exact ⟨ret_bool (by simp), hW4⟩
    have c4 : x.End < tq := by omega
    clear hbad
    go_wp2_with (first
      | (go_at_call 24; refine (cut_err x f tq A c _ F he (h.is hW) _ hch.out).mono ?_; rintro e w1 ⟨rfl, ⟨x1, rfl⟩⟩; have hW1 := (hW.step x1).alloc (.cells #[.int .i64 0, .slice none 0 0] 24); have p1 := hB x1)
      | (go_at_call 11; refine (waveFault_calls x A c _ F he (h.is hW1)).mono ?_; rintro e w2 ⟨rfl, ⟨x2, rfl⟩⟩; rw [hwh.out]; have hW2 := hW1.step x2; have p2 : w.heap.size < x2.val.heap.size := x2.lt _ (by simp; omega); have p3 : x1.val.heap.size < x2.val.heap.size := x2.lt _ (by simp))
      | (go_at_call 12; refine (waved_calls _).mono ?_; rintro e w3 ⟨rfl, ⟨x3, rfl⟩⟩; have hW3 := hW2.step x3; have p4 := x3.lt _ p3)
      | (go_at_call 18; refine (hz0 _).mono ?_; rintro e w4 ⟨rfl, ⟨x4, rfl⟩⟩; have hW4 := hW3.step x4))
    go_ret
    exact ⟨ret_bool (by simp), hW4⟩
  · have hwh := Lib.hid hwf
    have c1 : ¬ f < 0 := by omega
    have c2 : ¬ x.End < f := by omega
    have c3 : ¬ tq < 0 := by omega
    have c4 : ¬ x.End < tq := by omega
    clear hin hwf
    go_wp2_with (first
      | (go_at_call 24; refine (cut_err x f tq A c _ F he (h.is hW) _ hch.out).mono ?_; rintro e w1 ⟨rfl, ⟨x1, rfl⟩⟩; have hW1 := (hW.step x1).alloc (.cells #[.int .i64 0, .slice none 0 0] 24); have p1 := hB x1)
      | (go_at_call 11; refine (waveFault_calls x A c _ F he (h.is hW1)).mono ?_; rintro e w2 ⟨rfl, ⟨x2, rfl⟩⟩; rw [hwh.out]; have hW2 := hW1.step x2; have p2 : w.heap.size < x2.val.heap.size := x2.lt _ (by simp; omega); have p3 : x1.val.heap.size < x2.val.heap.size := x2.lt _ (by simp))
      | (go_at_call 12; refine (waved_calls _).mono ?_; rintro e w3 ⟨rfl, ⟨x3, rfl⟩⟩; have hW3 := hW2.step x3; have p4 := x3.lt _ p3)
      | (go_at_call 18; refine (hz0 _).mono ?_; rintro e w4 ⟨rfl, ⟨x4, rfl⟩⟩; have hW4 := hW3.step x4))
    go_ret
    exact ⟨ret_bool (by simp), hW4⟩
end Go.Proofs.Ytabhafllkhoefaa
