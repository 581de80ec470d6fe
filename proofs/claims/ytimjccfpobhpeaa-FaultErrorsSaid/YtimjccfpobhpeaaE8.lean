/- FaultErrors answers true at every input, and the arguments read behind the call as before. No condition. -/
/- Joined by this session's own program out of its texts: Detects PFx44 PFx45 ErrLaw Opens OpensN FaultErrors. -/
import Derived.Test.YtimjccfpobhpeaaE7
import Derived.Test.YtimjccfpobhpeaaE1
import Derived.Test.YtimjccfpobhpeaaE4
import Derived.Test.YtimjccfpobhpeaaE5
import Derived.Test.YtimjccfpobhpeaaE3
import Derived.Test.YtimjccfpobhpeaaE6
import Derived.ProofKit
import Derived.OpenShut
import Derived.ShutString
import Derived.ChangeOld
import Derived.Below
import Derived.SizedLaws
import Derived.Test.YtimjccfpobhpeaaRows
namespace Go.Proofs.Ytimjccfpobhpeaa
open Go.RowKit Go.Shelf
set_option maxRecDepth 100000
attribute [local go_sem] Oper.semAt_some
theorem bt {X Y Z : World} (a : Below X.heap.size X Y) (b : Below Y.heap.size Y Z) : Below X.heap.size X Z := a.trans (b.mono a.size)
set_option maxHeartbeats 8000000 in
theorem detects_walk (A : Option Addr) (b o cap n : Nat) (hA : 0 < n → A = some ⟨b, o, none⟩) (hnc : n ≤ cap) (hn : n ≤ 256) (net : Net5) (f0 f1 : Int) (f2 : Bool) (w : World)
    (BadP : Net5 → World → Prop) (hBP : ∀ x, Stays (BadP x)) (LA WA WB : Fin (chunksN n) → Value → Value → World → Prop) (hLA : ∀ x u v, Stays (LA x u v)) (hWA : ∀ x u v, Stays (WA x u v)) (hWB : ∀ x u v, Stays (WB x u v)) (mA mB : Fin (chunksN n) → Int) (bs : Fin (chunksN n) → List Bool)
    (hbs : ∀ x, (bs x).length = min 64 (n - x.val * 64)) (hbit : ∀ x j, j < (bs x).length → (bs x)[j]? = some (Go.bits .and .u64 (Go.bits .or .u64 (mA x) (mB x) / 2 ^ j) 1 == 1))
    (HI : ∀ W, Below w.heap.size w W → Calls Try.prog 8 #[.agg net.arr, .agg #[.int .i64 f0, .int .i64 f1, .bool f2]] W fun e w' => ∃ x : Net5, e = .returned (.tuple #[.agg x.arr, .int .i64 0]) ∧ BadP x w' ∧ Below W.heap.size W w')
    (HP : ∀ W, Below w.heap.size w W → Calls Try.prog 45 #[.agg net.arr, .slice A n cap] W fun e w' => e = .returned (.int .i64 0) ∧ Below W.heap.size W w')
    (HL : ∀ x W, Below w.heap.size w W → Calls Try.prog 49 #[.agg net.arr, chunkV b o 2 n x.val] W fun e w' => ∃ u v : Value, e = .returned (.tuple #[u, v]) ∧ LA x u v w' ∧ Below W.heap.size W w')
    (HW1 : ∀ x W u v, Below w.heap.size w W → LA x u v W → Calls Try.prog 50 #[.agg net.arr, u, v] W fun e w' => ∃ u v : Value, e = .returned (.tuple #[u, v, .int .i64 0]) ∧ WA x u v w' ∧ Below W.heap.size W w')
    (HW2 : ∀ x y W u v, BadP y W → LA x u v W → Calls Try.prog 50 #[.agg y.arr, u, v] W fun e w' => ∃ u v : Value, e = .returned (.tuple #[u, v, .int .i64 0]) ∧ WB x u v w' ∧ Below W.heap.size W w')
    (HD1 : ∀ x W u v y z, WA x u v W → WB x y z W → Calls Try.prog 51 #[u, y] W fun e w' => e = .returned (.int .u64 (mA x)) ∧ Below W.heap.size W w')
    (HD2 : ∀ x W u v y z, WA x u v W → WB x y z W → Calls Try.prog 51 #[v, z] W fun e w' => e = .returned (.int .u64 (mB x)) ∧ Below W.heap.size W w') :
    Calls Try.prog 24 #[.agg net.arr, .agg #[.int .i64 f0, .int .i64 f1, .bool f2], .slice A n cap] w fun e w' => ∃ v, e = .returned (.tuple #[v, .int .i64 0]) ∧ Rep.Own Rep.bool 4 w' w.heap.size NoB v ((List.finRange (chunksN n)).flatMap bs) ∧ Below w.heap.size w w' := by
  obtain ⟨A0, A1, A2, A3, A4, n0, n1, n2, n3, n4, c0, c1, c2, c3, c4⟩ := net
  simp only [Net5.arr] at HI HP HL HW1 HW2 ⊢
  have hu := Try.underlying27
  have huF := Try.underlying29
  have hW1 : ∀ W, W = ((((w.alloc (.cells #[.slice A0 n0 c0, .slice A1 n1 c1, .slice A2 n2 c2, .slice A3 n3 c3, .slice A4 n4 c4] 27)).alloc (.cells #[.int .i64 f0, .int .i64 f1, .bool f2] 29)).alloc (.cells #[.slice none 0 0] 53)).alloc (.cells #[.int .i64 0] 30)) → Below w.heap.size w W := by rintro W rfl; exact ((((Below.refl _ _).alloc (Nat.le_refl _) _).alloc (by simp) _).alloc (by simp; omega) _).alloc (by simp; omega) _
  obtain ⟨i0, hi, hz0, hz1, hz2⟩ := info_parts boolT.info
  refine (callsIn_wide (n := 9)).1 ?_
  refine callsIn_of_wp_marks Try.func24 rfl trivial ?_ rfl
  simp only [Try.ntmps24, List.size_toArray, List.length_cons, List.length_nil, Nat.reduceAdd, Nat.reduceSub, Array.replicate_succ, Array.replicate_zero, List.push_toArray, List.append_toArray, List.nil_append, List.cons_append]
  gi_wp2_with (first
    | (refine ⟨trivial, ?_⟩; gi_at_call 8; refine (callsIn_wide.2 (HI _ (hW1 _ rfl))).mono ?_; rintro e w1 ⟨⟨B0, B1, B2, B3, B4, m0, m1, m2, m3, m4, d0, d1, d2, d3, d4⟩, rfl, hB1, hb1⟩; obtain ⟨x1, rfl⟩ := Is.of hb1; have hs1 := x1.size; simp at hs1; have hl0 : w.heap.size < x1.val.heap.size := (by omega); have hl1 : w.heap.size + 1 < x1.val.heap.size := (by omega); have hl2 : w.heap.size + 1 + 1 < x1.val.heap.size := (by omega); have hl3 : w.heap.size + 1 + 1 + 1 < x1.val.heap.size := (by omega); have hbW2 : Below w.heap.size w (x1.val.alloc (.cells #[.slice B0 m0 d0, .slice B1 m1 d1, .slice B2 m2 d2, .slice B3 m3 d3, .slice B4 m4 d4] 27)) := ((hW1 _ rfl).trans (x1.ok.mono (by simp; omega))).alloc (by omega) _)
    | (refine ⟨trivial, ?_⟩; gi_at_call 45; refine (callsIn_wide.2 (HP _ hbW2)).mono ?_; rintro e w2 ⟨rfl, hb2⟩; obtain ⟨x2, rfl⟩ := Is.of hb2; have hs2 := x2.size; simp at hs2; have hk0 : w.heap.size < x2.val.heap.size := (by omega); have hk1 : w.heap.size + 1 < x2.val.heap.size := (by omega); have hk2 : w.heap.size + 1 + 1 < x2.val.heap.size := (by omega); have hk3 : w.heap.size + 1 + 1 + 1 < x2.val.heap.size := (by omega); have hk4 : x1.val.heap.size < x2.val.heap.size := (by omega))
    | (gi_at_make; refine wpListIn_make_own _ rfl _ _ 53 rfl x2.val.heap.size 4 i0 (.bool false) 1 boolT.ht hi hz0 hz1 .i64 .i64 _ n rfl rfl rfl (by rw [hz2]; omega) (by unfold maxLen; omega) (Nat.le_refl _) ?_; intro w3 hown3 hgrow3)
    | (refine ⟨trivial, ?_⟩; gi_at_call 48; refine (callsIn_wide.2 (chunk_calls A n cap _)).mono ?_; rintro e w5 ⟨rfl, rfl⟩)
    | fail)
  have hbel3 : Below x2.val.heap.size x2.val w3 := (Below.refl _ _).grown hgrow3 (Nat.le_refl _) (fun k e => by cases e)
  have hrow3 : Rep.Own Rep.bool 4 w3 x2.val.heap.size NoB (.slice (some ⟨x2.val.heap.size, 0, none⟩) 0 n) [] := ⟨[], hown3, Rep.All.nil _ _ _, fun _ _ h => h⟩
  have hs3 : x2.val.heap.size ≤ w3.heap.size := hgrow3.size
  have hnet2 : x2.val.heap[w.heap.size]? = some (.cells #[.slice A0 n0 c0, .slice A1 n1 c1, .slice A2 n2 c2, .slice A3 n3 c3, .slice A4 n4 c4] 27 (0, 0)) := by
    rw [x2.ok.block _ (by simp; omega), Below.heap_alloc _ _ _ hl0, x1.ok.block _ (by simp; omega), Below.heap_alloc _ _ _ (by simp; omega), Below.heap_alloc _ _ _ (by simp; omega), Below.heap_alloc _ _ _ (by simp)]
    exact heap_alloc_new w _
  have hbad2 : x2.val.heap[x1.val.heap.size]? = some (.cells #[.slice B0 m0 d0, .slice B1 m1 d1, .slice B2 m2 d2, .slice B3 m3 d3, .slice B4 m4 d4] 27 (0, 0)) := by
    rw [x2.ok.block _ (by simp)]
    exact heap_alloc_new _ _
  have hBP2 : BadP ⟨B0, B1, B2, B3, B4, m0, m1, m2, m3, m4, d0, d1, d2, d3, d4⟩ x2.val := hBP _ _ _ hB1 (((Below.refl _ _).alloc (Nat.le_refl _) _).trans (x2.ok.mono (by simp)))
  have hbw2 : Below w.heap.size w x2.val := hbW2.trans (x2.ok.mono (by simp; omega))
  refine' wpIn_rangeFunc_ownG rfl (by omega) (gf := 60) (lb := #[.pointer (some ⟨w3.heap.size + 1, 0, none⟩), .pointer (some ⟨w3.heap.size + 1 + 1, 0, none⟩)]) rfl trivial (enters_of Try.func60 (by kernel_rfl) rfl)
    (chunk_stops _ (w3.heap.size + 1) b o n cap A hA hnc (by omega) _ (by simp) ?hs ?hk) Keep2.trans ?hkb (Below.refl _ _) (fun _ => rfl)
    (fun pre W => DInv x2.val w3.heap.size (.slice A n cap) (pre.flatMap bs) W) (fun _ _ _ => False) (DInv.own (by simp; omega)) (fun _ _ _ _ _ hs _ _ => hs) ?h0 _ ?assign ?body ?done ?stop
  case hs => simp [go_sem]
  case hk => simp [go_sem]
  case hkb =>
    intro W l o1 o2 hl _ _ _
    simp at hl
    exact ⟨World.putObj_heap_other (by omega), World.putObj_heap_other (by omega)⟩
  case h0 =>
    refine ⟨((hbel3.alloc hs3 _).alloc (by simp; omega) _).alloc (by simp; omega) _, ?_, ?_, _, ?_, hrow3.step ?_⟩
    · exact (Below.heap_alloc _ _ _ (by simp)).trans (by rw [show w3.heap.size + 1 = (w3.alloc (.cells #[.slice (some ⟨x2.val.heap.size, 0, none⟩) 0 n] 53)).heap.size by simp]; exact heap_alloc_new _ _)
    · show _ = _
      rw [show w3.heap.size + 1 + 1 = ((w3.alloc (.cells #[.slice (some ⟨x2.val.heap.size, 0, none⟩) 0 n] 53)).alloc (.cells #[.slice A n cap] 49)).heap.size by simp]
      exact heap_alloc_new _ _
    · exact (Below.heap_alloc _ _ _ (by simp; omega)).trans ((Below.heap_alloc _ _ _ (by simp)).trans (heap_alloc_new _ _))
    · intro k _ hk
      exact (Below.heap_alloc _ _ _ (by simp; omega)).trans ((Below.heap_alloc _ _ _ (by simp; omega)).trans (Below.heap_alloc _ _ _ hk))
  case assign =>
    intro l x W K hK
    gi_wp2
    exact hK
  case body =>
    rintro l pre x W hI hlt
    have hW2 : Below w.heap.size w W := hbw2.trans (hI.bel.mono hbw2.size)
    have hBPW := hBP _ _ _ hBP2 hI.bel
    have q0 : w.heap.size < W.heap.size := Nat.lt_of_lt_of_le hk0 hI.bel.size
    have q4 : x1.val.heap.size < W.heap.size := Nat.lt_of_lt_of_le hk4 hI.bel.size
    have hnW := (hI.bel.block _ hk0).trans hnet2
    have hbdW := (hI.bel.block _ hk4).trans hbad2
    have e0 : W.cell? ⟨w.heap.size, 0, none⟩ = some (.slice A0 n0 c0) := (cell_of_row _ _ 0 _ _ _ hnW).trans rfl
    have e1 : W.cell? ⟨w.heap.size, 1, none⟩ = some (.slice A1 n1 c1) := (cell_of_row _ _ 1 _ _ _ hnW).trans rfl
    have e2 : W.cell? ⟨w.heap.size, 2, none⟩ = some (.slice A2 n2 c2) := (cell_of_row _ _ 2 _ _ _ hnW).trans rfl
    have e3 : W.cell? ⟨w.heap.size, 3, none⟩ = some (.slice A3 n3 c3) := (cell_of_row _ _ 3 _ _ _ hnW).trans rfl
    have e4 : W.cell? ⟨w.heap.size, 4, none⟩ = some (.slice A4 n4 c4) := (cell_of_row _ _ 4 _ _ _ hnW).trans rfl
    have g0 : W.cell? ⟨x1.val.heap.size, 0, none⟩ = some (.slice B0 m0 d0) := (cell_of_row _ _ 0 _ _ _ hbdW).trans rfl
    have g1 : W.cell? ⟨x1.val.heap.size, 1, none⟩ = some (.slice B1 m1 d1) := (cell_of_row _ _ 1 _ _ _ hbdW).trans rfl
    have g2 : W.cell? ⟨x1.val.heap.size, 2, none⟩ = some (.slice B2 m2 d2) := (cell_of_row _ _ 2 _ _ _ hbdW).trans rfl
    have g3 : W.cell? ⟨x1.val.heap.size, 3, none⟩ = some (.slice B3 m3 d3) := (cell_of_row _ _ 3 _ _ _ hbdW).trans rfl
    have g4 : W.cell? ⟨x1.val.heap.size, 4, none⟩ = some (.slice B4 m4 d4) := (cell_of_row _ _ 4 _ _ _ hbdW).trans rfl
    have hhn := Lib.hid hnW
    have hhb := Lib.hid hbdW
    have hh1 := Lib.hid hnet2
    have hh2 := Lib.hid hbad2
    have hh3 := Lib.hid hbs
    have hh4 := Lib.hid hbit
    clear hnW hbdW hnet2 hbad2 hbs hbit hown3 hgrow3
    have HLx := HL x W hW2
    simp only [chunkV] at HLx ⊢
    have hcl := hh3.out x
    obtain ⟨cl, hcl2⟩ : ∃ cl, min 64 (n - x.val * 64) = cl := ⟨_, rfl⟩
    rw [hcl2] at hcl HLx ⊢
    have hcl64 : cl ≤ 64 := by omega
    have hh5 := Lib.hid hcl
    clear hcl hcl2 HL
    gi_wp2_with (first
      | (refine ⟨trivial, ?_⟩; gi_at_call 49; refine (CallsIn.inRound l (callsIn_wide.2 HLx)).mono ?_; rintro e W1 ⟨u1, v1, rfl, hla, hbb⟩; obtain ⟨y1, rfl⟩ := Is.of hbb)
      | (refine ⟨trivial, ?_⟩; gi_at_call 51; refine (CallsIn.inRound l (callsIn_wide.2 (HD2 x _ _ _ _ _ (hWA _ _ _ _ _ hwa4 y4.ok) (hWB _ _ _ _ _ hwb y4.ok)))).mono ?_; rintro e W5 ⟨rfl, hbb⟩; obtain ⟨y5, rfl⟩ := Is.of hbb)
      | (refine ⟨trivial, ?_⟩; gi_at_call 51; refine (CallsIn.inRound l (callsIn_wide.2 (HD1 x _ _ _ _ _ (hWA _ _ _ _ _ hwa y3.ok) hwb))).mono ?_; rintro e W4 ⟨rfl, hbb⟩; obtain ⟨y4, rfl⟩ := Is.of hbb; have hwa4 := hWA _ _ _ _ _ hwa y3.ok)
      | (refine ⟨trivial, ?_⟩; gi_at_call 50; refine (CallsIn.inRound l (callsIn_wide.2 (HW2 x ⟨B0, B1, B2, B3, B4, m0, m1, m2, m3, m4, d0, d1, d2, d3, d4⟩ _ _ _ (hBP _ _ _ hBPW (y1.ok.trans (y2.ok.mono y1.size))) (hLA _ _ _ _ _ hla y2.ok)))).mono ?_; rintro e W3 ⟨u3, v3, rfl, hwb, hbb⟩; obtain ⟨y3, rfl⟩ := Is.of hbb)
      | (refine ⟨trivial, ?_⟩; gi_at_call 50; refine (CallsIn.inRound l (callsIn_wide.2 (HW1 x _ _ _ (hW2.trans (y1.ok.mono hW2.size)) hla))).mono ?_; rintro e W2 ⟨u2, v2, rfl, hwa, hbb⟩; obtain ⟨y2, rfl⟩ := Is.of hbb)
      | fail)
    have hWy : Below W.heap.size W y5.val := bt y1.ok (bt y2.ok (bt y3.ok (bt y4.ok y5.ok)))
    have hI5 := hI.later hWy
    have hk5 := hI.keep2 hWy
    obtain ⟨BB, hBB⟩ : ∃ B, (((w3.alloc (.cells #[.slice (some ⟨x2.val.heap.size, 0, none⟩) 0 n] 53)).alloc (.cells #[.slice A n cap] 49)).alloc (.cells #[.int .i64 64] 3)).heap.size = B := ⟨_, rfl⟩
    have hf5 := keepsFrom_below hWy BB
    have hfm : (pre.flatMap bs).length ≤ 256 := by
      have : ∀ l : List (Fin (chunksN n)), (l.flatMap bs).length ≤ l.length * 64 := by
        intro l
        induction l with
        | nil => simp
        | cons y ys ih => have := hh3.out y; simp only [List.flatMap_cons, List.length_append, List.length_cons]; omega
      have h1 := this pre
      have : chunksN n ≤ 4 := by unfold chunksN; omega
      omega
    obtain ⟨mm, hmm⟩ : ∃ mm, Go.bits .or .u64 (mA x) (mB x) = mm := ⟨_, rfl⟩
    have hbx := hh4.out x
    rw [hmm] at hbx ⊢
    have hbxh := Lib.hid hbx
    have hmmh := Lib.hid hmm
    have hBBh := Lib.hid hBB
    clear hbx hmm e0 e1 e2 e3 e4 g0 g1 g2 g3 g4 HW1 HW2 HD1 HD2 HLx HI HP hBB
    gi_loopw [80] (fun s wr => ∃ j : Nat, j ≤ cl ∧ s = .int .i64 (j : Int) ∧ DInv x2.val w3.heap.size (.slice A n cap) (pre.flatMap bs ++ (bs x).take j) wr ∧ Keep2 (w3.heap.size + 1) W wr ∧ KeepsFrom BB W wr)
      (fun s _ => cl - (intOf s).toNat)
    case atStart => exact ⟨0, Nat.zero_le _, rfl, by simpa using hI5, hk5, hf5⟩
    case round =>
      obtain ⟨j, hj, rfl, hD, hkp, hkf⟩ := hrel
      by_cases hlt : j < cl
      · obtain ⟨v, hv, ho⟩ := hD.row
        have hcv := hv.cell
        have hgv := hv.lt
        have nv : ¬ v.ownBlock = some w3.heap.size := own_not ho hv (by decide)
        gi_wp2
        refine wpIn_region_splitT (fun w' => ∃ z : But wr (fun k => v.ownBlock = some k), w' = z.val) [true, true, true, true, true, true, false, false, false] (by kernel_rfl) (by kernel_rfl) (by decide) (by kernel_rfl) (fun ⟨_, _, h⟩ => h) ⟨(But.refl _ _).drew, rfl⟩ (fun _ _ d _ _ h => by cases d <;> exact h) ?_
        simp only [pickB, dropB]
        repeat (go_big_quiet_step (fail))
        refine wpQuiet_nil ?_
        refine wpListT_step (fun Q' hQ' => ?_)
        go_wp2_with fail
        refine ⟨⟨((But.refl _ _).alloc _).drew, rfl⟩, ?_⟩
        refine wpListT_step (fun Q' hQ' => ?_)
        have hol : (pre.flatMap bs ++ (bs x).take j).length ≤ 320 := by simp only [List.length_append, List.length_take]; omega
        have hod : Rep.Own Rep.bool 4 wr.drew x2.val.heap.size NoB v (pre.flatMap bs ++ (bs x).take j) := ho.step (fun _ _ _ => rfl)
        have hbw : x2.val.heap.size ≤ wr.drew.heap.size := hD.bel.size
        go_wp2_with (at_builtin; refine wpList_one rfl (.tmp 83) (.tmp 89) rfl boolT (w0 := wr.drew) (c := [.bool (Go.bits .and .u64 (mm / 2 ^ j) 1 == 1)]) (te := 4) rfl rfl hod (y := (Go.bits .and .u64 (mm / 2 ^ j) 1 == 1)) ⟨rfl, trivial⟩ (fun k hk => hk.elim) (le_maxLen (by omega)) (by omega) hbw ?_; intro v' w1 ho' hg')
        obtain ⟨A9, c9, hv9⟩ := ho'.val
        obtain ⟨L9, rfl⟩ : ∃ L9, v' = .slice A9 L9 c9 := ⟨_, hv9⟩
        clear hv9
        have hgr : wr.grownBy w1 v.ownBlock := ⟨hg'.by_.os, hg'.by_.tape, hg'.by_.output, hg'.by_.size, hg'.by_.block⟩
        have hgg : Grew wr w1 v (.slice A9 L9 c9) := ⟨hgr, hg'.at_⟩
        obtain ⟨y9, hy9⟩ : ∃ y : But wr (fun k => v.ownBlock = some k), w1 = y.val := ⟨⟨w1, hgr.os, hgr.tape, hgr.output, hgr.size, fun k hk hG => hgr.block k hk (fun e => hG e.symm)⟩, rfl⟩
        refine ⟨⟨y9, hy9⟩, ?_⟩
        refine wpListT_last (fun Q' hQ' => ?_)
        obtain ⟨hD9, hkp9, hkf9⟩ := hD.push (by omega) hv ho hgg ho'
        have hc9 : w1.cell? ⟨w3.heap.size, 0, none⟩ = some v := by rw [hy9, y9.cell _ _ hgv nv]; exact hcv
        have hf9 : w1.frozen? ⟨w3.heap.size, 0, none⟩ = false := by rw [hy9, y9.frozen _ _ hgv nv]; exact hv.free
        have hDh := Lib.hid hD9
        have hkh := Lib.hid hkp9
        have hfh := Lib.hid hkf9
        have hoh := Lib.hid ho'
        clear hD9 hkp9 hkf9 ho' hgg hgr hg' hy9
        go_wp2
        gi_wp2
        go_roundw
        case rel =>
          refine ⟨j + 1, hlt, by simp, ?_, hkp.trans hkh.out, hkf.trans (hfh.out _)⟩
          have h9 := hDh.out
          rw [List.take_add_one, hbxh.out j (by rw [hh5.out]; exact hlt)]
          simpa [List.append_assoc] using h9
        case measure => simp [intOf]; omega
      · have hjc : j = cl := by omega
        gi_wp2
        refine ⟨hBBh.out ▸ hkf, hkp, ?_⟩
        have hl : (bs x).length = cl := hh5.out
        rw [hjc, List.take_of_length_le (by omega)] at hD
        simpa [List.flatMap_append] using hD
  case done =>
    rintro D ys W hD rfl hI hK
    obtain ⟨v, hv, ho⟩ := hI.row
    obtain ⟨A9, c9, hv9⟩ := ho.val
    obtain ⟨L9, rfl⟩ : ∃ L9, v = .slice A9 L9 c9 := ⟨_, hv9⟩
    clear hv9
    have hcv := hv.cell
    have hbW := hbw2.trans (hI.bel.mono hbw2.size)
    have v6 : VarD W (w.heap.size + 1 + 1) (.slice none 0 0) 53 := (hI.bel.block _ hk2).trans (by
      rw [x2.ok.block _ (by simp; omega), Below.heap_alloc _ _ _ hl2, x1.ok.block _ (by simp), Below.heap_alloc _ _ _ (by simp)]
      rw [show w.heap.size + 1 + 1 = ((w.alloc (.cells #[.slice A0 n0 c0, .slice A1 n1 c1, .slice A2 n2 c2, .slice A3 n3 c3, .slice A4 n4 c4] 27)).alloc (.cells #[.int .i64 f0, .int .i64 f1, .bool f2] 29)).heap.size by simp]
      exact heap_alloc_new _ _)
    have v7 : VarD W (w.heap.size + 1 + 1 + 1) (.int .i64 0) 30 := (hI.bel.block _ hk3).trans (by
      rw [x2.ok.block _ (by simp; omega), Below.heap_alloc _ _ _ hl3, x1.ok.block _ (by simp)]
      rw [show w.heap.size + 1 + 1 + 1 = (((w.alloc (.cells #[.slice A0 n0 c0, .slice A1 n1 c1, .slice A2 n2 c2, .slice A3 n3 c3, .slice A4 n4 c4] 27)).alloc (.cells #[.int .i64 f0, .int .i64 f1, .bool f2] 29)).alloc (.cells #[.slice none 0 0] 53)).heap.size by simp]
      exact heap_alloc_new _ _)
    have hc6 := v6.cell
    have hf6 := v6.free
    have hl6 := v6.lt
    have hc7 := v7.cell
    have hf7 := v7.free
    have hl7 := v7.lt
    have n6 := own_not ho v6 (by decide)
    have n7 := own_not ho v7 (by decide)
    simp only [World.size_alloc] at hD
    have u6 := (v6.set (.slice A9 L9 c9)).step (Below.heap_setCell _ ⟨w.heap.size + 1 + 1 + 1, 0, none⟩ (.int .i64 0) _ (by show w.heap.size + 1 + 1 ≠ w.heap.size + 1 + 1 + 1; omega))
    have u7 := (v7.step (Below.heap_setCell W ⟨w.heap.size + 1 + 1, 0, none⟩ (.slice A9 L9 c9) _ (by show w.heap.size + 1 + 1 + 1 ≠ w.heap.size + 1 + 1; omega))).set (.int .i64 0)
    have hK' : ((W.setCell ⟨w.heap.size + 1 + 1, 0, none⟩ (.slice A9 L9 c9)).setCell ⟨w.heap.size + 1 + 1 + 1, 0, none⟩ (.int .i64 0)).heap[D]? = some (.deferred (some [])) := (KeepsOthers.setCell _ _ _).same D _ ((KeepsOthers.setCell _ _ _).same D _ hK rfl) rfl
    have x6 := u6.step (w1 := ((W.setCell ⟨w.heap.size + 1 + 1, 0, none⟩ (.slice A9 L9 c9)).setCell ⟨w.heap.size + 1 + 1 + 1, 0, none⟩ (.int .i64 0)).putObj D (.deferred none)) (World.putObj_heap_other (by omega))
    have x7 := u7.step (w1 := ((W.setCell ⟨w.heap.size + 1 + 1, 0, none⟩ (.slice A9 L9 c9)).setCell ⟨w.heap.size + 1 + 1 + 1, 0, none⟩ (.int .i64 0)).putObj D (.deferred none)) (World.putObj_heap_other (by omega))
    have y6 := x6.cell
    have y7 := x7.cell
    gi_wp2
    refine ⟨by simp, .inl ⟨_, _, rfl, run_takeDeferred hK', ?_⟩⟩
    refine ⟨.tuple #[.slice A9 L9 c9, .int .i64 0], ?_, ?_⟩
    · simp [results, Try.results24, go_sem, y6, y7]
    · refine ⟨_, rfl, ?_, ?_⟩
      · refine (ho.step fun k hk hl => ?_).lower hbw2.size
        rcases hk with hk | hk
        · exact hk.elim
        have kn6 : k ≠ w.heap.size + 1 + 1 := fun e => n6 (by rw [hk, e])
        have kn7 : k ≠ w.heap.size + 1 + 1 + 1 := fun e => n7 (by rw [hk, e])
        have knD : k ≠ D := fun e => by
          obtain ⟨o', h1, h2⟩ := own_cells ho hk
          rw [e, hK] at h1
          cases h1
          cases h2
        exact (World.putObj_heap_other knD).trans ((Below.heap_setCell _ ⟨w.heap.size + 1 + 1 + 1, 0, none⟩ _ k kn7).trans (Below.heap_setCell _ ⟨w.heap.size + 1 + 1, 0, none⟩ _ k kn6))
      · refine ((hbW.setCell (p := ⟨w.heap.size + 1 + 1, 0, none⟩) (by show w.heap.size ≤ w.heap.size + 1 + 1; omega) (.slice A9 L9 c9)).setCell (p := ⟨w.heap.size + 1 + 1 + 1, 0, none⟩) (by show w.heap.size ≤ w.heap.size + 1 + 1 + 1; omega) (.int .i64 0)).trans ?_
        exact belowK_b (w := w) (Nat.le_refl _) _ D _ _ (by omega) hK' rfl rfl
  case stop =>
    rintro D c pre W _ _ h _
    exact h.elim
set_option maxHeartbeats 8000000 in
theorem detects_err1 (A : Option Addr) (cap n : Nat) (net : Net5) (f0 f1 : Int) (f2 : Bool) (r : Int) (hr : r ≠ 0) (w : World)
    (HI : ∀ W, Below w.heap.size w W → Calls Try.prog 8 #[.agg net.arr, .agg #[.int .i64 f0, .int .i64 f1, .bool f2]] W fun e w' => ∃ x : Net5, e = .returned (.tuple #[.agg x.arr, .int .i64 r]) ∧ Below W.heap.size W w') :
    Calls Try.prog 24 #[.agg net.arr, .agg #[.int .i64 f0, .int .i64 f1, .bool f2], .slice A n cap] w fun e w' => e = .returned (.tuple #[.slice none 0 0, .int .i64 r]) ∧ Below w.heap.size w w' := by
  obtain ⟨A0, A1, A2, A3, A4, n0, n1, n2, n3, n4, c0, c1, c2, c3, c4⟩ := net
  simp only [Net5.arr] at HI ⊢
  have hu := Try.underlying27
  have huF := Try.underlying29
  have hW1 : ∀ W, W = ((((w.alloc (.cells #[.slice A0 n0 c0, .slice A1 n1 c1, .slice A2 n2 c2, .slice A3 n3 c3, .slice A4 n4 c4] 27)).alloc (.cells #[.int .i64 f0, .int .i64 f1, .bool f2] 29)).alloc (.cells #[.slice none 0 0] 53)).alloc (.cells #[.int .i64 0] 30)) → Below w.heap.size w W := by rintro W rfl; exact ((((Below.refl _ _).alloc (Nat.le_refl _) _).alloc (by simp) _).alloc (by simp; omega) _).alloc (by simp; omega) _
  have z6 : ∀ x1 : Under ((((w.alloc (.cells #[.slice A0 n0 c0, .slice A1 n1 c1, .slice A2 n2 c2, .slice A3 n3 c3, .slice A4 n4 c4] 27)).alloc (.cells #[.int .i64 f0, .int .i64 f1, .bool f2] 29)).alloc (.cells #[.slice none 0 0] 53)).alloc (.cells #[.int .i64 0] 30)), VarD x1.val (w.heap.size + 1 + 1) (.slice none 0 0) 53 := fun x1 => by
    show _ = _
    rw [x1.ok.block _ (by simp), Below.heap_alloc _ _ _ (by simp), show w.heap.size + 1 + 1 = ((w.alloc (.cells #[.slice A0 n0 c0, .slice A1 n1 c1, .slice A2 n2 c2, .slice A3 n3 c3, .slice A4 n4 c4] 27)).alloc (.cells #[.int .i64 f0, .int .i64 f1, .bool f2] 29)).heap.size by simp]
    exact heap_alloc_new _ _
  have z7 : ∀ x1 : Under ((((w.alloc (.cells #[.slice A0 n0 c0, .slice A1 n1 c1, .slice A2 n2 c2, .slice A3 n3 c3, .slice A4 n4 c4] 27)).alloc (.cells #[.int .i64 f0, .int .i64 f1, .bool f2] 29)).alloc (.cells #[.slice none 0 0] 53)).alloc (.cells #[.int .i64 0] 30)), VarD x1.val (w.heap.size + 1 + 1 + 1) (.int .i64 0) 30 := fun x1 => by
    show _ = _
    rw [x1.ok.block _ (by simp), show w.heap.size + 1 + 1 + 1 = (((w.alloc (.cells #[.slice A0 n0 c0, .slice A1 n1 c1, .slice A2 n2 c2, .slice A3 n3 c3, .slice A4 n4 c4] 27)).alloc (.cells #[.int .i64 f0, .int .i64 f1, .bool f2] 29)).alloc (.cells #[.slice none 0 0] 53)).heap.size by simp]
    exact heap_alloc_new _ _
  refine (callsIn_wide (n := 9)).1 ?_
  refine callsIn_of_wp_marks Try.func24 rfl trivial ?_ rfl
  simp only [Try.ntmps24, List.size_toArray, List.length_cons, List.length_nil, Nat.reduceAdd, Nat.reduceSub, Array.replicate_succ, Array.replicate_zero, List.push_toArray, List.append_toArray, List.nil_append, List.cons_append]
  gi_wp2_with (first
    | (refine ⟨trivial, ?_⟩; gi_at_call 8; refine (callsIn_wide.2 (HI _ (hW1 _ rfl))).mono ?_; rintro e w1 ⟨⟨B0, B1, B2, B3, B4, m0, m1, m2, m3, m4, d0, d1, d2, d3, d4⟩, rfl, hb1⟩; obtain ⟨x1, rfl⟩ := Is.of hb1; have hs1 := x1.size; simp at hs1; have z6 := z6 x1; have z7 := z7 x1; have hc6 := z6.cell; have hc7 := z7.cell; have hf6 := z6.free; have hf7 := z7.free; have hl0 : w.heap.size < x1.val.heap.size := (by omega); have hl1 : w.heap.size + 1 < x1.val.heap.size := (by omega); have hl2 : w.heap.size + 1 + 1 < x1.val.heap.size := (by omega); have hl3 : w.heap.size + 1 + 1 + 1 < x1.val.heap.size := (by omega); have hbW2 : Below w.heap.size w (x1.val.alloc (.cells #[.slice B0 m0 d0, .slice B1 m1 d1, .slice B2 m2 d2, .slice B3 m3 d3, .slice B4 m4 d4] 27)) := ((hW1 _ rfl).trans (x1.ok.mono (by simp; omega))).alloc (by omega) _)
    | fail)
  have u6 := (z6.set (.slice none 0 0)).step (Below.heap_setCell _ ⟨w.heap.size + 1 + 1 + 1, 0, none⟩ (.int .i64 r) _ (by show w.heap.size + 1 + 1 ≠ w.heap.size + 1 + 1 + 1; omega))
  have u7 := (z7.step (Below.heap_setCell _ ⟨w.heap.size + 1 + 1, 0, none⟩ (.slice none 0 0) _ (by show w.heap.size + 1 + 1 + 1 ≠ w.heap.size + 1 + 1; omega))).set (.int .i64 r)
  have y6 := u6.cell
  have y7 := u7.cell
  refine ⟨.tuple #[.slice none 0 0, .int .i64 r], ?_, rfl, ?_⟩
  · simp [results, Try.results24, go_sem, y6, y7]
  · exact ((((hW1 _ rfl).trans (x1.ok.mono (by simp; omega))).setCell (p := ⟨w.heap.size + 1 + 1, 0, none⟩) (by show w.heap.size ≤ w.heap.size + 1 + 1; omega) (.slice none 0 0)).setCell (p := ⟨w.heap.size + 1 + 1 + 1, 0, none⟩) (by show w.heap.size ≤ w.heap.size + 1 + 1 + 1; omega) (.int .i64 r)).alloc (by simp; omega) _
set_option maxHeartbeats 8000000 in
theorem detects_err2 (A : Option Addr) (cap n : Nat) (net : Net5) (f0 f1 : Int) (f2 : Bool) (r : Int) (hr : r ≠ 0) (w : World)
    (HI : ∀ W, Below w.heap.size w W → Calls Try.prog 8 #[.agg net.arr, .agg #[.int .i64 f0, .int .i64 f1, .bool f2]] W fun e w' => ∃ x : Net5, e = .returned (.tuple #[.agg x.arr, .int .i64 0]) ∧ Below W.heap.size W w')
    (HP : ∀ W, Below w.heap.size w W → Calls Try.prog 45 #[.agg net.arr, .slice A n cap] W fun e w' => e = .returned (.int .i64 r) ∧ Below W.heap.size W w') :
    Calls Try.prog 24 #[.agg net.arr, .agg #[.int .i64 f0, .int .i64 f1, .bool f2], .slice A n cap] w fun e w' => e = .returned (.tuple #[.slice none 0 0, .int .i64 r]) ∧ Below w.heap.size w w' := by
  obtain ⟨A0, A1, A2, A3, A4, n0, n1, n2, n3, n4, c0, c1, c2, c3, c4⟩ := net
  simp only [Net5.arr] at HI HP ⊢
  have hu := Try.underlying27
  have huF := Try.underlying29
  have hW1 : ∀ W, W = ((((w.alloc (.cells #[.slice A0 n0 c0, .slice A1 n1 c1, .slice A2 n2 c2, .slice A3 n3 c3, .slice A4 n4 c4] 27)).alloc (.cells #[.int .i64 f0, .int .i64 f1, .bool f2] 29)).alloc (.cells #[.slice none 0 0] 53)).alloc (.cells #[.int .i64 0] 30)) → Below w.heap.size w W := by rintro W rfl; exact ((((Below.refl _ _).alloc (Nat.le_refl _) _).alloc (by simp) _).alloc (by simp; omega) _).alloc (by simp; omega) _
  have z6 : ∀ x1 : Under ((((w.alloc (.cells #[.slice A0 n0 c0, .slice A1 n1 c1, .slice A2 n2 c2, .slice A3 n3 c3, .slice A4 n4 c4] 27)).alloc (.cells #[.int .i64 f0, .int .i64 f1, .bool f2] 29)).alloc (.cells #[.slice none 0 0] 53)).alloc (.cells #[.int .i64 0] 30)), VarD x1.val (w.heap.size + 1 + 1) (.slice none 0 0) 53 := fun x1 => by
    show _ = _
    rw [x1.ok.block _ (by simp), Below.heap_alloc _ _ _ (by simp), show w.heap.size + 1 + 1 = ((w.alloc (.cells #[.slice A0 n0 c0, .slice A1 n1 c1, .slice A2 n2 c2, .slice A3 n3 c3, .slice A4 n4 c4] 27)).alloc (.cells #[.int .i64 f0, .int .i64 f1, .bool f2] 29)).heap.size by simp]
    exact heap_alloc_new _ _
  have z7 : ∀ x1 : Under ((((w.alloc (.cells #[.slice A0 n0 c0, .slice A1 n1 c1, .slice A2 n2 c2, .slice A3 n3 c3, .slice A4 n4 c4] 27)).alloc (.cells #[.int .i64 f0, .int .i64 f1, .bool f2] 29)).alloc (.cells #[.slice none 0 0] 53)).alloc (.cells #[.int .i64 0] 30)), VarD x1.val (w.heap.size + 1 + 1 + 1) (.int .i64 0) 30 := fun x1 => by
    show _ = _
    rw [x1.ok.block _ (by simp), show w.heap.size + 1 + 1 + 1 = (((w.alloc (.cells #[.slice A0 n0 c0, .slice A1 n1 c1, .slice A2 n2 c2, .slice A3 n3 c3, .slice A4 n4 c4] 27)).alloc (.cells #[.int .i64 f0, .int .i64 f1, .bool f2] 29)).alloc (.cells #[.slice none 0 0] 53)).heap.size by simp]
    exact heap_alloc_new _ _
  refine (callsIn_wide (n := 9)).1 ?_
  refine callsIn_of_wp_marks Try.func24 rfl trivial ?_ rfl
  simp only [Try.ntmps24, List.size_toArray, List.length_cons, List.length_nil, Nat.reduceAdd, Nat.reduceSub, Array.replicate_succ, Array.replicate_zero, List.push_toArray, List.append_toArray, List.nil_append, List.cons_append]
  gi_wp2_with (first
    | (refine ⟨trivial, ?_⟩; gi_at_call 8; refine (callsIn_wide.2 (HI _ (hW1 _ rfl))).mono ?_; rintro e w1 ⟨⟨B0, B1, B2, B3, B4, m0, m1, m2, m3, m4, d0, d1, d2, d3, d4⟩, rfl, hb1⟩; obtain ⟨x1, rfl⟩ := Is.of hb1; have hs1 := x1.size; simp at hs1; have z6 := z6 x1; have z7 := z7 x1; have hc6 := z6.cell; have hc7 := z7.cell; have hf6 := z6.free; have hf7 := z7.free; have hl0 : w.heap.size < x1.val.heap.size := (by omega); have hl1 : w.heap.size + 1 < x1.val.heap.size := (by omega); have hl2 : w.heap.size + 1 + 1 < x1.val.heap.size := (by omega); have hl3 : w.heap.size + 1 + 1 + 1 < x1.val.heap.size := (by omega); have hbW2 : Below w.heap.size w (x1.val.alloc (.cells #[.slice B0 m0 d0, .slice B1 m1 d1, .slice B2 m2 d2, .slice B3 m3 d3, .slice B4 m4 d4] 27)) := ((hW1 _ rfl).trans (x1.ok.mono (by simp; omega))).alloc (by omega) _)
    | (refine ⟨trivial, ?_⟩; gi_at_call 45; refine (callsIn_wide.2 (HP _ hbW2)).mono ?_; rintro e w2 ⟨rfl, hb2⟩; obtain ⟨x2, rfl⟩ := Is.of hb2; have hs2 := x2.size; simp at hs2; have hk0 : w.heap.size < x2.val.heap.size := (by omega); have hk1 : w.heap.size + 1 < x2.val.heap.size := (by omega); have hk2 : w.heap.size + 1 + 1 < x2.val.heap.size := (by omega); have hk3 : w.heap.size + 1 + 1 + 1 < x2.val.heap.size := (by omega); have hk4 : x1.val.heap.size < x2.val.heap.size := (by omega); have hbW3 := hbW2.trans (x2.ok.mono hbW2.size))
    | fail)
  have t6 : VarD x2.val (w.heap.size + 1 + 1) (.slice none 0 0) 53 := z6.step ((x2.ok.block _ (by simp; omega)).trans (Below.heap_alloc _ _ _ hl2))
  have t7 : VarD x2.val (w.heap.size + 1 + 1 + 1) (.int .i64 0) 30 := z7.step ((x2.ok.block _ (by simp; omega)).trans (Below.heap_alloc _ _ _ hl3))
  have u6 := (t6.set (.slice none 0 0)).step (Below.heap_setCell _ ⟨w.heap.size + 1 + 1 + 1, 0, none⟩ (.int .i64 r) _ (by show w.heap.size + 1 + 1 ≠ w.heap.size + 1 + 1 + 1; omega))
  have u7 := (t7.step (Below.heap_setCell _ ⟨w.heap.size + 1 + 1, 0, none⟩ (.slice none 0 0) _ (by show w.heap.size + 1 + 1 + 1 ≠ w.heap.size + 1 + 1; omega))).set (.int .i64 r)
  have y6 := u6.cell
  have y7 := u7.cell
  refine ⟨.tuple #[.slice none 0 0, .int .i64 r], ?_, rfl, ?_⟩
  · simp [results, Try.results24, go_sem, y6, y7]
  · exact (hbW3.setCell (p := ⟨w.heap.size + 1 + 1, 0, none⟩) (by show w.heap.size ≤ w.heap.size + 1 + 1; omega) (.slice none 0 0)).setCell (p := ⟨w.heap.size + 1 + 1 + 1, 0, none⟩) (by show w.heap.size ≤ w.heap.size + 1 + 1 + 1; omega) (.int .i64 r)
end Go.Proofs.Ytimjccfpobhpeaa
namespace Go.Proofs.Ytimjccfpobhpeaa.PF
open Go.RowKit Go.Proofs.YtimjccfpobhpeaaW.PrintWords Go.Proofs.YtimjccfpobhpeaaW.PrintLast Go.Proofs.YtimjccfpobhpeaaW.PrintMore
set_option linter.unusedVariables false
set_option linter.unusedSimpArgs false
def detWords (k : Nat) (l0 l1 : List ByteArray) (l2 : List S82) (l3 : List S80) (l4 : List Int) (b0 b1 : List ByteArray) (b2 : List S82) (b3 : List S80) (b4 : List Int) (xs : List S55) : Option (Int × Int) :=
  (fault_lanes.f k l0 l1 l2 l3 l4 xs).bind fun p => (netlist_Words.f k l0 l1 l2 l3 l4 p.1 p.2).bind fun a => if a.2.2 = 0 then (netlist_Words.f k b0 b1 b2 b3 b4 p.1 p.2).bind fun c => if c.2.2 = 0 then (fault_differ.f k a.1 c.1).bind fun m1 => (fault_differ.f k a.2.1 c.2.1).bind fun m2 => some (m1, m2) else none else none
def detBits (m : Int × Int) (n : Nat) : List Bool := (List.range n).map fun j => Go.bits .and .u64 (Go.bits .or .u64 m.1 m.2 / 2 ^ j) 1 == 1
def chunkOf (l : List S55) (j : Nat) : List S55 := (l.drop (j * 64)).take 64
def detRows (g : List S55 → Option (Int × Int)) (l : List S55) : Nat → Nat → Option (List Bool)
  | 0, _ => some []
  | d + 1, j => (g (chunkOf l j)).bind fun m => (detRows g l d (j + 1)).bind fun r => some (detBits m (chunkOf l j).length ++ r)
theorem detRows_le {g g' : List S55 → Option (Int × Int)} (h : ∀ xs, LeO (g xs) (g' xs)) (l : List S55) : ∀ d j, LeO (detRows g l d j) (detRows g' l d j)
  | 0, _ => LeO.refl _
  | d + 1, j => LeO.bind (h _) fun _ => LeO.bind (detRows_le h l d (j + 1)) fun _ => LeO.refl _
theorem detRows_at {g : List S55 → Option (Int × Int)} {l : List S55} : ∀ {d j : Nat} {out : List Bool}, detRows g l d j = some out →
    (∀ i, i < d → ∃ m, g (chunkOf l (j + i)) = some m) ∧ out = (List.range d).flatMap fun i => detBits ((g (chunkOf l (j + i))).getD (0, 0)) (chunkOf l (j + i)).length
  | 0, _, out, h => by
    cases h
    exact ⟨fun i hi => absurd hi (Nat.not_lt_zero i), rfl⟩
  | d + 1, j, out, h => by
    unfold detRows at h
    obtain ⟨m, hm, h⟩ := Option.bind_eq_some_iff.1 h
    obtain ⟨r, hr, h⟩ := Option.bind_eq_some_iff.1 h
    cases h
    obtain ⟨h1, h2⟩ := detRows_at hr
    refine ⟨fun i hi => ?_, ?_⟩
    · cases i with
      | zero => exact ⟨m, hm⟩
      | succ i =>
        obtain ⟨m', hm'⟩ := h1 i (by omega)
        exact ⟨m', by rw [← hm']; congr 2; omega⟩
    · rw [List.range_succ_eq_map, List.flatMap_cons, List.flatMap_map, h2]
      simp only [Nat.add_zero]
      rw [hm, Option.getD_some]
      congr 1
      congr 1
      funext i
      rw [show j + (i + 1) = j + 1 + i by omega]
theorem detWords_le (k : Nat) (l0 l1 : List ByteArray) (l2 : List S82) (l3 : List S80) (l4 : List Int) (b0 b1 : List ByteArray) (b2 : List S82) (b3 : List S80) (b4 : List Int) (xs : List S55) : LeO (detWords k l0 l1 l2 l3 l4 b0 b1 b2 b3 b4 xs) (detWords (k + 1) l0 l1 l2 l3 l4 b0 b1 b2 b3 b4 xs) :=
  LeO.bind (fault_lanes.mono _ _ _ _ _ _ k) fun _ => LeO.bind (netlist_Words.mono _ _ _ _ _ _ _ k) fun _ => LeO.ite (LeO.bind (netlist_Words.mono _ _ _ _ _ _ _ k) fun _ => LeO.ite (LeO.bind (fault_differ.mono _ _ k) fun _ => LeO.bind (fault_differ.mono _ _ k) fun _ => LeO.refl _) (LeO.refl _)) (LeO.refl _)
def fault_Detects.f (k : Nat) (l0_0 : List ByteArray) (l0_1 : List ByteArray) (l0_2 : List (S82)) (l0_3 : List (S80)) (l0_4 : List Int) (a1_0 : Int) (a1_1 : Int) (a1_2 : Bool) (l2 : List (S55)) : Option (List Bool × Int) := (fault_Inject.f k l0_0 l0_1 l0_2 l0_3 l0_4 a1_0 a1_1 a1_2).bind fun r => if r.2.2.2.2.2 = 0 then ((fault_patterns.f k l0_0 l0_1 l0_2 l0_3 l0_4 l2).bind fun e => if e = 0 then ((detRows (detWords k l0_0 l0_1 l0_2 l0_3 l0_4 r.1 r.2.1 r.2.2.1 r.2.2.2.1 r.2.2.2.2.1) l2 (chunksN l2.length) 0).bind fun out => some (out, 0)) else some ([], e)) else some ([], r.2.2.2.2.2)
theorem patterns_few {k : Nat} {l0 l1 : List ByteArray} {l2 : List S82} {l3 : List S80} {l4 : List Int} {l : List S55} (h : fault_patterns.f k l0 l1 l2 l3 l4 l = some 0) : l.length ≤ 256 := by
  unfold fault_patterns.f at h
  split at h
  · cases h
  · omega
theorem chunkOf_len {l : List S55} {j : Nat} : (chunkOf l j).length = min 64 (l.length - j * 64) := by
  unfold chunkOf
  rw [List.length_take, List.length_drop]
theorem chunk_C {w : World} {A : Option Addr} {c : Nat} {l : List S55} (h : Kd.C k55 w A l.length l) (hc : l.length ≤ c) {b o : Nat} (hA : 0 < l.length → A = some ⟨b, o, none⟩) (x : Fin (chunksN l.length)) :
    ∃ A', chunkV b o 2 l.length x.val = .slice A' (chunkOf l x.val).length (chunkOf l x.val).length ∧ Kd.C k55 w A' (chunkOf l x.val).length (chunkOf l x.val) := by
  have hx := x.isLt
  have hlt : x.val * 64 < l.length := by unfold chunksN at hx; omega
  have hA := hA (by omega)
  subst hA
  have hm := Kd.C_mid (lo := x.val * 64) (hi := x.val * 64 + min 64 (l.length - x.val * 64)) h (by omega) (by omega) hc
  rw [if_neg (by omega)] at hm
  have he : (l.take (x.val * 64 + min 64 (l.length - x.val * 64))).drop (x.val * 64) = chunkOf l x.val := by
    unfold chunkOf
    rw [List.drop_take, show x.val * 64 + min 64 (l.length - x.val * 64) - x.val * 64 = min 64 (l.length - x.val * 64) by omega]
    rcases Nat.le_total 64 (l.length - x.val * 64) with hh | hh
    · rw [Nat.min_eq_left hh]
    · rw [Nat.min_eq_right hh, List.take_of_length_le (by simp), List.take_of_length_le (by simp; omega)]
  rw [he] at hm
  refine ⟨_, ?_, hm⟩
  unfold chunkV
  rw [chunkOf_len]
  show Value.slice _ _ _ = Value.slice (some (Addr.add ⟨b, o, none⟩ (x.val * 64 * 2))) _ _
  rw [Addr.add_lit]
theorem finRange_val (n : Nat) : (List.finRange n).map (fun x => x.val) = List.range n := by
  apply List.ext_getElem
  · simp
  · intro i h1 h2
    simp
theorem own_bools {w : World} {base : Nat} {v : Value} {xs : List Bool} (h : Rep.Own Rep.bool 4 w base NoB v xs) : Kd.R Kd.bool 4 w base (fun _ => True) v xs := by
  obtain ⟨cs, h1, h2, _⟩ := h
  have : cs = xs.map Value.bool := by
    refine List.ext_getElem? fun j => ?_
    have hl : cs.length = xs.length := by simpa [Rep.bool, Rep.cell] using h2.1
    rcases Nat.lt_or_ge j xs.length with hj | hj
    · have := h2.2 j xs[j] (List.getElem?_eq_getElem hj)
      have h3 : (cs.drop (j * 1)).take 1 = [.bool xs[j]] := this.1
      rw [List.getElem?_map, List.getElem?_eq_getElem hj]
      have h4 : ((cs.drop (j * 1)).take 1)[0]? = some (.bool xs[j]) := by rw [h3]; rfl
      rw [List.getElem?_take, if_pos (by decide), List.getElem?_drop] at h4
      simpa using h4
    · rw [List.getElem?_eq_none (by omega), List.getElem?_eq_none (by simp; omega)]
  subst this
  exact Kd.R_of_own h1 (fun _ _ => trivial)
set_option maxHeartbeats 2000000 in
theorem fault_Detects.calls (k : Nat) (A0_0 : Option Addr) (c0_0 : Nat) (l0_0 : List ByteArray) (A0_1 : Option Addr) (c0_1 : Nat) (l0_1 : List ByteArray) (A0_2 : Option Addr) (c0_2 : Nat) (l0_2 : List (S82)) (A0_3 : Option Addr) (c0_3 : Nat) (l0_3 : List (S80)) (A0_4 : Option Addr) (c0_4 : Nat) (l0_4 : List Int) (a1_0 : Int) (a1_1 : Int) (a1_2 : Bool) (A2 : Option Addr) (c2 : Nat) (l2 : List (S55)) (r1 : List Bool) (r2 : Int) (w : World) (hr0_0 : Kd.C Kd.string w A0_0 l0_0.length l0_0) (hc0_0 : l0_0.length ≤ c0_0) (hr0_1 : Kd.C Kd.string w A0_1 l0_1.length l0_1) (hc0_1 : l0_1.length ≤ c0_1) (hr0_2 : Kd.C k82 w A0_2 l0_2.length l0_2) (hc0_2 : l0_2.length ≤ c0_2) (hr0_3 : Kd.C k80 w A0_3 l0_3.length l0_3) (hc0_3 : l0_3.length ≤ c0_3) (hr0_4 : Kd.C (Kd.int .i64) w A0_4 l0_4.length l0_4) (hc0_4 : l0_4.length ≤ c0_4) (hr2 : Kd.C k55 w A2 l2.length l2) (hc2 : l2.length ≤ c2) (h : fault_Detects.f k l0_0 l0_1 l0_2 l0_3 l0_4 a1_0 a1_1 a1_2 l2 = some (r1, r2)) :
    Calls Try.prog 24 #[.agg #[.slice A0_0 l0_0.length c0_0, .slice A0_1 l0_1.length c0_1, .slice A0_2 l0_2.length c0_2, .slice A0_3 l0_3.length c0_3, .slice A0_4 l0_4.length c0_4], .agg #[.int .i64 a1_0, .int .i64 a1_1, .bool a1_2], .slice A2 l2.length c2] w fun e w' => ∃ v0_ : Value, e = .returned (.tuple #[v0_, .int .i64 r2]) ∧ Kd.R Kd.bool 4 w' w.heap.size (fun _ => True) v0_ r1 ∧ Below w.heap.size w w' := by
  unfold fault_Detects.f at h
  obtain ⟨⟨q0, q1, q2, q3, q4, e1⟩, hI, h2⟩ := Option.bind_eq_some_iff.1 h
  have HI := fun (W : World) (hW : Below w.heap.size w W) => fault_Inject.calls k A0_0 c0_0 l0_0 A0_1 c0_1 l0_1 A0_2 c0_2 l0_2 A0_3 c0_3 l0_3 A0_4 c0_4 l0_4 a1_0 a1_1 a1_2 q0 q1 q2 q3 q4 e1 W (Kd.C_below hr0_0 hW) hc0_0 (Kd.C_below hr0_1 hW) hc0_1 (Kd.C_below hr0_2 hW) hc0_2 (Kd.C_below hr0_3 hW) hc0_3 (Kd.C_below hr0_4 hW) hc0_4 hI
  by_cases h0 : e1 = 0
  · subst h0
    rw [if_pos rfl] at h2
    obtain ⟨e2, hP, h3⟩ := Option.bind_eq_some_iff.1 h2
    have HP := fun (W : World) (hW : Below w.heap.size w W) => fault_patterns.calls k A0_0 c0_0 l0_0 A0_1 c0_1 l0_1 A0_2 c0_2 l0_2 A0_3 c0_3 l0_3 A0_4 c0_4 l0_4 A2 c2 l2 e2 W (Kd.C_below hr0_0 hW) hc0_0 (Kd.C_below hr0_1 hW) hc0_1 (Kd.C_below hr0_2 hW) hc0_2 (Kd.C_below hr0_3 hW) hc0_3 (Kd.C_below hr0_4 hW) hc0_4 (Kd.C_below hr2 hW) hc2 hP
    by_cases h4 : e2 = 0
    · subst h4
      rw [if_pos rfl] at h3
      obtain ⟨out, hR, h5⟩ := Option.bind_eq_some_iff.1 h3
      simp only [Option.some.injEq, Prod.mk.injEq] at h5
      obtain ⟨rfl, rfl⟩ := h5
      have hfew := patterns_few hP
      obtain ⟨hg, hout⟩ := detRows_at hR
      simp only [Nat.zero_add] at hg hout
      have hg' : ∀ x : Fin (chunksN l2.length), ∃ (p : List Int × List Int) (a c : List Int × List Int) (m1 m2 : Int), fault_lanes.f k l0_0 l0_1 l0_2 l0_3 l0_4 (chunkOf l2 x.val) = some p ∧ netlist_Words.f k l0_0 l0_1 l0_2 l0_3 l0_4 p.1 p.2 = some (a.1, a.2, 0) ∧ netlist_Words.f k q0 q1 q2 q3 q4 p.1 p.2 = some (c.1, c.2, 0) ∧ fault_differ.f k a.1 c.1 = some m1 ∧ fault_differ.f k a.2 c.2 = some m2 ∧
          detWords k l0_0 l0_1 l0_2 l0_3 l0_4 q0 q1 q2 q3 q4 (chunkOf l2 x.val) = some (m1, m2) := by
        intro x
        obtain ⟨m, hm⟩ := hg x.val x.isLt
        have hm0 := hm
        unfold detWords at hm
        obtain ⟨p, hp, hm⟩ := Option.bind_eq_some_iff.1 hm
        obtain ⟨⟨a1, a2, a3⟩, ha, hm⟩ := Option.bind_eq_some_iff.1 hm
        split at hm
        · rename_i z1
          simp only at z1
          subst z1
          obtain ⟨⟨c1, c2, c3⟩, hc, hm⟩ := Option.bind_eq_some_iff.1 hm
          split at hm
          · rename_i z2
            simp only at z2
            subst z2
            obtain ⟨m1, hm1, hm⟩ := Option.bind_eq_some_iff.1 hm
            obtain ⟨m2, hm2, hm⟩ := Option.bind_eq_some_iff.1 hm
            cases hm
            exact ⟨p, (a1, a2), (c1, c2), m1, m2, hp, ha, hc, hm1, hm2, hm0⟩
          · cases hm
        · cases hm
      obtain ⟨P, hP1⟩ := Classical.axiomOfChoice hg'
      obtain ⟨PA, hP2⟩ := Classical.axiomOfChoice hP1
      obtain ⟨PC, hP3⟩ := Classical.axiomOfChoice hP2
      obtain ⟨M1, hP4⟩ := Classical.axiomOfChoice hP3
      obtain ⟨M2, hP5⟩ := Classical.axiomOfChoice hP4
      obtain ⟨b, o, hA⟩ : ∃ b o, 0 < l2.length → A2 = some ⟨b, o, none⟩ := by
        by_cases hz : 0 < l2.length
        · obtain ⟨b, o, hA, _⟩ := kd_plain hr2 (by decide) hz
          exact ⟨b, o, fun _ => hA⟩
        · exact ⟨0, 0, fun h => absurd h hz⟩
      refine (detects_walk A2 b o c2 l2.length hA hc2 hfew ⟨A0_0, A0_1, A0_2, A0_3, A0_4, l0_0.length, l0_1.length, l0_2.length, l0_3.length, l0_4.length, c0_0, c0_1, c0_2, c0_3, c0_4⟩ a1_0 a1_1 a1_2 w
        (fun y W => (Kd.C Kd.string W y.A0 q0.length q0 ∧ q0.length ≤ y.c0 ∧ y.n0 = q0.length) ∧ (Kd.C Kd.string W y.A1 q1.length q1 ∧ q1.length ≤ y.c1 ∧ y.n1 = q1.length) ∧ (Kd.C k82 W y.A2 q2.length q2 ∧ q2.length ≤ y.c2 ∧ y.n2 = q2.length) ∧ (Kd.C k80 W y.A3 q3.length q3 ∧ q3.length ≤ y.c3 ∧ y.n3 = q3.length) ∧ (Kd.C (Kd.int .i64) W y.A4 q4.length q4 ∧ q4.length ≤ y.c4 ∧ y.n4 = q4.length)) ?_
        (fun x u v W => (∃ A c, u = .slice A (P x).1.length c ∧ (P x).1.length ≤ c ∧ Kd.C (Kd.int .u64) W A (P x).1.length (P x).1) ∧ ∃ A c, v = .slice A (P x).2.length c ∧ (P x).2.length ≤ c ∧ Kd.C (Kd.int .u64) W A (P x).2.length (P x).2)
        (fun x u v W => (∃ A c, u = .slice A (PA x).1.length c ∧ (PA x).1.length ≤ c ∧ Kd.C (Kd.int .u64) W A (PA x).1.length (PA x).1) ∧ ∃ A c, v = .slice A (PA x).2.length c ∧ (PA x).2.length ≤ c ∧ Kd.C (Kd.int .u64) W A (PA x).2.length (PA x).2)
        (fun x u v W => (∃ A c, u = .slice A (PC x).1.length c ∧ (PC x).1.length ≤ c ∧ Kd.C (Kd.int .u64) W A (PC x).1.length (PC x).1) ∧ ∃ A c, v = .slice A (PC x).2.length c ∧ (PC x).2.length ≤ c ∧ Kd.C (Kd.int .u64) W A (PC x).2.length (PC x).2)
        ?_ ?_ ?_ M1 M2 (fun x => detBits (M1 x, M2 x) (chunkOf l2 x.val).length) (fun x => by simp [detBits, chunkOf_len]) ?_ ?_ HP ?_ ?_ ?_ ?_ ?_).mono ?_
      · rintro y W W' ⟨⟨a0, a1⟩, ⟨b0, b1⟩, ⟨c0, c1⟩, ⟨d0, d1⟩, e0, e1⟩ hB
        exact ⟨⟨Kd.C_below a0 hB, a1⟩, ⟨Kd.C_below b0 hB, b1⟩, ⟨Kd.C_below c0 hB, c1⟩, ⟨Kd.C_below d0 hB, d1⟩, Kd.C_below e0 hB, e1⟩
      · rintro x u v W W' ⟨⟨A, c, h1, h2, h3⟩, A', c', h4, h5, h6⟩ hB
        exact ⟨⟨A, c, h1, h2, Kd.C_below h3 hB⟩, A', c', h4, h5, Kd.C_below h6 hB⟩
      · rintro x u v W W' ⟨⟨A, c, h1, h2, h3⟩, A', c', h4, h5, h6⟩ hB
        exact ⟨⟨A, c, h1, h2, Kd.C_below h3 hB⟩, A', c', h4, h5, Kd.C_below h6 hB⟩
      · rintro x u v W W' ⟨⟨A, c, h1, h2, h3⟩, A', c', h4, h5, h6⟩ hB
        exact ⟨⟨A, c, h1, h2, Kd.C_below h3 hB⟩, A', c', h4, h5, Kd.C_below h6 hB⟩
      · intro x j hj
        simp only [detBits, List.length_map, List.length_range] at hj ⊢
        rw [List.getElem?_map, List.getElem?_range hj]
        rfl
      · intro W hW
        refine (HI W hW).mono ?_
        rintro e w' ⟨v0, v1, v2, v3, v4, he, r0, r1, r2, r3, r4, hb⟩
        obtain ⟨B0, d0, rfl, g0, s0⟩ := Kd.R_reads r0
        obtain ⟨B1, d1, rfl, g1, s1⟩ := Kd.R_reads r1
        obtain ⟨B2, d2, rfl, g2, s2⟩ := Kd.R_reads r2
        obtain ⟨B3, d3, rfl, g3, s3⟩ := Kd.S_reads r3
        obtain ⟨B4, d4, rfl, g4, s4⟩ := Kd.R_reads r4
        exact ⟨⟨B0, B1, B2, B3, B4, _, _, _, _, _, d0, d1, d2, d3, d4⟩, he, ⟨⟨s0, g0, rfl⟩, ⟨s1, g1, rfl⟩, ⟨s2, g2, rfl⟩, ⟨s3, g3, rfl⟩, s4, g4, rfl⟩, hb⟩
      · intro x W hW
        obtain ⟨A', he, hC⟩ := chunk_C hr2 hc2 hA x
        rw [he]
        refine (fault_lanes.calls k A0_0 c0_0 l0_0 A0_1 c0_1 l0_1 A0_2 c0_2 l0_2 A0_3 c0_3 l0_3 A0_4 c0_4 l0_4 A' _ _ _ _ W (Kd.C_below hr0_0 hW) hc0_0 (Kd.C_below hr0_1 hW) hc0_1 (Kd.C_below hr0_2 hW) hc0_2 (Kd.C_below hr0_3 hW) hc0_3 (Kd.C_below hr0_4 hW) hc0_4 (Kd.C_below hC hW) (Nat.le_refl _) (hP5 x).1).mono ?_
        rintro e w' ⟨v0, v1, he, r0, r1, hb⟩
        obtain ⟨B0, d0, rfl, g0, s0⟩ := Kd.R_reads r0
        obtain ⟨B1, d1, rfl, g1, s1⟩ := Kd.R_reads r1
        exact ⟨_, _, he, ⟨⟨B0, d0, rfl, g0, s0⟩, B1, d1, rfl, g1, s1⟩, hb⟩
      · rintro x W u v hW ⟨⟨A, c, rfl, h2, h3⟩, A', c', rfl, h5, h6⟩
        refine (netlist_Words.calls k A0_0 c0_0 l0_0 A0_1 c0_1 l0_1 A0_2 c0_2 l0_2 A0_3 c0_3 l0_3 A0_4 c0_4 l0_4 A c _ A' c' _ _ _ _ W (Kd.C_below hr0_0 hW) hc0_0 (Kd.C_below hr0_1 hW) hc0_1 (Kd.C_below hr0_2 hW) hc0_2 (Kd.C_below hr0_3 hW) hc0_3 (Kd.C_below hr0_4 hW) hc0_4 h3 h2 h6 h5 (hP5 x).2.1).mono ?_
        rintro e w' ⟨v0, v1, he, r0, r1, hb⟩
        obtain ⟨B0, d0, rfl, g0, s0⟩ := Kd.R_reads r0
        obtain ⟨B1, d1, rfl, g1, s1⟩ := Kd.R_reads r1
        exact ⟨_, _, he, ⟨⟨B0, d0, rfl, g0, s0⟩, B1, d1, rfl, g1, s1⟩, hb⟩
      · rintro x ⟨y0, y1, y2, y3, y4, z0, z1, z2, z3, z4, t0, t1, t2, t3, t4⟩ W u v ⟨⟨a0, a1, a2⟩, ⟨b0, b1, b2⟩, ⟨c0, c1, c2⟩, ⟨d0, d1, d2⟩, e0, e1, e2⟩ ⟨⟨A, c, rfl, h2, h3⟩, A', c', rfl, h5, h6⟩
        simp only at a2 b2 c2 d2 e2
        subst a2 b2 c2 d2 e2
        refine (netlist_Words.calls k y0 t0 q0 y1 t1 q1 y2 t2 q2 y3 t3 q3 y4 t4 q4 A c _ A' c' _ _ _ _ W a0 a1 b0 b1 c0 c1 d0 d1 e0 e1 h3 h2 h6 h5 (hP5 x).2.2.1).mono ?_
        rintro e w' ⟨v0, v1, he, r0, r1, hb⟩
        obtain ⟨B0, d0, rfl, g0, s0⟩ := Kd.R_reads r0
        obtain ⟨B1, d1, rfl, g1, s1⟩ := Kd.R_reads r1
        exact ⟨_, _, he, ⟨⟨B0, d0, rfl, g0, s0⟩, B1, d1, rfl, g1, s1⟩, hb⟩
      · rintro x W u v y z ⟨⟨A, c, rfl, h2, h3⟩, _⟩ ⟨⟨A', c', rfl, h5, h6⟩, _⟩
        exact (fault_differ.calls k A c _ A' c' _ _ W h3 h2 h6 h5 (hP5 x).2.2.2.1).mono fun e w' ⟨he, hd⟩ => ⟨he, hd.below⟩
      · rintro x W u v y z ⟨_, A, c, rfl, h2, h3⟩ ⟨_, A', c', rfl, h5, h6⟩
        exact (fault_differ.calls k A c _ A' c' _ _ W h3 h2 h6 h5 (hP5 x).2.2.2.2.1).mono fun e w' ⟨he, hd⟩ => ⟨he, hd.below⟩
      · rintro e w' ⟨v, he, ho, hb⟩
        refine ⟨v, he, ?_, hb⟩
        have hflat : (List.finRange (chunksN l2.length)).flatMap (fun x => detBits (M1 x, M2 x) (chunkOf l2 x.val).length) = out := by
          rw [hout, ← finRange_val, List.flatMap_map]
          congr 1
          funext x
          rw [(hP5 x).2.2.2.2.2, Option.getD_some]
        rw [hflat] at ho
        exact own_bools ho
    · rw [if_neg h4] at h3
      simp only [Option.some.injEq, Prod.mk.injEq] at h3
      obtain ⟨rfl, rfl⟩ := h3
      refine (detects_err2 A2 c2 l2.length ⟨A0_0, A0_1, A0_2, A0_3, A0_4, l0_0.length, l0_1.length, l0_2.length, l0_3.length, l0_4.length, c0_0, c0_1, c0_2, c0_3, c0_4⟩ a1_0 a1_1 a1_2 _ h4 w (fun W hW => ?_) HP).mono ?_
      · refine (HI W hW).mono ?_
        rintro e w' ⟨v0, v1, v2, v3, v4, he, r0, r1, r2, r3, r4, hb⟩
        obtain ⟨B0, d0, rfl, g0, s0⟩ := Kd.R_reads r0
        obtain ⟨B1, d1, rfl, g1, s1⟩ := Kd.R_reads r1
        obtain ⟨B2, d2, rfl, g2, s2⟩ := Kd.R_reads r2
        obtain ⟨B3, d3, rfl, g3, s3⟩ := Kd.S_reads r3
        obtain ⟨B4, d4, rfl, g4, s4⟩ := Kd.R_reads r4
        exact ⟨⟨B0, B1, B2, B3, B4, _, _, _, _, _, d0, d1, d2, d3, d4⟩, he, hb⟩
      · rintro e w' ⟨he, hb⟩
        exact ⟨_, he, Kd.R_nil _ _ _ _ _, hb⟩
  · rw [if_neg h0] at h2
    simp only [Option.some.injEq, Prod.mk.injEq] at h2
    obtain ⟨rfl, rfl⟩ := h2
    refine (detects_err1 A2 c2 l2.length ⟨A0_0, A0_1, A0_2, A0_3, A0_4, l0_0.length, l0_1.length, l0_2.length, l0_3.length, l0_4.length, c0_0, c0_1, c0_2, c0_3, c0_4⟩ a1_0 a1_1 a1_2 _ h0 w (fun W hW => ?_)).mono ?_
    · refine (HI W hW).mono ?_
      rintro e w' ⟨v0, v1, v2, v3, v4, he, r0, r1, r2, r3, r4, hb⟩
      obtain ⟨B0, d0, rfl, g0, s0⟩ := Kd.R_reads r0
      obtain ⟨B1, d1, rfl, g1, s1⟩ := Kd.R_reads r1
      obtain ⟨B2, d2, rfl, g2, s2⟩ := Kd.R_reads r2
      obtain ⟨B3, d3, rfl, g3, s3⟩ := Kd.S_reads r3
      obtain ⟨B4, d4, rfl, g4, s4⟩ := Kd.R_reads r4
      exact ⟨⟨B0, B1, B2, B3, B4, _, _, _, _, _, d0, d1, d2, d3, d4⟩, he, hb⟩
    · rintro e w' ⟨he, hb⟩
      exact ⟨_, he, Kd.R_nil _ _ _ _ _, hb⟩
end Go.Proofs.Ytimjccfpobhpeaa.PF
namespace Go.Proofs.Ytimjccfpobhpeaa.PF
open Go.RowKit Go.Proofs.YtimjccfpobhpeaaW.PrintWords Go.Proofs.YtimjccfpobhpeaaW.PrintLast Go.Proofs.YtimjccfpobhpeaaW.PrintMore
set_option linter.unusedVariables false
set_option linter.unusedSimpArgs false
mutual
def masklaw2_FaultErrors.j0 : Nat → List (S55) → List Bool → Int → Int → List ByteArray → List ByteArray → List (S82) → List (S80) → List Int → Option (Bool)
  | 0, _, _, _, _, _, _, _, _, _ => none
  | k + 1, x2, x7, x8, x9, x487000, x487001, x487002, x487003, x487004 => if x9 = 0 then ((maskref2_PatternFault.f k x487000 x487001 x487002 x487003 x487004 x2).bind fun t494 => (masklaw2_FaultErrors.j1 k x2 x7 x8 t494)) else (masklaw2_FaultErrors.j1 k x2 x7 x8 x9)
def masklaw2_FaultErrors.j1 : Nat → List (S55) → List Bool → Int → Int → Option (Bool)
  | 0, _, _, _, _ => none
  | k + 1, x2, x7, x8, x9 => if x9 = 0 then ((masklaw2_faulty.f k).bind fun t495 => (if t495 = true then (if x8 = 0 then (some ((x7.length : Int) == (x2.length : Int))) else (some false)) else (some false))) else ((masklaw2_faulty.f k).bind fun t496 => (if t496 = true then (if x8 = x9 then (some ((x7.length : Int) == 0)) else (some false)) else (some false)))
end
def masklaw2_FaultErrors.f (k : Nat) (l0_0 : List ByteArray) (l0_1 : List ByteArray) (l0_2 : List (S82)) (l0_3 : List (S80)) (l0_4 : List Int) (a1_0 : Int) (a1_1 : Int) (a1_2 : Bool) (l2 : List (S55)) : Option (Bool) := (fault_Detects.f k l0_0 l0_1 l0_2 l0_3 l0_4 a1_0 a1_1 a1_2 l2).bind fun bt488 => ((netlist_Form.f k l0_0 l0_1 l0_2 l0_3 l0_4).bind fun t492 => (if t492 = 0 then ((maskref2_FaultFault.f k l0_0 l0_1 l0_2 l0_3 l0_4 a1_0 a1_1 a1_2).bind fun t493 => (masklaw2_FaultErrors.j0 k l2 bt488.1 bt488.2 t493 l0_0 l0_1 l0_2 l0_3 l0_4)) else (masklaw2_FaultErrors.j0 k l2 bt488.1 bt488.2 t492 l0_0 l0_1 l0_2 l0_3 l0_4)))
set_option maxHeartbeats 8000000 in
set_option maxRecDepth 100000 in
theorem masklaw2_FaultErrors.calls (k : Nat) (A0_0 : Option Addr) (c0_0 : Nat) (l0_0 : List ByteArray) (A0_1 : Option Addr) (c0_1 : Nat) (l0_1 : List ByteArray) (A0_2 : Option Addr) (c0_2 : Nat) (l0_2 : List (S82)) (A0_3 : Option Addr) (c0_3 : Nat) (l0_3 : List (S80)) (A0_4 : Option Addr) (c0_4 : Nat) (l0_4 : List Int) (a1_0 : Int) (a1_1 : Int) (a1_2 : Bool) (A2 : Option Addr) (c2 : Nat) (l2 : List (S55)) (r : Bool) (w : World) (hr0_0 : Kd.C Kd.string w A0_0 l0_0.length l0_0) (hc0_0 : l0_0.length ≤ c0_0) (hr0_1 : Kd.C Kd.string w A0_1 l0_1.length l0_1) (hc0_1 : l0_1.length ≤ c0_1) (hr0_2 : Kd.C k82 w A0_2 l0_2.length l0_2) (hc0_2 : l0_2.length ≤ c0_2) (hr0_3 : Kd.C k80 w A0_3 l0_3.length l0_3) (hc0_3 : l0_3.length ≤ c0_3) (hr0_4 : Kd.C (Kd.int .i64) w A0_4 l0_4.length l0_4) (hc0_4 : l0_4.length ≤ c0_4) (hr2 : Kd.C k55 w A2 l2.length l2) (hc2 : l2.length ≤ c2) (h : masklaw2_FaultErrors.f k l0_0 l0_1 l0_2 l0_3 l0_4 a1_0 a1_1 a1_2 l2 = some r) :
    Calls Try.prog 6 #[.agg #[.slice A0_0 l0_0.length c0_0, .slice A0_1 l0_1.length c0_1, .slice A0_2 l0_2.length c0_2, .slice A0_3 l0_3.length c0_3, .slice A0_4 l0_4.length c0_4], .agg #[.int .i64 a1_0, .int .i64 a1_1, .bool a1_2], .slice A2 l2.length c2] w fun e w' => e = .returned (.bool r) ∧ Below w.heap.size w w' := by
  have hu27 := Try.underlying27
  have hu29 := Try.underlying29
  have HR0_0 := Aside0.mk hr0_0
  have HC0_0 := Aside0.mk hc0_0
  clear hr0_0 hc0_0
  have HR0_1 := Aside0.mk hr0_1
  have HC0_1 := Aside0.mk hc0_1
  clear hr0_1 hc0_1
  have HR0_2 := Aside0.mk hr0_2
  have HC0_2 := Aside0.mk hc0_2
  clear hr0_2 hc0_2
  have HR0_3 := Aside0.mk hr0_3
  have HC0_3 := Aside0.mk hc0_3
  clear hr0_3 hc0_3
  have HR0_4 := Aside0.mk hr0_4
  have HC0_4 := Aside0.mk hc0_4
  clear hr0_4 hc0_4
  have HR2 := Aside0.mk hr2
  have HC2 := Aside0.mk hc2
  clear hr2 hc2
  have HB := Aside0.mk (Below.refl w.heap.size w)
  have H : ((fault_Detects.f k l0_0 l0_1 l0_2 l0_3 l0_4 a1_0 a1_1 a1_2 l2).bind fun bt488 => ((netlist_Form.f k l0_0 l0_1 l0_2 l0_3 l0_4).bind fun t492 => (if t492 = 0 then ((maskref2_FaultFault.f k l0_0 l0_1 l0_2 l0_3 l0_4 a1_0 a1_1 a1_2).bind fun t493 => (masklaw2_FaultErrors.j0 k l2 bt488.1 bt488.2 t493 l0_0 l0_1 l0_2 l0_3 l0_4)) else (masklaw2_FaultErrors.j0 k l2 bt488.1 bt488.2 t492 l0_0 l0_1 l0_2 l0_3 l0_4)))) = some r := h
  clear h
  replace H := Option.bind_eq_some_iff.mp H
  obtain ⟨⟨t488, t491⟩, A40, H⟩ := H
  replace H : ((netlist_Form.f k l0_0 l0_1 l0_2 l0_3 l0_4).bind fun t492 => (if t492 = 0 then ((maskref2_FaultFault.f k l0_0 l0_1 l0_2 l0_3 l0_4 a1_0 a1_1 a1_2).bind fun t493 => (masklaw2_FaultErrors.j0 k l2 t488 t491 t493 l0_0 l0_1 l0_2 l0_3 l0_4)) else (masklaw2_FaultErrors.j0 k l2 t488 t491 t492 l0_0 l0_1 l0_2 l0_3 l0_4))) = some r := H
  have A4 := Aside0.mk A40
  clear A40
  replace H := Option.bind_eq_some_iff.mp H
  obtain ⟨t492, A50, H⟩ := H
  replace H : (if t492 = 0 then ((maskref2_FaultFault.f k l0_0 l0_1 l0_2 l0_3 l0_4 a1_0 a1_1 a1_2).bind fun t493 => (masklaw2_FaultErrors.j0 k l2 t488 t491 t493 l0_0 l0_1 l0_2 l0_3 l0_4)) else (masklaw2_FaultErrors.j0 k l2 t488 t491 t492 l0_0 l0_1 l0_2 l0_3 l0_4)) = some r := H
  have A5 := Aside0.mk A50
  clear A50
  have HC6 := Aside0.mk H
  clear H
  go_enter Try.func6, Try.ntmps6
  go_upto_if 20 with (first | ((with_reducible refine gate_dst (N := 3) rfl ?_); (try (refine gate_guard (by rfl) ?_; dsimp only)); refine box_event ?hg (N := 3) ?hd (cs := #[.slice A0_0 l0_0.length c0_0, .slice A0_1 l0_1.length c0_1, .slice A0_2 l0_2.length c0_2, .slice A0_3 l0_3.length c0_3, .slice A0_4 l0_4.length c0_4]) (t := 27) ?hr ?_; (case hd => rfl); (case hg => rfl); (case hr => first | (go_simp; done) | (go_simp; rfl)); intro gb486 hg w7 hbox hb; have n0_ := Aside0.mk (below_step (by repeat (first | (with_reducible first | exact HB.out | apply below_alloc | apply pw_below_drewN | apply below_drew1) | exact HB.out)) hb); have n1_ := Aside0.mk (hbox); have n2_ := Aside0.mk ((by rw [hg]; exact (below_size (by repeat (first | (with_reducible first | exact HB.out | apply below_alloc | apply pw_below_drewN | apply below_drew1) | exact HB.out))) : w.heap.size ≤ gb486)); have n3_ := Aside0.mk ((by rw [hg]; exact (below_size (by repeat (first | (with_reducible first | exact HB.out | apply below_alloc | apply pw_below_drewN | apply below_drew1) | exact HB.out))) : w.heap.size ≤ gb486)); clear HB; have HB := n0_; have BK486 := n1_; have GW486 := n2_; have GE486 := n3_; clear n0_ n1_ n2_ n3_; clear hb hbox hg) | ((with_reducible refine gate_dst (N := 4) rfl ?_); (try (refine gate_guard (by rfl) ?_; dsimp only)); refine box_event ?hg (N := 4) ?hd (cs := #[.int .i64 a1_0, .int .i64 a1_1, .bool a1_2]) (t := 29) ?hr ?_; (case hd => rfl); (case hg => rfl); (case hr => first | (go_simp; done) | (go_simp; rfl)); intro gb487 hg w8 hbox hb; have n0_ := Aside0.mk (blk_below (g := gb486) (o := .cells #[.slice A0_0 l0_0.length c0_0, .slice A0_1 l0_1.length c0_1, .slice A0_2 l0_2.length c0_2, .slice A0_3 l0_3.length c0_3, .slice A0_4 l0_4.length c0_4] 27 (0, 0)) (by (with_reducible repeat (first | refine blk_drewN ?_ _ | refine blk_drew ?_ | refine blk_alloc ?_ _)); exact BK486.out) hb); have n1_ := Aside0.mk (below_step (by repeat (first | (with_reducible first | exact HB.out | apply below_alloc | apply pw_below_drewN | apply below_drew1 | refine below_set ?_ GE486.out) | exact HB.out)) hb); have n2_ := Aside0.mk (hbox); have n3_ := Aside0.mk ((by rw [hg]; exact (below_size (by repeat (first | (with_reducible first | exact HB.out | apply below_alloc | apply pw_below_drewN | apply below_drew1 | refine below_set ?_ GE486.out) | exact HB.out))) : w.heap.size ≤ gb487)); have n4_ := Aside0.mk ((by rw [hg]; exact (below_size (by repeat (first | (with_reducible first | exact HB.out | apply below_alloc | apply pw_below_drewN | apply below_drew1 | refine below_set ?_ GE486.out) | exact HB.out))) : w.heap.size ≤ gb487)); have n5_ := Aside0.mk ((by rw [hg]; exact Nat.ne_of_lt (blk_lt (g := gb486) (o := .cells #[.slice A0_0 l0_0.length c0_0, .slice A0_1 l0_1.length c0_1, .slice A0_2 l0_2.length c0_2, .slice A0_3 l0_3.length c0_3, .slice A0_4 l0_4.length c0_4] 27 (0, 0)) (by (with_reducible repeat (first | refine blk_drewN ?_ _ | refine blk_drew ?_ | refine blk_alloc ?_ _)); exact BK486.out)) : gb486 ≠ gb487)); have n6_ := Aside0.mk ((by rw [hg]; exact Nat.ne_of_gt (blk_lt (g := gb486) (o := .cells #[.slice A0_0 l0_0.length c0_0, .slice A0_1 l0_1.length c0_1, .slice A0_2 l0_2.length c0_2, .slice A0_3 l0_3.length c0_3, .slice A0_4 l0_4.length c0_4] 27 (0, 0)) (by (with_reducible repeat (first | refine blk_drewN ?_ _ | refine blk_drew ?_ | refine blk_alloc ?_ _)); exact BK486.out)) : gb487 ≠ gb486)); clear BK486; clear HB; have BK486 := n0_; have HB := n1_; have BK487 := n2_; have GW487 := n3_; have GE487 := n4_; have NB486_487 := n5_; have NB487_486 := n6_; clear n0_ n1_ n2_ n3_ n4_ n5_ n6_; clear hb hbox hg; have hnb9 := NB486_487.out; have hnc9 := NB487_486.out; have hcz10_0 : w8.cell? ⟨gb486, 0, none⟩ = some (.slice A0_0 l0_0.length c0_0) := (blk_cell BK486.out 0).trans rfl; have hcz10_1 : w8.cell? ⟨gb486, 1, none⟩ = some (.slice A0_1 l0_1.length c0_1) := (blk_cell BK486.out 1).trans rfl; have hcz10_2 : w8.cell? ⟨gb486, 2, none⟩ = some (.slice A0_2 l0_2.length c0_2) := (blk_cell BK486.out 2).trans rfl; have hcz10_3 : w8.cell? ⟨gb486, 3, none⟩ = some (.slice A0_3 l0_3.length c0_3) := (blk_cell BK486.out 3).trans rfl; have hcz10_4 : w8.cell? ⟨gb486, 4, none⟩ = some (.slice A0_4 l0_4.length c0_4) := (blk_cell BK486.out 4).trans rfl; have hfz10_0 := blk_frozen BK486.out 0; have hfz10_1 := blk_frozen BK486.out 1; have hfz10_2 := blk_frozen BK486.out 2; have hfz10_3 := blk_frozen BK486.out 3; have hfz10_4 := blk_frozen BK486.out 4; have hcz11_0 : w8.cell? ⟨gb487, 0, none⟩ = some (.int .i64 a1_0) := (blk_cell BK487.out 0).trans rfl; have hcz11_1 : w8.cell? ⟨gb487, 1, none⟩ = some (.int .i64 a1_1) := (blk_cell BK487.out 1).trans rfl; have hcz11_2 : w8.cell? ⟨gb487, 2, none⟩ = some (.bool a1_2) := (blk_cell BK487.out 2).trans rfl; have hfz11_0 := blk_frozen BK487.out 0; have hfz11_1 := blk_frozen BK487.out 1; have hfz11_2 := blk_frozen BK487.out 2) | ((with_reducible refine gate_callee (f := 24) rfl ?_); refine goesL_ (some 14) rfl rfl Try.func24 (by kernel_rfl) rfl #[.agg #[.slice A0_0 l0_0.length c0_0, .slice A0_1 l0_1.length c0_1, .slice A0_2 l0_2.length c0_2, .slice A0_3 l0_3.length c0_3, .slice A0_4 l0_4.length c0_4], .agg #[.int .i64 a1_0, .int .i64 a1_1, .bool a1_2], .slice A2 l2.length c2] rfl (by (try simp only [List.map_toArray, List.map_cons, List.map_nil]); first | done | rfl | (simp only [List.length_drop, List.length_take]; rfl)) ?_; (with_reducible refine (fault_Detects.calls k _ _ l0_0 _ _ l0_1 _ _ l0_2 _ _ l0_3 _ _ l0_4 a1_0 a1_1 a1_2 _ _ l2 t488 t491 _ ?side1 ?side2 ?side3 ?side4 ?side5 ?side6 ?side7 ?side8 ?side9 ?side10 ?side11 ?side12 A4.out).mono ?_); (case side1 => repeat (first | exact (Kd.C_below HR0_0.out HB.out) | (with_reducible refine Kd.C_alloc ?_ _) | (with_reducible refine Kd.C_drewN ?_ _) | (with_reducible refine Kd.C_drew ?_))); (case side2 => exact HC0_0.out); (case side3 => repeat (first | exact (Kd.C_below HR0_1.out HB.out) | (with_reducible refine Kd.C_alloc ?_ _) | (with_reducible refine Kd.C_drewN ?_ _) | (with_reducible refine Kd.C_drew ?_))); (case side4 => exact HC0_1.out); (case side5 => repeat (first | exact (Kd.C_below HR0_2.out HB.out) | (with_reducible refine Kd.C_alloc ?_ _) | (with_reducible refine Kd.C_drewN ?_ _) | (with_reducible refine Kd.C_drew ?_))); (case side6 => exact HC0_2.out); (case side7 => repeat (first | exact (Kd.C_below HR0_3.out HB.out) | (with_reducible refine Kd.C_alloc ?_ _) | (with_reducible refine Kd.C_drewN ?_ _) | (with_reducible refine Kd.C_drew ?_))); (case side8 => exact HC0_3.out); (case side9 => repeat (first | exact (Kd.C_below HR0_4.out HB.out) | (with_reducible refine Kd.C_alloc ?_ _) | (with_reducible refine Kd.C_drewN ?_ _) | (with_reducible refine Kd.C_drew ?_))); (case side10 => exact HC0_4.out); (case side11 => repeat (first | exact (Kd.C_below HR2.out HB.out) | (with_reducible refine Kd.C_alloc ?_ _) | (with_reducible refine Kd.C_drewN ?_ _) | (with_reducible refine Kd.C_drew ?_))); (case side12 => exact HC2.out); rintro e w12 ⟨v489, rfl, ho0, hb⟩; refine ⟨_, rfl, ?_⟩; have n0_ := Aside0.mk (Kd.R_lower ho0 (below_size (by repeat (first | (with_reducible first | exact HB.out | apply below_alloc | apply pw_below_drewN | apply below_drew1 | refine below_set ?_ GE486.out | refine below_set ?_ GE487.out) | exact HB.out)))); have n1_ := Aside0.mk (blk_below (g := gb486) (o := .cells #[.slice A0_0 l0_0.length c0_0, .slice A0_1 l0_1.length c0_1, .slice A0_2 l0_2.length c0_2, .slice A0_3 l0_3.length c0_3, .slice A0_4 l0_4.length c0_4] 27 (0, 0)) (by (with_reducible repeat (first | refine blk_drewN ?_ _ | refine blk_drew ?_ | refine blk_alloc ?_ _)); exact BK486.out) hb); have n2_ := Aside0.mk (blk_below (g := gb487) (o := .cells #[.int .i64 a1_0, .int .i64 a1_1, .bool a1_2] 29 (0, 0)) (by (with_reducible repeat (first | refine blk_drewN ?_ _ | refine blk_drew ?_ | refine blk_alloc ?_ _)); exact BK487.out) hb); have n3_ := Aside0.mk (below_step (by repeat (first | (with_reducible first | exact HB.out | apply below_alloc | apply pw_below_drewN | apply below_drew1 | refine below_set ?_ GE486.out | refine below_set ?_ GE487.out) | exact HB.out)) hb); clear BK486; clear BK487; clear HB; have HO490 := n0_; have BK486 := n1_; have BK487 := n2_; have HB := n3_; clear n0_ n1_ n2_ n3_; (try clear hb); (try clear hb2); (try clear hk); (try clear hi); (try clear ho0); have hcz13_0 : w12.cell? ⟨gb486, 0, none⟩ = some (.slice A0_0 l0_0.length c0_0) := (blk_cell BK486.out 0).trans rfl; have hcz13_1 : w12.cell? ⟨gb486, 1, none⟩ = some (.slice A0_1 l0_1.length c0_1) := (blk_cell BK486.out 1).trans rfl; have hcz13_2 : w12.cell? ⟨gb486, 2, none⟩ = some (.slice A0_2 l0_2.length c0_2) := (blk_cell BK486.out 2).trans rfl; have hcz13_3 : w12.cell? ⟨gb486, 3, none⟩ = some (.slice A0_3 l0_3.length c0_3) := (blk_cell BK486.out 3).trans rfl; have hcz13_4 : w12.cell? ⟨gb486, 4, none⟩ = some (.slice A0_4 l0_4.length c0_4) := (blk_cell BK486.out 4).trans rfl; have hfz13_0 := blk_frozen BK486.out 0; have hfz13_1 := blk_frozen BK486.out 1; have hfz13_2 := blk_frozen BK486.out 2; have hfz13_3 := blk_frozen BK486.out 3; have hfz13_4 := blk_frozen BK486.out 4) | ((with_reducible refine gate_callee (f := 9) rfl ?_); refine goesL_ (some 18) rfl rfl Try.func9 (by kernel_rfl) rfl #[.agg #[.slice A0_0 l0_0.length c0_0, .slice A0_1 l0_1.length c0_1, .slice A0_2 l0_2.length c0_2, .slice A0_3 l0_3.length c0_3, .slice A0_4 l0_4.length c0_4]] rfl (by (try simp only [List.map_toArray, List.map_cons, List.map_nil]); first | done | rfl | (simp only [List.length_drop, List.length_take]; rfl)) ?_; (with_reducible refine (netlist_Form.calls k _ _ l0_0 _ _ l0_1 _ _ l0_2 _ _ l0_3 _ _ l0_4 t492 _ ?side1 ?side2 ?side3 ?side4 ?side5 ?side6 ?side7 ?side8 ?side9 ?side10 A5.out).mono ?_); (case side1 => repeat (first | exact (Kd.C_below HR0_0.out HB.out) | (with_reducible refine Kd.C_alloc ?_ _) | (with_reducible refine Kd.C_drewN ?_ _) | (with_reducible refine Kd.C_drew ?_))); (case side2 => exact HC0_0.out); (case side3 => repeat (first | exact (Kd.C_below HR0_1.out HB.out) | (with_reducible refine Kd.C_alloc ?_ _) | (with_reducible refine Kd.C_drewN ?_ _) | (with_reducible refine Kd.C_drew ?_))); (case side4 => exact HC0_1.out); (case side5 => repeat (first | exact (Kd.C_below HR0_2.out HB.out) | (with_reducible refine Kd.C_alloc ?_ _) | (with_reducible refine Kd.C_drewN ?_ _) | (with_reducible refine Kd.C_drew ?_))); (case side6 => exact HC0_2.out); (case side7 => repeat (first | exact (Kd.C_below HR0_3.out HB.out) | (with_reducible refine Kd.C_alloc ?_ _) | (with_reducible refine Kd.C_drewN ?_ _) | (with_reducible refine Kd.C_drew ?_))); (case side8 => exact HC0_3.out); (case side9 => repeat (first | exact (Kd.C_below HR0_4.out HB.out) | (with_reducible refine Kd.C_alloc ?_ _) | (with_reducible refine Kd.C_drewN ?_ _) | (with_reducible refine Kd.C_drew ?_))); (case side10 => exact HC0_4.out); rintro e w14 ⟨rfl, hb⟩; refine ⟨_, rfl, ?_⟩; have n0_ := Aside0.mk (Kd.R_below (by (with_reducible repeat (first | apply Kd.R_alloc | apply Kd.R_drewN | apply Kd.R_drew)); exact HO490.out) hb); have n1_ := Aside0.mk (blk_below (g := gb486) (o := .cells #[.slice A0_0 l0_0.length c0_0, .slice A0_1 l0_1.length c0_1, .slice A0_2 l0_2.length c0_2, .slice A0_3 l0_3.length c0_3, .slice A0_4 l0_4.length c0_4] 27 (0, 0)) (by (with_reducible repeat (first | refine blk_drewN ?_ _ | refine blk_drew ?_ | refine blk_alloc ?_ _)); exact BK486.out) hb); have n2_ := Aside0.mk (blk_below (g := gb487) (o := .cells #[.int .i64 a1_0, .int .i64 a1_1, .bool a1_2] 29 (0, 0)) (by (with_reducible repeat (first | refine blk_drewN ?_ _ | refine blk_drew ?_ | refine blk_alloc ?_ _)); exact BK487.out) hb); have n3_ := Aside0.mk (below_step (by repeat (first | (with_reducible first | exact HB.out | apply below_alloc | apply pw_below_drewN | apply below_drew1 | refine below_set ?_ GE486.out | refine below_set ?_ GE487.out) | exact HB.out)) hb); clear HO490; clear BK486; clear BK487; clear HB; have HO490 := n0_; have BK486 := n1_; have BK487 := n2_; have HB := n3_; clear n0_ n1_ n2_ n3_; (try clear hb); (try clear hb2); (try clear hk); (try clear hi)))
  (try simp only [Act.put, List.setIfInBounds_toArray, List.set_cons_zero, List.set_cons_succ])
  go_cut [9] (fun v9 wc => ∃ (kq : Nat) (x9_5 : Int), v9 = .int .i64 x9_5 ∧ Aside0 (masklaw2_FaultErrors.j0 kq l2 t488 t491 x9_5 l0_0 l0_1 l0_2 l0_3 l0_4 = some r) ∧ Aside0 (kq ≤ k) ∧ Aside0 (Kd.R Kd.bool 4 wc w.heap.size (fun _ => True) v489 t488) ∧ Aside0 (wc.heap[gb486]? = some (.cells #[(.slice A0_0 l0_0.length c0_0), (.slice A0_1 l0_1.length c0_1), (.slice A0_2 l0_2.length c0_2), (.slice A0_3 l0_3.length c0_3), (.slice A0_4 l0_4.length c0_4)] 27 (0, 0))) ∧ Aside0 (wc.heap[gb487]? = some (.cells #[.int .i64 a1_0, .int .i64 a1_1, .bool a1_2] 29 (0, 0))) ∧ Aside0 (Below w.heap.size w wc))
  case first =>
    have H := HC6.out
    clear HC6
    by_cases c15 : t492 = 0
    · rw [if_pos c15] at H
      have c15b0 : (t492 == 0) = true := beq_iff_eq.mpr c15
      have c15b1 : (t492 != 0) = false := bne_eq_false_iff_eq.mpr c15
      clear c15
      (first | rw [c15b0] | (simp only [i64_w, i32_w]; rw [c15b0]) | skip)
      replace H := Option.bind_eq_some_iff.mp H
      obtain ⟨t493, A160, H⟩ := H
      replace H : (masklaw2_FaultErrors.j0 k l2 t488 t491 t493 l0_0 l0_1 l0_2 l0_3 l0_4) = some r := H
      have A16 := Aside0.mk A160
      clear A160
      have H' := Aside0.mk H
      clear H
      have hnb17 := NB486_487.out
      have hnc17 := NB487_486.out
      have hcz18_0 : w14.cell? ⟨gb486, 0, none⟩ = some (.slice A0_0 l0_0.length c0_0) := (blk_cell BK486.out 0).trans rfl
      have hcz18_1 : w14.cell? ⟨gb486, 1, none⟩ = some (.slice A0_1 l0_1.length c0_1) := (blk_cell BK486.out 1).trans rfl
      have hcz18_2 : w14.cell? ⟨gb486, 2, none⟩ = some (.slice A0_2 l0_2.length c0_2) := (blk_cell BK486.out 2).trans rfl
      have hcz18_3 : w14.cell? ⟨gb486, 3, none⟩ = some (.slice A0_3 l0_3.length c0_3) := (blk_cell BK486.out 3).trans rfl
      have hcz18_4 : w14.cell? ⟨gb486, 4, none⟩ = some (.slice A0_4 l0_4.length c0_4) := (blk_cell BK486.out 4).trans rfl
      have hfz18_0 := blk_frozen BK486.out 0
      have hfz18_1 := blk_frozen BK486.out 1
      have hfz18_2 := blk_frozen BK486.out 2
      have hfz18_3 := blk_frozen BK486.out 3
      have hfz18_4 := blk_frozen BK486.out 4
      have hcz19_0 : w14.cell? ⟨gb487, 0, none⟩ = some (.int .i64 a1_0) := (blk_cell BK487.out 0).trans rfl
      have hcz19_1 : w14.cell? ⟨gb487, 1, none⟩ = some (.int .i64 a1_1) := (blk_cell BK487.out 1).trans rfl
      have hcz19_2 : w14.cell? ⟨gb487, 2, none⟩ = some (.bool a1_2) := (blk_cell BK487.out 2).trans rfl
      have hfz19_0 := blk_frozen BK487.out 0
      have hfz19_1 := blk_frozen BK487.out 1
      have hfz19_2 := blk_frozen BK487.out 2
      go_wp2_with (first | ((with_reducible refine gate_callee (f := 10) rfl ?_); refine goesL_ (some 23) rfl rfl Try.func10 (by kernel_rfl) rfl #[.agg #[.slice A0_0 l0_0.length c0_0, .slice A0_1 l0_1.length c0_1, .slice A0_2 l0_2.length c0_2, .slice A0_3 l0_3.length c0_3, .slice A0_4 l0_4.length c0_4], .agg #[.int .i64 a1_0, .int .i64 a1_1, .bool a1_2]] rfl (by (try simp only [List.map_toArray, List.map_cons, List.map_nil]); first | done | rfl | (simp only [List.length_drop, List.length_take]; rfl)) ?_; (with_reducible refine (maskref2_FaultFault.calls k _ _ l0_0 _ _ l0_1 _ _ l0_2 _ _ l0_3 _ _ l0_4 a1_0 a1_1 a1_2 t493 _ ?side1 ?side2 ?side3 ?side4 ?side5 ?side6 ?side7 ?side8 ?side9 ?side10 A16.out).mono ?_); (case side1 => repeat (first | exact (Kd.C_below HR0_0.out HB.out) | (with_reducible refine Kd.C_alloc ?_ _) | (with_reducible refine Kd.C_drewN ?_ _) | (with_reducible refine Kd.C_drew ?_))); (case side2 => exact HC0_0.out); (case side3 => repeat (first | exact (Kd.C_below HR0_1.out HB.out) | (with_reducible refine Kd.C_alloc ?_ _) | (with_reducible refine Kd.C_drewN ?_ _) | (with_reducible refine Kd.C_drew ?_))); (case side4 => exact HC0_1.out); (case side5 => repeat (first | exact (Kd.C_below HR0_2.out HB.out) | (with_reducible refine Kd.C_alloc ?_ _) | (with_reducible refine Kd.C_drewN ?_ _) | (with_reducible refine Kd.C_drew ?_))); (case side6 => exact HC0_2.out); (case side7 => repeat (first | exact (Kd.C_below HR0_3.out HB.out) | (with_reducible refine Kd.C_alloc ?_ _) | (with_reducible refine Kd.C_drewN ?_ _) | (with_reducible refine Kd.C_drew ?_))); (case side8 => exact HC0_3.out); (case side9 => repeat (first | exact (Kd.C_below HR0_4.out HB.out) | (with_reducible refine Kd.C_alloc ?_ _) | (with_reducible refine Kd.C_drewN ?_ _) | (with_reducible refine Kd.C_drew ?_))); (case side10 => exact HC0_4.out); rintro e w20 ⟨rfl, hb⟩; refine ⟨_, rfl, ?_⟩; have n0_ := Aside0.mk (Kd.R_below (by (with_reducible repeat (first | apply Kd.R_alloc | apply Kd.R_drewN | apply Kd.R_drew)); exact HO490.out) hb); have n1_ := Aside0.mk (blk_below (g := gb486) (o := .cells #[.slice A0_0 l0_0.length c0_0, .slice A0_1 l0_1.length c0_1, .slice A0_2 l0_2.length c0_2, .slice A0_3 l0_3.length c0_3, .slice A0_4 l0_4.length c0_4] 27 (0, 0)) (by (with_reducible repeat (first | refine blk_drewN ?_ _ | refine blk_drew ?_ | refine blk_alloc ?_ _)); exact BK486.out) hb); have n2_ := Aside0.mk (blk_below (g := gb487) (o := .cells #[.int .i64 a1_0, .int .i64 a1_1, .bool a1_2] 29 (0, 0)) (by (with_reducible repeat (first | refine blk_drewN ?_ _ | refine blk_drew ?_ | refine blk_alloc ?_ _)); exact BK487.out) hb); have n3_ := Aside0.mk (below_step (by repeat (first | (with_reducible first | exact HB.out | apply below_alloc | apply pw_below_drewN | apply below_drew1 | refine below_set ?_ GE486.out | refine below_set ?_ GE487.out) | exact HB.out)) hb); clear HO490; clear BK486; clear BK487; clear HB; have HO490 := n0_; have BK486 := n1_; have BK487 := n2_; have HB := n3_; clear n0_ n1_ n2_ n3_; (try clear hb); (try clear hb2); (try clear hk); (try clear hi)))
      go_meet
      case rel => exact ⟨_, (t493), (by first | rfl | (simp; done) | (simp [*]; done)), H', ⟨by first | omega | exact Nat.le_refl _⟩, ⟨by (with_reducible repeat (first | apply Kd.R_alloc | apply Kd.R_drewN | apply Kd.R_drew)); exact HO490.out⟩, ⟨by (with_reducible repeat (first | refine blk_drewN ?_ _ | refine blk_drew ?_ | refine blk_alloc ?_ _)); exact BK486.out⟩, ⟨by (with_reducible repeat (first | refine blk_drewN ?_ _ | refine blk_drew ?_ | refine blk_alloc ?_ _)); exact BK487.out⟩, ⟨by repeat (first | (with_reducible first | exact HB.out | apply below_alloc | apply pw_below_drewN | apply below_drew1 | refine below_set ?_ GE486.out | refine below_set ?_ GE487.out) | exact HB.out)⟩⟩
    · rw [if_neg c15] at H
      have c15b0 : (t492 == 0) = false := beq_eq_false_iff_ne.mpr c15
      have c15b1 : (t492 != 0) = true := bne_iff_ne.mpr c15
      (first | rw [c15b0] | (simp only [i64_w, i32_w]; rw [c15b0]) | skip)
      have H' := Aside0.mk H
      clear H
      go_wp2
      go_meet
      case rel => exact ⟨_, (t492), (by first | rfl | (simp; done) | (simp [*]; done)), H', ⟨by first | omega | exact Nat.le_refl _⟩, ⟨by (with_reducible repeat (first | apply Kd.R_alloc | apply Kd.R_drewN | apply Kd.R_drew)); exact HO490.out⟩, ⟨by (with_reducible repeat (first | refine blk_drewN ?_ _ | refine blk_drew ?_ | refine blk_alloc ?_ _)); exact BK486.out⟩, ⟨by (with_reducible repeat (first | refine blk_drewN ?_ _ | refine blk_drew ?_ | refine blk_alloc ?_ _)); exact BK487.out⟩, ⟨by repeat (first | (with_reducible first | exact HB.out | apply below_alloc | apply pw_below_drewN | apply below_drew1 | refine below_set ?_ GE486.out | refine below_set ?_ GE487.out) | exact HB.out)⟩⟩
  case rest =>
    clear HC6
    try clear c1
    try clear c2
    try clear p2
    try clear c6
    try clear c9
    try clear c10
    try clear c15
    try clear c15b0
    try clear c15b1
    try clear c17
    try clear hcz10_0
    try clear hcz10_1
    try clear hcz10_2
    try clear hcz10_3
    try clear hcz10_4
    try clear hcz11_0
    try clear hcz11_1
    try clear hcz11_2
    try clear hcz13_0
    try clear hcz13_1
    try clear hcz13_2
    try clear hcz13_3
    try clear hcz13_4
    try clear hcz18_0
    try clear hcz18_1
    try clear hcz18_2
    try clear hcz18_3
    try clear hcz18_4
    try clear hcz19_0
    try clear hcz19_1
    try clear hcz19_2
    try clear hfz10_0
    try clear hfz10_1
    try clear hfz10_2
    try clear hfz10_3
    try clear hfz10_4
    try clear hfz11_0
    try clear hfz11_1
    try clear hfz11_2
    try clear hfz13_0
    try clear hfz13_1
    try clear hfz13_2
    try clear hfz13_3
    try clear hfz13_4
    try clear hfz18_0
    try clear hfz18_1
    try clear hfz18_2
    try clear hfz18_3
    try clear hfz18_4
    try clear hfz19_0
    try clear hfz19_1
    try clear hfz19_2
    obtain ⟨kq, x9_5, rfl, HA, HJ5, HO_7, BK486, BK487, HB⟩ := hcut
    cases kq with
    | zero => exact absurd HA.out (by simp [masklaw2_FaultErrors.j0])
    | succ kj5 =>
      have H := HA.out
      clear HA
      simp only [masklaw2_FaultErrors.j0] at H
      have HC21 := Aside0.mk H
      clear H
      go_upto_if 25 with (fail)
      go_cut [9] (fun v9 wc => ∃ (kq : Nat) (x9_20 : Int), v9 = .int .i64 x9_20 ∧ Aside0 (masklaw2_FaultErrors.j1 kq l2 t488 t491 x9_20 = some r) ∧ Aside0 (kq ≤ kj5) ∧ Aside0 (Kd.R Kd.bool 4 wc w.heap.size (fun _ => True) v489 t488) ∧ Aside0 (wc.heap[gb486]? = some (.cells #[(.slice A0_0 l0_0.length c0_0), (.slice A0_1 l0_1.length c0_1), (.slice A0_2 l0_2.length c0_2), (.slice A0_3 l0_3.length c0_3), (.slice A0_4 l0_4.length c0_4)] 27 (0, 0))) ∧ Aside0 (wc.heap[gb487]? = some (.cells #[.int .i64 a1_0, .int .i64 a1_1, .bool a1_2] 29 (0, 0))) ∧ Aside0 (Below w.heap.size w wc))
      case first =>
        have H := HC21.out
        clear HC21
        by_cases c22 : x9_5 = 0
        · rw [if_pos c22] at H
          have c22b0 : (x9_5 == 0) = true := beq_iff_eq.mpr c22
          have c22b1 : (x9_5 != 0) = false := bne_eq_false_iff_eq.mpr c22
          clear c22
          (first | rw [c22b0] | (simp only [i64_w, i32_w]; rw [c22b0]) | skip)
          replace H := Option.bind_eq_some_iff.mp H
          obtain ⟨t494, A230, H⟩ := H
          replace H : (masklaw2_FaultErrors.j1 kj5 l2 t488 t491 t494) = some r := H
          have A23 := Aside0.mk A230
          clear A230
          have H' := Aside0.mk H
          clear H
          have hnb24 := NB486_487.out
          have hnc24 := NB487_486.out
          have hcz25_0 : wc.cell? ⟨gb486, 0, none⟩ = some (.slice A0_0 l0_0.length c0_0) := (blk_cell BK486.out 0).trans rfl
          have hcz25_1 : wc.cell? ⟨gb486, 1, none⟩ = some (.slice A0_1 l0_1.length c0_1) := (blk_cell BK486.out 1).trans rfl
          have hcz25_2 : wc.cell? ⟨gb486, 2, none⟩ = some (.slice A0_2 l0_2.length c0_2) := (blk_cell BK486.out 2).trans rfl
          have hcz25_3 : wc.cell? ⟨gb486, 3, none⟩ = some (.slice A0_3 l0_3.length c0_3) := (blk_cell BK486.out 3).trans rfl
          have hcz25_4 : wc.cell? ⟨gb486, 4, none⟩ = some (.slice A0_4 l0_4.length c0_4) := (blk_cell BK486.out 4).trans rfl
          have hfz25_0 := blk_frozen BK486.out 0
          have hfz25_1 := blk_frozen BK486.out 1
          have hfz25_2 := blk_frozen BK486.out 2
          have hfz25_3 := blk_frozen BK486.out 3
          have hfz25_4 := blk_frozen BK486.out 4
          go_wp2_with (first | ((with_reducible refine gate_callee (f := 21) rfl ?_); refine goesL_ (some 28) rfl rfl Try.func21 (by kernel_rfl) rfl #[.agg #[.slice A0_0 l0_0.length c0_0, .slice A0_1 l0_1.length c0_1, .slice A0_2 l0_2.length c0_2, .slice A0_3 l0_3.length c0_3, .slice A0_4 l0_4.length c0_4], .slice A2 l2.length c2] rfl (by (try simp only [List.map_toArray, List.map_cons, List.map_nil]); first | done | rfl | (simp only [List.length_drop, List.length_take]; rfl)) ?_; (with_reducible refine (maskref2_PatternFault.calls kj5 _ _ l0_0 _ _ l0_1 _ _ l0_2 _ _ l0_3 _ _ l0_4 _ _ l2 t494 _ ?side1 ?side2 ?side3 ?side4 ?side5 ?side6 ?side7 ?side8 ?side9 ?side10 ?side11 ?side12 A23.out).mono ?_); (case side1 => repeat (first | exact (Kd.C_below HR0_0.out HB.out) | (with_reducible refine Kd.C_alloc ?_ _) | (with_reducible refine Kd.C_drewN ?_ _) | (with_reducible refine Kd.C_drew ?_))); (case side2 => exact HC0_0.out); (case side3 => repeat (first | exact (Kd.C_below HR0_1.out HB.out) | (with_reducible refine Kd.C_alloc ?_ _) | (with_reducible refine Kd.C_drewN ?_ _) | (with_reducible refine Kd.C_drew ?_))); (case side4 => exact HC0_1.out); (case side5 => repeat (first | exact (Kd.C_below HR0_2.out HB.out) | (with_reducible refine Kd.C_alloc ?_ _) | (with_reducible refine Kd.C_drewN ?_ _) | (with_reducible refine Kd.C_drew ?_))); (case side6 => exact HC0_2.out); (case side7 => repeat (first | exact (Kd.C_below HR0_3.out HB.out) | (with_reducible refine Kd.C_alloc ?_ _) | (with_reducible refine Kd.C_drewN ?_ _) | (with_reducible refine Kd.C_drew ?_))); (case side8 => exact HC0_3.out); (case side9 => repeat (first | exact (Kd.C_below HR0_4.out HB.out) | (with_reducible refine Kd.C_alloc ?_ _) | (with_reducible refine Kd.C_drewN ?_ _) | (with_reducible refine Kd.C_drew ?_))); (case side10 => exact HC0_4.out); (case side11 => repeat (first | exact (Kd.C_below HR2.out HB.out) | (with_reducible refine Kd.C_alloc ?_ _) | (with_reducible refine Kd.C_drewN ?_ _) | (with_reducible refine Kd.C_drew ?_))); (case side12 => exact HC2.out); rintro e w26 ⟨rfl, hb⟩; refine ⟨_, rfl, ?_⟩; have n0_ := Aside0.mk (Kd.R_below (by (with_reducible repeat (first | apply Kd.R_alloc | apply Kd.R_drewN | apply Kd.R_drew)); exact HO_7.out) hb); have n1_ := Aside0.mk (blk_below (g := gb486) (o := .cells #[.slice A0_0 l0_0.length c0_0, .slice A0_1 l0_1.length c0_1, .slice A0_2 l0_2.length c0_2, .slice A0_3 l0_3.length c0_3, .slice A0_4 l0_4.length c0_4] 27 (0, 0)) (by (with_reducible repeat (first | refine blk_drewN ?_ _ | refine blk_drew ?_ | refine blk_alloc ?_ _)); exact BK486.out) hb); have n2_ := Aside0.mk (blk_below (g := gb487) (o := .cells #[.int .i64 a1_0, .int .i64 a1_1, .bool a1_2] 29 (0, 0)) (by (with_reducible repeat (first | refine blk_drewN ?_ _ | refine blk_drew ?_ | refine blk_alloc ?_ _)); exact BK487.out) hb); have n3_ := Aside0.mk (below_step (by repeat (first | (with_reducible first | exact HB.out | apply below_alloc | apply pw_below_drewN | apply below_drew1 | refine below_set ?_ GE486.out | refine below_set ?_ GE487.out) | exact HB.out)) hb); clear HO_7; clear BK486; clear BK487; clear HB; have HO_7 := n0_; have BK486 := n1_; have BK487 := n2_; have HB := n3_; clear n0_ n1_ n2_ n3_; (try clear hb); (try clear hb2); (try clear hk); (try clear hi)))
          go_meet
          case rel => exact ⟨_, (t494), (by first | rfl | (simp; done) | (simp [*]; done)), H', ⟨by have := HJ5.out; first | omega | exact Nat.le_refl _⟩, ⟨by (with_reducible repeat (first | apply Kd.R_alloc | apply Kd.R_drewN | apply Kd.R_drew)); exact HO_7.out⟩, ⟨by (with_reducible repeat (first | refine blk_drewN ?_ _ | refine blk_drew ?_ | refine blk_alloc ?_ _)); exact BK486.out⟩, ⟨by (with_reducible repeat (first | refine blk_drewN ?_ _ | refine blk_drew ?_ | refine blk_alloc ?_ _)); exact BK487.out⟩, ⟨by repeat (first | (with_reducible first | exact HB.out | apply below_alloc | apply pw_below_drewN | apply below_drew1 | refine below_set ?_ GE486.out | refine below_set ?_ GE487.out) | exact HB.out)⟩⟩
        · rw [if_neg c22] at H
          have c22b0 : (x9_5 == 0) = false := beq_eq_false_iff_ne.mpr c22
          have c22b1 : (x9_5 != 0) = true := bne_iff_ne.mpr c22
          (first | rw [c22b0] | (simp only [i64_w, i32_w]; rw [c22b0]) | skip)
          have H' := Aside0.mk H
          clear H
          go_wp2
          go_meet
          case rel => exact ⟨_, (x9_5), (by first | rfl | (simp; done) | (simp [*]; done)), H', ⟨by have := HJ5.out; first | omega | exact Nat.le_refl _⟩, ⟨by (with_reducible repeat (first | apply Kd.R_alloc | apply Kd.R_drewN | apply Kd.R_drew)); exact HO_7.out⟩, ⟨by (with_reducible repeat (first | refine blk_drewN ?_ _ | refine blk_drew ?_ | refine blk_alloc ?_ _)); exact BK486.out⟩, ⟨by (with_reducible repeat (first | refine blk_drewN ?_ _ | refine blk_drew ?_ | refine blk_alloc ?_ _)); exact BK487.out⟩, ⟨by repeat (first | (with_reducible first | exact HB.out | apply below_alloc | apply pw_below_drewN | apply below_drew1 | refine below_set ?_ GE486.out | refine below_set ?_ GE487.out) | exact HB.out)⟩⟩
      case rest =>
        clear HC21
        try clear c1
        try clear c2
        try clear p2
        try clear c6
        try clear c9
        try clear c10
        try clear c15
        try clear c15b0
        try clear c15b1
        try clear c17
        try clear c21
        try clear c22
        try clear c22b0
        try clear c22b1
        try clear c24
        try clear hcz10_0
        try clear hcz10_1
        try clear hcz10_2
        try clear hcz10_3
        try clear hcz10_4
        try clear hcz11_0
        try clear hcz11_1
        try clear hcz11_2
        try clear hcz13_0
        try clear hcz13_1
        try clear hcz13_2
        try clear hcz13_3
        try clear hcz13_4
        try clear hcz18_0
        try clear hcz18_1
        try clear hcz18_2
        try clear hcz18_3
        try clear hcz18_4
        try clear hcz19_0
        try clear hcz19_1
        try clear hcz19_2
        try clear hcz25_0
        try clear hcz25_1
        try clear hcz25_2
        try clear hcz25_3
        try clear hcz25_4
        try clear hfz10_0
        try clear hfz10_1
        try clear hfz10_2
        try clear hfz10_3
        try clear hfz10_4
        try clear hfz11_0
        try clear hfz11_1
        try clear hfz11_2
        try clear hfz13_0
        try clear hfz13_1
        try clear hfz13_2
        try clear hfz13_3
        try clear hfz13_4
        try clear hfz18_0
        try clear hfz18_1
        try clear hfz18_2
        try clear hfz18_3
        try clear hfz18_4
        try clear hfz19_0
        try clear hfz19_1
        try clear hfz19_2
        try clear hfz25_0
        try clear hfz25_1
        try clear hfz25_2
        try clear hfz25_3
        try clear hfz25_4
        try clear p2
        obtain ⟨kq, x9_20, rfl, HA, HJ20, HO_7, BK486, BK487, HB⟩ := hcut
        cases kq with
        | zero => exact absurd HA.out (by simp [masklaw2_FaultErrors.j1])
        | succ kj20 =>
          have H := HA.out
          clear HA
          simp only [masklaw2_FaultErrors.j1] at H
          by_cases c27 : x9_20 = 0
          · rw [if_pos c27] at H
            have c27b0 : (x9_20 == 0) = true := beq_iff_eq.mpr c27
            have c27b1 : (x9_20 != 0) = false := bne_eq_false_iff_eq.mpr c27
            clear c27
            replace H := Option.bind_eq_some_iff.mp H
            obtain ⟨t495, A280, H⟩ := H
            replace H : (if t495 = true then (if t491 = 0 then (some ((t488.length : Int) == (l2.length : Int))) else (some false)) else (some false)) = some r := H
            have A28 := Aside0.mk A280
            clear A280
            by_cases c29 : t495 = true
            · subst c29
              have H1 : (if t491 = 0 then (some ((t488.length : Int) == (l2.length : Int))) else (some false)) = some r := by rw [if_pos rfl] at H; exact H
              clear H
              have H := H1
              clear H1
              by_cases c30 : t491 = 0
              · rw [if_pos c30] at H
                have c30b0 : (t491 == 0) = true := beq_iff_eq.mpr c30
                have c30b1 : (t491 != 0) = false := bne_eq_false_iff_eq.mpr c30
                clear c30
                obtain rfl := Option.some.inj H
                go_wp2_with (first | ((with_reducible refine gate_callee (f := 11) rfl ?_); refine goesL_ (some 42) rfl rfl Try.func11 (by kernel_rfl) rfl #[] rfl (by (try simp only [List.map_toArray, List.map_cons, List.map_nil]); first | done | rfl | (simp only [List.length_drop, List.length_take]; rfl)) ?_; (with_reducible refine (masklaw2_faulty.calls kj20  true _ A28.out).mono ?_); rintro e w31 ⟨rfl, hb⟩; refine ⟨_, rfl, ?_⟩; have n0_ := Aside0.mk (Kd.R_below (by (with_reducible repeat (first | apply Kd.R_alloc | apply Kd.R_drewN | apply Kd.R_drew)); exact HO_7.out) hb); have n1_ := Aside0.mk (blk_below (g := gb486) (o := .cells #[.slice A0_0 l0_0.length c0_0, .slice A0_1 l0_1.length c0_1, .slice A0_2 l0_2.length c0_2, .slice A0_3 l0_3.length c0_3, .slice A0_4 l0_4.length c0_4] 27 (0, 0)) (by (with_reducible repeat (first | refine blk_drewN ?_ _ | refine blk_drew ?_ | refine blk_alloc ?_ _)); exact BK486.out) hb); have n2_ := Aside0.mk (blk_below (g := gb487) (o := .cells #[.int .i64 a1_0, .int .i64 a1_1, .bool a1_2] 29 (0, 0)) (by (with_reducible repeat (first | refine blk_drewN ?_ _ | refine blk_drew ?_ | refine blk_alloc ?_ _)); exact BK487.out) hb); have n3_ := Aside0.mk (below_step (by repeat (first | (with_reducible first | exact HB.out | apply below_alloc | apply pw_below_drewN | apply below_drew1 | refine below_set ?_ GE486.out | refine below_set ?_ GE487.out) | exact HB.out)) hb); clear HO_7; clear BK486; clear BK487; clear HB; have HO_7 := n0_; have BK486 := n1_; have BK487 := n2_; have HB := n3_; clear n0_ n1_ n2_ n3_; (try clear hb); (try clear hb2); (try clear hk); (try clear hi); obtain ⟨Ao32, co32, eo32⟩ := Kd.R_slice HO_7.out; subst eo32))
                go_ret
                exact ⟨by first | rfl | (simp [errW_none, errW_some] <;> rfl) | (simp [*, errW_none, errW_some] <;> rfl), by repeat (first | (with_reducible first | exact HB.out | apply below_alloc | apply pw_below_drewN | apply below_drew1 | refine below_set ?_ GE486.out | refine below_set ?_ GE487.out) | exact HB.out)⟩
              · rw [if_neg c30] at H
                have c30b0 : (t491 == 0) = false := beq_eq_false_iff_ne.mpr c30
                have c30b1 : (t491 != 0) = true := bne_iff_ne.mpr c30
                obtain rfl := Option.some.inj H
                go_wp2_with (first | ((with_reducible refine gate_callee (f := 11) rfl ?_); refine goesL_ (some 42) rfl rfl Try.func11 (by kernel_rfl) rfl #[] rfl (by (try simp only [List.map_toArray, List.map_cons, List.map_nil]); first | done | rfl | (simp only [List.length_drop, List.length_take]; rfl)) ?_; (with_reducible refine (masklaw2_faulty.calls kj20  true _ A28.out).mono ?_); rintro e w33 ⟨rfl, hb⟩; refine ⟨_, rfl, ?_⟩; have n0_ := Aside0.mk (Kd.R_below (by (with_reducible repeat (first | apply Kd.R_alloc | apply Kd.R_drewN | apply Kd.R_drew)); exact HO_7.out) hb); have n1_ := Aside0.mk (blk_below (g := gb486) (o := .cells #[.slice A0_0 l0_0.length c0_0, .slice A0_1 l0_1.length c0_1, .slice A0_2 l0_2.length c0_2, .slice A0_3 l0_3.length c0_3, .slice A0_4 l0_4.length c0_4] 27 (0, 0)) (by (with_reducible repeat (first | refine blk_drewN ?_ _ | refine blk_drew ?_ | refine blk_alloc ?_ _)); exact BK486.out) hb); have n2_ := Aside0.mk (blk_below (g := gb487) (o := .cells #[.int .i64 a1_0, .int .i64 a1_1, .bool a1_2] 29 (0, 0)) (by (with_reducible repeat (first | refine blk_drewN ?_ _ | refine blk_drew ?_ | refine blk_alloc ?_ _)); exact BK487.out) hb); have n3_ := Aside0.mk (below_step (by repeat (first | (with_reducible first | exact HB.out | apply below_alloc | apply pw_below_drewN | apply below_drew1 | refine below_set ?_ GE486.out | refine below_set ?_ GE487.out) | exact HB.out)) hb); clear HO_7; clear BK486; clear BK487; clear HB; have HO_7 := n0_; have BK486 := n1_; have BK487 := n2_; have HB := n3_; clear n0_ n1_ n2_ n3_; (try clear hb); (try clear hb2); (try clear hk); (try clear hi)))
                go_ret
                exact ⟨by first | rfl | (simp [errW_none, errW_some] <;> rfl) | (simp [*, errW_none, errW_some] <;> rfl), by repeat (first | (with_reducible first | exact HB.out | apply below_alloc | apply pw_below_drewN | apply below_drew1 | refine below_set ?_ GE486.out | refine below_set ?_ GE487.out) | exact HB.out)⟩
            · replace c29 := Bool.eq_false_iff.mpr c29
              subst c29
              have H1 : (some false) = some r := by rw [if_neg (show ¬ (false = true) by decide)] at H; exact H
              clear H
              have H := H1
              clear H1
              obtain rfl := Option.some.inj H
              go_wp2_with (first | ((with_reducible refine gate_callee (f := 11) rfl ?_); refine goesL_ (some 42) rfl rfl Try.func11 (by kernel_rfl) rfl #[] rfl (by (try simp only [List.map_toArray, List.map_cons, List.map_nil]); first | done | rfl | (simp only [List.length_drop, List.length_take]; rfl)) ?_; (with_reducible refine (masklaw2_faulty.calls kj20  false _ A28.out).mono ?_); rintro e w34 ⟨rfl, hb⟩; refine ⟨_, rfl, ?_⟩; have n0_ := Aside0.mk (Kd.R_below (by (with_reducible repeat (first | apply Kd.R_alloc | apply Kd.R_drewN | apply Kd.R_drew)); exact HO_7.out) hb); have n1_ := Aside0.mk (blk_below (g := gb486) (o := .cells #[.slice A0_0 l0_0.length c0_0, .slice A0_1 l0_1.length c0_1, .slice A0_2 l0_2.length c0_2, .slice A0_3 l0_3.length c0_3, .slice A0_4 l0_4.length c0_4] 27 (0, 0)) (by (with_reducible repeat (first | refine blk_drewN ?_ _ | refine blk_drew ?_ | refine blk_alloc ?_ _)); exact BK486.out) hb); have n2_ := Aside0.mk (blk_below (g := gb487) (o := .cells #[.int .i64 a1_0, .int .i64 a1_1, .bool a1_2] 29 (0, 0)) (by (with_reducible repeat (first | refine blk_drewN ?_ _ | refine blk_drew ?_ | refine blk_alloc ?_ _)); exact BK487.out) hb); have n3_ := Aside0.mk (below_step (by repeat (first | (with_reducible first | exact HB.out | apply below_alloc | apply pw_below_drewN | apply below_drew1 | refine below_set ?_ GE486.out | refine below_set ?_ GE487.out) | exact HB.out)) hb); clear HO_7; clear BK486; clear BK487; clear HB; have HO_7 := n0_; have BK486 := n1_; have BK487 := n2_; have HB := n3_; clear n0_ n1_ n2_ n3_; (try clear hb); (try clear hb2); (try clear hk); (try clear hi)))
              go_ret
              exact ⟨by first | rfl | (simp [errW_none, errW_some] <;> rfl) | (simp [*, errW_none, errW_some] <;> rfl), by repeat (first | (with_reducible first | exact HB.out | apply below_alloc | apply pw_below_drewN | apply below_drew1 | refine below_set ?_ GE486.out | refine below_set ?_ GE487.out) | exact HB.out)⟩
          · rw [if_neg c27] at H
            have c27b0 : (x9_20 == 0) = false := beq_eq_false_iff_ne.mpr c27
            have c27b1 : (x9_20 != 0) = true := bne_iff_ne.mpr c27
            replace H := Option.bind_eq_some_iff.mp H
            obtain ⟨t496, A350, H⟩ := H
            replace H : (if t496 = true then (if t491 = x9_20 then (some ((t488.length : Int) == 0)) else (some false)) else (some false)) = some r := H
            have A35 := Aside0.mk A350
            clear A350
            by_cases c36 : t496 = true
            · subst c36
              have H1 : (if t491 = x9_20 then (some ((t488.length : Int) == 0)) else (some false)) = some r := by rw [if_pos rfl] at H; exact H
              clear H
              have H := H1
              clear H1
              by_cases c37 : t491 = x9_20
              · rw [if_pos c37] at H
                have c37b0 : (t491 == x9_20) = true := beq_iff_eq.mpr c37
                have c37b1 : (t491 != x9_20) = false := bne_eq_false_iff_eq.mpr c37
                clear c37
                obtain rfl := Option.some.inj H
                go_wp2_with (first | ((with_reducible refine gate_callee (f := 11) rfl ?_); refine goesL_ (some 31) rfl rfl Try.func11 (by kernel_rfl) rfl #[] rfl (by (try simp only [List.map_toArray, List.map_cons, List.map_nil]); first | done | rfl | (simp only [List.length_drop, List.length_take]; rfl)) ?_; (with_reducible refine (masklaw2_faulty.calls kj20  true _ A35.out).mono ?_); rintro e w38 ⟨rfl, hb⟩; refine ⟨_, rfl, ?_⟩; have n0_ := Aside0.mk (Kd.R_below (by (with_reducible repeat (first | apply Kd.R_alloc | apply Kd.R_drewN | apply Kd.R_drew)); exact HO_7.out) hb); have n1_ := Aside0.mk (blk_below (g := gb486) (o := .cells #[.slice A0_0 l0_0.length c0_0, .slice A0_1 l0_1.length c0_1, .slice A0_2 l0_2.length c0_2, .slice A0_3 l0_3.length c0_3, .slice A0_4 l0_4.length c0_4] 27 (0, 0)) (by (with_reducible repeat (first | refine blk_drewN ?_ _ | refine blk_drew ?_ | refine blk_alloc ?_ _)); exact BK486.out) hb); have n2_ := Aside0.mk (blk_below (g := gb487) (o := .cells #[.int .i64 a1_0, .int .i64 a1_1, .bool a1_2] 29 (0, 0)) (by (with_reducible repeat (first | refine blk_drewN ?_ _ | refine blk_drew ?_ | refine blk_alloc ?_ _)); exact BK487.out) hb); have n3_ := Aside0.mk (below_step (by repeat (first | (with_reducible first | exact HB.out | apply below_alloc | apply pw_below_drewN | apply below_drew1 | refine below_set ?_ GE486.out | refine below_set ?_ GE487.out) | exact HB.out)) hb); clear HO_7; clear BK486; clear BK487; clear HB; have HO_7 := n0_; have BK486 := n1_; have BK487 := n2_; have HB := n3_; clear n0_ n1_ n2_ n3_; (try clear hb); (try clear hb2); (try clear hk); (try clear hi); obtain ⟨Ao39, co39, eo39⟩ := Kd.R_slice HO_7.out; subst eo39))
                go_ret
                exact ⟨by first | rfl | (simp [errW_none, errW_some] <;> rfl) | (simp [*, errW_none, errW_some] <;> rfl), by repeat (first | (with_reducible first | exact HB.out | apply below_alloc | apply pw_below_drewN | apply below_drew1 | refine below_set ?_ GE486.out | refine below_set ?_ GE487.out) | exact HB.out)⟩
              · rw [if_neg c37] at H
                have c37b0 : (t491 == x9_20) = false := beq_eq_false_iff_ne.mpr c37
                have c37b1 : (t491 != x9_20) = true := bne_iff_ne.mpr c37
                obtain rfl := Option.some.inj H
                go_wp2_with (first | ((with_reducible refine gate_callee (f := 11) rfl ?_); refine goesL_ (some 31) rfl rfl Try.func11 (by kernel_rfl) rfl #[] rfl (by (try simp only [List.map_toArray, List.map_cons, List.map_nil]); first | done | rfl | (simp only [List.length_drop, List.length_take]; rfl)) ?_; (with_reducible refine (masklaw2_faulty.calls kj20  true _ A35.out).mono ?_); rintro e w40 ⟨rfl, hb⟩; refine ⟨_, rfl, ?_⟩; have n0_ := Aside0.mk (Kd.R_below (by (with_reducible repeat (first | apply Kd.R_alloc | apply Kd.R_drewN | apply Kd.R_drew)); exact HO_7.out) hb); have n1_ := Aside0.mk (blk_below (g := gb486) (o := .cells #[.slice A0_0 l0_0.length c0_0, .slice A0_1 l0_1.length c0_1, .slice A0_2 l0_2.length c0_2, .slice A0_3 l0_3.length c0_3, .slice A0_4 l0_4.length c0_4] 27 (0, 0)) (by (with_reducible repeat (first | refine blk_drewN ?_ _ | refine blk_drew ?_ | refine blk_alloc ?_ _)); exact BK486.out) hb); have n2_ := Aside0.mk (blk_below (g := gb487) (o := .cells #[.int .i64 a1_0, .int .i64 a1_1, .bool a1_2] 29 (0, 0)) (by (with_reducible repeat (first | refine blk_drewN ?_ _ | refine blk_drew ?_ | refine blk_alloc ?_ _)); exact BK487.out) hb); have n3_ := Aside0.mk (below_step (by repeat (first | (with_reducible first | exact HB.out | apply below_alloc | apply pw_below_drewN | apply below_drew1 | refine below_set ?_ GE486.out | refine below_set ?_ GE487.out) | exact HB.out)) hb); clear HO_7; clear BK486; clear BK487; clear HB; have HO_7 := n0_; have BK486 := n1_; have BK487 := n2_; have HB := n3_; clear n0_ n1_ n2_ n3_; (try clear hb); (try clear hb2); (try clear hk); (try clear hi)))
                go_ret
                exact ⟨by first | rfl | (simp [errW_none, errW_some] <;> rfl) | (simp [*, errW_none, errW_some] <;> rfl), by repeat (first | (with_reducible first | exact HB.out | apply below_alloc | apply pw_below_drewN | apply below_drew1 | refine below_set ?_ GE486.out | refine below_set ?_ GE487.out) | exact HB.out)⟩
            · replace c36 := Bool.eq_false_iff.mpr c36
              subst c36
              have H1 : (some false) = some r := by rw [if_neg (show ¬ (false = true) by decide)] at H; exact H
              clear H
              have H := H1
              clear H1
              obtain rfl := Option.some.inj H
              go_wp2_with (first | ((with_reducible refine gate_callee (f := 11) rfl ?_); refine goesL_ (some 31) rfl rfl Try.func11 (by kernel_rfl) rfl #[] rfl (by (try simp only [List.map_toArray, List.map_cons, List.map_nil]); first | done | rfl | (simp only [List.length_drop, List.length_take]; rfl)) ?_; (with_reducible refine (masklaw2_faulty.calls kj20  false _ A35.out).mono ?_); rintro e w41 ⟨rfl, hb⟩; refine ⟨_, rfl, ?_⟩; have n0_ := Aside0.mk (Kd.R_below (by (with_reducible repeat (first | apply Kd.R_alloc | apply Kd.R_drewN | apply Kd.R_drew)); exact HO_7.out) hb); have n1_ := Aside0.mk (blk_below (g := gb486) (o := .cells #[.slice A0_0 l0_0.length c0_0, .slice A0_1 l0_1.length c0_1, .slice A0_2 l0_2.length c0_2, .slice A0_3 l0_3.length c0_3, .slice A0_4 l0_4.length c0_4] 27 (0, 0)) (by (with_reducible repeat (first | refine blk_drewN ?_ _ | refine blk_drew ?_ | refine blk_alloc ?_ _)); exact BK486.out) hb); have n2_ := Aside0.mk (blk_below (g := gb487) (o := .cells #[.int .i64 a1_0, .int .i64 a1_1, .bool a1_2] 29 (0, 0)) (by (with_reducible repeat (first | refine blk_drewN ?_ _ | refine blk_drew ?_ | refine blk_alloc ?_ _)); exact BK487.out) hb); have n3_ := Aside0.mk (below_step (by repeat (first | (with_reducible first | exact HB.out | apply below_alloc | apply pw_below_drewN | apply below_drew1 | refine below_set ?_ GE486.out | refine below_set ?_ GE487.out) | exact HB.out)) hb); clear HO_7; clear BK486; clear BK487; clear HB; have HO_7 := n0_; have BK486 := n1_; have BK487 := n2_; have HB := n3_; clear n0_ n1_ n2_ n3_; (try clear hb); (try clear hb2); (try clear hk); (try clear hi)))
              go_ret
              exact ⟨by first | rfl | (simp [errW_none, errW_some] <;> rfl) | (simp [*, errW_none, errW_some] <;> rfl), by repeat (first | (with_reducible first | exact HB.out | apply below_alloc | apply pw_below_drewN | apply below_drew1 | refine below_set ?_ GE486.out | refine below_set ?_ GE487.out) | exact HB.out)⟩
end Go.Proofs.Ytimjccfpobhpeaa.PF
namespace Go.Proofs.Ytimjccfpobhpeaa
open Go.RowKit Go.Proofs.YtimjccfpobhpeaaW.PrintWords Go.Proofs.Ytimjccfpobhpeaa.PF
set_option linter.unusedVariables false
set_option maxRecDepth 100000
theorem faultyE : masklaw2_faulty.f 60 = some true := by kernel_rfl
abbrev PatS := S55
theorem rdP_at {xs : List PatS} {i : Nat} {x : PatS} (h : xs[i]? = some x) : rd_T55 xs (i : Int) = x := by
  unfold rd_T55
  first
  | exact rdOf_at h
  | (have hi : i < xs.length := (List.getElem?_eq_some_iff.1 h).1
     simp [h])
section
variable {l0 l1 : List ByteArray} {l2 : List FlopS} {l3 : List GateS} {l4 : List Int}
def PatsOk (l0 : List ByteArray) (l2 : List FlopS) (l : List PatS) : Prop := ∀ p ∈ l, p.f0.length = l0.length ∧ p.f1.length = l2.length
theorem pats_l0 (l : List PatS) (hl : l.length ≤ 256) : ∀ (d i : Nat), i + d = l.length → ∃ e, (∀ k, d < k → fault_patterns.l0 k l l.length i l0 l1 l2 l3 l4 = some e ∧ maskref2_PatternFault.l0 k l l.length i l0 l1 l2 l3 l4 = some e) ∧ (e = 0 → ∀ j, i ≤ j → ∀ p, l[j]? = some p → p.f0.length = l0.length ∧ p.f1.length = l2.length)
  | 0, i, h => ⟨0, fun k hk => by
      obtain ⟨m, rfl⟩ : ∃ m, k = m + 1 := ⟨k - 1, by omega⟩
      rw [fault_patterns.l0, maskref2_PatternFault.l0, if_neg (by omega), if_neg (by omega)]
      exact ⟨rfl, rfl⟩, fun _ j hj p hp => by have := (List.getElem?_eq_some_iff.1 hp).1; omega⟩
  | d + 1, i, h => by
    obtain ⟨e, h1, h2⟩ := pats_l0 l hl d (i + 1) (by omega)
    obtain ⟨x, hx⟩ := at_ex (xs := l) (i := i) (by omega)
    have hw : wrap64 ((i : Int) + 1) = ((i + 1 : Nat) : Int) := by rw [wrap_id (by omega) (by omega)]; rfl
    by_cases c1 : (x.f0.length : Int) = (l0.length : Int)
    · by_cases c2 : (x.f1.length : Int) = (l2.length : Int)
      · refine ⟨e, fun k hk => ?_, fun he j hj p hp => ?_⟩
        · obtain ⟨m, rfl⟩ : ∃ m, k = m + 1 := ⟨k - 1, by omega⟩
          obtain ⟨g1, g2⟩ := h1 m (by omega)
          constructor
          · rw [fault_patterns.l0, if_pos (by omega), if_pos (by omega), if_pos (by omega), rdP_at hx, if_pos c1, if_pos c2, hw]
            exact g1
          · rw [maskref2_PatternFault.l0, if_pos (by omega), if_pos (by omega), if_pos (by omega), rdP_at hx, if_pos c1, if_pos c2, hw]
            exact g2
        · rcases Nat.lt_or_ge i j with hij | hij
          · exact h2 he j hij p hp
          · obtain rfl : i = j := by omega
            rw [hx] at hp
            cases hp
            exact ⟨by omega, by omega⟩
      · refine ⟨4, fun k hk => ?_, fun he => by cases he⟩
        obtain ⟨m, rfl⟩ : ∃ m, k = m + 1 := ⟨k - 1, by omega⟩
        constructor
        · rw [fault_patterns.l0, if_pos (by omega), if_pos (by omega), if_pos (by omega), rdP_at hx, if_pos c1, if_neg c2]
        · rw [maskref2_PatternFault.l0, if_pos (by omega), if_pos (by omega), if_pos (by omega), rdP_at hx, if_pos c1, if_neg c2]
    · refine ⟨4, fun k hk => ?_, fun he => by cases he⟩
      obtain ⟨m, rfl⟩ : ∃ m, k = m + 1 := ⟨k - 1, by omega⟩
      constructor
      · rw [fault_patterns.l0, if_pos (by omega), if_pos (by omega), if_pos (by omega), rdP_at hx, if_neg c1]
      · rw [maskref2_PatternFault.l0, if_pos (by omega), if_pos (by omega), if_pos (by omega), rdP_at hx, if_neg c1]
theorem pats_ex (l : List PatS) : ∃ e, (∀ k, 257 < k → fault_patterns.f k l0 l1 l2 l3 l4 l = some e ∧ maskref2_PatternFault.f k l0 l1 l2 l3 l4 l = some e) ∧ (e = 0 → l.length ≤ 256 ∧ PatsOk l0 l2 l) := by
  by_cases hl : (l.length : Int) > 256
  · exact ⟨3, fun k _ => by rw [fault_patterns.f, maskref2_PatternFault.f, if_pos hl, if_pos hl]; exact ⟨rfl, rfl⟩, fun h => by cases h⟩
  · obtain ⟨e, h1, h2⟩ := pats_l0 (l0 := l0) (l1 := l1) (l2 := l2) (l3 := l3) (l4 := l4) l (by omega) l.length 0 (by omega)
    refine ⟨e, fun k hk => ?_, fun he => ⟨by omega, fun p hp => ?_⟩⟩
    · rw [fault_patterns.f, maskref2_PatternFault.f, if_neg hl, if_neg hl]
      exact h1 k (by omega)
    · obtain ⟨j, hj⟩ := List.getElem?_of_mem hp
      exact h2 he j (Nat.zero_le _) p hj
theorem lanes_l2 (x4 : List Int) (x6 : Int) (h6 : 0 ≤ x6) (x20 : List PatS) (x21 x22 : Int) (N M : Nat) (x46 : List Bool) (hM : x46.length ≤ 1048576) (h46 : x46.length = M) (H : ∀ x5 : List Int, x5.length = M → ∃ k i s, fault_lanes.l0 k x4 x5 x20 x21 (wrap64 (x22 + 1)) = some (i, s) ∧ i.length = N ∧ s.length = M) :
    ∀ (d i : Nat) (x5 : List Int), i + d = x46.length → x5.length = M → ∃ k a s, fault_lanes.l2 k x4 x5 x6 x20 x21 x22 x46 x46.length i = some (a, s) ∧ a.length = N ∧ s.length = M
  | 0, i, x5, h, h5 => by
    obtain ⟨k, a, s, h1, h2⟩ := H x5 h5
    exact ⟨k + 1, a, s, by rw [fault_lanes.l2, if_neg (by omega)]; exact h1, h2⟩
  | d + 1, i, x5, h, h5 => by
    have hw : wrap64 ((i : Int) + 1) = ((i + 1 : Nat) : Int) := by rw [wrap_id (by omega) (by omega)]; rfl
    by_cases c : rdOf false x46 i = true
    · obtain ⟨k, a, s, h1, h2⟩ := lanes_l2 x4 x6 h6 x20 x21 x22 N M x46 hM h46 H d (i + 1) (x5.set (i : Int).toNat (Go.bits .or .u64 (rd x5 i) (shl .u64 1 x6))) (by omega) (by simpa using h5)
      exact ⟨k + 1, a, s, by rw [fault_lanes.l2, if_pos (by omega), if_pos (by omega), if_pos (by omega), if_pos c, if_pos (by omega), if_pos h6, hw]; exact h1, h2⟩
    · obtain ⟨k, a, s, h1, h2⟩ := lanes_l2 x4 x6 h6 x20 x21 x22 N M x46 hM h46 H d (i + 1) x5 (by omega) h5
      exact ⟨k + 1, a, s, by rw [fault_lanes.l2, if_pos (by omega), if_pos (by omega), if_pos (by omega), if_neg c, hw]; exact h1, h2⟩
theorem lanes_l1 (x6 : Int) (h6 : 0 ≤ x6) (x20 : List PatS) (x21 x22 : Int) (N M : Nat) (x28 y : List Bool) (hN : x28.length ≤ 1048576) (h28 : x28.length = N) (hM : y.length ≤ 1048576) (hy : y.length = M) (H : ∀ x4 x5 : List Int, x4.length = N → x5.length = M → ∃ k i s, fault_lanes.l0 k x4 x5 x20 x21 (wrap64 (x22 + 1)) = some (i, s) ∧ i.length = N ∧ s.length = M) :
    ∀ (d i : Nat) (x4 x5 : List Int), i + d = x28.length → x4.length = N → x5.length = M → ∃ k a s, fault_lanes.l1 k x4 x5 x6 x20 x21 x22 x28 x28.length i x28 y = some (a, s) ∧ a.length = N ∧ s.length = M
  | 0, i, x4, x5, h, h4, h5 => by
    obtain ⟨k, a, s, h1, h2⟩ := lanes_l2 x4 x6 h6 x20 x21 x22 N M y hM hy (fun x5' h5' => H x4 x5' h4 h5') y.length 0 x5 (by omega) h5
    exact ⟨k + 1, a, s, by rw [fault_lanes.l1, if_neg (by omega)]; exact h1, h2⟩
  | d + 1, i, x4, x5, h, h4, h5 => by
    have hw : wrap64 ((i : Int) + 1) = ((i + 1 : Nat) : Int) := by rw [wrap_id (by omega) (by omega)]; rfl
    by_cases c : rdOf false x28 i = true
    · obtain ⟨k, a, s, h1, h2⟩ := lanes_l1 x6 h6 x20 x21 x22 N M x28 y hN h28 hM hy H d (i + 1) (x4.set (i : Int).toNat (Go.bits .or .u64 (rd x4 i) (shl .u64 1 x6))) x5 (by omega) (by simpa using h4) h5
      exact ⟨k + 1, a, s, by rw [fault_lanes.l1, if_pos (by omega), if_pos (by omega), if_pos (by omega), if_pos c, if_pos (by omega), if_pos h6, hw]; exact h1, h2⟩
    · obtain ⟨k, a, s, h1, h2⟩ := lanes_l1 x6 h6 x20 x21 x22 N M x28 y hN h28 hM hy H d (i + 1) x4 x5 (by omega) h4 h5
      exact ⟨k + 1, a, s, by rw [fault_lanes.l1, if_pos (by omega), if_pos (by omega), if_pos (by omega), if_neg c, hw]; exact h1, h2⟩
theorem lanes_l0 (h0 : l0.length ≤ 1048576) (h2 : l2.length ≤ 1048576) (l : List PatS) (hl : l.length ≤ 256) (hp : PatsOk l0 l2 l) : ∀ (d i : Nat) (x4 x5 : List Int), i + d = l.length → x4.length = l0.length → x5.length = l2.length →
    ∃ k a s, fault_lanes.l0 k x4 x5 l l.length i = some (a, s) ∧ a.length = l0.length ∧ s.length = l2.length
  | 0, i, x4, x5, h, h4, h5 => ⟨1, x4, x5, by rw [fault_lanes.l0, if_neg (by omega)], h4, h5⟩
  | d + 1, i, x4, x5, h, h4, h5 => by
    obtain ⟨x, hx⟩ := at_ex (xs := l) (i := i) (by omega)
    have hw : wrap64 ((i : Int) + 1) = ((i + 1 : Nat) : Int) := by rw [wrap_id (by omega) (by omega)]; rfl
    obtain ⟨p1, p2⟩ := hp x (List.mem_of_getElem? hx)
    obtain ⟨k, a, s, g1, g2⟩ := lanes_l1 i (by omega) l l.length i l0.length l2.length x.f0 x.f1 (by omega) p1 (by omega) p2 (fun y4 y5 e4 e5 => by rw [hw]; exact lanes_l0 h0 h2 l hl hp d (i + 1) y4 y5 (by omega) e4 e5) x.f0.length 0 x4 x5 (by omega) h4 h5
    exact ⟨k + 1, a, s, by rw [fault_lanes.l0, if_pos (by omega), if_pos (by omega), if_pos (by omega), rdP_at hx]; exact g1, g2⟩
theorem lanes_ex (ok : FormOk l0 l1 l2 l3 l4) (l : List PatS) (hl : l.length ≤ 256) (hp : PatsOk l0 l2 l) : ∃ k a s, fault_lanes.f k l0 l1 l2 l3 l4 l = some (a, s) ∧ a.length = l0.length ∧ s.length = l2.length := by
  have b0 := ok.c0
  have b2 := ok.c2
  obtain ⟨k, a, s, h1, h2⟩ := lanes_l0 (by omega) (by omega) l hl hp l.length 0 (List.replicate l0.length 0) (List.replicate l2.length 0) (by omega) (by simp) (by simp)
  refine ⟨k, a, s, ?_, h2⟩
  rw [fault_lanes.f, if_pos (by omega), if_pos (by omega), if_pos (by omega), if_pos (by omega)]
  exact h1
theorem differ_l0 (a b : List Int) (ha : a.length ≤ 1048576) (hab : a.length = b.length) : ∀ (d i : Nat) (x5 : Int), i + d = a.length → ∃ r, ∀ k, d < k → fault_differ.l0 k a b x5 a.length i = some r
  | 0, i, x5, h => ⟨x5, fun k hk => by
      obtain ⟨m, rfl⟩ : ∃ m, k = m + 1 := ⟨k - 1, by omega⟩
      rw [fault_differ.l0, if_neg (by omega)]⟩
  | d + 1, i, x5, h => by
    have hw : wrap64 ((i : Int) + 1) = ((i + 1 : Nat) : Int) := by rw [wrap_id (by omega) (by omega)]; rfl
    obtain ⟨r, h1⟩ := differ_l0 a b ha hab d (i + 1) (Go.bits .or .u64 x5 (Go.bits .xor .u64 (rd a i) (rd b i))) (by omega)
    refine ⟨r, fun k hk => ?_⟩
    obtain ⟨m, rfl⟩ : ∃ m, k = m + 1 := ⟨k - 1, by omega⟩
    rw [fault_differ.l0, if_pos (by omega), if_pos (by omega), if_pos (by omega), if_pos (by omega), hw]
    exact h1 m (by omega)
theorem differ_ex (a b : List Int) (ha : a.length ≤ 1048576) (hab : a.length = b.length) : ∃ r, ∀ k, a.length < k → fault_differ.f k a b = some r := by
  obtain ⟨r, h⟩ := differ_l0 a b ha hab a.length 0 0 (by omega)
  exact ⟨r, fun k hk => h k hk⟩
theorem detWords_ex (ok : FormOk l0 l1 l2 l3 l4) {kF : Nat} (hF : netlist_Form.f kF l0 l1 l2 l3 l4 = some 0) {b2 : List FlopS} {b3 : List GateS} {b4 : List Int} (okb : FormOk l0 l1 b2 b3 b4) {kB : Nat} (hB : netlist_Form.f kB l0 l1 b2 b3 b4 = some 0) (e2 : b2.length = l2.length) (e4 : b4.length = l4.length)
    (l : List PatS) (hl : l.length ≤ 256) (hp : PatsOk l0 l2 l) : ∃ k m, detWords k l0 l1 l2 l3 l4 l0 l1 b2 b3 b4 l = some m := by
  obtain ⟨k1, a, s, h1, ha, hs⟩ := lanes_ex ok l hl hp
  obtain ⟨k2, o, n, h2, ho, hn⟩ := words_ex ok hF a s ha hs
  obtain ⟨k3, o', n', h3, ho', hn'⟩ := words_ex okb hB a s ha (by rw [hs, e2])
  have b2' := ok.c2
  have b4' := ok.c1
  have b5' := ok.c4
  obtain ⟨m1, h4⟩ := differ_ex o o' (by omega) (by omega)
  obtain ⟨m2, h5⟩ := differ_ex n n' (by omega) (by omega)
  refine ⟨k1 + k2 + k3 + o.length + n.length + 1, (m1, m2), ?_⟩
  unfold detWords
  rw [upK (fault_lanes.mono l0 l1 l2 l3 l4 l) (by omega) h1, Option.bind_some]
  show ((netlist_Words.f _ l0 l1 l2 l3 l4 a s).bind _) = _
  rw [upK (netlist_Words.mono l0 l1 l2 l3 l4 a s) (by omega) h2, Option.bind_some, if_pos rfl]
  show ((netlist_Words.f _ l0 l1 b2 b3 b4 a s).bind _) = _
  rw [upK (netlist_Words.mono l0 l1 b2 b3 b4 a s) (by omega) h3, Option.bind_some, if_pos rfl]
  show ((fault_differ.f _ o o').bind fun m1 => (fault_differ.f _ n n').bind fun m2 => some (m1, m2)) = _
  rw [h4 _ (by omega), Option.bind_some, h5 _ (by omega), Option.bind_some]
theorem detRows_ex {g : Nat → List PatS → Option (Int × Int)} (hg : ∀ k xs, LeO (g k xs) (g (k + 1) xs)) {l : List PatS} (h : ∀ j, ∃ k m, g k (chunkOf l j) = some m) : ∀ (d j : Nat), j + d = chunksN l.length → ∃ k out, detRows (g k) l d j = some out ∧ out.length = l.length - j * 64
  | 0, j, hj => ⟨0, [], rfl, by unfold chunksN at hj; simp; omega⟩
  | d + 1, j, hj => by
    obtain ⟨k1, m, h1⟩ := h j
    obtain ⟨k2, out, h2, h3⟩ := detRows_ex hg h d (j + 1) (by omega)
    refine ⟨k1 + k2, detBits m (chunkOf l j).length ++ out, ?_, ?_⟩
    · unfold detRows
      rw [upK (fun k => hg k _) (show k1 ≤ k1 + k2 by omega) h1, Option.bind_some, upK (f := fun k => detRows (g k) l d (j + 1)) (fun k => detRows_le (hg k) l d (j + 1)) (show k2 ≤ k1 + k2 by omega) h2, Option.bind_some]
    · rw [List.length_append, h3, chunkOf_len]
      simp only [detBits, List.length_map, List.length_range]
      unfold chunksN at hj
      omega
end
section
variable (l0 l1 : List ByteArray) (l2 : List FlopS) (l3 : List GateS) (l4 : List Int) (a b : Int) (c : Bool) (l : List PatS)
theorem detects_cases : ∃ K e, (∀ k, K ≤ k → netlist_Form.f k l0 l1 l2 l3 l4 = some e) ∧ (e ≠ 0 → ∀ k, K ≤ k → fault_Detects.f k l0 l1 l2 l3 l4 a b c l = some ([], e)) ∧
    (e = 0 → ∃ e2, (∀ k, K ≤ k → maskref2_FaultFault.f k l0 l1 l2 l3 l4 a b c = some e2) ∧ (e2 ≠ 0 → ∀ k, K ≤ k → fault_Detects.f k l0 l1 l2 l3 l4 a b c l = some ([], e2)) ∧
      (e2 = 0 → ∃ e3, (∀ k, K ≤ k → maskref2_PatternFault.f k l0 l1 l2 l3 l4 l = some e3) ∧ (e3 ≠ 0 → ∀ k, K ≤ k → fault_Detects.f k l0 l1 l2 l3 l4 a b c l = some ([], e3)) ∧
        (e3 = 0 → ∃ out, (∀ k, K ≤ k → fault_Detects.f k l0 l1 l2 l3 l4 a b c l = some (out, 0)) ∧ out.length = l.length))) := by
  obtain ⟨K, e, hF, hI, h0⟩ := inject_cases l0 l1 l2 l3 l4 a b c
  by_cases he : e = 0
  · subst he
    obtain ⟨ok, hL, e2, hFF, hC, hI2, hI0⟩ := h0 rfl
    obtain ⟨e3, hP, hP0⟩ := pats_ex (l0 := l0) (l1 := l1) (l2 := l2) (l3 := l3) (l4 := l4) l
    by_cases h2 : e2 = 0
    · subst h2
      obtain ⟨a0, a1, hI0⟩ := hI0 rfl
      by_cases h3 : e3 = 0
      · subst h3
        obtain ⟨p1, p2⟩ := hP0 rfl
        have nm := (form_nm (hF K (Nat.le_refl K))).2
        obtain ⟨okb, nmb⟩ := br_form (newv_ok a b c (numsOf l0 l2 l3 l4)) ok nm
        obtain ⟨kB, hB⟩ := form_zero _ _ _ _ _ okb nmb
        obtain ⟨kD, out, hD, hDl⟩ := detRows_ex (g := fun k => detWords k l0 l1 l2 l3 l4 l0 l1 (brFlops (nvOf l0 l2 l3 l4 a b c) l2 0) (brGates (nvOf l0 l2 l3 l4 a b c) l3 0) (brOuts (nvOf l0 l2 l3 l4 a b c) l4 0)) (fun k xs => detWords_le k _ _ _ _ _ _ _ _ _ _ xs) (l := l)
          (fun j => detWords_ex ok (hF K (Nat.le_refl K)) okb hB (brFlops_len _ _ _) (brOuts_len _ _ _) (chunkOf l j) (by rw [chunkOf_len]; omega) (fun p hp => p2 p (List.mem_of_mem_drop (List.mem_of_mem_take hp)))) (chunksN l.length) 0 (by omega)
        refine ⟨K + 258 + kD, 0, fun k hk => hF k (by omega), fun h => absurd rfl h, fun _ => ⟨0, fun k hk => hFF k (by omega), fun h => absurd rfl h, fun _ => ⟨0, fun k hk => (hP k (by omega)).2, fun h => absurd rfl h, fun _ => ⟨out, fun k hk => ?_, by omega⟩⟩⟩⟩
        unfold fault_Detects.f
        rw [hI0 k (by omega), Option.bind_some, if_pos rfl, (hP k (by omega)).1, Option.bind_some, if_pos rfl]
        have h9 := upK (f := fun k => detRows (detWords k l0 l1 l2 l3 l4 l0 l1 (brFlops (nvOf l0 l2 l3 l4 a b c) l2 0) (brGates (nvOf l0 l2 l3 l4 a b c) l3 0) (brOuts (nvOf l0 l2 l3 l4 a b c) l4 0)) l (chunksN l.length) 0) (fun k => detRows_le (fun xs => detWords_le k _ _ _ _ _ _ _ _ _ _ xs) _ _ _) (show kD ≤ k by omega) hD
        show ((detRows (detWords k l0 l1 l2 l3 l4 l0 l1 (brFlops (nvOf l0 l2 l3 l4 a b c) l2 0) (brGates (nvOf l0 l2 l3 l4 a b c) l3 0) (brOuts (nvOf l0 l2 l3 l4 a b c) l4 0)) l (chunksN l.length) 0).bind _) = _
        rw [h9, Option.bind_some]
      · refine ⟨K + 258, 0, fun k hk => hF k (by omega), fun h => absurd rfl h, fun _ => ⟨0, fun k hk => hFF k (by omega), fun h => absurd rfl h, fun _ => ⟨e3, fun k hk => (hP k (by omega)).2, fun h k hk => ?_, fun h => absurd h h3⟩⟩⟩
        unfold fault_Detects.f
        rw [hI0 k (by omega), Option.bind_some, if_pos rfl, (hP k (by omega)).1, Option.bind_some, if_neg h3]
    · refine ⟨K, 0, hF, fun h => absurd rfl h, fun _ => ⟨e2, hFF, fun h k hk => ?_, fun h => absurd h h2⟩⟩
      unfold fault_Detects.f
      rw [hI2 h2 k hk, Option.bind_some, if_neg h2]
  · refine ⟨K, e, hF, fun _ k hk => ?_, fun h => absurd h he⟩
    unfold fault_Detects.f
    rw [hI he k hk, Option.bind_some, if_neg he]
theorem j1_err {k : Nat} (hf : masklaw2_faulty.f k = some true) {e : Int} (he : ¬ e = 0) : masklaw2_FaultErrors.j1 (k + 1) l [] e e = some true := by
  rw [masklaw2_FaultErrors.j1, if_neg he, hf, Option.bind_some, if_pos rfl, if_pos rfl]
  rfl
theorem errors_true : ∃ k, masklaw2_FaultErrors.f k l0 l1 l2 l3 l4 a b c l = some true := by
  obtain ⟨K, e, hF, hD, h0⟩ := detects_cases l0 l1 l2 l3 l4 a b c l
  have hf : ∀ k, 60 ≤ k → masklaw2_faulty.f k = some true := fun k hk => upK masklaw2_faulty.mono hk faultyE
  refine ⟨K + 60 + 2, ?_⟩
  rw [masklaw2_FaultErrors.f]
  by_cases he : e = 0
  · subst he
    obtain ⟨e2, hFF, hD2, h0⟩ := h0 rfl
    by_cases h2 : e2 = 0
    · subst h2
      obtain ⟨e3, hP, hD3, h0⟩ := h0 rfl
      by_cases h3 : e3 = 0
      · subst h3
        obtain ⟨out, ho, hl⟩ := h0 rfl
        rw [ho _ (by omega), Option.bind_some, hF _ (by omega), Option.bind_some, if_pos rfl, hFF _ (by omega), Option.bind_some, masklaw2_FaultErrors.j0, if_pos rfl, hP _ (by omega), Option.bind_some, masklaw2_FaultErrors.j1, if_pos rfl, hf _ (by omega), Option.bind_some, if_pos rfl, if_pos rfl]
        show some ((out.length : Int) == (l.length : Int)) = some true
        rw [hl]
        simp
      · rw [hD3 h3 _ (by omega), Option.bind_some, hF _ (by omega), Option.bind_some, if_pos rfl, hFF _ (by omega), Option.bind_some, masklaw2_FaultErrors.j0, if_pos rfl, hP _ (by omega), Option.bind_some]
        exact j1_err l (hf _ (by omega)) h3
    · rw [hD2 h2 _ (by omega), Option.bind_some, hF _ (by omega), Option.bind_some, if_pos rfl, hFF _ (by omega), Option.bind_some, masklaw2_FaultErrors.j0, if_neg h2]
      exact j1_err l (hf _ (by omega)) h2
  · rw [hD he _ (by omega), Option.bind_some, hF _ (by omega), Option.bind_some, if_neg he, masklaw2_FaultErrors.j0, if_neg he]
    exact j1_err l (hf _ (by omega)) he
end
end Go.Proofs.Ytimjccfpobhpeaa
namespace Go.Proofs.Ytimjccfpobhpeaa
open Go.RowKit Go.ChangeShapes Go.WideShapes Go.ChangeAt
def Light {H : Type} (P : Program) (t : TypeId) (d : DataW H) : Prop := ∀ n ∈ d.weights P t, n ≤ reachBytes
theorem light_each {H : Type} {P : Program} : ∀ {ts : List TypeId} {ds : List (DataW H)}, (∀ n ∈ DataW.weightsEach P ts ds, n ≤ reachBytes) → ∀ {j : Nat} {t : TypeId} {d : DataW H}, ts[j]? = some t → ds[j]? = some d → Light P t d :=
  fun h _ _ _ ht hd n hn => h n (DataW.weights_mem_each ht hd n hn)
theorem light_all {H : Type} {P : Program} {e : TypeId} : ∀ {ds : List (DataW H)}, (∀ n ∈ DataW.weightsAll P e ds, n ≤ reachBytes) → ∀ d ∈ ds, Light P e d
  | [], _, d, hd => by simp at hd
  | d0 :: ds, h, d, hd => by
    simp only [DataW.weightsAll, List.mem_append] at h
    rcases List.mem_cons.1 hd with rfl | hd
    · exact fun n hn => h n (.inl hn)
    · exact light_all (fun n hn => h n (.inr hn)) d hd
structure Opens {α : Type} (P : Program) (d : Rep α) (t : TypeId) (W : α → Prop) : Prop where
  cells : P.cellsOf t = d.sz
  opens : ∀ {H : Type} (enc : TypeId × Value → H) (w : World) (n : Nat) (cs : List Value) (y : DataW H × List MemPlace),
    DataW.trod enc P w 0 (fun _ => true) true n t cs = some y → Light P t y.1 → ∃ x, d.rel w (fun k => k < w.heap.size) x cs ∧ W x
theorem Opens.int {P : Program} {t : TypeId} {k : IntKind} (u : P.underlying t = some (.int k)) (hc : P.cellsOf t = 1) : Opens P (Rep.int k) t (fun _ => True) :=
  ⟨hc, fun enc w n cs y h _ => by
    obtain ⟨m, rfl, rfl, hw⟩ := DataW.trod_int u h
    refine ⟨m, ⟨rfl, ?_⟩, trivial⟩
    simpa [Lit.wf, InK] using hw⟩
theorem Opens.bool {P : Program} {t : TypeId} (u : P.underlying t = some .bool) (hc : P.cellsOf t = 1) : Opens P Rep.bool t (fun _ => True) :=
  ⟨hc, fun enc w n cs y h _ => by
    cases n with
    | zero => simp [DataW.trod] at h
    | succ m =>
      unfold DataW.trod at h
      rw [u] at h
      split at h <;> try (simp at *; done)
      rename_i b _
      exact ⟨b, ⟨rfl, trivial⟩, trivial⟩⟩
theorem Opens.str {P : Program} {t : TypeId} (u : P.underlying t = some .string) (hc : P.cellsOf t = 1) : Opens P Rep.str t (fun x => x.size ≤ reachBytes) :=
  ⟨hc, fun enc w n cs y h hl => by
    cases n with
    | zero => simp [DataW.trod] at h
    | succ m =>
      unfold DataW.trod at h
      rw [u] at h
      split at h <;> try (simp at *; done)
      rename_i s _
      simp only [Option.ite_none_right_eq_some, Option.some.injEq] at h
      obtain ⟨hm, rfl⟩ := h
      refine ⟨s, ⟨rfl, by simpa [maxLen] using hm⟩, ?_⟩
      have := hl s.data.toList.length (by simp [DataW.weights])
      simpa using this⟩
theorem Opens.iso {α β : Type} {P : Program} {d : Rep α} {f : β → α} {t : TypeId} {W : α → Prop} (h : Opens P d t W) (hf : ∀ x, ∃ y, f y = x) : Opens P (Rep.iso d f) t (fun y => W (f y)) :=
  ⟨h.cells, fun enc w n cs y ht hl => by
    obtain ⟨x, hr, hW⟩ := h.opens enc w n cs y ht hl
    obtain ⟨z, rfl⟩ := hf x
    exact ⟨z, hr, hW⟩⟩
def OpensF {α : Type} (P : Program) (d : Rep α) (fs : List Field) (o : Nat) (W : α → Prop) : Prop :=
  ∀ {H : Type} (enc : TypeId × Value → H) (w : World) (n : Nat) (cs : List Value) (ys : List (DataW H × List MemPlace)), ys.length = fs.length →
    (∀ (i : Nat) (f : Field), fs[i]? = some f → DataW.trod enc P w 0 (fun _ => true) true n f.type ((cs.drop f.offset).take (P.cellsOf f.type)) = ys[i]?) →
    (∀ m ∈ DataW.weightsEach P (fs.map (·.type)) (ys.map (·.1)), m ≤ reachBytes) → ∃ x, d.rel w (fun k => k < w.heap.size) x ((cs.drop o).take d.sz) ∧ W x
theorem OpensF.one {α : Type} {P : Program} {d : Rep α} {f : Field} {o : Nat} {W : α → Prop} (h : Opens P d f.type W) (ho : f.offset = o) : OpensF P d [f] o W := by
  intro H enc w n cs ys hl ht hw
  subst ho
  have h0 := ht 0 f rfl
  rw [h.cells] at h0
  have hl0 : 0 < ys.length := by simp [hl]
  have hy : ys[0]? = some ys[0] := List.getElem?_eq_getElem hl0
  rw [hy] at h0
  exact h.opens enc w n _ _ h0 (light_each hw (j := 0) (t := f.type) (d := ys[0].1) rfl (by rw [List.getElem?_map, hy]; rfl))
theorem OpensF.pair {α β : Type} {P : Program} {a : Rep α} {b : Rep β} {f : Field} {fs : List Field} {o : Nat} {W : α → Prop} {V : β → Prop} (h : Opens P a f.type W) (ho : f.offset = o) (hs : OpensF P b fs (o + a.sz) V) :
    OpensF P (Rep.pair a b) (f :: fs) o (fun x => W x.1 ∧ V x.2) := by
  intro H enc w n cs ys hl ht hw
  subst ho
  match ys, hl with
  | y :: ys, hl =>
    have h0 := ht 0 f rfl
    rw [h.cells] at h0
    obtain ⟨x, hx, hW⟩ := h.opens enc w n _ y h0 (light_each hw (j := 0) rfl rfl)
    simp only [List.map_cons, DataW.weightsEach, List.mem_append] at hw
    obtain ⟨z, hz, hV⟩ := hs enc w n cs ys (by simpa using hl) (fun i g hg => by simpa using ht (i + 1) g (by simpa using hg)) (fun m hm => hw m (.inr hm))
    refine ⟨(x, z), ⟨_, _, ?_, hx, hz⟩, hW, hV⟩
    show (cs.drop f.offset).take (a.sz + b.sz) = _
    rw [List.take_add, List.drop_drop]
theorem Opens.struct {α : Type} {P : Program} {d : Rep α} {t : TypeId} {fs : Array Field} {W : α → Prop} (u : P.underlying t = some (.struct fs)) (hc : P.cellsOf t = d.sz) (h : OpensF P d fs.toList 0 W) : Opens P d t W :=
  ⟨hc, fun enc w n cs y ht hl => by
    obtain ⟨xs, m, rfl, rfl, hcl, hxl, hf⟩ := DataW.trod_struct u ht
    obtain ⟨x, hx, hW⟩ := h enc w m cs xs (by simpa using hxl) (fun i f hi => hf i f (by simpa using hi)) (by
      intro k hk
      refine hl k ?_
      simp only [DataW.weights, u]
      exact hk)
    refine ⟨x, ?_, hW⟩
    rw [List.drop_zero, List.take_of_length_le (by omega)] at hx
    exact hx⟩
theorem choose_list {α : Type} (n : Nat) (Q : Nat → α → Prop) (h : ∀ i, i < n → ∃ x, Q i x) : ∃ xs : List α, xs.length = n ∧ ∀ i x, xs[i]? = some x → Q i x := by
  induction n with
  | zero => exact ⟨[], rfl, fun i x h => by simp at h⟩
  | succ n ih =>
    obtain ⟨xs, hl, hq⟩ := ih (fun i hi => h i (by omega))
    obtain ⟨x, hx⟩ := h n (by omega)
    refine ⟨xs ++ [x], by simp [hl], fun i y hy => ?_⟩
    rcases Nat.lt_trichotomy i xs.length with hi | rfl | hi
    · rw [List.getElem?_append_left hi] at hy; exact hq i y hy
    · simp at hy; subst hy; rw [hl]; exact hx
    · rw [List.getElem?_eq_none (by simp; omega)] at hy; simp at hy
theorem Opens.slice {α : Type} {P : Program} {d : Rep α} {t e : TypeId} {W : α → Prop} (h : Opens P d e W) (u : P.underlying t = some (.slice e)) (hc : P.cellsOf t = 1) (hz : 0 < d.sz) (B : Nat) (hB : P.bytesOf e = B) :
    Opens P (Rep.slice d) t (fun xs => xs.length * B ≤ reachBytes ∧ ∀ x ∈ xs, W x) :=
  ⟨hc, fun enc w n cs y ht hl => by
    rcases DataW.trod_slice u ht with ⟨rfl, rfl⟩ | ⟨a, len, cap, elems, rest, m, rfl, rfl, rfl, hb, hlc, hm, hlen, hel, hsp, hns⟩
    · exact ⟨[], ⟨none, 0, rfl, Rep.Sl.empty d w _⟩, by simp, by simp⟩
    have hl2 : ∀ n ∈ DataW.weightsAll P e (elems.map (·.1)), n ≤ reachBytes := fun n hn => hl n (by
      simp only [DataW.weights, u, List.mem_cons, List.mem_append]
      exact .inr (.inl hn))
    have hplain : 0 < len → ∃ b o, a = ⟨b, o, none⟩ := by
      intro h0
      have h1 := hel 0 h0
      have hy : elems[0]? = some (elems[0]'(by omega)) := List.getElem?_eq_getElem (by omega)
      rw [hy, h.cells, Option.bind_eq_some_iff] at h1
      obtain ⟨cs, hcs, h2⟩ := h1
      obtain ⟨_, hcl, hce⟩ := World.cells?_some hcs
      have hc0 := hce 0 hz
      obtain ⟨v, hv⟩ : ∃ v, cs[0]? = some v := ⟨cs[0]'(by omega), List.getElem?_eq_getElem (by omega)⟩
      rw [hv] at hc0
      obtain ⟨b, o, spot⟩ := a
      have h9 := World.cell?_spot hc0
      have hspot : spot = none := by simpa [Addr.add] using h9
      exact ⟨b, o, by rw [hspot]⟩
    have key : ∀ i, i < len → ∃ x, (∃ b o, a = ⟨b, o, none⟩ ∧ b < w.heap.size ∧ ∃ cs, d.rel w (fun k => k < w.heap.size) x cs ∧ CellsAt w b (o + i * d.sz) cs) ∧ W x := by
      intro i hi
      have h1 := hel i hi
      have hy : elems[i]? = some elems[i] := List.getElem?_eq_getElem (by omega)
      rw [hy, h.cells, Option.bind_eq_some_iff] at h1
      obtain ⟨cs, hcs, h2⟩ := h1
      obtain ⟨x, hx, hW⟩ := h.opens enc w m cs _ h2 (light_all hl2 _ (List.mem_map.2 ⟨_, List.mem_of_getElem? hy, rfl⟩))
      obtain ⟨_, hcl, hce⟩ := World.cells?_some hcs
      have hc0 := hce 0 hz
      obtain ⟨b, o, rfl⟩ := hplain (by omega)
      obtain ⟨v, hv⟩ : ∃ v, cs[0]? = some v := ⟨cs[0]'(by omega), List.getElem?_eq_getElem (by omega)⟩
      rw [hv] at hc0
      rw [add_plain] at hc0 hce
      refine ⟨x, ⟨b, o, rfl, ?_, cs, hx, ?_⟩, hW⟩
      · have := block_lt_of_cell hc0
        rw [add_plain] at this
        exact this
      · intro j v hv
        have hj : j < d.sz := by rw [← hcl]; exact (List.getElem?_eq_some_iff.1 hv).1
        rw [← hv, ← hce j hj, add_plain]
    obtain ⟨xs, hxl, hq⟩ := choose_list len _ key
    refine ⟨xs, ⟨some a, cap, by rw [hxl], ⟨by omega, by simpa [maxLen] using hm, by simp, ?_⟩⟩, ?_, ?_⟩
    · intro i x hx
      obtain ⟨⟨b, o, rfl, hbl, cs, hr, hca⟩, _⟩ := hq i x hx
      exact ⟨b, o, cs, rfl, hbl, hbl, hr, hca⟩
    · have := hl ((elems.length + rest.length) * P.bytesOf e) (by simp [DataW.weights, u])
      rw [hB] at this
      rw [hxl, ← hlen]
      exact Nat.le_trans (Nat.mul_le_mul_right _ (by omega)) this
    · intro x hx
      obtain ⟨i, hi⟩ := List.getElem?_of_mem hx
      exact (hq i x hi).2⟩
end Go.Proofs.Ytimjccfpobhpeaa
namespace Go.Proofs.Ytimjccfpobhpeaa
open Go.RowKit Go.ChangeShapes Go.WideShapes Go.ChangeAt
open Go.Proofs.YtimjccfpobhpeaaW.PrintWords (Kd)
open Go.Proofs.Ytimjccfpobhpeaa.PF
set_option maxRecDepth 100000
structure KR {α : Type} (d : Rep α) (k : Kd α) : Prop where
  sz : d.sz = k.sz
  tok : ∀ {w : World} {F : Nat → Prop} {x : α} {cs : List Value}, d.rel w F x cs → k.K w x cs
theorem KR.C {α : Type} {d : Rep α} {k : Kd α} (h : KR d k) {w : World} {F : Nat → Prop} {A : Option Addr} {c : Nat} {xs : List α} (hs : Rep.Sl d w F A c xs) : Kd.C k w A xs.length xs ∧ xs.length ≤ c := by
  refine ⟨⟨rfl, by have := hs.len; omega, fun hn => ?_⟩, hs.le⟩
  obtain ⟨b, o, rfl, _⟩ := hs.row.head hn
  refine ⟨⟨b, o, none⟩, rfl, fun j p hp => ?_⟩
  obtain ⟨b', o', cs, hA, _, _, hr, hc⟩ := hs.row j p hp
  simp only [Option.some.injEq, Addr.mk.injEq, and_true] at hA
  obtain ⟨rfl, rfl⟩ := hA
  refine ⟨cs, by rw [d.len hr, h.sz], h.tok hr, fun i u hu => ?_⟩
  rw [Addr.add_lit, ← h.sz, show o + (j * d.sz + i) = o + j * d.sz + i by omega]
  exact hc i u hu
theorem KR.int (k : IntKind) : KR (Rep.int k) (Kd.int k) := ⟨rfl, fun h => h.1⟩
theorem KR.bool : KR Rep.bool Kd.bool := ⟨rfl, fun h => h.1⟩
theorem KR.str : KR Rep.str Kd.string := ⟨rfl, fun h => h.1⟩
theorem KR.slice {α : Type} {d : Rep α} {k : Kd α} (h : KR d k) (e : Nat) : KR (Rep.slice d) (Kd.slice e k) := ⟨rfl, by
  rintro w F x cs ⟨A, c, rfl, hs⟩
  exact ⟨A, c, rfl, (h.C hs).2, (h.C hs).1⟩⟩
theorem KR.pair {α β : Type} {a : Rep α} {b : Rep β} {ka : Kd α} {kb : Kd β} (h : KR a ka) (h2 : KR b kb) : KR (Rep.pair a b) (Kd.pair ka kb) := ⟨by show a.sz + b.sz = ka.sz + kb.sz; rw [h.sz, h2.sz], by
  rintro w F x cs ⟨c0, c1, rfl, h0, h1⟩
  exact ⟨c0, c1, rfl, h.tok h0, h2.tok h1⟩⟩
theorem KR.iso {α β : Type} {d : Rep α} {k : Kd α} (h : KR d k) (f : β → α) : KR (Rep.iso d f) (Kd.iso k f) := ⟨h.sz, fun hr => h.tok hr⟩
theorem opens_int : Opens Try.prog (Rep.int .i64) 3 (fun _ => True) := Opens.int Try.underlying3 (by kernel_rfl)
theorem opens_u64 : Opens Try.prog (Rep.int .u64) 78 (fun _ => True) := Opens.int Try.underlying78 (by kernel_rfl)
theorem opens_bool : Opens Try.prog Rep.bool 4 (fun _ => True) := Opens.bool Try.underlying4 (by kernel_rfl)
theorem opens_str : Opens Try.prog Rep.str 9 (fun x => x.size ≤ reachBytes) := Opens.str Try.underlying9 (by kernel_rfl)
theorem opens_ints : Opens Try.prog (Rep.slice (Rep.int .i64)) 25 (fun xs => xs.length * 8 ≤ reachBytes ∧ ∀ x ∈ xs, True) := opens_int.slice Try.underlying25 (by kernel_rfl) (by decide) 8 (by kernel_rfl)
theorem opens_strs : Opens Try.prog (Rep.slice Rep.str) 22 (fun xs => xs.length * 16 ≤ reachBytes ∧ ∀ x ∈ xs, x.size ≤ reachBytes) := opens_str.slice Try.underlying22 (by kernel_rfl) (by decide) 16 (by kernel_rfl)
def rFlop : Rep S82 := Rep.iso (Rep.pair Rep.str (Rep.pair (Rep.int .i64) (Rep.pair (Rep.int .i64) (Rep.pair (Rep.int .i64) Rep.bool)))) (fun x : S82 => (x.f0, x.f1, x.f2, x.f3, x.f4))
def rGate : Rep S80 := Rep.iso (Rep.pair (Rep.int .i64) (Rep.pair (Rep.int .u64) (Rep.slice (Rep.int .i64)))) (fun x : S80 => (x.f0, x.f1, x.f2))
theorem kr_flop : KR rFlop k82 := KR.iso (KR.pair KR.str (KR.pair (KR.int .i64) (KR.pair (KR.int .i64) (KR.pair (KR.int .i64) KR.bool)))) _
theorem kr_gate : KR rGate k80 := KR.iso (KR.pair (KR.int .i64) (KR.pair (KR.int .u64) (KR.slice (KR.int .i64) 3))) _
theorem opens_flop : ∃ W, Opens Try.prog rFlop 82 W :=
  ⟨_, (Opens.struct (d := Rep.pair Rep.str (Rep.pair (Rep.int .i64) (Rep.pair (Rep.int .i64) (Rep.pair (Rep.int .i64) Rep.bool)))) Try.underlying82 (by kernel_rfl) (OpensF.pair opens_str rfl (OpensF.pair opens_int rfl (OpensF.pair opens_int rfl (OpensF.pair opens_int rfl (OpensF.one opens_bool rfl)))))).iso (fun x => ⟨⟨x.1, x.2.1, x.2.2.1, x.2.2.2.1, x.2.2.2.2⟩, rfl⟩)⟩
theorem opens_gate : ∃ W, Opens Try.prog rGate 80 W :=
  ⟨_, (Opens.struct (d := Rep.pair (Rep.int .i64) (Rep.pair (Rep.int .u64) (Rep.slice (Rep.int .i64)))) Try.underlying80 (by kernel_rfl) (OpensF.pair opens_int rfl (OpensF.pair opens_u64 rfl (OpensF.one opens_ints rfl)))).iso (fun x => ⟨⟨x.1, x.2.1, x.2.2⟩, rfl⟩)⟩
theorem opens_net : ∃ W, Opens Try.prog (Rep.pair (Rep.slice Rep.str) (Rep.pair (Rep.slice Rep.str) (Rep.pair (Rep.slice rFlop) (Rep.pair (Rep.slice rGate) (Rep.slice (Rep.int .i64)))))) 27 W := by
  obtain ⟨W1, h1⟩ := opens_flop
  obtain ⟨W2, h2⟩ := opens_gate
  have h3 := h1.slice Try.underlying23 (by kernel_rfl) (by decide) 48 (by kernel_rfl)
  have h4 := h2.slice Try.underlying24 (by kernel_rfl) (by decide) 40 (by kernel_rfl)
  exact ⟨_, Opens.struct Try.underlying27 (by kernel_rfl) (OpensF.pair opens_strs rfl (OpensF.pair opens_strs rfl (OpensF.pair h3 rfl (OpensF.pair h4 rfl (OpensF.one opens_ints rfl)))))⟩
theorem opens_fault : ∃ W, Opens Try.prog (Rep.pair (Rep.int .i64) (Rep.pair (Rep.int .i64) Rep.bool)) 29 W :=
  ⟨_, Opens.struct Try.underlying29 (by kernel_rfl) (OpensF.pair opens_int rfl (OpensF.pair opens_int rfl (OpensF.one opens_bool rfl)))⟩
theorem arg_net {H : Type} {enc : TypeId × Value → H} {w : World} {r : Reach} {b : Nat} {v : Value} {d : DataW H} {p : List MemPlace} (hv : Value.okWide Try.prog w r b 27 v)
    (h : DataW.Trod enc Try.prog w 0 (fun _ => true) true 27 v d p) (hl : Light Try.prog 27 d) :
    ∃ (A0 A1 A2 A3 A4 : Option Addr) (c0 c1 c2 c3 c4 : Nat) (l0 l1 : List ByteArray) (l2 : List S82) (l3 : List S80) (l4 : List Int), v = .agg #[.slice A0 l0.length c0, .slice A1 l1.length c1, .slice A2 l2.length c2, .slice A3 l3.length c3, .slice A4 l4.length c4] ∧
      (Kd.C Kd.string w A0 l0.length l0 ∧ l0.length ≤ c0) ∧ (Kd.C Kd.string w A1 l1.length l1 ∧ l1.length ≤ c1) ∧ (Kd.C k82 w A2 l2.length l2 ∧ l2.length ≤ c2) ∧ (Kd.C k80 w A3 l3.length l3 ∧ l3.length ≤ c3) ∧ Kd.C (Kd.int .i64) w A4 l4.length l4 ∧ l4.length ≤ c4 := by
  obtain ⟨cs, rfl, _⟩ := okWide_struct Try.underlying27 hv
  obtain ⟨n, hf⟩ := h
  obtain ⟨W, hO⟩ := opens_net
  obtain ⟨x, hx, _⟩ := hO.opens enc w n _ _ hf hl
  obtain ⟨_, _, hc, ⟨A0, c0, rfl, s0⟩, _, _, rfl, ⟨A1, c1, rfl, s1⟩, _, _, rfl, ⟨A2, c2, rfl, s2⟩, _, _, rfl, ⟨A3, c3, rfl, s3⟩, ⟨A4, c4, rfl, s4⟩⟩ := hx
  refine ⟨A0, A1, A2, A3, A4, c0, c1, c2, c3, c4, _, _, _, _, _, ?_, KR.str.C s0, KR.str.C s1, kr_flop.C s2, kr_gate.C s3, (KR.int .i64).C s4⟩
  obtain ⟨cs⟩ := cs
  simp only [Value.cells] at hc
  rw [hc]
  rfl
theorem arg_fault {H : Type} {enc : TypeId × Value → H} {w : World} {r : Reach} {b : Nat} {v : Value} {d : DataW H} {p : List MemPlace} (hv : Value.okWide Try.prog w r b 29 v)
    (h : DataW.Trod enc Try.prog w 0 (fun _ => true) true 29 v d p) (hl : Light Try.prog 29 d) :
    ∃ (x y : Int) (z : Bool), v = .agg #[.int .i64 x, .int .i64 y, .bool z] := by
  obtain ⟨cs, rfl, _⟩ := okWide_struct Try.underlying29 hv
  obtain ⟨n, hf⟩ := h
  obtain ⟨W, hO⟩ := opens_fault
  obtain ⟨x, hx, _⟩ := hO.opens enc w n _ _ hf hl
  obtain ⟨_, _, hc, ⟨rfl, _⟩, _, _, rfl, ⟨rfl, _⟩, ⟨rfl, _⟩⟩ := hx
  refine ⟨x.1, x.2.1, x.2.2, ?_⟩
  obtain ⟨cs⟩ := cs
  simp only [Value.cells] at hc
  rw [hc]
  rfl
theorem opens_bools : Opens Try.prog (Rep.slice Rep.bool) 53 (fun xs => xs.length * 1 ≤ reachBytes ∧ ∀ x ∈ xs, True) := opens_bool.slice Try.underlying53 (by kernel_rfl) (by decide) 1 (by kernel_rfl)
def rPat : Rep S55 := Rep.iso (Rep.pair (Rep.slice Rep.bool) (Rep.slice Rep.bool)) (fun x : S55 => (x.f0, x.f1))
theorem kr_pat : KR rPat k55 := KR.iso (KR.pair (KR.slice KR.bool 4) (KR.slice KR.bool 4)) _
theorem opens_pat : ∃ W, Opens Try.prog rPat 55 W :=
  ⟨_, (Opens.struct (d := Rep.pair (Rep.slice Rep.bool) (Rep.slice Rep.bool)) Try.underlying55 (by kernel_rfl) (OpensF.pair opens_bools rfl (OpensF.one opens_bools rfl))).iso (fun x => ⟨⟨x.1, x.2⟩, rfl⟩)⟩
theorem arg_slice {α H : Type} {k : Kd α} {rp : Rep α} (hk : KR rp k) {e t : TypeId} {W : α → Prop} (hO : Opens Try.prog rp e W) (u : Try.prog.underlying t = some (.slice e)) (hc : Try.prog.cellsOf t = 1) (hz : 0 < rp.sz) {enc : TypeId × Value → H} {w : World} {r : Reach} {b : Nat} {v : Value} {d : DataW H} {p : List MemPlace} (hv : Value.okWide Try.prog w r b t v)
    (h : DataW.Trod enc Try.prog w 0 (fun _ => true) true t v d p) (hl : Light Try.prog t d) : ∃ (A : Option Addr) (c : Nat) (l : List α), v = .slice A l.length c ∧ Kd.C k w A l.length l ∧ l.length ≤ c := by
  obtain ⟨a, len, cap, rfl⟩ := okWide_slice u hv
  obtain ⟨n, hf⟩ := h
  obtain ⟨x, hx, _⟩ := (hO.slice u hc hz _ rfl).opens enc w n _ _ hf hl
  obtain ⟨A, c, hcs, hs⟩ := hx
  have e1 : Value.slice a len cap = .slice A x.length c := by simpa [Value.cells] using hcs
  exact ⟨A, c, x, e1, (hk.C hs).1, (hk.C hs).2⟩
theorem arg_pats {H : Type} {enc : TypeId × Value → H} {w : World} {r : Reach} {b : Nat} {v : Value} {d : DataW H} {p : List MemPlace} (hv : Value.okWide Try.prog w r b 49 v)
    (h : DataW.Trod enc Try.prog w 0 (fun _ => true) true 49 v d p) (hl : Light Try.prog 49 d) : ∃ (A : Option Addr) (c : Nat) (l : List S55), v = .slice A l.length c ∧ Kd.C k55 w A l.length l ∧ l.length ≤ c := by
  obtain ⟨W, hO⟩ := opens_pat
  exact arg_slice kr_pat hO Try.underlying49 (by kernel_rfl) (by decide) hv h hl
end Go.Proofs.Ytimjccfpobhpeaa
namespace Go.Proofs.Ytimjccfpobhpeaa.FaultErrors
open Go.ChangeShapes Go.WideShapes Go.ChangeAt Go.RowKit
open Go.Proofs.Ytimjccfpobhpeaa.PF
set_option linter.unusedVariables false
theorem own : ownKnob Try.prog.godebug = none := by kernel_rfl
theorem laidOut : laidOutB Try.prog = true := by kernel_rfl
set_option maxRecDepth 100000 in
theorem lifted (os : Os) (started : os.Started) (H : Type) (enc : TypeId × Value → H) :
    ReturnsInHanded {} Try.checked os 6 .any (Rows.faultErrorsSpec.pre6 enc Try.prog Try.f6 Rows.faultErrorsRow.domain false) (Rows.faultErrorsSpec.post enc Try.prog Try.f6 false true false false) := by
  refine returnsInHanded_of_change_sized (C := Try.checked) own started (by kernel_rfl) Try.func6
    (ChangeSpec.witness6 (enc := enc) (C := Try.checked) false ⟨#[], #[.agg #[.slice none 0 0, .slice none 0 0, .slice none 0 0, .slice none 0 0, .slice none 0 0], .agg #[.int .i64 0, .int .i64 0, .bool false], .slice none 0 0], []⟩ 8 (by kernel_rfl) (by kernel_rfl) (by kernel_rfl) (by kernel_rfl)) ?_
  intro W base args ds gs before hval0 hW hcnd hsz0 _
  have hsz : (DataW.weightsEach Try.prog (Try.f6.params.toList ++ Rows.faultErrorsSpec.plain.varTypes Try.prog) (ds ++ gs)).all (· ≤ reachBytes) = true := hsz0
  have hval : ∀ (j : Nat) t v, Try.f6.params[j]? = some t → args[j]? = some v → Value.okWide Try.prog W .any base t v := hval0
  have hW' := hW
  obtain ⟨p, q, hA0, hV, rfl, hfz, hnd⟩ := hW
  have hA : DataW.TrodAll enc Try.prog W 0 (fun _ => true) true Try.f6.params.toList args.toList ds p := hA0
  rw [Try.params6] at hA hval hsz
  obtain ⟨v0, vs0, d0, ds0, p0, q0, hargs, rfl, rfl, h0, r0⟩ := trodAll_cons hA
  obtain ⟨v1, vs1, d1, ds1, p1, q1, rfl, rfl, rfl, h1, r1⟩ := trodAll_cons r0
  obtain ⟨v2, vs2, d2, ds2, p2, q2, rfl, rfl, rfl, h2, r2⟩ := trodAll_cons r1
  obtain ⟨rfl, rfl, rfl⟩ := trodAll_nil r2
  obtain rfl : args = #[v0, v1, v2] := by cases args; simp_all
  obtain ⟨rfl, rfl⟩ := trodVars_none hV
  have hall : ∀ n ∈ DataW.weightsEach Try.prog (#[27, 29, 49].toList ++ Rows.faultErrorsSpec.plain.varTypes Try.prog) ([d0, d1, d2] ++ []), n ≤ reachBytes := by
    intro n hn
    simpa using List.all_eq_true.1 hsz n hn
  obtain ⟨A0_0, A0_1, A0_2, A0_3, A0_4, c0_0, c0_1, c0_2, c0_3, c0_4, l0_0, l0_1, l0_2, l0_3, l0_4, rfl, hr0_0, hr0_1, hr0_2, hr0_3, hr0_4a, hr0_4b⟩ := arg_net (hval 0 27 v0 rfl rfl) h0 (light_each hall (j := 0) rfl rfl)
  obtain ⟨a1_0, a1_1, a1_2, rfl⟩ := arg_fault (hval 1 29 v1 rfl rfl) h1 (light_each hall (j := 1) rfl rfl)
  obtain ⟨A2, c2, l2, rfl, hr2, hc2⟩ := arg_pats (hval 2 49 v2 rfl rfl) h2 (light_each hall (j := 2) rfl rfl)
  have ll0 : ∀ x ∈ p0, x.block < W.heap.size := by obtain ⟨m, hm⟩ := h0; exact DataW.trod_lt m _ _ _ hm
  have ll1 : ∀ x ∈ p1, x.block < W.heap.size := by obtain ⟨m, hm⟩ := h1; exact DataW.trod_lt m _ _ _ hm
  have ll2 : ∀ x ∈ p2, x.block < W.heap.size := by obtain ⟨m, hm⟩ := h2; exact DataW.trod_lt m _ _ _ hm
  clear hA0 hval0 hsz0 hsz hall
  refine Calls.mono (Exists.elim (errors_true l0_0 l0_1 l0_2 l0_3 l0_4 a1_0 a1_1 a1_2 l2) fun k hk => masklaw2_FaultErrors.calls k A0_0 c0_0 l0_0 A0_1 c0_1 l0_1 A0_2 c0_2 l0_2 A0_3 c0_3 l0_3 A0_4 c0_4 l0_4 a1_0 a1_1 a1_2 A2 c2 l2 true W hr0_0.1 hr0_0.2 hr0_1.1 hr0_1.2 hr0_2.1 hr0_2.2 hr0_3.1 hr0_3.2 hr0_4a hr0_4b hr2 hc2 hk) fun e W' ⟨he, bel⟩ => ?_
  subst he
  exact ⟨_, rfl, _, _, _, [], _, [], hW', trodAll_mk1 (shut_bool Try.underlying4 _),
    (trodAll_cons_mk (Below.trod laidOut (by kernel_rfl) (of_decide_eq_true (by kernel_rfl)) h0 bel ll0) (trodAll_cons_mk (Below.trod laidOut (by kernel_rfl) (of_decide_eq_true (by kernel_rfl)) h1 bel ll1) (trodAll_cons_mk (Below.trod laidOut (by kernel_rfl) (of_decide_eq_true (by kernel_rfl)) h2 bel ll2) trodAll_mk0))), rfl, bel.frame _, fun h => by cases h⟩
theorem over : Rows.faultErrorsRow.holds Try.pinned (OpenSpec.ofChange Rows.faultErrorsSpec) :=
  OpenClaim.holds_of_wide 6 Try.f6 rfl rfl rfl rfl rfl rfl rfl ⟨rfl, rfl, rfl, rfl, rfl⟩ rfl rfl rfl rfl rfl (by kernel_rfl) Try.func6 (by kernel_rfl)
    (of_decide_eq_true (by kernel_rfl)) (by unfold Func.isWrapper; first | (rw [if_pos (by decide +kernel)]; kernel_rfl) | (rw [if_neg (by decide +kernel)]; exact ⟨rfl, rfl⟩))
    (fun os started H enc _ => lifted os started H enc)
end Go.Proofs.Ytimjccfpobhpeaa.FaultErrors
namespace Go.Proofs.Ytimjccfpobhpeaa
theorem faultErrors_holds : Rows.FaultErrorsSaid := FaultErrors.over
#print axioms faultErrors_holds
end Go.Proofs.Ytimjccfpobhpeaa
