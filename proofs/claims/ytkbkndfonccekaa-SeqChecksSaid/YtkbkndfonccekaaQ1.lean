/- Joined by this session's own program out of its texts: PFx0 Rep Under Kd Map Base SameE PFx1 PFx9 Formed PFx3. -/
import Derived.Test.YtkbkndfonccekaaProg
import Derived.Below
import Derived.Deep.Draws
import Derived.Deep.AppendLies
import Derived.Maps.AppendAt
import Derived.OwnWalk
import Derived.Laws.BytesArg
import Derived.Laws.MakeOwn
import Derived.Laws.OwnMore
import Derived.Deep.OwnRows
import Derived.Tactics
import Derived.Lib.ConvBytes
import Derived.Laws.Slices
import Derived.WalkKit
import Derived.KernelRfl
import Derived.RowKit3
import Derived.Deep.LoopGhost
import Derived.Deep.QuietTactic
import Derived.BigQuiet
import Derived.WideLaws
import Derived.Deep.DeepCutAuto
import Derived.Deep.CutBlock
import Derived.Deep.RegionHeld3
import Derived.Laws.Rows
import Derived.Lib.AppendStr
import Derived.ArgAppend
import Derived.Laws.IdiomCopy
import Derived.OrdersHeld
import Derived.Laws.BitsLemmas
import Derived.RowKit
import Derived.Test.YtkbkndfonccekaaQ0
import Derived.WalkSpells
import Derived.WalkLawsBesides
import Derived.Lib.Hide
import Derived.Laws.StructEq
import Derived.Maps.Keyed
import Derived.Laws.IdiomMaps
import Derived.ChangeMaps4
namespace Go.Proofs.Ytkbkndfonccekaa.PF
open Go.RowKit Go.Proofs.YtkbkndfonccekaaW.PrintWords Go.Proofs.YtkbkndfonccekaaW.PrintLast Go.Proofs.YtkbkndfonccekaaW.PrintMore
attribute [local go_sem] Qn Qp Kq Kt
set_option linter.unusedVariables false
theorem zb {w w1 : World} (h : Below w.heap.size w w1) {a : Addr} {v : Value} (hc : w.cell? a = some v) : w1.cell? a = some v := (h.cell (World.block_lt_of_cell? w a hc)).trans hc
theorem zc10 {w : World} {g t : Nat} {fr : Nat × Nat} {a0 a1 a2 a3 a4 a5 a6 a7 a8 a9 : Value} (h : w.heap[g]? = some (.cells #[a0, a1, a2, a3, a4, a5, a6, a7, a8, a9] t fr)) : w.cell? ⟨g, 0, none⟩ = some a0 ∧ w.cell? ⟨g, 1, none⟩ = some a1 ∧ w.cell? ⟨g, 2, none⟩ = some a2 ∧ w.cell? ⟨g, 3, none⟩ = some a3 ∧ w.cell? ⟨g, 4, none⟩ = some a4 ∧ w.cell? ⟨g, 5, none⟩ = some a5 ∧ w.cell? ⟨g, 6, none⟩ = some a6 ∧ w.cell? ⟨g, 7, none⟩ = some a7 ∧ w.cell? ⟨g, 8, none⟩ = some a8 ∧ w.cell? ⟨g, 9, none⟩ = some a9 := ⟨(cell_of_row w g 0 _ _ _ h).trans rfl, (cell_of_row w g 1 _ _ _ h).trans rfl, (cell_of_row w g 2 _ _ _ h).trans rfl, (cell_of_row w g 3 _ _ _ h).trans rfl, (cell_of_row w g 4 _ _ _ h).trans rfl, (cell_of_row w g 5 _ _ _ h).trans rfl, (cell_of_row w g 6 _ _ _ h).trans rfl, (cell_of_row w g 7 _ _ _ h).trans rfl, (cell_of_row w g 8 _ _ _ h).trans rfl, (cell_of_row w g 9 _ _ _ h).trans rfl⟩
theorem zc14 {w : World} {g t : Nat} {fr : Nat × Nat} {a0 a1 a2 a3 a4 a5 a6 a7 a8 a9 a10 a11 a12 a13 : Value} (h : w.heap[g]? = some (.cells #[a0, a1, a2, a3, a4, a5, a6, a7, a8, a9, a10, a11, a12, a13] t fr)) : w.cell? ⟨g, 0, none⟩ = some a0 ∧ w.cell? ⟨g, 1, none⟩ = some a1 ∧ w.cell? ⟨g, 2, none⟩ = some a2 ∧ w.cell? ⟨g, 3, none⟩ = some a3 ∧ w.cell? ⟨g, 4, none⟩ = some a4 ∧ w.cell? ⟨g, 5, none⟩ = some a5 ∧ w.cell? ⟨g, 6, none⟩ = some a6 ∧ w.cell? ⟨g, 7, none⟩ = some a7 ∧ w.cell? ⟨g, 8, none⟩ = some a8 ∧ w.cell? ⟨g, 9, none⟩ = some a9 ∧ w.cell? ⟨g, 10, none⟩ = some a10 ∧ w.cell? ⟨g, 11, none⟩ = some a11 ∧ w.cell? ⟨g, 12, none⟩ = some a12 ∧ w.cell? ⟨g, 13, none⟩ = some a13 := ⟨(cell_of_row w g 0 _ _ _ h).trans rfl, (cell_of_row w g 1 _ _ _ h).trans rfl, (cell_of_row w g 2 _ _ _ h).trans rfl, (cell_of_row w g 3 _ _ _ h).trans rfl, (cell_of_row w g 4 _ _ _ h).trans rfl, (cell_of_row w g 5 _ _ _ h).trans rfl, (cell_of_row w g 6 _ _ _ h).trans rfl, (cell_of_row w g 7 _ _ _ h).trans rfl, (cell_of_row w g 8 _ _ _ h).trans rfl, (cell_of_row w g 9 _ _ _ h).trans rfl, (cell_of_row w g 10 _ _ _ h).trans rfl, (cell_of_row w g 11 _ _ _ h).trans rfl, (cell_of_row w g 12 _ _ _ h).trans rfl, (cell_of_row w g 13 _ _ _ h).trans rfl⟩
theorem zc32 {w : World} {g t : Nat} {fr : Nat × Nat} {a0 a1 a2 a3 a4 a5 a6 a7 a8 a9 a10 a11 a12 a13 a14 a15 a16 a17 a18 a19 a20 a21 a22 a23 a24 a25 a26 a27 a28 a29 a30 a31 : Value} (h : w.heap[g]? = some (.cells #[a0, a1, a2, a3, a4, a5, a6, a7, a8, a9, a10, a11, a12, a13, a14, a15, a16, a17, a18, a19, a20, a21, a22, a23, a24, a25, a26, a27, a28, a29, a30, a31] t fr)) : w.cell? ⟨g, 0, none⟩ = some a0 ∧ w.cell? ⟨g, 1, none⟩ = some a1 ∧ w.cell? ⟨g, 2, none⟩ = some a2 ∧ w.cell? ⟨g, 3, none⟩ = some a3 ∧ w.cell? ⟨g, 4, none⟩ = some a4 ∧ w.cell? ⟨g, 5, none⟩ = some a5 ∧ w.cell? ⟨g, 6, none⟩ = some a6 ∧ w.cell? ⟨g, 7, none⟩ = some a7 ∧ w.cell? ⟨g, 8, none⟩ = some a8 ∧ w.cell? ⟨g, 9, none⟩ = some a9 ∧ w.cell? ⟨g, 10, none⟩ = some a10 ∧ w.cell? ⟨g, 11, none⟩ = some a11 ∧ w.cell? ⟨g, 12, none⟩ = some a12 ∧ w.cell? ⟨g, 13, none⟩ = some a13 ∧ w.cell? ⟨g, 14, none⟩ = some a14 ∧ w.cell? ⟨g, 15, none⟩ = some a15 ∧ w.cell? ⟨g, 16, none⟩ = some a16 ∧ w.cell? ⟨g, 17, none⟩ = some a17 ∧ w.cell? ⟨g, 18, none⟩ = some a18 ∧ w.cell? ⟨g, 19, none⟩ = some a19 ∧ w.cell? ⟨g, 20, none⟩ = some a20 ∧ w.cell? ⟨g, 21, none⟩ = some a21 ∧ w.cell? ⟨g, 22, none⟩ = some a22 ∧ w.cell? ⟨g, 23, none⟩ = some a23 ∧ w.cell? ⟨g, 24, none⟩ = some a24 ∧ w.cell? ⟨g, 25, none⟩ = some a25 ∧ w.cell? ⟨g, 26, none⟩ = some a26 ∧ w.cell? ⟨g, 27, none⟩ = some a27 ∧ w.cell? ⟨g, 28, none⟩ = some a28 ∧ w.cell? ⟨g, 29, none⟩ = some a29 ∧ w.cell? ⟨g, 30, none⟩ = some a30 ∧ w.cell? ⟨g, 31, none⟩ = some a31 := ⟨(cell_of_row w g 0 _ _ _ h).trans rfl, (cell_of_row w g 1 _ _ _ h).trans rfl, (cell_of_row w g 2 _ _ _ h).trans rfl, (cell_of_row w g 3 _ _ _ h).trans rfl, (cell_of_row w g 4 _ _ _ h).trans rfl, (cell_of_row w g 5 _ _ _ h).trans rfl, (cell_of_row w g 6 _ _ _ h).trans rfl, (cell_of_row w g 7 _ _ _ h).trans rfl, (cell_of_row w g 8 _ _ _ h).trans rfl, (cell_of_row w g 9 _ _ _ h).trans rfl, (cell_of_row w g 10 _ _ _ h).trans rfl, (cell_of_row w g 11 _ _ _ h).trans rfl, (cell_of_row w g 12 _ _ _ h).trans rfl, (cell_of_row w g 13 _ _ _ h).trans rfl, (cell_of_row w g 14 _ _ _ h).trans rfl, (cell_of_row w g 15 _ _ _ h).trans rfl, (cell_of_row w g 16 _ _ _ h).trans rfl, (cell_of_row w g 17 _ _ _ h).trans rfl, (cell_of_row w g 18 _ _ _ h).trans rfl, (cell_of_row w g 19 _ _ _ h).trans rfl, (cell_of_row w g 20 _ _ _ h).trans rfl, (cell_of_row w g 21 _ _ _ h).trans rfl, (cell_of_row w g 22 _ _ _ h).trans rfl, (cell_of_row w g 23 _ _ _ h).trans rfl, (cell_of_row w g 24 _ _ _ h).trans rfl, (cell_of_row w g 25 _ _ _ h).trans rfl, (cell_of_row w g 26 _ _ _ h).trans rfl, (cell_of_row w g 27 _ _ _ h).trans rfl, (cell_of_row w g 28 _ _ _ h).trans rfl, (cell_of_row w g 29 _ _ _ h).trans rfl, (cell_of_row w g 30 _ _ _ h).trans rfl, (cell_of_row w g 31 _ _ _ h).trans rfl⟩
theorem zf10 {w : World} {g t : Nat} {c : Array Value} (h : w.heap[g]? = some (.cells c t (0, 0))) : w.frozen? ⟨g, 0, none⟩ = false ∧ w.frozen? ⟨g, 1, none⟩ = false ∧ w.frozen? ⟨g, 2, none⟩ = false ∧ w.frozen? ⟨g, 3, none⟩ = false ∧ w.frozen? ⟨g, 4, none⟩ = false ∧ w.frozen? ⟨g, 5, none⟩ = false ∧ w.frozen? ⟨g, 6, none⟩ = false ∧ w.frozen? ⟨g, 7, none⟩ = false ∧ w.frozen? ⟨g, 8, none⟩ = false ∧ w.frozen? ⟨g, 9, none⟩ = false := ⟨frozen_of_row w g 0 _ _ h, frozen_of_row w g 1 _ _ h, frozen_of_row w g 2 _ _ h, frozen_of_row w g 3 _ _ h, frozen_of_row w g 4 _ _ h, frozen_of_row w g 5 _ _ h, frozen_of_row w g 6 _ _ h, frozen_of_row w g 7 _ _ h, frozen_of_row w g 8 _ _ h, frozen_of_row w g 9 _ _ h⟩
theorem zf14 {w : World} {g t : Nat} {c : Array Value} (h : w.heap[g]? = some (.cells c t (0, 0))) : w.frozen? ⟨g, 0, none⟩ = false ∧ w.frozen? ⟨g, 1, none⟩ = false ∧ w.frozen? ⟨g, 2, none⟩ = false ∧ w.frozen? ⟨g, 3, none⟩ = false ∧ w.frozen? ⟨g, 4, none⟩ = false ∧ w.frozen? ⟨g, 5, none⟩ = false ∧ w.frozen? ⟨g, 6, none⟩ = false ∧ w.frozen? ⟨g, 7, none⟩ = false ∧ w.frozen? ⟨g, 8, none⟩ = false ∧ w.frozen? ⟨g, 9, none⟩ = false ∧ w.frozen? ⟨g, 10, none⟩ = false ∧ w.frozen? ⟨g, 11, none⟩ = false ∧ w.frozen? ⟨g, 12, none⟩ = false ∧ w.frozen? ⟨g, 13, none⟩ = false := ⟨frozen_of_row w g 0 _ _ h, frozen_of_row w g 1 _ _ h, frozen_of_row w g 2 _ _ h, frozen_of_row w g 3 _ _ h, frozen_of_row w g 4 _ _ h, frozen_of_row w g 5 _ _ h, frozen_of_row w g 6 _ _ h, frozen_of_row w g 7 _ _ h, frozen_of_row w g 8 _ _ h, frozen_of_row w g 9 _ _ h, frozen_of_row w g 10 _ _ h, frozen_of_row w g 11 _ _ h, frozen_of_row w g 12 _ _ h, frozen_of_row w g 13 _ _ h⟩
theorem zf32 {w : World} {g t : Nat} {c : Array Value} (h : w.heap[g]? = some (.cells c t (0, 0))) : w.frozen? ⟨g, 0, none⟩ = false ∧ w.frozen? ⟨g, 1, none⟩ = false ∧ w.frozen? ⟨g, 2, none⟩ = false ∧ w.frozen? ⟨g, 3, none⟩ = false ∧ w.frozen? ⟨g, 4, none⟩ = false ∧ w.frozen? ⟨g, 5, none⟩ = false ∧ w.frozen? ⟨g, 6, none⟩ = false ∧ w.frozen? ⟨g, 7, none⟩ = false ∧ w.frozen? ⟨g, 8, none⟩ = false ∧ w.frozen? ⟨g, 9, none⟩ = false ∧ w.frozen? ⟨g, 10, none⟩ = false ∧ w.frozen? ⟨g, 11, none⟩ = false ∧ w.frozen? ⟨g, 12, none⟩ = false ∧ w.frozen? ⟨g, 13, none⟩ = false ∧ w.frozen? ⟨g, 14, none⟩ = false ∧ w.frozen? ⟨g, 15, none⟩ = false ∧ w.frozen? ⟨g, 16, none⟩ = false ∧ w.frozen? ⟨g, 17, none⟩ = false ∧ w.frozen? ⟨g, 18, none⟩ = false ∧ w.frozen? ⟨g, 19, none⟩ = false ∧ w.frozen? ⟨g, 20, none⟩ = false ∧ w.frozen? ⟨g, 21, none⟩ = false ∧ w.frozen? ⟨g, 22, none⟩ = false ∧ w.frozen? ⟨g, 23, none⟩ = false ∧ w.frozen? ⟨g, 24, none⟩ = false ∧ w.frozen? ⟨g, 25, none⟩ = false ∧ w.frozen? ⟨g, 26, none⟩ = false ∧ w.frozen? ⟨g, 27, none⟩ = false ∧ w.frozen? ⟨g, 28, none⟩ = false ∧ w.frozen? ⟨g, 29, none⟩ = false ∧ w.frozen? ⟨g, 30, none⟩ = false ∧ w.frozen? ⟨g, 31, none⟩ = false := ⟨frozen_of_row w g 0 _ _ h, frozen_of_row w g 1 _ _ h, frozen_of_row w g 2 _ _ h, frozen_of_row w g 3 _ _ h, frozen_of_row w g 4 _ _ h, frozen_of_row w g 5 _ _ h, frozen_of_row w g 6 _ _ h, frozen_of_row w g 7 _ _ h, frozen_of_row w g 8 _ _ h, frozen_of_row w g 9 _ _ h, frozen_of_row w g 10 _ _ h, frozen_of_row w g 11 _ _ h, frozen_of_row w g 12 _ _ h, frozen_of_row w g 13 _ _ h, frozen_of_row w g 14 _ _ h, frozen_of_row w g 15 _ _ h, frozen_of_row w g 16 _ _ h, frozen_of_row w g 17 _ _ h, frozen_of_row w g 18 _ _ h, frozen_of_row w g 19 _ _ h, frozen_of_row w g 20 _ _ h, frozen_of_row w g 21 _ _ h, frozen_of_row w g 22 _ _ h, frozen_of_row w g 23 _ _ h, frozen_of_row w g 24 _ _ h, frozen_of_row w g 25 _ _ h, frozen_of_row w g 26 _ _ h, frozen_of_row w g 27 _ _ h, frozen_of_row w g 28 _ _ h, frozen_of_row w g 29 _ _ h, frozen_of_row w g 30 _ _ h, frozen_of_row w g 31 _ _ h⟩
set_option linter.unusedSimpArgs false
theorem info3 : (Try.prog.info? 3).map (fun i => (i.zero, i.size, i.bytes)) = some (some (.int .i64 0), 1, 8) := by kernel_rfl
theorem info4 : (Try.prog.info? 4).map (fun i => (i.zero, i.size, i.bytes)) = some (some (.bool false), 1, 1) := by kernel_rfl
theorem info27 : (Try.prog.info? 27).map (fun i => (i.zero, i.size, i.bytes)) = some (some (.agg #[(.int .i64 0), (.int .i64 0), (.bool false), (.int .i64 0), (.int .u64 0), (.int .u64 0), (.int .i64 0), (.bool false), (.int .i64 0), (.slice none 0 0)]), 10, 96) := by kernel_rfl
structure S24 where
  f0 : Int
  f1 : Int
  f2 : Int
def z24 : S24 := ⟨(0 : Int), (0 : Int), (0 : Int)⟩
def k24 : Kd S24 := Kd.iso (Kd.pair (Kd.int .i64) (Kd.pair (Kd.int .u64) (Kd.int .u64))) (fun x : S24 => (x.f0, x.f1, x.f2))
theorem k24_heap : Kd.Heap k24 := Kd.heap_iso _ (Kd.Vr (Kd.Wh .i64) (Kd.Vr (Kd.Wh .u64) (Kd.Wh .u64)))
theorem k24_open {w : World} {x : S24} {cs : List Value} (h : k24.K w x cs) : cs = [.int .i64 x.f0, .int .u64 x.f1, .int .u64 x.f2] := by
  obtain ⟨_, _, rfl, rfl, ⟨_, _, rfl, rfl, rfl⟩⟩ := h
  exact rfl
theorem k24_mk (w : World) (x : S24)  : k24.K w x [.int .i64 x.f0, .int .u64 x.f1, .int .u64 x.f2] := ⟨[.int .i64 x.f0], [.int .u64 x.f1, .int .u64 x.f2], rfl, rfl, ⟨[.int .u64 x.f1], [.int .u64 x.f2], rfl, rfl, rfl⟩⟩
theorem k24_mkM (w : World) (base : Nat) (ok : Nat → Prop) (x : S24)  : k24.M w base ok x [.int .i64 x.f0, .int .u64 x.f1, .int .u64 x.f2] := ⟨[.int .i64 x.f0], [.int .u64 x.f1, .int .u64 x.f2], rfl, rfl, ⟨[.int .u64 x.f1], [.int .u64 x.f2], rfl, rfl, rfl⟩⟩
structure Qh where
  f0 : Int
  f1 : Int
  f2 : Bool
  f3 : S24
  f4 : Int
  f5 : Bool
  f6 : Int
  f7 : (List Qh)
def z27 : Qh := ⟨(0 : Int), (0 : Int), false, z24, (0 : Int), false, (0 : Int), ([] : List Qh)⟩
def F27 (d : Kd Qh) : Kd Qh := Kd.iso (Kd.pair (Kd.int .i64) (Kd.pair (Kd.int .i64) (Kd.pair Kd.bool (Kd.pair k24 (Kd.pair (Kd.int .i64) (Kd.pair Kd.bool (Kd.pair (Kd.int .i64) (Kd.slice 27 d)))))))) (fun x : Qh => (x.f0, x.f1, x.f2, x.f3, x.f4, x.f5, x.f6, x.f7))
theorem mono27 : Kd.Mono F27 := Kd.mono_iso _ (Kd.Jd (Kd.Vs _) (Kd.Jd (Kd.Vs _) (Kd.Jd (Kd.Vs _) (Kd.Jd (Kd.Vs _) (Kd.Jd (Kd.Vs _) (Kd.Jd (Kd.Vs _) (Kd.Jd (Kd.Vs _) (Kd.mono_slice 27 Kd.mono_id))))))))
theorem sub27 : Kd.Sub F27 [27] := Kd.sub_iso _ (Kd.Jq (Kd.Jb _ (by decide)) (Kd.Jq (Kd.Jb _ (by decide)) (Kd.Jq (Kd.Jb _ (by decide)) (Kd.Jq (Kd.Jb _ (by decide)) (Kd.Jq (Kd.Jb _ (by decide)) (Kd.Jq (Kd.Jb _ (by decide)) (Kd.Jq (Kd.Jb _ (by decide)) (Kd.sub_slice 27 (by decide) Kd.sub_id))))))))
theorem sz27 : ∀ n, (Kd.upto F27 10 [27] n).sz = 10 := Kd.upto_sz (fun _ => rfl)
def k27 : Kd Qh := Kd.fix F27 10 [27] sz27 (Kd.upto_E sub27)
theorem Jp : Kd.Heap k27 := Kd.heap_fix (fun _ h_ => Kd.heap_iso _ (Kd.Vr (Kd.Wh .i64) (Kd.Vr (Kd.Wh .i64) (Kd.Vr Kd.heap_bool (Kd.Vr k24_heap (Kd.Vr (Kd.Wh .i64) (Kd.Vr Kd.heap_bool (Kd.Vr (Kd.Wh .i64) (Kd.heap_slice 27 h_)))))))))
theorem k27_open {w : World} {x : Qh} {cs : List Value} (h : k27.K w x cs) : ∃ A9 c9, cs = [.int .i64 x.f0, .int .i64 x.f1, .bool x.f2, .int .i64 x.f3.f0, .int .u64 x.f3.f1, .int .u64 x.f3.f2, .int .i64 x.f4, .bool x.f5, .int .i64 x.f6, .slice A9 x.f7.length c9] ∧ x.f7.length ≤ c9 ∧ k27.C w A9 x.f7.length x.f7 := by
  obtain ⟨n, h⟩ := h
  cases n with
  | zero => exact h.elim
  | succ n =>
    obtain ⟨_, _, rfl, rfl, ⟨_, _, rfl, rfl, ⟨_, _, rfl, rfl, ⟨_, _, rfl, s3, ⟨_, _, rfl, rfl, ⟨_, _, rfl, rfl, ⟨_, _, rfl, rfl, ⟨A9, c9, rfl, l9, g9⟩⟩⟩⟩⟩⟩⟩⟩ := h
    obtain rfl := k24_open s3
    exact ⟨A9, c9, rfl, l9, Kd.fix_C g9⟩
theorem k27_mk (w : World) (x : Qh) {A9 : Option Addr} {c9 : Nat} (l9 : x.f7.length ≤ c9) (g9 : k27.C w A9 x.f7.length x.f7) : k27.K w x [.int .i64 x.f0, .int .i64 x.f1, .bool x.f2, .int .i64 x.f3.f0, .int .u64 x.f3.f1, .int .u64 x.f3.f2, .int .i64 x.f4, .bool x.f5, .int .i64 x.f6, .slice A9 x.f7.length c9] := by
  obtain ⟨n9, q9⟩ := Kd.fix_C_back mono27 g9
  have r9 := Kd.upto_C_le mono27 sz27 (show n9 ≤ n9 by omega) q9
  exact ⟨n9 + 1, ⟨[.int .i64 x.f0], [.int .i64 x.f1, .bool x.f2, .int .i64 x.f3.f0, .int .u64 x.f3.f1, .int .u64 x.f3.f2, .int .i64 x.f4, .bool x.f5, .int .i64 x.f6, .slice A9 x.f7.length c9], rfl, rfl, ⟨[.int .i64 x.f1], [.bool x.f2, .int .i64 x.f3.f0, .int .u64 x.f3.f1, .int .u64 x.f3.f2, .int .i64 x.f4, .bool x.f5, .int .i64 x.f6, .slice A9 x.f7.length c9], rfl, rfl, ⟨[.bool x.f2], [.int .i64 x.f3.f0, .int .u64 x.f3.f1, .int .u64 x.f3.f2, .int .i64 x.f4, .bool x.f5, .int .i64 x.f6, .slice A9 x.f7.length c9], rfl, rfl, ⟨[.int .i64 x.f3.f0, .int .u64 x.f3.f1, .int .u64 x.f3.f2], [.int .i64 x.f4, .bool x.f5, .int .i64 x.f6, .slice A9 x.f7.length c9], rfl, (k24_mk w x.f3 ), ⟨[.int .i64 x.f4], [.bool x.f5, .int .i64 x.f6, .slice A9 x.f7.length c9], rfl, rfl, ⟨[.bool x.f5], [.int .i64 x.f6, .slice A9 x.f7.length c9], rfl, rfl, ⟨[.int .i64 x.f6], [.slice A9 x.f7.length c9], rfl, rfl, ⟨A9, c9, rfl, l9, r9⟩⟩⟩⟩⟩⟩⟩⟩⟩
theorem k27_mkM (w : World) (base : Nat) (ok : Nat → Prop) (x : Qh) {v9 : Value} (g9 : k27.R 27 w base ok v9 x.f7) : k27.M w base ok x [.int .i64 x.f0, .int .i64 x.f1, .bool x.f2, .int .i64 x.f3.f0, .int .u64 x.f3.f1, .int .u64 x.f3.f2, .int .i64 x.f4, .bool x.f5, .int .i64 x.f6, v9] := by
  obtain ⟨n9, q9⟩ := Kd.fix_R_back mono27 g9
  have r9 := Kd.upto_R_le mono27 sz27 (show n9 ≤ n9 by omega) q9
  exact ⟨n9 + 1, ⟨[.int .i64 x.f0], [.int .i64 x.f1, .bool x.f2, .int .i64 x.f3.f0, .int .u64 x.f3.f1, .int .u64 x.f3.f2, .int .i64 x.f4, .bool x.f5, .int .i64 x.f6, v9], rfl, rfl, ⟨[.int .i64 x.f1], [.bool x.f2, .int .i64 x.f3.f0, .int .u64 x.f3.f1, .int .u64 x.f3.f2, .int .i64 x.f4, .bool x.f5, .int .i64 x.f6, v9], rfl, rfl, ⟨[.bool x.f2], [.int .i64 x.f3.f0, .int .u64 x.f3.f1, .int .u64 x.f3.f2, .int .i64 x.f4, .bool x.f5, .int .i64 x.f6, v9], rfl, rfl, ⟨[.int .i64 x.f3.f0, .int .u64 x.f3.f1, .int .u64 x.f3.f2], [.int .i64 x.f4, .bool x.f5, .int .i64 x.f6, v9], rfl, (k24_mkM w base ok x.f3 ), ⟨[.int .i64 x.f4], [.bool x.f5, .int .i64 x.f6, v9], rfl, rfl, ⟨[.bool x.f5], [.int .i64 x.f6, v9], rfl, rfl, ⟨[.int .i64 x.f6], [v9], rfl, rfl, ⟨v9, rfl, r9⟩⟩⟩⟩⟩⟩⟩⟩⟩
theorem k27_openF {W : World} {ok : Nat → Prop} {x : Qh} {cs : List Value} (h : Kd.FK k27 W ok x cs) : ∃ A9 c9, cs = [.int .i64 x.f0, .int .i64 x.f1, .bool x.f2, .int .i64 x.f3.f0, .int .u64 x.f3.f1, .int .u64 x.f3.f2, .int .i64 x.f4, .bool x.f5, .int .i64 x.f6, .slice A9 x.f7.length c9] ∧ x.f7.length ≤ c9 ∧ Kd.F k27 W ok A9 x.f7.length x.f7 := by
  obtain ⟨A9, c9, rfl, l9, _⟩ := k27_open (Kd.FK_now h)
  exact ⟨A9, c9, rfl, l9, (fun W' hW => by obtain ⟨A9_, c9_, he, l9_, g9_⟩ := k27_open (h W' hW); injection (Option.some.inj (show some (Value.slice A9 x.f7.length c9) = some (Value.slice A9_ x.f7.length c9_) from congrArg (fun l => l[9]?) he)) with ha_ _ _; rw [ha_]; exact g9_)⟩
theorem k27_mkF (W : World) (ok : Nat → Prop) (x : Qh) {A9 : Option Addr} {c9 : Nat} (l9 : x.f7.length ≤ c9) (g9 : Kd.F k27 W ok A9 x.f7.length x.f7) : Kd.FK k27 W ok x [.int .i64 x.f0, .int .i64 x.f1, .bool x.f2, .int .i64 x.f3.f0, .int .u64 x.f3.f1, .int .u64 x.f3.f2, .int .i64 x.f4, .bool x.f5, .int .i64 x.f6, .slice A9 x.f7.length c9] := fun W2 hW => k27_mk W2 x l9 (g9 W2 hW)
def Zh (xs : List Qh) (i : Int) : Qh := xs.getD i.toNat z27
theorem at_T27 {w : World} {A : Option Addr} {n : Nat} {xs : List Qh} (h : Kd.C k27 w A n xs) (i : Int) (h0 : 0 ≤ i) (h1 : i < n) : ∃ ad A9 c9, A = some ad ∧ w.cell? (ad.add (i.toNat * 10)) = some (.int .i64 (Zh xs i).f0) ∧ w.cell? ⟨(ad.add (i.toNat * 10)).block, (ad.add (i.toNat * 10)).off + 1, none⟩ = some (.int .i64 (Zh xs i).f1) ∧ w.cell? ⟨(ad.add (i.toNat * 10)).block, (ad.add (i.toNat * 10)).off + 2, none⟩ = some (.bool (Zh xs i).f2) ∧ w.cell? ⟨(ad.add (i.toNat * 10)).block, (ad.add (i.toNat * 10)).off + 3, none⟩ = some (.int .i64 (Zh xs i).f3.f0) ∧ w.cell? ⟨(ad.add (i.toNat * 10)).block, (ad.add (i.toNat * 10)).off + 4, none⟩ = some (.int .u64 (Zh xs i).f3.f1) ∧ w.cell? ⟨(ad.add (i.toNat * 10)).block, (ad.add (i.toNat * 10)).off + 5, none⟩ = some (.int .u64 (Zh xs i).f3.f2) ∧ w.cell? ⟨(ad.add (i.toNat * 10)).block, (ad.add (i.toNat * 10)).off + 6, none⟩ = some (.int .i64 (Zh xs i).f4) ∧ w.cell? ⟨(ad.add (i.toNat * 10)).block, (ad.add (i.toNat * 10)).off + 7, none⟩ = some (.bool (Zh xs i).f5) ∧ w.cell? ⟨(ad.add (i.toNat * 10)).block, (ad.add (i.toNat * 10)).off + 8, none⟩ = some (.int .i64 (Zh xs i).f6) ∧ w.cell? ⟨(ad.add (i.toNat * 10)).block, (ad.add (i.toNat * 10)).off + 9, none⟩ = some (.slice A9 (Zh xs i).f7.length c9) ∧ (Zh xs i).f7.length ≤ c9 ∧ k27.C w A9 (Zh xs i).f7.length (Zh xs i).f7 := by
  obtain ⟨ad, c, e, _, hK, hc0⟩ := Kd.C_get h z27 i h0 h1
  have hc : ∀ j u, c[j]? = some u → w.cell? (ad.add (i.toNat * 10 + j)) = some u := hc0
  obtain ⟨A9, c9, rfl, l9, g9⟩ := k27_open hK
  exact ⟨ad, A9, c9, e, hc 0 _ rfl, by rw [← Qc _ _ 1 (by omega)]; exact hc 1 _ rfl, by rw [← Qc _ _ 2 (by omega)]; exact hc 2 _ rfl, by rw [← Qc _ _ 3 (by omega)]; exact hc 3 _ rfl, by rw [← Qc _ _ 4 (by omega)]; exact hc 4 _ rfl, by rw [← Qc _ _ 5 (by omega)]; exact hc 5 _ rfl, by rw [← Qc _ _ 6 (by omega)]; exact hc 6 _ rfl, by rw [← Qc _ _ 7 (by omega)]; exact hc 7 _ rfl, by rw [← Qc _ _ 8 (by omega)]; exact hc 8 _ rfl, by rw [← Qc _ _ 9 (by omega)]; exact hc 9 _ rfl, l9, g9⟩
structure Vd where
  f0 : Int
  f1 : Qh
  f2 : Int
  f3 : Int
  f4 : (List Vd)
def z30 : Vd := ⟨(0 : Int), z27, (0 : Int), (0 : Int), ([] : List Vd)⟩
def F30 (d : Kd Vd) : Kd Vd := Kd.iso (Kd.pair (Kd.int .i64) (Kd.pair k27 (Kd.pair (Kd.int .i64) (Kd.pair (Kd.int .i64) (Kd.slice 30 d))))) (fun x : Vd => (x.f0, x.f1, x.f2, x.f3, x.f4))
theorem mono30 : Kd.Mono F30 := Kd.mono_iso _ (Kd.Jd (Kd.Vs _) (Kd.Jd (Kd.Vs _) (Kd.Jd (Kd.Vs _) (Kd.Jd (Kd.Vs _) (Kd.mono_slice 30 Kd.mono_id)))))
theorem sub30 : Kd.Sub F30 [27, 30] := Kd.sub_iso _ (Kd.Jq (Kd.Jb _ (by decide)) (Kd.Jq (Kd.Jb _ (by decide)) (Kd.Jq (Kd.Jb _ (by decide)) (Kd.Jq (Kd.Jb _ (by decide)) (Kd.sub_slice 30 (by decide) Kd.sub_id)))))
theorem sz30 : ∀ n, (Kd.upto F30 14 [27, 30] n).sz = 14 := Kd.upto_sz (fun _ => rfl)
def k30 : Kd Vd := Kd.fix F30 14 [27, 30] sz30 (Kd.upto_E sub30)
theorem Jy : Kd.Heap k30 := Kd.heap_fix (fun _ h_ => Kd.heap_iso _ (Kd.Vr (Kd.Wh .i64) (Kd.Vr Jp (Kd.Vr (Kd.Wh .i64) (Kd.Vr (Kd.Wh .i64) (Kd.heap_slice 30 h_))))))
theorem k30_open {w : World} {x : Vd} {cs : List Value} (h : k30.K w x cs) : ∃ A10 c10 A13 c13, cs = [.int .i64 x.f0, .int .i64 x.f1.f0, .int .i64 x.f1.f1, .bool x.f1.f2, .int .i64 x.f1.f3.f0, .int .u64 x.f1.f3.f1, .int .u64 x.f1.f3.f2, .int .i64 x.f1.f4, .bool x.f1.f5, .int .i64 x.f1.f6, .slice A10 x.f1.f7.length c10, .int .i64 x.f2, .int .i64 x.f3, .slice A13 x.f4.length c13] ∧ x.f1.f7.length ≤ c10 ∧ k27.C w A10 x.f1.f7.length x.f1.f7 ∧ x.f4.length ≤ c13 ∧ k30.C w A13 x.f4.length x.f4 := by
  obtain ⟨n, h⟩ := h
  cases n with
  | zero => exact h.elim
  | succ n =>
    obtain ⟨_, _, rfl, rfl, ⟨_, _, rfl, s1, ⟨_, _, rfl, rfl, ⟨_, _, rfl, rfl, ⟨A13, c13, rfl, l13, g13⟩⟩⟩⟩⟩ := h
    obtain ⟨A10, c10, rfl, l10, g10⟩ := k27_open s1
    exact ⟨A10, c10, A13, c13, rfl, l10, g10, l13, Kd.fix_C g13⟩
theorem k30_mk (w : World) (x : Vd) {A10 : Option Addr} {c10 : Nat} (l10 : x.f1.f7.length ≤ c10) (g10 : k27.C w A10 x.f1.f7.length x.f1.f7) {A13 : Option Addr} {c13 : Nat} (l13 : x.f4.length ≤ c13) (g13 : k30.C w A13 x.f4.length x.f4) : k30.K w x [.int .i64 x.f0, .int .i64 x.f1.f0, .int .i64 x.f1.f1, .bool x.f1.f2, .int .i64 x.f1.f3.f0, .int .u64 x.f1.f3.f1, .int .u64 x.f1.f3.f2, .int .i64 x.f1.f4, .bool x.f1.f5, .int .i64 x.f1.f6, .slice A10 x.f1.f7.length c10, .int .i64 x.f2, .int .i64 x.f3, .slice A13 x.f4.length c13] := by
  obtain ⟨n13, q13⟩ := Kd.fix_C_back mono30 g13
  have r13 := Kd.upto_C_le mono30 sz30 (show n13 ≤ n13 by omega) q13
  exact ⟨n13 + 1, ⟨[.int .i64 x.f0], [.int .i64 x.f1.f0, .int .i64 x.f1.f1, .bool x.f1.f2, .int .i64 x.f1.f3.f0, .int .u64 x.f1.f3.f1, .int .u64 x.f1.f3.f2, .int .i64 x.f1.f4, .bool x.f1.f5, .int .i64 x.f1.f6, .slice A10 x.f1.f7.length c10, .int .i64 x.f2, .int .i64 x.f3, .slice A13 x.f4.length c13], rfl, rfl, ⟨[.int .i64 x.f1.f0, .int .i64 x.f1.f1, .bool x.f1.f2, .int .i64 x.f1.f3.f0, .int .u64 x.f1.f3.f1, .int .u64 x.f1.f3.f2, .int .i64 x.f1.f4, .bool x.f1.f5, .int .i64 x.f1.f6, .slice A10 x.f1.f7.length c10], [.int .i64 x.f2, .int .i64 x.f3, .slice A13 x.f4.length c13], rfl, (k27_mk w x.f1 l10 g10), ⟨[.int .i64 x.f2], [.int .i64 x.f3, .slice A13 x.f4.length c13], rfl, rfl, ⟨[.int .i64 x.f3], [.slice A13 x.f4.length c13], rfl, rfl, ⟨A13, c13, rfl, l13, r13⟩⟩⟩⟩⟩⟩
theorem k30_openF {W : World} {ok : Nat → Prop} {x : Vd} {cs : List Value} (h : Kd.FK k30 W ok x cs) : ∃ A10 c10 A13 c13, cs = [.int .i64 x.f0, .int .i64 x.f1.f0, .int .i64 x.f1.f1, .bool x.f1.f2, .int .i64 x.f1.f3.f0, .int .u64 x.f1.f3.f1, .int .u64 x.f1.f3.f2, .int .i64 x.f1.f4, .bool x.f1.f5, .int .i64 x.f1.f6, .slice A10 x.f1.f7.length c10, .int .i64 x.f2, .int .i64 x.f3, .slice A13 x.f4.length c13] ∧ x.f1.f7.length ≤ c10 ∧ Kd.F k27 W ok A10 x.f1.f7.length x.f1.f7 ∧ x.f4.length ≤ c13 ∧ Kd.F k30 W ok A13 x.f4.length x.f4 := by
  obtain ⟨A10, c10, A13, c13, rfl, l10, _, l13, _⟩ := k30_open (Kd.FK_now h)
  exact ⟨A10, c10, A13, c13, rfl, l10, (fun W' hW => by obtain ⟨A10_, c10_, A13_, c13_, he, l10_, g10_, l13_, g13_⟩ := k30_open (h W' hW); injection (Option.some.inj (show some (Value.slice A10 x.f1.f7.length c10) = some (Value.slice A10_ x.f1.f7.length c10_) from congrArg (fun l => l[10]?) he)) with ha_ _ _; rw [ha_]; exact g10_), l13, (fun W' hW => by obtain ⟨A10_, c10_, A13_, c13_, he, l10_, g10_, l13_, g13_⟩ := k30_open (h W' hW); injection (Option.some.inj (show some (Value.slice A13 x.f4.length c13) = some (Value.slice A13_ x.f4.length c13_) from congrArg (fun l => l[13]?) he)) with ha_ _ _; rw [ha_]; exact g13_)⟩
theorem k30_mkF (W : World) (ok : Nat → Prop) (x : Vd) {A10 : Option Addr} {c10 : Nat} (l10 : x.f1.f7.length ≤ c10) (g10 : Kd.F k27 W ok A10 x.f1.f7.length x.f1.f7) {A13 : Option Addr} {c13 : Nat} (l13 : x.f4.length ≤ c13) (g13 : Kd.F k30 W ok A13 x.f4.length x.f4) : Kd.FK k30 W ok x [.int .i64 x.f0, .int .i64 x.f1.f0, .int .i64 x.f1.f1, .bool x.f1.f2, .int .i64 x.f1.f3.f0, .int .u64 x.f1.f3.f1, .int .u64 x.f1.f3.f2, .int .i64 x.f1.f4, .bool x.f1.f5, .int .i64 x.f1.f6, .slice A10 x.f1.f7.length c10, .int .i64 x.f2, .int .i64 x.f3, .slice A13 x.f4.length c13] := fun W2 hW => k30_mk W2 x l10 (g10 W2 hW) l13 (g13 W2 hW)
def Zc (xs : List Vd) (i : Int) : Vd := xs.getD i.toNat z30
theorem Jc {w : World} {A : Option Addr} {n : Nat} {xs : List Vd} (h : Kd.C k30 w A n xs) (i : Int) (h0 : 0 ≤ i) (h1 : i < n) : ∃ ad A10 c10 A13 c13, A = some ad ∧ w.cell? (ad.add (i.toNat * 14)) = some (.int .i64 (Zc xs i).f0) ∧ w.cell? ⟨(ad.add (i.toNat * 14)).block, (ad.add (i.toNat * 14)).off + 1, none⟩ = some (.int .i64 (Zc xs i).f1.f0) ∧ w.cell? ⟨(ad.add (i.toNat * 14)).block, (ad.add (i.toNat * 14)).off + 2, none⟩ = some (.int .i64 (Zc xs i).f1.f1) ∧ w.cell? ⟨(ad.add (i.toNat * 14)).block, (ad.add (i.toNat * 14)).off + 3, none⟩ = some (.bool (Zc xs i).f1.f2) ∧ w.cell? ⟨(ad.add (i.toNat * 14)).block, (ad.add (i.toNat * 14)).off + 4, none⟩ = some (.int .i64 (Zc xs i).f1.f3.f0) ∧ w.cell? ⟨(ad.add (i.toNat * 14)).block, (ad.add (i.toNat * 14)).off + 5, none⟩ = some (.int .u64 (Zc xs i).f1.f3.f1) ∧ w.cell? ⟨(ad.add (i.toNat * 14)).block, (ad.add (i.toNat * 14)).off + 6, none⟩ = some (.int .u64 (Zc xs i).f1.f3.f2) ∧ w.cell? ⟨(ad.add (i.toNat * 14)).block, (ad.add (i.toNat * 14)).off + 7, none⟩ = some (.int .i64 (Zc xs i).f1.f4) ∧ w.cell? ⟨(ad.add (i.toNat * 14)).block, (ad.add (i.toNat * 14)).off + 8, none⟩ = some (.bool (Zc xs i).f1.f5) ∧ w.cell? ⟨(ad.add (i.toNat * 14)).block, (ad.add (i.toNat * 14)).off + 9, none⟩ = some (.int .i64 (Zc xs i).f1.f6) ∧ w.cell? ⟨(ad.add (i.toNat * 14)).block, (ad.add (i.toNat * 14)).off + 10, none⟩ = some (.slice A10 (Zc xs i).f1.f7.length c10) ∧ w.cell? ⟨(ad.add (i.toNat * 14)).block, (ad.add (i.toNat * 14)).off + 11, none⟩ = some (.int .i64 (Zc xs i).f2) ∧ w.cell? ⟨(ad.add (i.toNat * 14)).block, (ad.add (i.toNat * 14)).off + 12, none⟩ = some (.int .i64 (Zc xs i).f3) ∧ w.cell? ⟨(ad.add (i.toNat * 14)).block, (ad.add (i.toNat * 14)).off + 13, none⟩ = some (.slice A13 (Zc xs i).f4.length c13) ∧ (Zc xs i).f1.f7.length ≤ c10 ∧ k27.C w A10 (Zc xs i).f1.f7.length (Zc xs i).f1.f7 ∧ (Zc xs i).f4.length ≤ c13 ∧ k30.C w A13 (Zc xs i).f4.length (Zc xs i).f4 := by
  obtain ⟨ad, c, e, _, hK, hc0⟩ := Kd.C_get h z30 i h0 h1
  have hc : ∀ j u, c[j]? = some u → w.cell? (ad.add (i.toNat * 14 + j)) = some u := hc0
  obtain ⟨A10, c10, A13, c13, rfl, l10, g10, l13, g13⟩ := k30_open hK
  exact ⟨ad, A10, c10, A13, c13, e, hc 0 _ rfl, by rw [← Qc _ _ 1 (by omega)]; exact hc 1 _ rfl, by rw [← Qc _ _ 2 (by omega)]; exact hc 2 _ rfl, by rw [← Qc _ _ 3 (by omega)]; exact hc 3 _ rfl, by rw [← Qc _ _ 4 (by omega)]; exact hc 4 _ rfl, by rw [← Qc _ _ 5 (by omega)]; exact hc 5 _ rfl, by rw [← Qc _ _ 6 (by omega)]; exact hc 6 _ rfl, by rw [← Qc _ _ 7 (by omega)]; exact hc 7 _ rfl, by rw [← Qc _ _ 8 (by omega)]; exact hc 8 _ rfl, by rw [← Qc _ _ 9 (by omega)]; exact hc 9 _ rfl, by rw [← Qc _ _ 10 (by omega)]; exact hc 10 _ rfl, by rw [← Qc _ _ 11 (by omega)]; exact hc 11 _ rfl, by rw [← Qc _ _ 12 (by omega)]; exact hc 12 _ rfl, by rw [← Qc _ _ 13 (by omega)]; exact hc 13 _ rfl, l10, g10, l13, g13⟩
def rd_L8 (xs : List (List Bool)) (i : Int) : (List Bool) := xs.getD i.toNat ([] : List Bool)
theorem at_L8 {w : World} {A : Option Addr} {n : Nat} {xs : List (List Bool)} (h : Kd.C (Kd.slice 4 Kd.bool) w A n xs) (i : Int) (h0 : 0 ≤ i) (h1 : i < n) : ∃ ad A0 c0, A = some ad ∧ w.cell? (ad.add i.toNat) = some (.slice A0 (rd_L8 xs i).length c0) ∧ (rd_L8 xs i).length ≤ c0 ∧ Kd.bool.C w A0 (rd_L8 xs i).length (rd_L8 xs i) := by
  obtain ⟨ad, c, e, _, hK, hc0⟩ := Kd.C_get h ([] : List Bool) i h0 h1
  have hc : ∀ j u, c[j]? = some u → w.cell? (ad.add (i.toNat * 1 + j)) = some u := hc0
  obtain ⟨A0, c0, rfl, l0, g0⟩ := hK
  exact ⟨ad, A0, c0, e, by have hq := hc 0 _ rfl; rwa [Nat.mul_one, Nat.add_zero] at hq, l0, g0⟩
end Go.Proofs.Ytkbkndfonccekaa.PF
namespace Go.Proofs.Ytkbkndfonccekaa
open Go.RowKit
def InK (k : IntKind) (x : Int) : Prop := k.min ≤ x ∧ x ≤ k.max
theorem InK.i64 {x : Int} (h : InK .i64 x) : -9223372036854775808 ≤ x ∧ x ≤ 9223372036854775807 := h
theorem InK.mk64 {x : Int} (h : -9223372036854775808 ≤ x ∧ x ≤ 9223372036854775807) : InK .i64 x := h
structure Rep (α : Type) where
  sz : Nat
  rel : World → (Nat → Prop) → α → List Value → Prop
  len : ∀ {w F x cs}, rel w F x cs → cs.length = sz
  one : ∀ {w F x cs}, rel w F x cs → ∀ u ∈ cs, u.oneCell' = true
  step : ∀ {w w1 : World} {F G : Nat → Prop} {x cs}, (∀ k, F k → k < w.heap.size → G k ∧ w1.heap[k]? = w.heap[k]?) → rel w F x cs → rel w1 G x cs
namespace Rep
section
variable {α β : Type}
def cell (enc : α → Value) (ok : α → Prop) (h1 : ∀ x, (enc x).oneCell' = true) : Rep α where
  sz := 1
  rel := fun _ _ x cs => cs = [enc x] ∧ ok x
  len := fun h => by rw [h.1]; rfl
  one := fun h u hu => by rw [h.1] at hu; rw [List.mem_singleton.1 hu]; exact h1 _
  step := fun _ h => h
def int (k : IntKind) : Rep Int := cell (Value.int k) (InK k) (fun _ => rfl)
def bool : Rep Bool := cell Value.bool (fun _ => True) (fun _ => rfl)
def str : Rep ByteArray := cell Value.string (fun s => s.size ≤ 9223372036854775807) (fun _ => rfl)
end
end Rep
end Go.Proofs.Ytkbkndfonccekaa
namespace Go.Proofs.Ytkbkndfonccekaa
open Go.RowKit
structure Under (w : World) where
  val : World
  ok : Below w.heap.size w val
namespace Under
variable {w : World}
@[go_sem] theorem cell (x : Under w) (b o : Nat) (h : b < w.heap.size) : x.val.cell? ⟨b, o, none⟩ = w.cell? ⟨b, o, none⟩ := x.ok.cell (p := ⟨b, o, none⟩) h
@[go_sem] theorem frozen (x : Under w) (b o : Nat) (h : b < w.heap.size) : x.val.frozen? ⟨b, o, none⟩ = w.frozen? ⟨b, o, none⟩ := x.ok.frozen (p := ⟨b, o, none⟩) h
@[go_sem] theorem lt (x : Under w) (b : Nat) (h : b < w.heap.size) : b < x.val.heap.size := Nat.lt_of_lt_of_le h x.ok.size
theorem size (x : Under w) : w.heap.size ≤ x.val.heap.size := x.ok.size
def refl (w : World) : Under w := ⟨w, Below.refl _ _⟩
def alloc (x : Under w) (o : Obj) : Under w := ⟨x.val.alloc o, x.ok.alloc x.ok.size o⟩
def drew (x : Under w) : Under w := ⟨x.val.drew, x.ok.drew⟩
def trans (x : Under w) (y : Under x.val) : Under w := ⟨y.val, x.ok.trans (y.ok.mono x.ok.size)⟩
instance (w : World) : Nonempty (Under w) := ⟨Under.refl w⟩
end Under
@[go_sem] theorem le_heap_of {w : World} {b : Nat} (h : b < w.heap.size) : b ≤ w.heap.size := Nat.le_of_lt h
@[go_sem] theorem lt_heap_succ {w : World} {b : Nat} (h : b < w.heap.size) : b < w.heap.size + 1 := Nat.lt_succ_of_lt h
@[go_sem] theorem lt_heap_succ2 {w : World} {b : Nat} (h : b < w.heap.size) : b < w.heap.size + 1 + 1 := by omega
def Is (w w1 : World) : Prop := ∃ x : Under w, w1 = x.val
theorem Is.of {w w1 : World} (h : Below w.heap.size w w1) : Is w w1 := ⟨⟨w1, h⟩, rfl⟩
theorem Is.below {w w1 : World} (h : Is w w1) : Below w.heap.size w w1 := by obtain ⟨x, rfl⟩ := h; exact x.ok
theorem Is.refl (w : World) : Is w w := ⟨Under.refl w, rfl⟩
theorem Is.val {w : World} (x : Under w) : Is w x.val := ⟨x, rfl⟩
theorem Is.alloc {w w1 : World} (h : Is w w1) (o : Obj) : Is w (w1.alloc o) := by obtain ⟨x, rfl⟩ := h; exact ⟨x.alloc o, rfl⟩
theorem Is.drew {w w1 : World} (h : Is w w1) : Is w w1.drew := by obtain ⟨x, rfl⟩ := h; exact ⟨x.drew, rfl⟩
theorem Is.trans {w w1 w2 : World} (h : Is w w1) (k : Is w1 w2) : Is w w2 := by obtain ⟨x, rfl⟩ := h; obtain ⟨y, rfl⟩ := k; exact ⟨x.trans y, rfl⟩
theorem Is.step {w w1 : World} (h : Is w w1) (y : Under w1) : Is w y.val := h.trans (Is.val y)
theorem Is.setCell {w w1 : World} (h : Is w w1) {p : Addr} (hp : w.heap.size ≤ p.block) (u : Value) : Is w (w1.setCell p u) := Is.of (h.below.setCell hp u)
theorem wp_region_under {P : Program} {id : Nat} {Q : Exit → Act → World → Prop} {a : Act} {w : World} {l : List Oper} (hm : P.follows .mixedOrders = true) (hB : Region.lexB .any l.toArray = true)
    (h : wpQuiet P l.toArray (fun w' => ∃ x : Under w, w' = x.val) (fun a' => ∀ w', (∃ x : Under w, w' = x.val) → Q .normal a' w') l a) : (Code.region id l.toArray true).wp P Q a w :=
  wp_region_quiet (C := fun w' => ∃ x : Under w, w' = x.val) hm hB ⟨⟨_, (Below.refl _ _).drew⟩, rfl⟩ (by simpa using h)
theorem eqFields_step {P : Program} {d : Nat} {xs ys : Array Value} {f : Field} {fs : List Field} {a b : Value} {r s : Bool} {w : World} (hn : f.name ≠ "_")
    (ha : (part f.type xs f.offset).run P w = .ok a w) (hb : (part f.type ys f.offset).run P w = .ok b w) (he : (Op.equalIn d f.type a b).run P w = .ok r w)
    (hr : (Op.eqFields d xs ys fs).run P w = .ok s w) : (Op.eqFields d xs ys (f :: fs)).run P w = .ok (r && s) w := by
  unfold Op.eqFields
  rw [if_pos hn]
  simp only [Sem.run_bind, ha, hb, he, Result.andThen_ok]
  cases r with
  | false => simp
  | true => simp [hr]
theorem eqFields_last {P : Program} {d : Nat} {xs ys : Array Value} {f : Field} {a b : Value} {r : Bool} {w : World} (hn : f.name ≠ "_")
    (ha : (part f.type xs f.offset).run P w = .ok a w) (hb : (part f.type ys f.offset).run P w = .ok b w) (he : (Op.equalIn d f.type a b).run P w = .ok r w) : (Op.eqFields d xs ys [f]).run P w = .ok r w := by
  have h := eqFields_step hn ha hb he (show (Op.eqFields d xs ys []).run P w = .ok true w by simp [Op.eqFields])
  rwa [Bool.and_true] at h
theorem eqStruct {P : Program} {d : Nat} {xs ys : Array Value} {r : Bool} {w : World} {t : TypeId} {fs : Array Field} (hu : P.underlying t = some (.struct fs)) (hp : P.stoodInHeld t = false)
    (h : (Op.eqFields d xs ys fs.toList).run P w = .ok r w) : (Op.equalIn (d + 1) t (.agg xs) (.agg ys)).run P w = .ok r w := by
  have hf : P.fieldsOf t = fs := by simp [Program.fieldsOf, hu]
  rw [run_equalIn_struct w d t xs ys (by rw [hf]; exact hu) hp, hf]
  exact h
theorem Ws {k : IntKind} {a b : Int} (h : a = b) : Ending.returned (.int k a) = .returned (.int k b) := by rw [h]
end Go.Proofs.Ytkbkndfonccekaa
namespace Go.Proofs.Ytkbkndfonccekaa
open Go.RowKit Go.Proofs.YtkbkndfonccekaaW.PrintWords
theorem kd_plain {α : Type} {d : Kd α} {w : World} {A : Option Addr} {n : Nat} {xs : List α} (h : Kd.C d w A n xs) (hz : 0 < d.sz) (hn : 0 < n) : ∃ b o, A = some ⟨b, o, none⟩ ∧ b < w.heap.size := by
  obtain ⟨hl, _, hc⟩ := h
  obtain ⟨ad, rfl, hc2⟩ := hc hn
  obtain ⟨c, hcl, _, hcell⟩ := hc2 0 xs[0] (List.getElem?_eq_getElem (by omega))
  have h0 := hcell 0 c[0] (List.getElem?_eq_getElem (by omega))
  obtain ⟨b, o, spot⟩ := ad
  have h9 := World.cell?_spot h0
  have hspot : spot = none := by simpa [Addr.add] using h9
  subst hspot
  exact ⟨b, o, rfl, by have := block_lt_of_cell h0; rwa [Addr.add_lit] at this⟩
theorem kd_at {α : Type} {d : Kd α} {w : World} {A : Option Addr} {n : Nat} {xs : List α} (h : Kd.C d w A n xs) (hz : 0 < d.sz) {i : Nat} {x : α} (hx : xs[i]? = some x) :
    ∃ b o cs, A = some ⟨b, o, none⟩ ∧ b < w.heap.size ∧ cs.length = d.sz ∧ d.K w x cs ∧ ∀ j u, cs[j]? = some u → w.cell? ⟨b, o + (i * d.sz + j), none⟩ = some u := by
  have hi : i < xs.length := (List.getElem?_eq_some_iff.1 hx).1
  obtain ⟨b, o, rfl, hb⟩ := kd_plain h hz (by have := h.1; omega)
  obtain ⟨hl, _, hc⟩ := h
  obtain ⟨ad, had, hc⟩ := hc (by omega)
  injection had with had
  subst had
  obtain ⟨c, hcl, hK, hcell⟩ := hc i x hx
  exact ⟨b, o, c, rfl, hb, hcl, hK, fun j u hu => by have := hcell j u hu; rwa [Addr.add_lit] at this⟩
theorem kd_len {α : Type} {d : Kd α} {w : World} {A : Option Addr} {n : Nat} {xs : List α} (h : Kd.C d w A n xs) : xs.length = n ∧ (xs.length : Int) ≤ 9223372036854775807 := by
  obtain ⟨hl, hm, _⟩ := h
  exact ⟨hl, by omega⟩
theorem kd_bool {w : World} {A : Option Addr} {n : Nat} {xs : List Bool} (h : Kd.C Kd.bool w A n xs) {i : Nat} {x : Bool} (hx : xs[i]? = some x) :
    ∃ b o, A = some ⟨b, o, none⟩ ∧ b < w.heap.size ∧ w.cell? ⟨b, o + i, none⟩ = some (.bool x) := by
  obtain ⟨b, o, cs, rfl, hb, _, hK, hc⟩ := kd_at h (by exact Nat.one_pos) hx
  have hK : cs = [.bool x] := hK
  subst hK
  refine ⟨b, o, rfl, hb, ?_⟩
  have := hc 0 _ rfl
  simpa [Kd.bool, Kd.scalar] using this
theorem Ju {α : Type} {d : Kd α} {w w1 : World} {A : Option Addr} {n : Nat} {xs : List α} (h : Kd.C d w A n xs) (hw : Is w w1) : Kd.C d w1 A n xs := Kd.Zw h hw.below
end Go.Proofs.Ytkbkndfonccekaa
namespace Go.Proofs.Ytkbkndfonccekaa
open Go.RowKit
open Go.ChangeMaps (setBlock)
structure KeyEnc (P : Program) (kt : TypeId) (κ : Type) where
  enc : κ → Value
  ok : κ → Prop
  law : Maps.Keyed P kt
  key : ∀ k, ok k → ∃ l, keyOf P kt (enc k) = some l
  inj : ∀ a b, enc a = enc b → a = b
section
variable {κ ν : Type} [DecidableEq κ]
def mget : List (κ × ν) → κ → Option ν
  | [], _ => none
  | p :: m, k => if p.1 = k then some p.2 else mget m k
def mput : List (κ × ν) → κ → ν → List (κ × ν)
  | [], k, v => [(k, v)]
  | p :: m, k, v => if p.1 = k then (k, v) :: m else p :: mput m k v
theorem mget_mput (m : List (κ × ν)) (k k' : κ) (v : ν) : mget (mput m k v) k' = if k = k' then some v else mget m k' := by
  induction m with
  | nil => simp [mget, mput]
  | cons p m ih =>
    simp only [mput]
    split
    · rename_i h
      simp only [mget, h]
      split <;> simp_all
    · rename_i h
      simp only [mget, ih]
      split
      · rename_i h2
        rw [if_neg (by rintro rfl; exact h h2)]
      · rfl
theorem mem_mput {m : List (κ × ν)} {k : κ} {v : ν} {p : κ × ν} (h : p ∈ mput m k v) : p = (k, v) ∨ p ∈ m := by
  induction m with
  | nil => simpa [mput] using h
  | cons q m ih =>
    simp only [mput] at h
    split at h
    · rcases List.mem_cons.1 h with h | h
      · exact .inl h
      · exact .inr (List.mem_cons_of_mem _ h)
    · rcases List.mem_cons.1 h with h | h
      · exact .inr (h ▸ List.mem_cons_self)
      · rcases ih h with h | h
        · exact .inl h
        · exact .inr (List.mem_cons_of_mem _ h)
theorem mput_new {m : List (κ × ν)} {k : κ} {v : ν} (h : ∀ p ∈ m, p.1 ≠ k) : mput m k v = m ++ [(k, v)] := by
  induction m with
  | nil => rfl
  | cons p m ih => rw [mput, if_neg (h p List.mem_cons_self), ih (fun q hq => h q (List.mem_cons_of_mem _ hq))]; rfl
theorem mget_new {m : List (κ × ν)} {k : κ} (h : ∀ p ∈ m, p.1 ≠ k) : mget m k = none := by
  induction m with
  | nil => rfl
  | cons p m ih => rw [mget, if_neg (h p List.mem_cons_self), ih (fun q hq => h q (List.mem_cons_of_mem _ hq))]
theorem mput_at {m : List (κ × ν)} (hn : (m.map (·.1)).Nodup) {j : Nat} {k : κ} {v0 v : ν} (h : m[j]? = some (k, v0)) : mput m k v = m.set j (k, v) := by
  induction m generalizing j with
  | nil => simp at h
  | cons p m ih =>
    rw [List.map_cons, List.nodup_cons] at hn
    cases j with
    | zero =>
      simp only [List.getElem?_cons_zero, Option.some.injEq] at h
      subst h
      simp [mput]
    | succ j =>
      simp only [List.getElem?_cons_succ] at h
      have hm : (k, v0) ∈ m := List.mem_of_getElem? h
      rw [mput, if_neg (fun h0 : p.1 = k => hn.1 (by rw [h0]; exact List.mem_map_of_mem (f := Prod.fst) hm)), ih hn.2 h]
      rfl
theorem mget_at {m : List (κ × ν)} (hn : (m.map (·.1)).Nodup) {j : Nat} {k : κ} {v0 : ν} (h : m[j]? = some (k, v0)) : mget m k = some v0 := by
  induction m generalizing j with
  | nil => simp at h
  | cons p m ih =>
    rw [List.map_cons, List.nodup_cons] at hn
    cases j with
    | zero =>
      simp only [List.getElem?_cons_zero, Option.some.injEq] at h
      subst h
      simp [mget]
    | succ j =>
      simp only [List.getElem?_cons_succ] at h
      have hm : (k, v0) ∈ m := List.mem_of_getElem? h
      rw [mget, if_neg (fun h0 : p.1 = k => hn.1 (by rw [h0]; exact List.mem_map_of_mem (f := Prod.fst) hm)), ih hn.2 h]
theorem nodup_mput {m : List (κ × ν)} (hn : (m.map (·.1)).Nodup) (k : κ) (v : ν) : ((mput m k v).map (·.1)).Nodup := by
  induction m with
  | nil => simp [mput]
  | cons p m ih =>
    rw [List.map_cons, List.nodup_cons] at hn
    rw [mput]
    split
    · rename_i h
      rw [List.map_cons, List.nodup_cons]
      exact ⟨h ▸ hn.1, hn.2⟩
    · rename_i h
      rw [List.map_cons, List.nodup_cons]
      refine ⟨fun hm => ?_, ih hn.2⟩
      obtain ⟨q, hq, he⟩ := List.mem_map.1 hm
      rcases mem_mput hq with rfl | hq
      · exact h he.symm
      · exact hn.1 (he ▸ List.mem_map_of_mem (f := (·.1)) hq)
def MapAt {P : Program} {kt : TypeId} (E : KeyEnc P kt κ) (ev : ν → Value) (w : World) (b : Nat) (m : List (κ × ν)) : Prop :=
  ∃ es clock, w.heap[b]? = some (.map es clock) ∧ es.toList.map (fun e => (e.key, e.val)) = m.map (fun p => (E.enc p.1, ev p.2)) ∧ (∀ p ∈ m, E.ok p.1) ∧ (m.map (·.1)).Nodup
variable {P : Program} {kt : TypeId} {E : KeyEnc P kt κ} {ev : ν → Value} {w : World} {b : Nat} {m : List (κ × ν)}
omit [DecidableEq κ] in
theorem MapAt.step {w1 : World} (h : MapAt E ev w b m) (hb : w1.heap[b]? = w.heap[b]?) : MapAt E ev w1 b m := by
  obtain ⟨es, clock, h1, h2⟩ := h
  exact ⟨es, clock, hb.trans h1, h2⟩
omit [DecidableEq κ] in
theorem MapAt.lt (h : MapAt E ev w b m) : b < w.heap.size := by
  obtain ⟨es, clock, h1, _⟩ := h
  exact (Array.getElem?_eq_some_iff.1 h1).1
omit [DecidableEq κ] in
theorem MapAt.is {w1 : World} (h : MapAt E ev w b m) (hw : Is w w1) : MapAt E ev w1 b m := h.step (hw.below.block b h.lt)
omit [DecidableEq κ] in
theorem MapAt.made (w : World) : MapAt E ev (w.alloc (.map #[] 0)) w.heap.size ([] : List (κ × ν)) := ⟨#[], 0, heap_alloc_new w _, rfl, by simp, by simp⟩
theorem map_find (h : MapAt E ev w b m) {k : κ} (hk : E.ok k) : ∃ es clock, w.heap[b]? = some (.map es clock) ∧
    (((Instr.findKey kt (E.enc k) es.toList).run P w = .ok none w ∧ mget m k = none ∧ mput (κ := κ) (ν := ν) m k = fun v => m ++ [(k, v)]) ∨
     ∃ j v0 e0, (Instr.findKey kt (E.enc k) es.toList).run P w = .ok (some (j, ev v0)) w ∧ es[j]? = some e0 ∧ e0.key = E.enc k ∧ m[j]? = some (k, v0) ∧ mget m k = some v0) := by
  obtain ⟨es, clock, h1, h2, h3, h4⟩ := h
  refine ⟨es, clock, h1, ?_⟩
  obtain ⟨l, hl⟩ := E.key k hk
  have hks : ∀ e ∈ es.toList, ∃ l, keyOf P kt e.key = some l := by
    intro e he
    have : (e.key, e.val) ∈ m.map (fun p => (E.enc p.1, ev p.2)) := h2 ▸ List.mem_map_of_mem (f := fun e : MapEntry => (e.key, e.val)) he
    obtain ⟨p, hp, hpe⟩ := List.mem_map.1 this
    have : e.key = E.enc p.1 := (congrArg Prod.fst hpe).symm
    rw [this]
    exact E.key p.1 (h3 p hp)
  rcases E.law.find w hl es.toList hks with ⟨hf, hne⟩ | ⟨j, e0, hf, hj, hke⟩
  · left
    have hne2 : ∀ p ∈ m, p.1 ≠ k := by
      rintro p hp rfl
      have : (E.enc p.1, ev p.2) ∈ es.toList.map (fun e => (e.key, e.val)) := h2 ▸ List.mem_map_of_mem (f := fun p : κ × ν => (E.enc p.1, ev p.2)) hp
      obtain ⟨e, he, hee⟩ := List.mem_map.1 this
      exact hne e he (congrArg Prod.fst hee)
    exact ⟨hf, mget_new hne2, funext fun v => mput_new hne2⟩
  · right
    have hx : (m.map (fun p => (E.enc p.1, ev p.2)))[j]? = some (e0.key, e0.val) := by rw [← h2, List.getElem?_map, hj]; rfl
    rw [List.getElem?_map] at hx
    cases hm : m[j]? with
    | none => rw [hm] at hx; simp at hx
    | some p =>
      rw [hm] at hx
      simp only [Option.map_some, Option.some.injEq, Prod.mk.injEq] at hx
      have hpk : p.1 = k := E.inj _ _ (hx.1.trans hke)
      obtain ⟨p1, p2⟩ := p
      subst hpk
      exact ⟨j, p2, e0, by rw [hf, hx.2], by simpa using hj, hke, hm, mget_at h4 hm⟩
theorem run_mapLookupOk (h : MapAt E ev w b m) {t e : TypeId} (ht : P.underlying t = some (.map kt e)) {z : Value} (hz : (zeroValue e).run P w = .ok z w) {k : κ} (hk : E.ok k) :
    (Instr.lookup t (.map (some b)) (E.enc k) true).run P w = .ok (.tuple #[((mget m k).map ev).getD z, .bool (mget m k).isSome]) w := by
  obtain ⟨l, hl⟩ := E.key k hk
  obtain ⟨es, clock, h1, hf | ⟨j, v0, e0, hf, _, _, _, hg⟩⟩ := map_find h hk
  · simp [Instr.lookup, run_underlying ht, MapKept.run_getObj_map h1, E.law.check w _ hl, hf.1, hf.2.1, hz, Result.andThen]
  · simp [Instr.lookup, run_underlying ht, MapKept.run_getObj_map h1, E.law.check w _ hl, hf, hg, Result.andThen]
theorem Jf (h : MapAt E ev w b m) {t e : TypeId} (ht : P.underlying t = some (.map kt e)) {k : κ} (hk : E.ok k) (v : ν) :
    ∃ o, (Instr.mapUpdate t (.map (some b)) (E.enc k) (ev v)).run P w = .ok () (setBlock w b o) ∧ MapAt E ev (setBlock w b o) b (mput m k v) := by
  obtain ⟨l, hl⟩ := E.key k hk
  have hb := h.lt
  have hset : ∀ o, (setBlock w b o).heap[b]? = some o := fun o => by simp [setBlock, hb]
  have hfull := h
  obtain ⟨es', clock', h1', h2, h3, h4⟩ := h
  have hok : ∀ p ∈ mput m k v, E.ok p.1 := fun p hp => by
    rcases mem_mput hp with rfl | hp
    · exact hk
    · exact h3 p hp
  obtain ⟨es, clock, h1, hf | ⟨j, v0, e0, hf, he0, hke, hm, hg⟩⟩ := map_find hfull hk
  · rw [h1] at h1'
    cases h1'
    refine ⟨.map (es'.push { key := E.enc k, val := ev v, born := clock' }) (clock' + 1), ?_, _, _, hset _, ?_, hok, nodup_mput h4 k v⟩
    · simp [Instr.mapUpdate, run_underlying ht, MapKept.run_getObj_map h1, E.law.check w _ hl, hf.1, MapKept.run_setObj_map _ h1, Result.andThen, setBlock]
    · rw [hf.2.2]
      simp [h2]
  · rw [h1] at h1'
    cases h1'
    refine ⟨.map (es'.modify j fun e => { e with key := E.enc k, val := ev v }) clock', ?_, _, _, hset _, ?_, hok, nodup_mput h4 k v⟩
    · simp [Instr.mapUpdate, run_underlying ht, MapKept.run_getObj_map h1, E.law.check w _ hl, hf, he0, hke, E.law.stays w hl, MapKept.run_setObj_map _ h1, Result.andThen, setBlock]
    · rw [mput_at h4 hm]
      apply List.ext_getElem?
      intro i
      have hi := congrArg (fun l => l[i]?) h2
      simp only [List.getElem?_map] at hi ⊢
      rw [Array.getElem?_toList, Array.getElem?_modify, List.getElem?_set]
      have hjl : j < m.length := (List.getElem?_eq_some_iff.1 hm).1
      rw [Array.getElem?_toList] at hi
      by_cases hij : j = i
      · subst hij
        rw [if_pos rfl, if_pos rfl, if_pos hjl, he0]
        rfl
      · rw [if_neg hij, if_neg hij]
        exact hi
end
structure But (w : World) (G : Nat → Prop) where
  val : World
  os : val.os = w.os
  tape : val.tape = w.tape
  output : val.output = w.output
  size : w.heap.size ≤ val.heap.size
  block : ∀ k, k < w.heap.size → ¬ G k → val.heap[k]? = w.heap[k]?
namespace But
variable {w : World} {G : Nat → Prop}
@[go_sem] theorem cell (x : But w G) (b o : Nat) (h : b < w.heap.size) (hG : ¬ G b) : x.val.cell? ⟨b, o, none⟩ = w.cell? ⟨b, o, none⟩ := World.cell?_of_block (a := ⟨b, o, none⟩) (x.block b h hG)
@[go_sem] theorem frozen (x : But w G) (b o : Nat) (h : b < w.heap.size) (hG : ¬ G b) : x.val.frozen? ⟨b, o, none⟩ = w.frozen? ⟨b, o, none⟩ := World.frozen?_of_block (a := ⟨b, o, none⟩) (x.block b h hG)
@[go_sem] theorem lt (x : But w G) (b : Nat) (h : b < w.heap.size) : b < x.val.heap.size := Nat.lt_of_lt_of_le h x.size
def refl (w : World) (G : Nat → Prop) : But w G := ⟨w, rfl, rfl, rfl, Nat.le_refl _, fun _ _ _ => rfl⟩
def under (x : But w G) (y : Under x.val) : But w G := ⟨y.val, y.ok.os.trans x.os, y.ok.tape.trans x.tape, y.ok.output.trans x.output, Nat.le_trans x.size y.ok.size, fun k hk hG => (y.ok.block k (Nat.lt_of_lt_of_le hk x.size)).trans (x.block k hk hG)⟩
def set (x : But w G) (b : Nat) (hb : G b) (o : Obj) : But w G := ⟨setBlock x.val b o, x.os, x.tape, x.output, by simpa [setBlock] using x.size, fun k hk hG => by
  have : b ≠ k := fun e => hG (e ▸ hb)
  simp only [setBlock]
  rw [Array.getElem?_setIfInBounds, if_neg this]
  exact x.block k hk hG⟩
theorem is {w0 : World} (x : But w G) (h : Is w0 w) (hG : ∀ k, G k → w0.heap.size ≤ k) : Is w0 x.val := by
  have hb := h.below
  refine Is.of ⟨x.os.trans hb.os, x.tape.trans hb.tape, x.output.trans hb.output, Nat.le_trans hb.size x.size, fun k hk => ?_⟩
  exact (x.block k (Nat.lt_of_lt_of_le hk hb.size) (fun hg => by have := hG k hg; omega)).trans (hb.block k hk)
end But
@[go_sem] theorem setBlock_cell (w : World) (b b' o' : Nat) (o : Obj) (h : b' ≠ b) : (setBlock w b o).cell? ⟨b', o', none⟩ = w.cell? ⟨b', o', none⟩ := by
  refine World.cell?_of_block (a := ⟨b', o', none⟩) ?_
  simp only [setBlock]
  rw [Array.getElem?_setIfInBounds, if_neg (Ne.symm h)]
@[go_sem] theorem setBlock_size (w : World) (b : Nat) (o : Obj) : (setBlock w b o).heap.size = w.heap.size := by simp [setBlock]
def intKey (P : Program) (kt : TypeId) (q : IntKind) (h : P.underlying kt = some (.int q)) : KeyEnc P kt Int where
  enc := Value.int q
  ok := fun x => InK q x
  law := Maps.int_keyed h
  key := fun x hx => ⟨_, Maps.keyOf_int_mk h (by simp only [Lit.wf, Bool.and_eq_true, decide_eq_true_eq]; exact hx)⟩
  inj := fun a b h => by injection h
end Go.Proofs.Ytkbkndfonccekaa
namespace Go.Proofs.Ytkbkndfonccekaa
open Go.RowKit Go.Proofs.YtkbkndfonccekaaW.PrintWords Go.Proofs.Ytkbkndfonccekaa.PF
theorem get_ex {α : Type} {xs : List α} {i : Nat} (h : i < xs.length) : ∃ x, xs[i]? = some x := ⟨xs[i], List.getElem?_eq_getElem h⟩
theorem drop_cons {α : Type} {xs : List α} {i : Nat} {x : α} (h : xs[i]? = some x) : xs.drop i = x :: xs.drop (i + 1) := by
  obtain ⟨hi, rfl⟩ := List.getElem?_eq_some_iff.1 h
  exact List.drop_eq_getElem_cons hi
theorem drop_end {α : Type} (xs : List α) : xs.drop xs.length = [] := List.drop_length
def Aside (p : Prop) : Prop := p
theorem Aside.out {p : Prop} (h : Aside p) : p := h
instance (w : World) (G : Nat → Prop) : Nonempty (But w G) := ⟨But.refl w G⟩
end Go.Proofs.Ytkbkndfonccekaa
namespace Go.Proofs.Ytkbkndfonccekaa
open Go.RowKit Go.Proofs.YtkbkndfonccekaaW.PrintWords Go.Proofs.Ytkbkndfonccekaa.PF
set_option maxRecDepth 100000
abbrev Jn := Qh
def listB (g : Jn → Jn → Bool) : List Jn → List Jn → Bool
  | [], [] => true
  | x :: xs, y :: ys => g x y && listB g xs ys
  | _, _ => false
def sameB : Nat → Jn → Jn → Bool
  | 0, _, _ => false
  | k + 1, a, b => decide (a.f0 = b.f0) && decide (a.f1 = b.f1) && decide (a.f2 = b.f2) && (decide (a.f3.f0 = b.f3.f0) && decide (a.f3.f1 = b.f3.f1) && decide (a.f3.f2 = b.f3.f2)) && decide (a.f4 = b.f4) && decide (a.f5 = b.f5) && decide (a.f6 = b.f6) && listB (sameB k) a.f7 b.f7
theorem listB_len {g : Jn → Jn → Bool} : ∀ {xs ys : List Jn}, listB g xs ys = true → xs.length = ys.length
  | [], [], _ => rfl
  | x :: xs, y :: ys, h => by
    rw [listB, Bool.and_eq_true] at h
    rw [List.length_cons, List.length_cons, listB_len h.2]
theorem listB_at {g : Jn → Jn → Bool} : ∀ {xs ys : List Jn} {i : Nat} {x y : Jn}, listB g xs ys = true → xs[i]? = some x → ys[i]? = some y → g x y = true
  | x :: xs, y :: ys, 0, a, b, h, ha, hb => by
    rw [listB, Bool.and_eq_true] at h
    cases ha
    cases hb
    exact h.1
  | x :: xs, y :: ys, i + 1, a, b, h, ha, hb => by
    rw [listB, Bool.and_eq_true] at h
    exact listB_at h.2 ha hb
theorem listB_mono {g g' : Jn → Jn → Bool} (hg : ∀ a b, g a b = true → g' a b = true) : ∀ {xs ys : List Jn}, listB g xs ys = true → listB g' xs ys = true
  | [], [], _ => rfl
  | x :: xs, y :: ys, h => by
    rw [listB, Bool.and_eq_true] at h ⊢
    exact ⟨hg _ _ h.1, listB_mono hg h.2⟩
theorem sameB_mono : ∀ {k : Nat} {a b : Jn}, sameB k a b = true → sameB (k + 1) a b = true
  | 0, a, b, h => by cases h
  | k + 1, a, b, h => by
    rw [sameB, Bool.and_eq_true] at h ⊢
    exact ⟨h.1, listB_mono (fun _ _ => sameB_mono) h.2⟩
theorem eqBits (d : Nat) (w : World) (a0 a1 a2 b0 b1 b2 : Int) : (Op.equalIn (d + 2) 24 (.agg #[.int .i64 a0, .int .u64 a1, .int .u64 a2]) (.agg #[.int .i64 b0, .int .u64 b1, .int .u64 b2])).run Try.prog w = .ok (a0 == b0 && (a1 == b1 && a2 == b2)) w := by
  refine eqStruct Try.underlying24 (by kernel_rfl) ?_
  refine eqFields_step (by decide) (by go_simp; rfl) (by go_simp; rfl) (by go_simp) ?_
  refine eqFields_step (by decide) (by go_simp; rfl) (by go_simp; rfl) (by go_simp) ?_
  exact eqFields_last (by decide) (by go_simp; rfl) (by go_simp; rfl) (by go_simp)
attribute [go_sem high] eqBits
abbrev exV (a : Jn) (A : Option Addr) (c : Nat) : Value := .agg #[.int .i64 a.f0, .int .i64 a.f1, .bool a.f2, .int .i64 a.f3.f0, .int .u64 a.f3.f1, .int .u64 a.f3.f2, .int .i64 a.f4, .bool a.f5, .int .i64 a.f6, .slice A a.f7.length c]
theorem kd_expr {w : World} {A : Option Addr} {n : Nat} {xs : List Jn} (h : Kd.C k27 w A n xs) {i : Nat} {x : Jn} (hx : xs[i]? = some x) :
    ∃ b o A2 c2, A = some ⟨b, o, none⟩ ∧ b < w.heap.size ∧ x.f7.length ≤ c2 ∧ Kd.C k27 w A2 x.f7.length x.f7 ∧ w.cell? ⟨b, o + i * 10, none⟩ = some (.int .i64 x.f0) ∧ w.cell? ⟨b, o + i * 10 + 1, none⟩ = some (.int .i64 x.f1) ∧ w.cell? ⟨b, o + i * 10 + 2, none⟩ = some (.bool x.f2) ∧
      w.cell? ⟨b, o + i * 10 + 3, none⟩ = some (.int .i64 x.f3.f0) ∧ w.cell? ⟨b, o + i * 10 + 4, none⟩ = some (.int .u64 x.f3.f1) ∧ w.cell? ⟨b, o + i * 10 + 5, none⟩ = some (.int .u64 x.f3.f2) ∧ w.cell? ⟨b, o + i * 10 + 6, none⟩ = some (.int .i64 x.f4) ∧ w.cell? ⟨b, o + i * 10 + 7, none⟩ = some (.bool x.f5) ∧ w.cell? ⟨b, o + i * 10 + 8, none⟩ = some (.int .i64 x.f6) ∧ w.cell? ⟨b, o + i * 10 + 9, none⟩ = some (.slice A2 x.f7.length c2) := by
  obtain ⟨b, o, cs, rfl, hb, _, hK, hc⟩ := kd_at h (by exact Nat.succ_pos _) hx
  obtain ⟨A2, c2, rfl, hl, hC⟩ := k27_open hK
  have hj : ∀ j u, _ → w.cell? ⟨b, o + i * 10 + j, none⟩ = some u := fun j u hu => by have := hc j u hu; rwa [← Nat.add_assoc] at this
  exact ⟨b, o, A2, c2, rfl, hb, hl, hC, hc 0 _ rfl, hj 1 _ rfl, hj 2 _ rfl, hj 3 _ rfl, hj 4 _ rfl, hj 5 _ rfl, hj 6 _ rfl, hj 7 _ rfl, hj 8 _ rfl, hj 9 _ rfl⟩
def SameC (g : Jn → Jn → Bool) : Prop := ∀ (a b : Jn) (A1 : Option Addr) (c1 : Nat) (A2 : Option Addr) (c2 : Nat) (W : World), Kd.C k27 W A1 a.f7.length a.f7 → Kd.C k27 W A2 b.f7.length b.f7 → g a b = true →
  Calls Try.prog 14 #[exV a A1 c1, exV b A2 c2] W fun e w' => e = .returned (.bool true) ∧ Is W w'
set_option maxHeartbeats 8000000 in
theorem eqfunc_walk (g : Jn → Jn → Bool) (HG : SameC g) (A0 A1 : Option Addr) (c0 c1 : Nat) (xs ys : List Jn) (w : World) (h0 : Kd.C k27 w A0 xs.length xs) (h1 : Kd.C k27 w A1 ys.length ys) (hg : listB g xs ys = true) :
    Calls Try.prog 12 #[.slice A0 xs.length c0, .slice A1 ys.length c1, .func (.func 14) #[] #[]] w fun e w' => e = .returned (.bool true) ∧ Is w w' := by
  have hu := Try.underlying27
  have hl := listB_len hg
  have hm := (kd_len h0).2
  have q0 : ((xs.length : Int) != (ys.length : Int)) = false := by rw [bne_eq_false_iff_eq]; omega
  have hgh := Lib.hid hg
  have hlh := Lib.hid hl
  clear hg hl
  go_enter Try.func12, Try.ntmps12
  go_wp2
  go_loopg [7, 8, 9, 17] xs.length (fun d _ _ _ t wr => ∃ (i : Nat) (y : Under w), t = .int .i64 i ∧ wr = y.val ∧ Aside (i + d = xs.length))
  case atStart => exact ⟨0, Under.refl w, rfl, rfl, by show 0 + xs.length = xs.length; omega⟩
  case round =>
    obtain ⟨i, y, rfl, rfl, hi⟩ := hrel
    have hys := y.size
    by_cases hlt : i < xs.length
    · obtain ⟨gk, rfl⟩ : ∃ m, gk = m + 1 := ⟨gk - 1, by have := hi.out; omega⟩
      obtain ⟨a, ha⟩ := get_ex hlt
      obtain ⟨b, hb⟩ := get_ex (xs := ys) (i := i) (by have := hlh.out; omega)
      obtain ⟨ba, oa, Aa, ca, rfl, hba, hla, hCa, a0, a1, a2, a3, a4, a5, a6, a7, a8, a9⟩ := kd_expr h0 ha
      obtain ⟨bb, ob, Ab, cb, rfl, hbb, hlb, hCb, b0, b1, b2, b3, b4, b5, b6, b7, b8, b9⟩ := kd_expr h1 hb
      have hly : i < ys.length := by have := hlh.out; omega
      have n1 : ba < y.val.heap.size := by omega
      have n2 : ba ≠ y.val.heap.size := by omega
      have n3 : bb < y.val.heap.size := by omega
      have n4 : bb ≠ y.val.heap.size := by omega
      have n5 : bb ≠ y.val.heap.size + 1 := by omega
      have n6 : bb < y.val.heap.size + 1 := by omega
      have hab := Lib.hid (listB_at hgh.out ha hb)
      have hih := Lib.hid hi.out
      have hw1 : Is w ((y.val.alloc (.cells #[.int .i64 a.f0, .int .i64 a.f1, .bool a.f2, .int .i64 a.f3.f0, .int .u64 a.f3.f1, .int .u64 a.f3.f2, .int .i64 a.f4, .bool a.f5, .int .i64 a.f6, .slice Aa a.f7.length ca] 27)).alloc (.cells #[.int .i64 b.f0, .int .i64 b.f1, .bool b.f2, .int .i64 b.f3.f0, .int .u64 b.f3.f1, .int .u64 b.f3.f2, .int .i64 b.f4, .bool b.f5, .int .i64 b.f6, .slice Ab b.f7.length cb] 27)) := ((Is.val y).alloc _).alloc _
      clear ha hb hi hla hlb
      go_wp2_with (go_at_call 14; refine (HG a b Aa ca Ab cb _ (Ju hCa hw1) (Ju hCb hw1) hab.out).mono ?_; rintro e w2 ⟨rfl, hIs⟩; obtain ⟨x2, rfl⟩ := hIs)
      go_roundg gk
      case measure => have := hih.out; omega
      case rel => exact ⟨i + 1, ((y.alloc _).alloc _).trans x2, by go_num, rfl, by show i + 1 + gk = xs.length; have := hih.out; omega⟩
    · obtain rfl : i = xs.length := by have := hi.out; omega
      clear hi
      go_wp2
      go_ret
      exact ⟨rfl, Is.val y⟩
set_option maxHeartbeats 8000000 in
theorem same_walk : ∀ k, SameC (sameB k)
  | 0 => fun a b _ _ _ _ _ _ _ h => by cases h
  | k + 1 => by
    intro a b A1 c1 A2 c2 W h1 h2 h
    have HG := same_walk k
    rw [sameB] at h
    simp only [Bool.and_eq_true, decide_eq_true_eq] at h
    obtain ⟨⟨⟨⟨⟨⟨⟨e0, e1⟩, e2⟩, ⟨e3, e4⟩, e5⟩, e6⟩, e7⟩, e8⟩, hl⟩ := h
    obtain ⟨a0, a1, a2, ⟨a3, a4, a5⟩, a6, a7, a8, a9⟩ := a
    obtain ⟨b0, b1, b2, ⟨b3, b4, b5⟩, b6, b7, b8, b9⟩ := b
    simp only at e0 e1 e2 e3 e4 e5 e6 e7 e8 hl h1 h2
    subst e0 e1 e2 e3 e4 e5 e6 e7 e8
    have hu := Try.underlying27
    have hub := Try.underlying24
    have hw : Is W ((W.alloc (.cells #[.int .i64 a0, .int .i64 a1, .bool a2, .int .i64 a3, .int .u64 a4, .int .u64 a5, .int .i64 a6, .bool a7, .int .i64 a8, .slice A1 a9.length c1] 27)).alloc (.cells #[.int .i64 a0, .int .i64 a1, .bool a2, .int .i64 a3, .int .u64 a4, .int .u64 a5, .int .i64 a6, .bool a7, .int .i64 a8, .slice A2 b9.length c2] 27)) := ((Is.refl W).alloc _).alloc _
    have HE := eqfunc_walk (sameB k) HG A1 A2 c1 c2 a9 b9 _ (Ju h1 hw) (Ju h2 hw) hl
    clear HG hl h1 h2
    have HEh := Lib.hid HE
    clear HE
    go_enter Try.func14, Try.ntmps14
    go_wp2_with (go_at_call 12; refine HEh.out.mono ?_; rintro e w2 ⟨rfl, hIs⟩; obtain ⟨x2, rfl⟩ := hIs)
    go_ret
    exact ⟨rfl, hw.step x2⟩
end Go.Proofs.Ytkbkndfonccekaa
namespace Go.Proofs.Ytkbkndfonccekaa.PF
open Go.RowKit Go.Proofs.YtkbkndfonccekaaW.PrintWords Go.Proofs.YtkbkndfonccekaaW.PrintLast Go.Proofs.YtkbkndfonccekaaW.PrintMore
attribute [local go_sem] Qn Qp Kq Kt
set_option linter.unusedVariables false
set_option linter.unusedSimpArgs false
theorem eqA24 (d : Nat) (w : World) (x0 y0 : Int) (x1 y1 : Int) (x2 y2 : Int) :
    (Op.equalIn (d + 2) 24 (.agg #[.int .i64 x0, .int .u64 x1, .int .u64 x2]) (.agg #[.int .i64 y0, .int .u64 y1, .int .u64 y2])).run Try.prog w = .ok (x0 == y0 && (x1 == y1 && (x2 == y2))) w := by
  refine eqA_of Try.underlying24 (by kernel_rfl) ?_
  refine eqf_cons (by rfl) (by go_simp; rfl) (by go_simp; rfl) (by go_simp) ?_
  refine eqf_cons (by rfl) (by go_simp; rfl) (by go_simp; rfl) (by go_simp) ?_
  exact eqf_last (by rfl) (by go_simp; rfl) (by go_simp; rfl) (by go_simp)
end Go.Proofs.Ytkbkndfonccekaa.PF
namespace Go.Proofs.Ytkbkndfonccekaa.PF
open Go.RowKit Go.Proofs.YtkbkndfonccekaaW.PrintWords Go.Proofs.YtkbkndfonccekaaW.PrintLast Go.Proofs.YtkbkndfonccekaaW.PrintMore
attribute [local go_sem] Qn Qp Kq Kt
set_option linter.unusedVariables false
set_option linter.unusedSimpArgs false
attribute [local go_sem high] eqA24
def seq_none.f (J7 : Int) (Ji : Int) (Jo : Bool) (Ja : Int) (J9 : Int) (J8 : Int) (Jg : Int) (Jk : Bool) (Je : Int) (Jm : List (Qh)) : Option (Bool) := if J7 = 0 then (if Ji = 0 then (if Jo = true then (some false) else (if (Ja == 0 && (J9 == 0 && (J8 == 0))) = true then (if Jg = 0 then (if Jk = true then (some false) else (if Je = 0 then (some ((Jm.length : Int) == 0)) else (some false))) else (some false)) else (some false))) else (some false)) else (some false)
set_option maxHeartbeats 8000000 in
set_option maxRecDepth 100000 in
theorem seq_none.calls (J7 : Int) (Ji : Int) (Jo : Bool) (Ja : Int) (J9 : Int) (J8 : Int) (Jg : Int) (Jk : Bool) (Je : Int) (A0_9 : Option Addr) (c0_9 : Nat) (Jm : List (Qh)) (r : Bool) (w : World) (hr0_9 : Kd.C k27 w A0_9 Jm.length Jm) (hc0_9 : Jm.length ≤ c0_9) (h : seq_none.f J7 Ji Jo Ja J9 J8 Jg Jk Je Jm = some r) :
 Calls Try.prog 31 #[.agg #[.int .i64 J7, .int .i64 Ji, .bool Jo, .int .i64 Ja, .int .u64 J9, .int .u64 J8, .int .i64 Jg, .bool Jk, .int .i64 Je, .slice A0_9 Jm.length c0_9]] w fun e w' => e = .returned (.bool r) ∧ Below w.heap.size w w' := by
 have hu27 := Try.underlying27
 have hu24 := Try.underlying24
 have HR0_9 := Zd.mk hr0_9
 have HC0_9 := Zd.mk hc0_9
 clear hr0_9 hc0_9
 have HB := Zd.mk (Below.refl w.heap.size w)
 have H : (if J7 = 0 then (if Ji = 0 then (if Jo = true then (some false) else (if (Ja == 0 && (J9 == 0 && (J8 == 0))) = true then (if Jg = 0 then (if Jk = true then (some false) else (if Je = 0 then (some ((Jm.length : Int) == 0)) else (some false))) else (some false)) else (some false))) else (some false)) else (some false)) = some r := h
 clear h
 by_cases c2 : J7 = 0
 ·rw [if_pos c2] at H
  have c2b0 : (J7 == 0) = true := beq_iff_eq.mpr c2
  have c2b1 : (J7 != 0) = false := bne_eq_false_iff_eq.mpr c2
  clear c2
  by_cases c3 : Ji = 0
  ·rw [if_pos c3] at H
   have c3b0 : (Ji == 0) = true := beq_iff_eq.mpr c3
   have c3b1 : (Ji != 0) = false := bne_eq_false_iff_eq.mpr c3
   clear c3
   by_cases c4 : Jo = true
   ·subst c4
    have H1 : (some false) = some r := by rw [if_pos rfl] at H; exact H
    clear H
    have H := H1
    clear H1
    obtain rfl := Option.some.inj H
    go_enter Try.func31, Try.ntmps31
    go_wp2_with (((with_reducible refine Xd (N := 1) rfl ?_); (try (refine Qb (by rfl) ?_; dsimp only)); refine Xe ?hg (N := 1) ?hd (cs := #[.int .i64 J7, .int .i64 Ji, .bool true, .int .i64 Ja, .int .u64 J9, .int .u64 J8, .int .i64 Jg, .bool Jk, .int .i64 Je, .slice A0_9 Jm.length c0_9]) (t := 27) ?hr ?_; (case hd => rfl); (case hg => rfl); (case hr => first | (go_simp; done) | (go_simp; rfl)); intro J3 hg w5 hbox hb; have n0_ := Zd.mk (Zj HB.out hb); have n1_ := Zd.mk (hbox); have n2_ := Zd.mk ((by rw [hg]; exact (Zl HB.out) : w.heap.size ≤ J3)); have n3_ := n2_; clear HB; have HB := n0_; have J2 := n1_; have GW144 := n2_; have GE144 := n3_; clear n0_ n1_ n2_ n3_; clear hb hbox hg; have hcz6_0 : w5.cell? ⟨J3, 0, none⟩ = some (.int .i64 J7) := (Za J2.out 0).trans rfl; have hcz6_1 : w5.cell? ⟨J3, 1, none⟩ = some (.int .i64 Ji) := (Za J2.out 1).trans rfl; have hcz6_2 : w5.cell? ⟨J3, 2, none⟩ = some (.bool true) := (Za J2.out 2).trans rfl; have hcz6_3 : w5.cell? ⟨J3, 3, none⟩ = some (.int .i64 Ja) := (Za J2.out 3).trans rfl; have hcz6_4 : w5.cell? ⟨J3, 4, none⟩ = some (.int .u64 J9) := (Za J2.out 4).trans rfl; have hcz6_5 : w5.cell? ⟨J3, 5, none⟩ = some (.int .u64 J8) := (Za J2.out 5).trans rfl; have hcz6_6 : w5.cell? ⟨J3, 6, none⟩ = some (.int .i64 Jg) := (Za J2.out 6).trans rfl; have hcz6_7 : w5.cell? ⟨J3, 7, none⟩ = some (.bool Jk) := (Za J2.out 7).trans rfl; have hcz6_8 : w5.cell? ⟨J3, 8, none⟩ = some (.int .i64 Je) := (Za J2.out 8).trans rfl; have hcz6_9 : w5.cell? ⟨J3, 9, none⟩ = some (.slice A0_9 Jm.length c0_9) := (Za J2.out 9).trans rfl; have hfz6_0 := Zb J2.out 0; have hfz6_1 := Zb J2.out 1; have hfz6_2 := Zb J2.out 2; have hfz6_3 := Zb J2.out 3; have hfz6_4 := Zb J2.out 4; have hfz6_5 := Zb J2.out 5; have hfz6_6 := Zb J2.out 6; have hfz6_7 := Zb J2.out 7; have hfz6_8 := Zb J2.out 8; have hfz6_9 := Zb J2.out 9))
    go_ret
    exact ⟨by first | rfl | (simp [errW_none, errW_some] <;> rfl) | (simp [*, errW_none, errW_some] <;> rfl), HB.out⟩
   ·replace c4 := Bool.eq_false_iff.mpr c4
    subst c4
    have H1 : (if (Ja == 0 && (J9 == 0 && (J8 == 0))) = true then (if Jg = 0 then (if Jk = true then (some false) else (if Je = 0 then (some ((Jm.length : Int) == 0)) else (some false))) else (some false)) else (some false)) = some r := by rw [if_neg (show ¬ (false = true) by decide)] at H; exact H
    clear H
    have H := H1
    clear H1
    by_cases c7 : (Ja == 0 && (J9 == 0 && (J8 == 0))) = true
    ·rw [if_pos c7] at H
     have c7b0 : (Ja == 0 && (J9 == 0 && (J8 == 0))) = true := c7
     (try (have c7b1 : decide (Ja = 0 && (J9 == 0 && (J8 == 0))) = true := by simpa using c7))
     (try (have c7b2 : (Ja == 0 && (J9 == 0 && (J8 == 0))) = true := by simpa using c7))
     clear c7
     by_cases c8 : Jg = 0
     ·rw [if_pos c8] at H
      have c8b0 : (Jg == 0) = true := beq_iff_eq.mpr c8
      have c8b1 : (Jg != 0) = false := bne_eq_false_iff_eq.mpr c8
      clear c8
      by_cases c9 : Jk = true
      ·subst c9
       have H1 : (some false) = some r := by rw [if_pos rfl] at H; exact H
       clear H
       have H := H1
       clear H1
       obtain rfl := Option.some.inj H
       go_enter Try.func31, Try.ntmps31
       go_wp2_with (((with_reducible refine Xd (N := 1) rfl ?_); (try (refine Qb (by rfl) ?_; dsimp only)); refine Xe ?hg (N := 1) ?hd (cs := #[.int .i64 J7, .int .i64 Ji, .bool false, .int .i64 Ja, .int .u64 J9, .int .u64 J8, .int .i64 Jg, .bool true, .int .i64 Je, .slice A0_9 Jm.length c0_9]) (t := 27) ?hr ?_; (case hd => rfl); (case hg => rfl); (case hr => first | (go_simp; done) | (go_simp; rfl)); intro J3 hg w10 hbox hb; have n0_ := Zd.mk (Zj HB.out hb); have n1_ := Zd.mk (hbox); have n2_ := Zd.mk ((by rw [hg]; exact (Zl HB.out) : w.heap.size ≤ J3)); have n3_ := n2_; clear HB; have HB := n0_; have J2 := n1_; have GW144 := n2_; have GE144 := n3_; clear n0_ n1_ n2_ n3_; clear hb hbox hg; have hcz11_0 : w10.cell? ⟨J3, 0, none⟩ = some (.int .i64 J7) := (Za J2.out 0).trans rfl; have hcz11_1 : w10.cell? ⟨J3, 1, none⟩ = some (.int .i64 Ji) := (Za J2.out 1).trans rfl; have hcz11_2 : w10.cell? ⟨J3, 2, none⟩ = some (.bool false) := (Za J2.out 2).trans rfl; have hcz11_3 : w10.cell? ⟨J3, 3, none⟩ = some (.int .i64 Ja) := (Za J2.out 3).trans rfl; have hcz11_4 : w10.cell? ⟨J3, 4, none⟩ = some (.int .u64 J9) := (Za J2.out 4).trans rfl; have hcz11_5 : w10.cell? ⟨J3, 5, none⟩ = some (.int .u64 J8) := (Za J2.out 5).trans rfl; have hcz11_6 : w10.cell? ⟨J3, 6, none⟩ = some (.int .i64 Jg) := (Za J2.out 6).trans rfl; have hcz11_7 : w10.cell? ⟨J3, 7, none⟩ = some (.bool true) := (Za J2.out 7).trans rfl; have hcz11_8 : w10.cell? ⟨J3, 8, none⟩ = some (.int .i64 Je) := (Za J2.out 8).trans rfl; have hcz11_9 : w10.cell? ⟨J3, 9, none⟩ = some (.slice A0_9 Jm.length c0_9) := (Za J2.out 9).trans rfl; have hfz11_0 := Zb J2.out 0; have hfz11_1 := Zb J2.out 1; have hfz11_2 := Zb J2.out 2; have hfz11_3 := Zb J2.out 3; have hfz11_4 := Zb J2.out 4; have hfz11_5 := Zb J2.out 5; have hfz11_6 := Zb J2.out 6; have hfz11_7 := Zb J2.out 7; have hfz11_8 := Zb J2.out 8; have hfz11_9 := Zb J2.out 9))
       go_ret
       exact ⟨by first | rfl | (simp [errW_none, errW_some] <;> rfl) | (simp [*, errW_none, errW_some] <;> rfl), HB.out⟩
      ·replace c9 := Bool.eq_false_iff.mpr c9
       subst c9
       have H1 : (if Je = 0 then (some ((Jm.length : Int) == 0)) else (some false)) = some r := by rw [if_neg (show ¬ (false = true) by decide)] at H; exact H
       clear H
       have H := H1
       clear H1
       by_cases c12 : Je = 0
       ·rw [if_pos c12] at H
        have c12b0 : (Je == 0) = true := beq_iff_eq.mpr c12
        have c12b1 : (Je != 0) = false := bne_eq_false_iff_eq.mpr c12
        clear c12
        obtain rfl := Option.some.inj H
        go_enter Try.func31, Try.ntmps31
        go_wp2_with (((with_reducible refine Xd (N := 1) rfl ?_); (try (refine Qb (by rfl) ?_; dsimp only)); refine Xe ?hg (N := 1) ?hd (cs := #[.int .i64 J7, .int .i64 Ji, .bool false, .int .i64 Ja, .int .u64 J9, .int .u64 J8, .int .i64 Jg, .bool false, .int .i64 Je, .slice A0_9 Jm.length c0_9]) (t := 27) ?hr ?_; (case hd => rfl); (case hg => rfl); (case hr => first | (go_simp; done) | (go_simp; rfl)); intro J3 hg w13 hbox hb; have n0_ := Zd.mk (Zj HB.out hb); have n1_ := Zd.mk (hbox); have n2_ := Zd.mk ((by rw [hg]; exact (Zl HB.out) : w.heap.size ≤ J3)); have n3_ := n2_; clear HB; have HB := n0_; have J2 := n1_; have GW144 := n2_; have GE144 := n3_; clear n0_ n1_ n2_ n3_; clear hb hbox hg; have hcz14_0 : w13.cell? ⟨J3, 0, none⟩ = some (.int .i64 J7) := (Za J2.out 0).trans rfl; have hcz14_1 : w13.cell? ⟨J3, 1, none⟩ = some (.int .i64 Ji) := (Za J2.out 1).trans rfl; have hcz14_2 : w13.cell? ⟨J3, 2, none⟩ = some (.bool false) := (Za J2.out 2).trans rfl; have hcz14_3 : w13.cell? ⟨J3, 3, none⟩ = some (.int .i64 Ja) := (Za J2.out 3).trans rfl; have hcz14_4 : w13.cell? ⟨J3, 4, none⟩ = some (.int .u64 J9) := (Za J2.out 4).trans rfl; have hcz14_5 : w13.cell? ⟨J3, 5, none⟩ = some (.int .u64 J8) := (Za J2.out 5).trans rfl; have hcz14_6 : w13.cell? ⟨J3, 6, none⟩ = some (.int .i64 Jg) := (Za J2.out 6).trans rfl; have hcz14_7 : w13.cell? ⟨J3, 7, none⟩ = some (.bool false) := (Za J2.out 7).trans rfl; have hcz14_8 : w13.cell? ⟨J3, 8, none⟩ = some (.int .i64 Je) := (Za J2.out 8).trans rfl; have hcz14_9 : w13.cell? ⟨J3, 9, none⟩ = some (.slice A0_9 Jm.length c0_9) := (Za J2.out 9).trans rfl; have hfz14_0 := Zb J2.out 0; have hfz14_1 := Zb J2.out 1; have hfz14_2 := Zb J2.out 2; have hfz14_3 := Zb J2.out 3; have hfz14_4 := Zb J2.out 4; have hfz14_5 := Zb J2.out 5; have hfz14_6 := Zb J2.out 6; have hfz14_7 := Zb J2.out 7; have hfz14_8 := Zb J2.out 8; have hfz14_9 := Zb J2.out 9))
        go_ret
        exact ⟨by first | rfl | (simp [errW_none, errW_some] <;> rfl) | (simp [*, errW_none, errW_some] <;> rfl), HB.out⟩
       ·rw [if_neg c12] at H
        have c12b0 : (Je == 0) = false := beq_eq_false_iff_ne.mpr c12
        have c12b1 : (Je != 0) = true := bne_iff_ne.mpr c12
        obtain rfl := Option.some.inj H
        go_enter Try.func31, Try.ntmps31
        go_wp2_with (((with_reducible refine Xd (N := 1) rfl ?_); (try (refine Qb (by rfl) ?_; dsimp only)); refine Xe ?hg (N := 1) ?hd (cs := #[.int .i64 J7, .int .i64 Ji, .bool false, .int .i64 Ja, .int .u64 J9, .int .u64 J8, .int .i64 Jg, .bool false, .int .i64 Je, .slice A0_9 Jm.length c0_9]) (t := 27) ?hr ?_; (case hd => rfl); (case hg => rfl); (case hr => first | (go_simp; done) | (go_simp; rfl)); intro J3 hg w15 hbox hb; have n0_ := Zd.mk (Zj HB.out hb); have n1_ := Zd.mk (hbox); have n2_ := Zd.mk ((by rw [hg]; exact (Zl HB.out) : w.heap.size ≤ J3)); have n3_ := n2_; clear HB; have HB := n0_; have J2 := n1_; have GW144 := n2_; have GE144 := n3_; clear n0_ n1_ n2_ n3_; clear hb hbox hg; have hcz16_0 : w15.cell? ⟨J3, 0, none⟩ = some (.int .i64 J7) := (Za J2.out 0).trans rfl; have hcz16_1 : w15.cell? ⟨J3, 1, none⟩ = some (.int .i64 Ji) := (Za J2.out 1).trans rfl; have hcz16_2 : w15.cell? ⟨J3, 2, none⟩ = some (.bool false) := (Za J2.out 2).trans rfl; have hcz16_3 : w15.cell? ⟨J3, 3, none⟩ = some (.int .i64 Ja) := (Za J2.out 3).trans rfl; have hcz16_4 : w15.cell? ⟨J3, 4, none⟩ = some (.int .u64 J9) := (Za J2.out 4).trans rfl; have hcz16_5 : w15.cell? ⟨J3, 5, none⟩ = some (.int .u64 J8) := (Za J2.out 5).trans rfl; have hcz16_6 : w15.cell? ⟨J3, 6, none⟩ = some (.int .i64 Jg) := (Za J2.out 6).trans rfl; have hcz16_7 : w15.cell? ⟨J3, 7, none⟩ = some (.bool false) := (Za J2.out 7).trans rfl; have hcz16_8 : w15.cell? ⟨J3, 8, none⟩ = some (.int .i64 Je) := (Za J2.out 8).trans rfl; have hcz16_9 : w15.cell? ⟨J3, 9, none⟩ = some (.slice A0_9 Jm.length c0_9) := (Za J2.out 9).trans rfl; have hfz16_0 := Zb J2.out 0; have hfz16_1 := Zb J2.out 1; have hfz16_2 := Zb J2.out 2; have hfz16_3 := Zb J2.out 3; have hfz16_4 := Zb J2.out 4; have hfz16_5 := Zb J2.out 5; have hfz16_6 := Zb J2.out 6; have hfz16_7 := Zb J2.out 7; have hfz16_8 := Zb J2.out 8; have hfz16_9 := Zb J2.out 9))
        go_ret
        exact ⟨by first | rfl | (simp [errW_none, errW_some] <;> rfl) | (simp [*, errW_none, errW_some] <;> rfl), HB.out⟩
     ·rw [if_neg c8] at H
      have c8b0 : (Jg == 0) = false := beq_eq_false_iff_ne.mpr c8
      have c8b1 : (Jg != 0) = true := bne_iff_ne.mpr c8
      obtain rfl := Option.some.inj H
      go_enter Try.func31, Try.ntmps31
      go_wp2_with (((with_reducible refine Xd (N := 1) rfl ?_); (try (refine Qb (by rfl) ?_; dsimp only)); refine Xe ?hg (N := 1) ?hd (cs := #[.int .i64 J7, .int .i64 Ji, .bool false, .int .i64 Ja, .int .u64 J9, .int .u64 J8, .int .i64 Jg, .bool Jk, .int .i64 Je, .slice A0_9 Jm.length c0_9]) (t := 27) ?hr ?_; (case hd => rfl); (case hg => rfl); (case hr => first | (go_simp; done) | (go_simp; rfl)); intro J3 hg w17 hbox hb; have n0_ := Zd.mk (Zj HB.out hb); have n1_ := Zd.mk (hbox); have n2_ := Zd.mk ((by rw [hg]; exact (Zl HB.out) : w.heap.size ≤ J3)); have n3_ := n2_; clear HB; have HB := n0_; have J2 := n1_; have GW144 := n2_; have GE144 := n3_; clear n0_ n1_ n2_ n3_; clear hb hbox hg; have hcz18_0 : w17.cell? ⟨J3, 0, none⟩ = some (.int .i64 J7) := (Za J2.out 0).trans rfl; have hcz18_1 : w17.cell? ⟨J3, 1, none⟩ = some (.int .i64 Ji) := (Za J2.out 1).trans rfl; have hcz18_2 : w17.cell? ⟨J3, 2, none⟩ = some (.bool false) := (Za J2.out 2).trans rfl; have hcz18_3 : w17.cell? ⟨J3, 3, none⟩ = some (.int .i64 Ja) := (Za J2.out 3).trans rfl; have hcz18_4 : w17.cell? ⟨J3, 4, none⟩ = some (.int .u64 J9) := (Za J2.out 4).trans rfl; have hcz18_5 : w17.cell? ⟨J3, 5, none⟩ = some (.int .u64 J8) := (Za J2.out 5).trans rfl; have hcz18_6 : w17.cell? ⟨J3, 6, none⟩ = some (.int .i64 Jg) := (Za J2.out 6).trans rfl; have hcz18_7 : w17.cell? ⟨J3, 7, none⟩ = some (.bool Jk) := (Za J2.out 7).trans rfl; have hcz18_8 : w17.cell? ⟨J3, 8, none⟩ = some (.int .i64 Je) := (Za J2.out 8).trans rfl; have hcz18_9 : w17.cell? ⟨J3, 9, none⟩ = some (.slice A0_9 Jm.length c0_9) := (Za J2.out 9).trans rfl; have hfz18_0 := Zb J2.out 0; have hfz18_1 := Zb J2.out 1; have hfz18_2 := Zb J2.out 2; have hfz18_3 := Zb J2.out 3; have hfz18_4 := Zb J2.out 4; have hfz18_5 := Zb J2.out 5; have hfz18_6 := Zb J2.out 6; have hfz18_7 := Zb J2.out 7; have hfz18_8 := Zb J2.out 8; have hfz18_9 := Zb J2.out 9))
      go_ret
      exact ⟨by first | rfl | (simp [errW_none, errW_some] <;> rfl) | (simp [*, errW_none, errW_some] <;> rfl), HB.out⟩
    ·rw [if_neg c7] at H
     have c7b0 : (Ja == 0 && (J9 == 0 && (J8 == 0))) = false := by simpa using c7
     (try (have c7b1 : decide (Ja = 0 && (J9 == 0 && (J8 == 0))) = false := by simpa using c7))
     (try (have c7b2 : (Ja == 0 && (J9 == 0 && (J8 == 0))) = false := by simpa using c7))
     (try (have c7b3 : ¬ (Ja = 0 && (J9 == 0 && (J8 == 0))) := by simpa using c7))
     clear c7
     obtain rfl := Option.some.inj H
     go_enter Try.func31, Try.ntmps31
     go_wp2_with (((with_reducible refine Xd (N := 1) rfl ?_); (try (refine Qb (by rfl) ?_; dsimp only)); refine Xe ?hg (N := 1) ?hd (cs := #[.int .i64 J7, .int .i64 Ji, .bool false, .int .i64 Ja, .int .u64 J9, .int .u64 J8, .int .i64 Jg, .bool Jk, .int .i64 Je, .slice A0_9 Jm.length c0_9]) (t := 27) ?hr ?_; (case hd => rfl); (case hg => rfl); (case hr => first | (go_simp; done) | (go_simp; rfl)); intro J3 hg w19 hbox hb; have n0_ := Zd.mk (Zj HB.out hb); have n1_ := Zd.mk (hbox); have n2_ := Zd.mk ((by rw [hg]; exact (Zl HB.out) : w.heap.size ≤ J3)); have n3_ := n2_; clear HB; have HB := n0_; have J2 := n1_; have GW144 := n2_; have GE144 := n3_; clear n0_ n1_ n2_ n3_; clear hb hbox hg; have hcz20_0 : w19.cell? ⟨J3, 0, none⟩ = some (.int .i64 J7) := (Za J2.out 0).trans rfl; have hcz20_1 : w19.cell? ⟨J3, 1, none⟩ = some (.int .i64 Ji) := (Za J2.out 1).trans rfl; have hcz20_2 : w19.cell? ⟨J3, 2, none⟩ = some (.bool false) := (Za J2.out 2).trans rfl; have hcz20_3 : w19.cell? ⟨J3, 3, none⟩ = some (.int .i64 Ja) := (Za J2.out 3).trans rfl; have hcz20_4 : w19.cell? ⟨J3, 4, none⟩ = some (.int .u64 J9) := (Za J2.out 4).trans rfl; have hcz20_5 : w19.cell? ⟨J3, 5, none⟩ = some (.int .u64 J8) := (Za J2.out 5).trans rfl; have hcz20_6 : w19.cell? ⟨J3, 6, none⟩ = some (.int .i64 Jg) := (Za J2.out 6).trans rfl; have hcz20_7 : w19.cell? ⟨J3, 7, none⟩ = some (.bool Jk) := (Za J2.out 7).trans rfl; have hcz20_8 : w19.cell? ⟨J3, 8, none⟩ = some (.int .i64 Je) := (Za J2.out 8).trans rfl; have hcz20_9 : w19.cell? ⟨J3, 9, none⟩ = some (.slice A0_9 Jm.length c0_9) := (Za J2.out 9).trans rfl; have hfz20_0 := Zb J2.out 0; have hfz20_1 := Zb J2.out 1; have hfz20_2 := Zb J2.out 2; have hfz20_3 := Zb J2.out 3; have hfz20_4 := Zb J2.out 4; have hfz20_5 := Zb J2.out 5; have hfz20_6 := Zb J2.out 6; have hfz20_7 := Zb J2.out 7; have hfz20_8 := Zb J2.out 8; have hfz20_9 := Zb J2.out 9))
     go_ret
     exact ⟨by first | rfl | (simp [errW_none, errW_some] <;> rfl) | (simp [*, errW_none, errW_some] <;> rfl), HB.out⟩
  ·rw [if_neg c3] at H
   have c3b0 : (Ji == 0) = false := beq_eq_false_iff_ne.mpr c3
   have c3b1 : (Ji != 0) = true := bne_iff_ne.mpr c3
   obtain rfl := Option.some.inj H
   go_enter Try.func31, Try.ntmps31
   go_wp2_with (((with_reducible refine Xd (N := 1) rfl ?_); (try (refine Qb (by rfl) ?_; dsimp only)); refine Xe ?hg (N := 1) ?hd (cs := #[.int .i64 J7, .int .i64 Ji, .bool Jo, .int .i64 Ja, .int .u64 J9, .int .u64 J8, .int .i64 Jg, .bool Jk, .int .i64 Je, .slice A0_9 Jm.length c0_9]) (t := 27) ?hr ?_; (case hd => rfl); (case hg => rfl); (case hr => first | (go_simp; done) | (go_simp; rfl)); intro J3 hg w21 hbox hb; have n0_ := Zd.mk (Zj HB.out hb); have n1_ := Zd.mk (hbox); have n2_ := Zd.mk ((by rw [hg]; exact (Zl HB.out) : w.heap.size ≤ J3)); have n3_ := n2_; clear HB; have HB := n0_; have J2 := n1_; have GW144 := n2_; have GE144 := n3_; clear n0_ n1_ n2_ n3_; clear hb hbox hg; have hcz22_0 : w21.cell? ⟨J3, 0, none⟩ = some (.int .i64 J7) := (Za J2.out 0).trans rfl; have hcz22_1 : w21.cell? ⟨J3, 1, none⟩ = some (.int .i64 Ji) := (Za J2.out 1).trans rfl; have hcz22_2 : w21.cell? ⟨J3, 2, none⟩ = some (.bool Jo) := (Za J2.out 2).trans rfl; have hcz22_3 : w21.cell? ⟨J3, 3, none⟩ = some (.int .i64 Ja) := (Za J2.out 3).trans rfl; have hcz22_4 : w21.cell? ⟨J3, 4, none⟩ = some (.int .u64 J9) := (Za J2.out 4).trans rfl; have hcz22_5 : w21.cell? ⟨J3, 5, none⟩ = some (.int .u64 J8) := (Za J2.out 5).trans rfl; have hcz22_6 : w21.cell? ⟨J3, 6, none⟩ = some (.int .i64 Jg) := (Za J2.out 6).trans rfl; have hcz22_7 : w21.cell? ⟨J3, 7, none⟩ = some (.bool Jk) := (Za J2.out 7).trans rfl; have hcz22_8 : w21.cell? ⟨J3, 8, none⟩ = some (.int .i64 Je) := (Za J2.out 8).trans rfl; have hcz22_9 : w21.cell? ⟨J3, 9, none⟩ = some (.slice A0_9 Jm.length c0_9) := (Za J2.out 9).trans rfl; have hfz22_0 := Zb J2.out 0; have hfz22_1 := Zb J2.out 1; have hfz22_2 := Zb J2.out 2; have hfz22_3 := Zb J2.out 3; have hfz22_4 := Zb J2.out 4; have hfz22_5 := Zb J2.out 5; have hfz22_6 := Zb J2.out 6; have hfz22_7 := Zb J2.out 7; have hfz22_8 := Zb J2.out 8; have hfz22_9 := Zb J2.out 9))
   go_ret
   exact ⟨by first | rfl | (simp [errW_none, errW_some] <;> rfl) | (simp [*, errW_none, errW_some] <;> rfl), HB.out⟩
 ·rw [if_neg c2] at H
  have c2b0 : (J7 == 0) = false := beq_eq_false_iff_ne.mpr c2
  have c2b1 : (J7 != 0) = true := bne_iff_ne.mpr c2
  obtain rfl := Option.some.inj H
  go_enter Try.func31, Try.ntmps31
  go_wp2_with (((with_reducible refine Xd (N := 1) rfl ?_); (try (refine Qb (by rfl) ?_; dsimp only)); refine Xe ?hg (N := 1) ?hd (cs := #[.int .i64 J7, .int .i64 Ji, .bool Jo, .int .i64 Ja, .int .u64 J9, .int .u64 J8, .int .i64 Jg, .bool Jk, .int .i64 Je, .slice A0_9 Jm.length c0_9]) (t := 27) ?hr ?_; (case hd => rfl); (case hg => rfl); (case hr => first | (go_simp; done) | (go_simp; rfl)); intro J3 hg w23 hbox hb; have n0_ := Zd.mk (Zj HB.out hb); have n1_ := Zd.mk (hbox); have n2_ := Zd.mk ((by rw [hg]; exact (Zl HB.out) : w.heap.size ≤ J3)); have n3_ := n2_; clear HB; have HB := n0_; have J2 := n1_; have GW144 := n2_; have GE144 := n3_; clear n0_ n1_ n2_ n3_; clear hb hbox hg; have hcz24_0 : w23.cell? ⟨J3, 0, none⟩ = some (.int .i64 J7) := (Za J2.out 0).trans rfl; have hcz24_1 : w23.cell? ⟨J3, 1, none⟩ = some (.int .i64 Ji) := (Za J2.out 1).trans rfl; have hcz24_2 : w23.cell? ⟨J3, 2, none⟩ = some (.bool Jo) := (Za J2.out 2).trans rfl; have hcz24_3 : w23.cell? ⟨J3, 3, none⟩ = some (.int .i64 Ja) := (Za J2.out 3).trans rfl; have hcz24_4 : w23.cell? ⟨J3, 4, none⟩ = some (.int .u64 J9) := (Za J2.out 4).trans rfl; have hcz24_5 : w23.cell? ⟨J3, 5, none⟩ = some (.int .u64 J8) := (Za J2.out 5).trans rfl; have hcz24_6 : w23.cell? ⟨J3, 6, none⟩ = some (.int .i64 Jg) := (Za J2.out 6).trans rfl; have hcz24_7 : w23.cell? ⟨J3, 7, none⟩ = some (.bool Jk) := (Za J2.out 7).trans rfl; have hcz24_8 : w23.cell? ⟨J3, 8, none⟩ = some (.int .i64 Je) := (Za J2.out 8).trans rfl; have hcz24_9 : w23.cell? ⟨J3, 9, none⟩ = some (.slice A0_9 Jm.length c0_9) := (Za J2.out 9).trans rfl; have hfz24_0 := Zb J2.out 0; have hfz24_1 := Zb J2.out 1; have hfz24_2 := Zb J2.out 2; have hfz24_3 := Zb J2.out 3; have hfz24_4 := Zb J2.out 4; have hfz24_5 := Zb J2.out 5; have hfz24_6 := Zb J2.out 6; have hfz24_7 := Zb J2.out 7; have hfz24_8 := Zb J2.out 8; have hfz24_9 := Zb J2.out 9))
  go_ret
  exact ⟨by first | rfl | (simp [errW_none, errW_some] <;> rfl) | (simp [*, errW_none, errW_some] <;> rfl), HB.out⟩
end Go.Proofs.Ytkbkndfonccekaa.PF
namespace Go.Proofs.Ytkbkndfonccekaa
open Go.RowKit Go.Proofs.YtkbkndfonccekaaW.PrintWords Go.Proofs.Ytkbkndfonccekaa.PF
open Go.ChangeMaps (setBlock)
set_option maxRecDepth 100000
abbrev Vp := Vd
def noneB (e : Jn) : Bool := (seq_none.f e.f0 e.f1 e.f2 e.f3.f0 e.f3.f1 e.f3.f2 e.f4 e.f5 e.f6 e.f7).getD false
theorem none_some (e : Jn) : seq_none.f e.f0 e.f1 e.f2 e.f3.f0 e.f3.f1 e.f3.f2 e.f4 e.f5 e.f6 e.f7 = some (noneB e) := by
  unfold noneB seq_none.f
  repeat' split
  all_goals rfl
def kidsN (op : Int) (n : Nat) : Int := if op = 0 then 0 else if op = 1 then 2 else if op = 2 then max 2 (n : Int) else if op = 3 then 2 else 1
def ranged (op : Int) : Bool := decide (op = 1) || decide (op = 4)
def Jh (t : Vp) : Int :=
  if t.f0 < 0 ∨ 4 < t.f0 then 8
  else if (t.f4.length : Int) ≠ kidsN t.f0 t.f4.length ∨ (t.f0 ≠ 0 ∧ noneB t.f1 = false) ∨ (ranged t.f0 = false ∧ (t.f2 ≠ 0 ∨ t.f3 ≠ 0)) then 4
  else if ranged t.f0 = true ∧ (t.f2 < 0 ∨ 16 < t.f2 ∨ t.f3 < -1 ∨ 16 < t.f3 ∨ (t.f0 = 4 ∧ t.f2 < 1)) then 2
  else if 0 ≤ t.f3 ∧ t.f3 < t.f2 then 5 else 0
def Jv (g : Vp → Option Int) : List Vp → Option Int
  | [] => some 0
  | t :: r => (g t).bind fun e => if e = 0 then Jv g r else some e
def Qx : Nat → Vp → Option Int
  | 0, _ => none
  | k + 1, t => if -9223372036854775808 ≤ t.f0 ∧ t.f0 ≤ 9223372036854775807 then (if Jh t = 0 then Jv (Qx k) t.f4 else some (Jh t)) else none
theorem firstE_le {g g' : Vp → Option Int} (h : ∀ t, Xo (g t) (g' t)) : ∀ l, Xo (Jv g l) (Jv g' l)
  | [] => Xo.refl _
  | t :: r => Xo.bind (h t) fun _ => Xo.ite (firstE_le h r) (Xo.refl _)
theorem formedF_le : ∀ k t, Xo (Qx k t) (Qx (k + 1) t)
  | 0, t => fun r h => by cases h
  | k + 1, t => by
    rw [Qx, Qx]
    exact Xo.ite (Xo.ite (firstE_le (formedF_le k) _) (Xo.refl _)) (Xo.refl _)
abbrev keyI : KeyEnc Try.prog 3 Int := intKey Try.prog 3 .i64 Try.underlying3
abbrev tmC (t : Vp) (A1 : Option Addr) (c1 : Nat) (A2 : Option Addr) (c2 : Nat) : Array Value := #[.int .i64 t.f0, .int .i64 t.f1.f0, .int .i64 t.f1.f1, .bool t.f1.f2, .int .i64 t.f1.f3.f0, .int .u64 t.f1.f3.f1, .int .u64 t.f1.f3.f2, .int .i64 t.f1.f4, .bool t.f1.f5, .int .i64 t.f1.f6, .slice A1 t.f1.f7.length c1, .int .i64 t.f2, .int .i64 t.f3, .slice A2 t.f4.length c2]
theorem kd_temp {w : World} {A : Option Addr} {n : Nat} {xs : List Vp} (h : Kd.C k30 w A n xs) {i : Nat} {x : Vp} (hx : xs[i]? = some x) :
    ∃ b o A1 c1 A2 c2, A = some ⟨b, o, none⟩ ∧ b < w.heap.size ∧ x.f1.f7.length ≤ c1 ∧ Kd.C k27 w A1 x.f1.f7.length x.f1.f7 ∧ x.f4.length ≤ c2 ∧ Kd.C k30 w A2 x.f4.length x.f4 ∧
      ∀ j u, (tmC x A1 c1 A2 c2)[j]? = some u → w.cell? ⟨b, o + i * 14 + j, none⟩ = some u := by
  obtain ⟨b, o, cs, rfl, hb, _, hK, hc⟩ := kd_at h (by exact Nat.succ_pos _) hx
  obtain ⟨A1, c1, A2, c2, rfl, hl1, hC1, hl2, hC2⟩ := k30_open hK
  refine ⟨b, o, A1, c1, A2, c2, rfl, hb, hl1, hC1, hl2, hC2, fun j u hu => ?_⟩
  have := hc j u (by simpa using hu)
  rwa [← Nat.add_assoc] at this
theorem keyI_ok {x : Int} (h0 : -9223372036854775808 ≤ x) (h1 : x ≤ 9223372036854775807) : keyI.ok x := InK.mk64 ⟨h0, h1⟩
def kidsM (n : Nat) : List (Int × Int) := [(0, 0), (1, 2), (2, max 2 (n : Int)), (3, 2), (4, 1)]
theorem kidsM_get (n : Nat) (op : Int) : mget (kidsM n) op = if op < 0 ∨ 4 < op then none else some (kidsN op n) := by
  unfold kidsM kidsN
  simp only [mget]
  by_cases h0 : op = 0
  · subst h0; simp
  by_cases h1 : op = 1
  · subst h1; simp
  by_cases h2 : op = 2
  · subst h2; simp
  by_cases h3 : op = 3
  · subst h3; simp
  by_cases h4 : op = 4
  · subst h4; simp
  rw [if_neg (Ne.symm h0), if_neg (Ne.symm h1), if_neg (Ne.symm h2), if_neg (Ne.symm h3), if_neg (Ne.symm h4), if_pos (by omega)]
def nodeB (c1 c2 c3 rg c4 c5 d1 d2 d3 d4 d5 d6 d7 d8 : Bool) : Int :=
  if c1 || (c2 && !c3) || (!rg && (c4 || c5)) then 4 else if rg && (d1 || d2 || d3 || d4 || (d5 && d6)) then 2 else if d7 && d8 then 5 else 0
theorem nodeE_B (op lo hi : Int) (e : Jn) (kids : List Vp) (h : ¬ (op < 0 ∨ 4 < op)) : Jh ⟨op, e, lo, hi, kids⟩ = nodeB ((kids.length : Int) != kidsN op kids.length) (op != 0) (noneB e) (ranged op) (lo != 0) (hi != 0) (decide (lo < 0)) (decide (16 < lo)) (decide (hi < -1)) (decide (16 < hi)) (op == 4) (decide (lo < 1)) (decide (0 ≤ hi)) (decide (hi < lo)) := by
  unfold Jh nodeB
  rw [if_neg h]
  simp only [Bool.or_eq_true, Bool.and_eq_true, bne_iff_ne, Bool.not_eq_true', decide_eq_true_eq, beq_iff_eq, or_assoc]
def FormedC (g : Vp → Option Int) : Prop := ∀ (t : Vp) (A1 : Option Addr) (c1 : Nat) (A2 : Option Addr) (c2 : Nat) (W : World) (r : Int), Kd.C k27 W A1 t.f1.f7.length t.f1.f7 → t.f1.f7.length ≤ c1 → Kd.C k30 W A2 t.f4.length t.f4 → g t = some r →
  Calls Try.prog 24 #[.agg (tmC t A1 c1 A2 c2)] W fun e w' => e = .returned (.int .i64 r) ∧ Is W w'
set_option maxHeartbeats 16000000 in
theorem formed_walk (g : Vp → Option Int) (HG : FormedC g) (op lo hi : Int) (e : Jn) (kids : List Vp) (A1 : Option Addr) (c1 : Nat) (A2 : Option Addr) (c2 : Nat) (W : World) (r : Int) (h1 : Kd.C k27 W A1 e.f7.length e.f7) (hl1 : e.f7.length ≤ c1) (h2 : Kd.C k30 W A2 kids.length kids)
    (ho0 : -9223372036854775808 ≤ op) (ho1 : op ≤ 9223372036854775807) (hr : (if Jh ⟨op, e, lo, hi, kids⟩ = 0 then Jv g kids else some (Jh ⟨op, e, lo, hi, kids⟩)) = some r) :
    Calls Try.prog 24 #[.agg #[.int .i64 op, .int .i64 e.f0, .int .i64 e.f1, .bool e.f2, .int .i64 e.f3.f0, .int .u64 e.f3.f1, .int .u64 e.f3.f2, .int .i64 e.f4, .bool e.f5, .int .i64 e.f6, .slice A1 e.f7.length c1, .int .i64 lo, .int .i64 hi, .slice A2 kids.length c2]] W fun e w' => e = .returned (.int .i64 r) ∧ Is W w' := by
  have hu := Try.underlying30
  have huE := Try.underlying27
  have hmm := @run_makeMap Try.prog
  have hz : ∀ W, (zeroValue 3).run Try.prog W = .ok (.int .i64 0) W := fun W => by kernel_rfl
  have hm := (kd_len h2).2
  obtain ⟨W1, hW1⟩ : ∃ W1, W.alloc (.cells #[.int .i64 op, .int .i64 e.f0, .int .i64 e.f1, .bool e.f2, .int .i64 e.f3.f0, .int .u64 e.f3.f1, .int .u64 e.f3.f2, .int .i64 e.f4, .bool e.f5, .int .i64 e.f6, .slice A1 e.f7.length c1, .int .i64 lo, .int .i64 hi, .slice A2 kids.length c2] 30) = W1 := ⟨_, rfl⟩
  have hB : W1.heap[W.heap.size]? = some (.cells #[.int .i64 op, .int .i64 e.f0, .int .i64 e.f1, .bool e.f2, .int .i64 e.f3.f0, .int .u64 e.f3.f1, .int .u64 e.f3.f2, .int .i64 e.f4, .bool e.f5, .int .i64 e.f6, .slice A1 e.f7.length c1, .int .i64 lo, .int .i64 hi, .slice A2 kids.length c2] 30 (0, 0)) := by rw [← hW1]; exact heap_alloc_new W _
  have hs1 : W1.heap.size = W.heap.size + 1 := by rw [← hW1]; simp
  have hI1 : Is W W1 := hW1 ▸ (Is.refl W).alloc _
  have hM0 : MapAt keyI (Value.int .i64) (W1.alloc (.map #[] 0)) W1.heap.size ([] : List (Int × Int)) := MapAt.made (E := keyI) (ev := Value.int .i64) W1
  obtain ⟨m1, u1, M1⟩ := Jf hM0 Try.underlying61 (keyI_ok (x := 0) (by omega) (by omega)) (0 : Int)
  obtain ⟨m2, u2, M2⟩ := Jf M1 Try.underlying61 (keyI_ok (x := 1) (by omega) (by omega)) (2 : Int)
  obtain ⟨mx, hmx⟩ : ∃ mx, max 2 (kids.length : Int) = mx := ⟨_, rfl⟩
  obtain ⟨m3, u3, M3⟩ := Jf M2 Try.underlying61 (keyI_ok (x := 2) (by omega) (by omega)) mx
  obtain ⟨m4, u4, M4⟩ := Jf M3 Try.underlying61 (keyI_ok (x := 3) (by omega) (by omega)) (2 : Int)
  obtain ⟨m5, u5, M5⟩ := Jf M4 Try.underlying61 (keyI_ok (x := 4) (by omega) (by omega)) (1 : Int)
  have hkm : kidsM kids.length = mput (mput (mput (mput (mput [] 0 0) 1 2) 2 mx) 3 2) 4 1 := by unfold kidsM; rw [hmx]; rfl
  rw [← hkm] at M5
  have x0 := (cell_of_row W1 W.heap.size 0 _ _ _ hB).trans rfl
  have x13 := (cell_of_row W1 W.heap.size 13 _ _ _ hB).trans rfl
  simp at x0 x13
  go_enter Try.func24, Try.ntmps24
  obtain ⟨b1, hb1⟩ : ∃ b, (op == 1) = b := ⟨_, rfl⟩
  obtain ⟨b4, hb4⟩ : ∃ b, (op == 4) = b := ⟨_, rfl⟩
  have hrg : ranged op = (b1 || b4) := by rw [← hb1, ← hb4]; unfold ranged; congr 1
  go_upto_region 1 with (fail)
  go_cut [3, 9] (fun s _ wc => s = .bool (ranged op) ∧ wc = W1)
  case first =>
    go_wp2_with fail
    all_goals
      go_meet
      case rel =>
        refine ⟨?_, rfl⟩
        rw [hrg]
        first | rfl | simp [*]
  case rest =>
    obtain ⟨rfl, hwc⟩ := hcut
    rw [hwc]
    clear hwc
    have v1 : (Instr.mapUpdate 61 (.map (some W1.heap.size)) (.int .i64 0) (.int .i64 0)).run Try.prog (W1.alloc (.map #[] 0)) = .ok () (setBlock (W1.alloc (.map #[] 0)) W1.heap.size m1) := u1
    have v2 : (Instr.mapUpdate 61 (.map (some W1.heap.size)) (.int .i64 1) (.int .i64 2)).run Try.prog (setBlock (W1.alloc (.map #[] 0)) W1.heap.size m1) = .ok () (setBlock (setBlock (W1.alloc (.map #[] 0)) W1.heap.size m1) W1.heap.size m2) := u2
    have v3 : (Instr.mapUpdate 61 (.map (some W1.heap.size)) (.int .i64 2) (.int .i64 mx)).run Try.prog (setBlock (setBlock (W1.alloc (.map #[] 0)) W1.heap.size m1) W1.heap.size m2) = .ok () (setBlock (setBlock (setBlock (W1.alloc (.map #[] 0)) W1.heap.size m1) W1.heap.size m2) W1.heap.size m3) := u3
    have v4 : (Instr.mapUpdate 61 (.map (some W1.heap.size)) (.int .i64 3) (.int .i64 2)).run Try.prog (setBlock (setBlock (setBlock (W1.alloc (.map #[] 0)) W1.heap.size m1) W1.heap.size m2) W1.heap.size m3) = .ok () (setBlock (setBlock (setBlock (setBlock (W1.alloc (.map #[] 0)) W1.heap.size m1) W1.heap.size m2) W1.heap.size m3) W1.heap.size m4) := u4
    have v5 : (Instr.mapUpdate 61 (.map (some W1.heap.size)) (.int .i64 4) (.int .i64 1)).run Try.prog (setBlock (setBlock (setBlock (setBlock (W1.alloc (.map #[] 0)) W1.heap.size m1) W1.heap.size m2) W1.heap.size m3) W1.heap.size m4) = .ok () (setBlock (setBlock (setBlock (setBlock (setBlock (W1.alloc (.map #[] 0)) W1.heap.size m1) W1.heap.size m2) W1.heap.size m3) W1.heap.size m4) W1.heap.size m5) := u5
    have hM5 := Lib.hid M5
    have hlt : W.heap.size < W1.heap.size := by omega
    have hne : W.heap.size ≠ W1.heap.size := by omega
    have hmxh := Lib.hid hmx
    clear u1 u2 u3 u4 u5 M1 M2 M3 M4 M5 hM0 hs1 hb1 hb4 hrg hkm hmx hW1
    go_upto_region 2 with (fail)
    go_cut [4, 18] (fun s _ wc => s = .map (some W1.heap.size) ∧ wc = (setBlock (setBlock (setBlock (setBlock (setBlock (W1.alloc (.map #[] 0)) W1.heap.size m1) W1.heap.size m2) W1.heap.size m3) W1.heap.size m4) W1.heap.size m5))
    case first =>
      by_cases hk : (kids.length : Int) > 2
      · have hmk : mx = (kids.length : Int) := by have := hmxh.out; omega
        rw [hmk] at v3
        clear hmk
        go_wp2_with fail
        all_goals
          go_meet
          case rel => exact ⟨rfl, rfl⟩
      · have hmk : mx = 2 := by have := hmxh.out; omega
        rw [hmk] at v3
        clear hmk
        go_wp2_with fail
        all_goals
          go_meet
          case rel => exact ⟨rfl, rfl⟩
    case rest =>
      obtain ⟨rfl, hwc⟩ := hcut
      rw [hwc]
      clear hwc v1 v2 v3 v4 v5
      obtain ⟨wM, hwM⟩ : ∃ wM, (setBlock (setBlock (setBlock (setBlock (setBlock (W1.alloc (.map #[] 0)) W1.heap.size m1) W1.heap.size m2) W1.heap.size m3) W1.heap.size m4) W1.heap.size m5) = wM := ⟨_, rfl⟩
      have hBM : wM.heap[W.heap.size]? = W1.heap[W.heap.size]? := by
        have st : ∀ (w : World) (o : Obj), (setBlock w W1.heap.size o).heap[W.heap.size]? = w.heap[W.heap.size]? := fun w o => by
          simp only [setBlock]
          rw [Array.getElem?_setIfInBounds, if_neg (Ne.symm hne)]
        rw [← hwM, st, st, st, st, st]
        exact Below.heap_alloc W1 _ _ hlt
      rw [hB] at hBM
      have hMM := hM5.out
      rw [hwM] at hMM ⊢
      have hlk := run_mapLookupOk hMM Try.underlying61 (hz _) (keyI_ok ho0 ho1)
      rw [kidsM_get] at hlk
      have y0 := (cell_of_row wM W.heap.size 0 _ _ _ hBM).trans rfl
      simp at y0
      have hIM : Is W wM := by
        have hI2 : Is W (W1.alloc (.map #[] 0)) := hI1.alloc _
        rw [← hwM]
        exact But.is (((((But.refl (W1.alloc (.map #[] 0)) (fun k => k = W1.heap.size)).set _ rfl m1).set _ rfl m2).set _ rfl m3).set _ rfl m4 |>.set _ rfl m5) hI2 (fun k hk => by rw [hk]; exact Nat.le_of_lt hlt)
      by_cases hop : op < 0 ∨ 4 < op
      · rw [if_pos hop] at hlk
        have hlk : (Instr.lookup 61 (.map (some W1.heap.size)) (.int .i64 op) true).run Try.prog wM = .ok (.tuple #[.int .i64 0, .bool false]) wM := hlk
        have hE : Jh ⟨op, e, lo, hi, kids⟩ = 8 := by unfold Jh; rw [if_pos hop]
        rw [hE, if_neg (by decide)] at hr
        obtain rfl := Option.some.inj hr
        clear hop hE hr
        go_wp2
        go_ret
        exact ⟨rfl, hIM⟩
      · rw [if_neg hop] at hlk
        rw [nodeE_B op lo hi e kids hop] at hr
        have hnb := none_some e
        obtain ⟨kn, hkn⟩ : ∃ kn, kidsN op kids.length = kn := ⟨_, rfl⟩
        rw [hkn] at hlk hr
        have hlk : (Instr.lookup 61 (.map (some W1.heap.size)) (.int .i64 op) true).run Try.prog wM = .ok (.tuple #[.int .i64 kn, .bool true]) wM := hlk
        obtain ⟨p1, hp1⟩ : ∃ b, ((kids.length : Int) != kn) = b := ⟨_, rfl⟩
        obtain ⟨p2, hp2⟩ : ∃ b, (op != 0) = b := ⟨_, rfl⟩
        obtain ⟨p3, hp3⟩ : ∃ b, noneB e = b := ⟨_, rfl⟩
        obtain ⟨rg, hrg⟩ : ∃ b, ranged op = b := ⟨_, rfl⟩
        obtain ⟨p4, hp4⟩ : ∃ b, (lo != 0) = b := ⟨_, rfl⟩
        obtain ⟨p5, hp5⟩ : ∃ b, (hi != 0) = b := ⟨_, rfl⟩
        obtain ⟨d1, hd1⟩ : ∃ b, decide (lo < 0) = b := ⟨_, rfl⟩
        obtain ⟨d2, hd2⟩ : ∃ b, decide (16 < lo) = b := ⟨_, rfl⟩
        obtain ⟨d3, hd3⟩ : ∃ b, decide (hi < -1) = b := ⟨_, rfl⟩
        obtain ⟨d4, hd4⟩ : ∃ b, decide (16 < hi) = b := ⟨_, rfl⟩
        obtain ⟨d5, hd5⟩ : ∃ b, (op == 4) = b := ⟨_, rfl⟩
        obtain ⟨d6, hd6⟩ : ∃ b, decide (lo < 1) = b := ⟨_, rfl⟩
        obtain ⟨d7, hd7⟩ : ∃ b, decide (0 ≤ hi) = b := ⟨_, rfl⟩
        obtain ⟨d8, hd8⟩ : ∃ b, decide (hi < lo) = b := ⟨_, rfl⟩
        rw [hp1, hp2, hp3, hrg, hp4, hp5, hd1, hd2, hd3, hd4, hd5, hd6, hd7, hd8] at hr
        rw [hp3] at hnb
        have hnbh := Lib.hid hnb
        have hrh := Lib.hid hr
        clear hnb hr hp3 hkn hop
        rw [hrg]
        have hsz : W.heap.size < wM.heap.size := (Array.getElem?_eq_some_iff.1 hBM).1
        have y1 := (cell_of_row wM W.heap.size 1 _ _ _ hBM).trans rfl
        have y2 := (cell_of_row wM W.heap.size 2 _ _ _ hBM).trans rfl
        have y3 := (cell_of_row wM W.heap.size 3 _ _ _ hBM).trans rfl
        have y4 := (cell_of_row wM W.heap.size 4 _ _ _ hBM).trans rfl
        have y5 := (cell_of_row wM W.heap.size 5 _ _ _ hBM).trans rfl
        have y6 := (cell_of_row wM W.heap.size 6 _ _ _ hBM).trans rfl
        have y7 := (cell_of_row wM W.heap.size 7 _ _ _ hBM).trans rfl
        have y8 := (cell_of_row wM W.heap.size 8 _ _ _ hBM).trans rfl
        have y9 := (cell_of_row wM W.heap.size 9 _ _ _ hBM).trans rfl
        have y10 := (cell_of_row wM W.heap.size 10 _ _ _ hBM).trans rfl
        have y11 := (cell_of_row wM W.heap.size 11 _ _ _ hBM).trans rfl
        have y12 := (cell_of_row wM W.heap.size 12 _ _ _ hBM).trans rfl
        have y13 := (cell_of_row wM W.heap.size 13 _ _ _ hBM).trans rfl
        simp at y1 y2 y3 y4 y5 y6 y7 y8 y9 y10 y11 y12 y13
        have hIMh := Lib.hid hIM
        have hBMh := Lib.hid hBM
        have hHG := Lib.hid HG
        clear hIM hBM HG hwM x0 x13 hB hI1 hmm hMM
        go_upto_block 0 with (fail)
        go_cut [3, 31, 34, 61, 93] (fun _ _ _ _ _ wc => ∃ y : Under wM, wc = y.val ∧ Aside (nodeB p1 p2 p3 rg p4 p5 d1 d2 d3 d4 d5 d6 d7 d8 = 0))
        case first =>
          go_wp2_with (go_at_call 31; refine (seq_none.calls _ _ _ _ _ _ _ _ _ A1 _ e.f7 p3 _ (Ju h1 hIMh.out) hl1 hnbh.out).mono ?_; rintro e2 w2 ⟨rfl, hIs⟩; obtain ⟨x2, rfl⟩ := Is.of hIs)
          all_goals first
            | (first | exact absurd (Eq.trans (Eq.symm ‹p1 = true›) ‹p1 = false›) (by decide) | exact absurd (Eq.trans (Eq.symm ‹p2 = true›) ‹p2 = false›) (by decide) | exact absurd (Eq.trans (Eq.symm ‹rg = true›) ‹rg = false›) (by decide) | exact absurd (Eq.trans (Eq.symm ‹d1 = true›) ‹d1 = false›) (by decide) | exact absurd (Eq.trans (Eq.symm ‹p3 = true›) ‹p3 = false›) (by decide) | exact absurd (Eq.trans (Eq.symm ‹p4 = true›) ‹p4 = false›) (by decide) | exact absurd (Eq.trans (Eq.symm ‹p5 = true›) ‹p5 = false›) (by decide) | exact absurd (Eq.trans (Eq.symm ‹d2 = true›) ‹d2 = false›) (by decide) | exact absurd (Eq.trans (Eq.symm ‹d3 = true›) ‹d3 = false›) (by decide) | exact absurd (Eq.trans (Eq.symm ‹d4 = true›) ‹d4 = false›) (by decide) | exact absurd (Eq.trans (Eq.symm ‹d5 = true›) ‹d5 = false›) (by decide) | exact absurd (Eq.trans (Eq.symm ‹(!p3) = true›) ‹(!p3) = false›) (by decide))
            | (go_ret
               refine ⟨?_, hIMh.out.step (by first | exact x2 | exact Under.refl _)⟩
               have hr := hrh.out
               clear hrh
               simp [nodeB, *] at hr
               first | exact Ws hr | exact Ws hr.symm)
            | skip
          all_goals go_meet
          all_goals first | exact ⟨x2, rfl, by show _ = _; simp [nodeB, *]⟩ | exact ⟨Under.refl _, rfl, by show _ = _; simp [nodeB, *]⟩
        case rest =>
          obtain ⟨y, rfl, hn0⟩ := hcut
          have hr := hrh.out
          rw [hn0.out, if_pos rfl] at hr
          have hIy : Is W y.val := hIMh.out.step y
          have hlm : W.heap.size < y.val.heap.size := Nat.lt_of_lt_of_le hsz y.size
          have z13 : y.val.cell? ⟨W.heap.size, 13, none⟩ = some (.slice A2 kids.length c2) := by rw [← y13]; exact y.ok.cell hsz
          clear y0 y1 y2 y3 y4 y5 y6 y7 y8 y9 y10 y11 y12 y13 hp1 hp2 hrg hp4 hp5 hd1 hd2 hd3 hd4 hd5 hd6 hd7 hd8 hn0 hrh hnbh hlk
          have hIyh := Lib.hid hIy
          have hrh := Lib.hid hr
          clear hr hIy
          go_wp2
          go_loopg [8, 9, 107] kids.length (fun d _ _ t wr => ∃ (i : Nat) (z : Under y.val), t = .int .i64 i ∧ wr = z.val ∧ Aside (i + d = kids.length ∧ Jv g (kids.drop i) = some r))
          case atStart => exact ⟨0, Under.refl _, rfl, rfl, ⟨by omega, hrh.out⟩⟩
          case round =>
            obtain ⟨i, z, rfl, rfl, hi⟩ := hrel
            by_cases hlt : i < kids.length
            · obtain ⟨gk, rfl⟩ : ∃ m, gk = m + 1 := ⟨gk - 1, by have := hi.out.1; omega⟩
              obtain ⟨x, hx⟩ := get_ex hlt
              have hf := hi.out.2
              rw [drop_cons hx, Jv] at hf
              obtain ⟨v, hgx, hf⟩ := Option.bind_eq_some_iff.1 hf
              obtain ⟨bb, ob, B1, e1, B2, e2, rfl, hbb, hle1, hC1, hle2, hC2, hcs⟩ := kd_temp (Ju h2 (hIyh.out.step z)) hx
              have q0 := hcs 0 _ rfl
              have q1 := hcs 1 _ rfl
              have q2 := hcs 2 _ rfl
              have q3 := hcs 3 _ rfl
              have q4 := hcs 4 _ rfl
              have q5 := hcs 5 _ rfl
              have q6 := hcs 6 _ rfl
              have q7 := hcs 7 _ rfl
              have q8 := hcs 8 _ rfl
              have q9 := hcs 9 _ rfl
              have q10 := hcs 10 _ rfl
              have q11 := hcs 11 _ rfl
              have q12 := hcs 12 _ rfl
              have q13 := hcs 13 _ rfl
              simp only [Nat.add_zero] at q0
              have n2 : bb ≠ z.val.heap.size := by omega
              have hih := Lib.hid hi.out.1
              have hgxh := Lib.hid hgx
              have hle1h := Lib.hid hle1
              have hfh := Lib.hid hf
              have hw1 : Is z.val (z.val.alloc (.cells (tmC x B1 e1 B2 e2) 30)) := (Is.refl _).alloc _
              clear hcs hx hi hf hgx hle1 hle2
              by_cases hv : v = 0
              · subst hv
                go_wp2_with (go_at_call 24; refine (hHG.out x B1 e1 B2 e2 _ 0 (Ju hC1 hw1) hle1h.out (Ju hC2 hw1) hgxh.out).mono ?_; rintro e3 w2 ⟨rfl, hIs⟩; obtain ⟨x2, rfl⟩ := hIs)
                go_roundg gk
                case measure => have := hih.out; omega
                case rel => exact ⟨i + 1, (z.alloc _).trans x2, by go_num, rfl, ⟨by have := hih.out; omega, by have := hfh.out; simpa using this⟩⟩
              · have q : (v != 0) = true := by simpa using hv
                have hvh := Lib.hid hv
                clear hv
                go_wp2_with (go_at_call 24; refine (hHG.out x B1 e1 B2 e2 _ v (Ju hC1 hw1) hle1h.out (Ju hC2 hw1) hgxh.out).mono ?_; rintro e3 w2 ⟨rfl, hIs⟩; obtain ⟨x2, rfl⟩ := hIs)
                go_ret
                refine ⟨Ws ?_, ((hIyh.out.step z).alloc _).step x2⟩
                have := hfh.out
                rw [if_neg hvh.out] at this
                exact Option.some.inj this
            · obtain rfl : i = kids.length := by have := hi.out.1; omega
              have hf := hi.out.2
              rw [drop_end, Jv] at hf
              obtain rfl := Option.some.inj hf
              clear hi hf
              go_wp2
              go_ret
              exact ⟨rfl, hIyh.out.step z⟩
theorem formed_all : ∀ k, FormedC (Qx k)
  | 0 => fun t _ _ _ _ _ _ _ _ _ h => by cases h
  | k + 1 => fun t A1 c1 A2 c2 W r h1 hl h2 h => by
    rw [Qx] at h
    split at h
    · rename_i hc
      exact formed_walk (Qx k) (formed_all k) t.f0 t.f2 t.f3 t.f1 t.f4 A1 c1 A2 c2 W r h1 hl h2 hc.1 hc.2 h
    · cases h
end Go.Proofs.Ytkbkndfonccekaa
namespace Go.Proofs.Ytkbkndfonccekaa.PF
open Go.RowKit Go.Proofs.YtkbkndfonccekaaW.PrintWords Go.Proofs.YtkbkndfonccekaaW.PrintLast Go.Proofs.YtkbkndfonccekaaW.PrintMore
attribute [local go_sem] Qn Qp Kq Kt
set_option linter.unusedVariables false
set_option linter.unusedSimpArgs false
mutual
def Zo.j0 : Nat → Int → Int → Int → Int → Int → Int → Int → Bool → Int → Int → Int → Int → Bool → Int → List (Qh) → Int → Int → List (Vd) → Option (Int × Int × Int)
  | 0, _, _, _, _, _, _, _, _, _, _, _, _, _, _, _, _, _, _ => none
  | k + 1, x1, x4, x5, x6, x110000, x110001, x110002, x110003, x110004, x110005, x110006, x110007, x110008, x110009, x110010, x110011, x110012, JA => if x1 = 0 then (some (x4, x5, x6)) else (Zo.l0 k x1 x4 x5 x6 JA (JA.length : Int) 0)
def Zo.l0 : Nat → Int → Int → Int → Int → List (Vd) → Int → Int → Option (Int × Int × Int)
  | 0, _, _, _, _, _, _, _ => none
  | k + 1, x1, x4, x5, x6, x21, x22, x23 => if x23 < x22 then (if 0 ≤ x23 then (if x23 < (x21.length : Int) then ((Zo.f k ((Zc x21 x23).f0) ((Zc x21 x23).f1.f0) ((Zc x21 x23).f1.f1) ((Zc x21 x23).f1.f2) ((Zc x21 x23).f1.f3.f0) ((Zc x21 x23).f1.f3.f1) ((Zc x21 x23).f1.f3.f2) ((Zc x21 x23).f1.f4) ((Zc x21 x23).f1.f5) ((Zc x21 x23).f1.f6) ((Zc x21 x23).f1.f7) ((Zc x21 x23).f2) ((Zc x21 x23).f3) ((Zc x21 x23).f4) (wrap64 (x1 - 1))).bind fun bt112 => (if (wrap64 (x4 + bt112.1)) > 1000 then (some (wrap64 (x4 + bt112.1), mx x5 (wrap64 (bt112.2.1 + 1)), wrap64 (x6 + bt112.2.2))) else (Zo.l0 k x1 (wrap64 (x4 + bt112.1)) (mx x5 (wrap64 (bt112.2.1 + 1))) (wrap64 (x6 + bt112.2.2)) x21 x22 (wrap64 (x23 + 1))))) else (none)) else (none)) else (some (x4, x5, x6))
def Zo.f : Nat → Int → Int → Int → Bool → Int → Int → Int → Int → Bool → Int → List (Qh) → Int → Int → List (Vd) → Int → Option (Int × Int × Int)
  | 0, _, _, _, _, _, _, _, _, _, _, _, _, _, _, _ => none
  | k + 1, J7, Ji, Jo, Ja, J9, J8, Jg, Jk, Je, Jt, Jl, Js, Jr, J0, a1 => if J7 = 0 then (Zo.j0 k a1 1 1 1 J7 Ji Jo Ja J9 J8 Jg Jk Je Jt Jl Js Jr J0) else (Zo.j0 k a1 1 1 0 J7 Ji Jo Ja J9 J8 Jg Jk Je Jt Jl Js Jr J0)
end
theorem Zo.mono_l : ∀ k, (∀ y0 y1 y2 y3 y4 y5 y6 y7 y8 y9 y10 y11 y12 y13 y14, Xo (Zo.f k y0 y1 y2 y3 y4 y5 y6 y7 y8 y9 y10 y11 y12 y13 y14) (Zo.f (k + 1) y0 y1 y2 y3 y4 y5 y6 y7 y8 y9 y10 y11 y12 y13 y14)) ∧ (∀ y0 y1 y2 y3 y4 y5 y6 y7 y8 y9 y10 y11 y12 y13 y14 y15 y16 y17, Xo (Zo.j0 k y0 y1 y2 y3 y4 y5 y6 y7 y8 y9 y10 y11 y12 y13 y14 y15 y16 y17) (Zo.j0 (k + 1) y0 y1 y2 y3 y4 y5 y6 y7 y8 y9 y10 y11 y12 y13 y14 y15 y16 y17)) ∧ (∀ y0 y1 y2 y3 y4 y5 y6, Xo (Zo.l0 k y0 y1 y2 y3 y4 y5 y6) (Zo.l0 (k + 1) y0 y1 y2 y3 y4 y5 y6))
  | 0 => ⟨fun _ _ _ _ _ _ _ _ _ _ _ _ _ _ _ r h => by simp [Zo.f] at h, fun _ _ _ _ _ _ _ _ _ _ _ _ _ _ _ _ _ _ r h => by simp [Zo.j0] at h, fun _ _ _ _ _ _ _ r h => by simp [Zo.l0] at h⟩
  | k + 1 => by
    obtain ⟨ih0, ih1, ih2⟩ := Zo.mono_l k
    refine ⟨?_, ?_, ?_⟩
    · intro y0 y1 y2 y3 y4 y5 y6 y7 y8 y9 y10 y11 y12 y13 y14
      unfold Zo.f
      repeat' first
      | (with_reducible exact ih0 _ _ _ _ _ _ _ _ _ _ _ _ _ _ _)
      | (with_reducible exact ih1 _ _ _ _ _ _ _ _ _ _ _ _ _ _ _ _ _ _)
      | (with_reducible exact ih2 _ _ _ _ _ _ _)
      | (with_reducible exact Xo.refl _)
      | (with_reducible exact Xo.none _)
      | (with_reducible refine Xo.ite ?_ ?_)
      | (with_reducible refine Xo.bind ?_ (fun _ => ?_))
      | exact ih0 _ _ _ _ _ _ _ _ _ _ _ _ _ _ _
      | exact ih1 _ _ _ _ _ _ _ _ _ _ _ _ _ _ _ _ _ _
      | exact ih2 _ _ _ _ _ _ _
      | exact Xo.none _
      | refine Xo.ite ?_ ?_
      | refine Xo.bind ?_ (fun _ => ?_)
    · intro y0 y1 y2 y3 y4 y5 y6 y7 y8 y9 y10 y11 y12 y13 y14 y15 y16 y17
      unfold Zo.j0
      repeat' first
      | (with_reducible exact ih0 _ _ _ _ _ _ _ _ _ _ _ _ _ _ _)
      | (with_reducible exact ih1 _ _ _ _ _ _ _ _ _ _ _ _ _ _ _ _ _ _)
      | (with_reducible exact ih2 _ _ _ _ _ _ _)
      | (with_reducible exact Xo.refl _)
      | (with_reducible exact Xo.none _)
      | (with_reducible refine Xo.ite ?_ ?_)
      | (with_reducible refine Xo.bind ?_ (fun _ => ?_))
      | exact ih0 _ _ _ _ _ _ _ _ _ _ _ _ _ _ _
      | exact ih1 _ _ _ _ _ _ _ _ _ _ _ _ _ _ _ _ _ _
      | exact ih2 _ _ _ _ _ _ _
      | exact Xo.none _
      | refine Xo.ite ?_ ?_
      | refine Xo.bind ?_ (fun _ => ?_)
    · intro y0 y1 y2 y3 y4 y5 y6
      unfold Zo.l0
      repeat' first
      | (with_reducible exact ih0 _ _ _ _ _ _ _ _ _ _ _ _ _ _ _)
      | (with_reducible exact ih1 _ _ _ _ _ _ _ _ _ _ _ _ _ _ _ _ _ _)
      | (with_reducible exact ih2 _ _ _ _ _ _ _)
      | (with_reducible exact Xo.refl _)
      | (with_reducible exact Xo.none _)
      | (with_reducible refine Xo.ite ?_ ?_)
      | (with_reducible refine Xo.bind ?_ (fun _ => ?_))
      | exact ih0 _ _ _ _ _ _ _ _ _ _ _ _ _ _ _
      | exact ih1 _ _ _ _ _ _ _ _ _ _ _ _ _ _ _ _ _ _
      | exact ih2 _ _ _ _ _ _ _
      | exact Xo.none _
      | refine Xo.ite ?_ ?_
      | refine Xo.bind ?_ (fun _ => ?_)
set_option maxHeartbeats 8000000 in
set_option maxRecDepth 100000 in
theorem Zo.calls (k : Nat) : ∀ (J7 : Int) (Ji : Int) (Jo : Int) (Ja : Bool) (J9 : Int) (J8 : Int) (Jg : Int) (Jk : Int) (Je : Bool) (Jt : Int) (A0_10 : Option Addr) (c0_10 : Nat) (Jl : List (Qh)) (Js : Int) (Jr : Int) (A0_13 : Option Addr) (c0_13 : Nat) (J0 : List (Vd)) (a1 : Int) (r1 : Int) (r2 : Int) (r3 : Int) (w : World) (hr0_10 : Kd.C k27 w A0_10 Jl.length Jl) (hc0_10 : Jl.length ≤ c0_10) (hr0_13 : Kd.C k30 w A0_13 J0.length J0) (hc0_13 : J0.length ≤ c0_13) (h : Zo.f k J7 Ji Jo Ja J9 J8 Jg Jk Je Jt Jl Js Jr J0 a1 = some (r1, r2, r3)),
 Calls Try.prog 15 #[.agg #[.int .i64 J7, .int .i64 Ji, .int .i64 Jo, .bool Ja, .int .i64 J9, .int .u64 J8, .int .u64 Jg, .int .i64 Jk, .bool Je, .int .i64 Jt, .slice A0_10 Jl.length c0_10, .int .i64 Js, .int .i64 Jr, .slice A0_13 J0.length c0_13], .int .i64 a1] w fun e w' => e = .returned (.tuple #[.int .i64 r1, .int .i64 r2, .int .i64 r3]) ∧ Below w.heap.size w w' := by
 induction k using Nat.strongRecOn with
 | _ k ih =>
 intro J7 Ji Jo Ja J9 J8 Jg Jk Je Jt A0_10 c0_10 Jl Js Jr A0_13 c0_13 J0 a1 r1 r2 r3 w hr0_10 hc0_10 hr0_13 hc0_13 h
 cases k with
 | zero => exact absurd h (by simp [Zo.f])
 | succ k =>
 simp only [Zo.f] at h
 have hu30 := Try.underlying30
 have HR0_10 := Zd.mk hr0_10
 have HC0_10 := Zd.mk hc0_10
 clear hr0_10 hc0_10
 have HR0_13 := Zd.mk hr0_13
 have HC0_13 := Zd.mk hc0_13
 clear hr0_13 hc0_13
 have HB := Zd.mk (Below.refl w.heap.size w)
 have H : (if J7 = 0 then (Zo.j0 k a1 1 1 1 J7 Ji Jo Ja J9 J8 Jg Jk Je Jt Jl Js Jr J0) else (Zo.j0 k a1 1 1 0 J7 Ji Jo Ja J9 J8 Jg Jk Je Jt Jl Js Jr J0)) = some (r1, r2, r3) := h
 clear h
 have HC3 := Zd.mk H
 clear H
 go_enter Try.func15, Try.ntmps15
 go_upto_if 14 with (((with_reducible refine Xd (N := 2) rfl ?_); refine Xe ?hg (N := 2) ?hd (cs := #[.int .i64 J7, .int .i64 Ji, .int .i64 Jo, .bool Ja, .int .i64 J9, .int .u64 J8, .int .u64 Jg, .int .i64 Jk, .bool Je, .int .i64 Jt, .slice A0_10 Jl.length c0_10, .int .i64 Js, .int .i64 Jr, .slice A0_13 J0.length c0_13]) (t := 30) ?hr ?_; (case hd => rfl); (case hg => rfl); (case hr => first | (go_simp; done) | (go_simp; rfl)); intro Jj hg w4 hbox hb; have n0_ := Zd.mk (Zj HB.out hb); have n1_ := Zd.mk (hbox); have n2_ := Zd.mk ((by rw [hg]; exact (Zl HB.out) : w.heap.size ≤ Jj)); have n3_ := n2_; clear HB; have HB := n0_; have J5 := n1_; have GW109 := n2_; have GE109 := n3_; clear n0_ n1_ n2_ n3_; clear hb hbox hg; have hcz5_0 : w4.cell? ⟨Jj, 0, none⟩ = some (.int .i64 J7) := (Za J5.out 0).trans rfl; have hcz5_1 : w4.cell? ⟨Jj, 1, none⟩ = some (.int .i64 Ji) := (Za J5.out 1).trans rfl; have hcz5_2 : w4.cell? ⟨Jj, 2, none⟩ = some (.int .i64 Jo) := (Za J5.out 2).trans rfl; have hcz5_3 : w4.cell? ⟨Jj, 3, none⟩ = some (.bool Ja) := (Za J5.out 3).trans rfl; have hcz5_4 : w4.cell? ⟨Jj, 4, none⟩ = some (.int .i64 J9) := (Za J5.out 4).trans rfl; have hcz5_5 : w4.cell? ⟨Jj, 5, none⟩ = some (.int .u64 J8) := (Za J5.out 5).trans rfl; have hcz5_6 : w4.cell? ⟨Jj, 6, none⟩ = some (.int .u64 Jg) := (Za J5.out 6).trans rfl; have hcz5_7 : w4.cell? ⟨Jj, 7, none⟩ = some (.int .i64 Jk) := (Za J5.out 7).trans rfl; have hcz5_8 : w4.cell? ⟨Jj, 8, none⟩ = some (.bool Je) := (Za J5.out 8).trans rfl; have hcz5_9 : w4.cell? ⟨Jj, 9, none⟩ = some (.int .i64 Jt) := (Za J5.out 9).trans rfl; have hcz5_10 : w4.cell? ⟨Jj, 10, none⟩ = some (.slice A0_10 Jl.length c0_10) := (Za J5.out 10).trans rfl; have hcz5_11 : w4.cell? ⟨Jj, 11, none⟩ = some (.int .i64 Js) := (Za J5.out 11).trans rfl; have hcz5_12 : w4.cell? ⟨Jj, 12, none⟩ = some (.int .i64 Jr) := (Za J5.out 12).trans rfl; have hcz5_13 : w4.cell? ⟨Jj, 13, none⟩ = some (.slice A0_13 J0.length c0_13) := (Za J5.out 13).trans rfl; have hfz5_0 := Zb J5.out 0; have hfz5_1 := Zb J5.out 1; have hfz5_2 := Zb J5.out 2; have hfz5_3 := Zb J5.out 3; have hfz5_4 := Zb J5.out 4; have hfz5_5 := Zb J5.out 5; have hfz5_6 := Zb J5.out 6; have hfz5_7 := Zb J5.out 7; have hfz5_8 := Zb J5.out 8; have hfz5_9 := Zb J5.out 9; have hfz5_10 := Zb J5.out 10; have hfz5_11 := Zb J5.out 11; have hfz5_12 := Zb J5.out 12; have hfz5_13 := Zb J5.out 13))
 (try simp only [Act.put, List.setIfInBounds_toArray, List.set_cons_zero, List.set_cons_succ])
 go_cut [6] (fun v6 wc => ∃ (kq : Nat) (Jw : Int), v6 = .int .i64 Jw ∧ Zd (Zo.j0 kq a1 1 1 Jw J7 Ji Jo Ja J9 J8 Jg Jk Je Jt Jl Js Jr J0 = some (r1, r2, r3)) ∧ Zd (kq ≤ k) ∧ Zd (wc.heap[Jj]? = some (.cells #[.int .i64 J7, .int .i64 Ji, .int .i64 Jo, .bool Ja, .int .i64 J9, .int .u64 J8, .int .u64 Jg, .int .i64 Jk, .bool Je, .int .i64 Jt, (.slice A0_10 Jl.length c0_10), .int .i64 Js, .int .i64 Jr, (.slice A0_13 J0.length c0_13)] 30 (0, 0))) ∧ Zd (Below w.heap.size w wc))
 case first =>
  have H := HC3.out
  clear HC3
  by_cases c6 : J7 = 0
  ·rw [if_pos c6] at H
   have c6b0 : (J7 == 0) = true := beq_iff_eq.mpr c6
   have c6b1 : (J7 != 0) = false := bne_eq_false_iff_eq.mpr c6
   clear c6
   (first | rw [c6b0] | (simp only [Xk]; rw [c6b0]) | skip)
   have H' := Zd.mk H
   clear H
   go_wp2
   go_meet
   case rel => exact ⟨_, (1), (by first | rfl | (simp; done) | (simp [*]; done)), H', ⟨by first | omega | exact Nat.le_refl _⟩, ⟨J5.out⟩, ⟨HB.out⟩⟩
  ·rw [if_neg c6] at H
   have c6b0 : (J7 == 0) = false := beq_eq_false_iff_ne.mpr c6
   have c6b1 : (J7 != 0) = true := bne_iff_ne.mpr c6
   (first | rw [c6b0] | (simp only [Xk]; rw [c6b0]) | skip)
   have H' := Zd.mk H
   clear H
   go_wp2
   go_meet
   case rel => exact ⟨_, (0), (by first | rfl | (simp; done) | (simp [*]; done)), H', ⟨by first | omega | exact Nat.le_refl _⟩, ⟨J5.out⟩, ⟨HB.out⟩⟩
 case rest =>
  clear HC3
  try clear hcz5_0
  try clear hcz5_1
  try clear hcz5_10
  try clear hcz5_11
  try clear hcz5_12
  try clear hcz5_13
  try clear hcz5_2
  try clear hcz5_3
  try clear hcz5_4
  try clear hcz5_5
  try clear hcz5_6
  try clear hcz5_7
  try clear hcz5_8
  try clear hcz5_9
  try clear hfz5_0
  try clear hfz5_1
  try clear hfz5_10
  try clear hfz5_11
  try clear hfz5_12
  try clear hfz5_13
  try clear hfz5_2
  try clear hfz5_3
  try clear hfz5_4
  try clear hfz5_5
  try clear hfz5_6
  try clear hfz5_7
  try clear hfz5_8
  try clear hfz5_9
  obtain ⟨kq, Jw, rfl, HA, HJ2, J5, HB⟩ := hcut
  cases kq with
  | zero => exact absurd HA.out (by simp [Zo.j0])
  | succ kj2 =>
   have H := HA.out
   clear HA
   simp only [Zo.j0] at H
   by_cases c7 : a1 = 0
   ·rw [if_pos c7] at H
    have c7b0 : (a1 == 0) = true := beq_iff_eq.mpr c7
    have c7b1 : (a1 != 0) = false := bne_eq_false_iff_eq.mpr c7
    clear c7
    simp only [Option.some.injEq, Prod.mk.injEq] at H
    obtain ⟨rfl, rfl, rfl⟩ := H
    go_wp2
    go_ret3
    exact ⟨by first | rfl | (simp [errW_none, errW_some] <;> rfl) | (simp [*, errW_none, errW_some] <;> rfl), HB.out⟩
   ·rw [if_neg c7] at H
    have c7b0 : (a1 == 0) = false := beq_eq_false_iff_ne.mpr c7
    have c7b1 : (a1 != 0) = true := bne_iff_ne.mpr c7
    have H' := Zd.mk H
    clear H
    obtain ⟨hcz8_0, hcz8_1, hcz8_2, hcz8_3, hcz8_4, hcz8_5, hcz8_6, hcz8_7, hcz8_8, hcz8_9, hcz8_10, hcz8_11, hcz8_12, hcz8_13⟩ := zc14 J5.out
    obtain ⟨hfz8_0, hfz8_1, hfz8_2, hfz8_3, hfz8_4, hfz8_5, hfz8_6, hfz8_7, hfz8_8, hfz8_9, hfz8_10, hfz8_11, hfz8_12, hfz8_13⟩ := zf14 J5.out
    go_wp2
    go_loopg [4, 5, 6, 23] kj2 (fun kq v4 v5 v6 v23 w' => ∃ (Jx : Int) (Jz : Int) (Jw : Int) (J1 : Int), v4 = .int .i64 Jx ∧ v5 = .int .i64 Jz ∧ v6 = .int .i64 Jw ∧ v23 = .int .i64 J1 ∧ Zd (Zo.l0 kq a1 Jx Jz Jw J0 (J0.length : Int) J1 = some (r1, r2, r3)) ∧ Zd (kq ≤ kj2) ∧ Zd (w'.heap[Jj]? = some (.cells #[.int .i64 J7, .int .i64 Ji, .int .i64 Jo, .bool Ja, .int .i64 J9, .int .u64 J8, .int .u64 Jg, .int .i64 Jk, .bool Je, .int .i64 Jt, (.slice A0_10 Jl.length c0_10), .int .i64 Js, .int .i64 Jr, (.slice A0_13 J0.length c0_13)] 30 (0, 0))) ∧ Zd (Below w.heap.size w w'))
    case atStart => exact ⟨(1), (1), (Jw), (0), (by first | rfl | (simp; done) | (simp [*]; done)), (by first | rfl | (simp; done) | (simp [*]; done)), (by first | rfl | (simp; done) | (simp [*]; done)), (by first | rfl | (simp; done) | (simp [*]; done)), H', ⟨Nat.le_refl _⟩, ⟨J5.out⟩, ⟨HB.out⟩⟩
    case round =>
     clear H'
     try clear c7
     try clear c7b0
     try clear c7b1
     try clear hcz8_0
     try clear hcz8_1
     try clear hcz8_10
     try clear hcz8_11
     try clear hcz8_12
     try clear hcz8_13
     try clear hcz8_2
     try clear hcz8_3
     try clear hcz8_4
     try clear hcz8_5
     try clear hcz8_6
     try clear hcz8_7
     try clear hcz8_8
     try clear hcz8_9
     try clear hfz8_0
     try clear hfz8_1
     try clear hfz8_10
     try clear hfz8_11
     try clear hfz8_12
     try clear hfz8_13
     try clear hfz8_2
     try clear hfz8_3
     try clear hfz8_4
     try clear hfz8_5
     try clear hfz8_6
     try clear hfz8_7
     try clear hfz8_8
     try clear hfz8_9
     obtain ⟨Jx, Jz, Jw, J1, rfl, rfl, rfl, rfl, HA, HK2, J5, HB⟩ := hrel
     cases gk with
     | zero => exact absurd HA.out (by simp [Zo.l0])
     | succ k2 =>
      have H := HA.out
      clear HA
      simp only [Zo.l0] at H
      by_cases c9 : J1 < (J0.length : Int)
      ·rw [if_pos c9] at H
       have c9b0 : decide (J1 < (J0.length : Int)) = true := decide_eq_true c9
       clear c9
       by_cases c10 : 0 ≤ J1
       ·rw [if_pos c10] at H
        have c10b0 : decide (0 ≤ J1) = true := decide_eq_true c10
        clear c10
        by_cases c11 : J1 < (J0.length : Int)
        ·rw [if_pos c11] at H
         have c11b0 : decide (J1 < (J0.length : Int)) = true := decide_eq_true c11
         clear c11
         replace H := Option.bind_eq_some_iff.mp H
         obtain ⟨⟨t112, t113, t114⟩, A120, H⟩ := H
         replace H : (if (wrap64 (Jx + t112)) > 1000 then (some (wrap64 (Jx + t112), mx Jz (wrap64 (t113 + 1)), wrap64 (Jw + t114))) else (Zo.l0 k2 a1 (wrap64 (Jx + t112)) (mx Jz (wrap64 (t113 + 1))) (wrap64 (Jw + t114)) J0 (J0.length : Int) (wrap64 (J1 + 1)))) = some (r1, r2, r3) := H
         have A12 := Zd.mk A120
         clear A120
         obtain ⟨ji13, hji13⟩ : ∃ j_ : Int, (mx Jz (wrap64 (t113 + 1))) = j_ := ⟨_, rfl⟩
         replace H : (if (wrap64 (Jx + t112)) > 1000 then (some (wrap64 (Jx + t112), ji13, wrap64 (Jw + t114))) else (Zo.l0 k2 a1 (wrap64 (Jx + t112)) ji13 (wrap64 (Jw + t114)) J0 (J0.length : Int) (wrap64 (J1 + 1)))) = some (r1, r2, r3) := by first | (rw [hji13] at H; exact H) | (simp only [hji13] at H ⊢; exact H)
         (try rw [hji13] at A12)
         have hji13_ : (if Jz < (wrap64 (t113 + 1)) then (wrap64 (t113 + 1)) else Jz) = ji13 := hji13
         by_cases c14 : (wrap64 (Jx + t112)) > 1000
         ·rw [if_pos c14] at H
          have c14b0 : decide (1000 < (wrap64 (Jx + t112))) = true := decide_eq_true c14
          clear c14
          simp only [Option.some.injEq, Prod.mk.injEq] at H
          obtain ⟨rfl, rfl, rfl⟩ := H
          have p110 : 0 ≤ (J1 : Int) := of_decide_eq_true (by first | (with_reducible assumption) | assumption)
          have q110 : J1 < (J0.length : Int) := of_decide_eq_true (by first | (with_reducible assumption) | assumption)
          obtain ⟨ad110, A110_10, c110_10, A110_13, c110_13, e110, hx110_0, hx110_1, hx110_2, hx110_3, hx110_4, hx110_5, hx110_6, hx110_7, hx110_8, hx110_9, hx110_10, hx110_11, hx110_12, hx110_13, hl110_10, hi110_10, hl110_13, hi110_13⟩ := Jc HR0_13.out J1 p110 q110
          cases e110
          replace hx110_0 := zb HB.out hx110_0
          replace hx110_1 := zb HB.out hx110_1
          replace hx110_2 := zb HB.out hx110_2
          replace hx110_3 := zb HB.out hx110_3
          replace hx110_4 := zb HB.out hx110_4
          replace hx110_5 := zb HB.out hx110_5
          replace hx110_6 := zb HB.out hx110_6
          replace hx110_7 := zb HB.out hx110_7
          replace hx110_8 := zb HB.out hx110_8
          replace hx110_9 := zb HB.out hx110_9
          replace hx110_10 := zb HB.out hx110_10
          replace hx110_11 := zb HB.out hx110_11
          replace hx110_12 := zb HB.out hx110_12
          replace hx110_13 := zb HB.out hx110_13
          have HR110_10 := Zd.mk hi110_10
          have HC110_10 := Zd.mk hl110_10
          clear hi110_10 hl110_10
          have HR110_13 := Zd.mk hi110_13
          have HC110_13 := Zd.mk hl110_13
          clear hi110_13 hl110_13
          replace p110 := eq_true p110
          replace q110 := eq_true q110
          go_wp2_with (first | ((with_reducible refine Xd (N := 8) rfl ?_); refine Xe ?hg (N := 8) ?hd (cs := #[.int .i64 0, .int .i64 0, .int .i64 0, .bool false, .int .i64 0, .int .u64 0, .int .u64 0, .int .i64 0, .bool false, .int .i64 0, .slice none 0 0, .int .i64 0, .int .i64 0, .slice none 0 0]) (t := 30) ?hr ?_; (case hd => rfl); (case hg => rfl); (case hr => first | (go_simp; done) | (go_simp; rfl)); intro J6 hg w15 hbox hb; have n0_ := Zd.mk (Zp J5.out hb); have n1_ := Zd.mk (Zj HB.out hb); have n2_ := Zd.mk (hbox); have n3_ := Zd.mk ((by rw [hg]; exact (Zl HB.out) : w.heap.size ≤ J6)); have n4_ := n3_; have n5_ := Zd.mk ((by rw [hg]; exact Nat.ne_of_lt (Kv J5.out) : Jj ≠ J6)); have n6_ := Zd.mk ((by rw [hg]; exact Nat.ne_of_gt (Kv J5.out) : J6 ≠ Jj)); clear J5; clear HB; have J5 := n0_; have HB := n1_; have J4 := n2_; have GW111 := n3_; have GE111 := n4_; have NB109_111 := n5_; have NB111_109 := n6_; clear n0_ n1_ n2_ n3_ n4_ n5_ n6_; clear hb hbox hg; have hnb16 := NB111_109.out; have hnc16 := NB109_111.out; have hcz17_0 : w15.cell? ⟨J6, 0, none⟩ = some (.int .i64 0) := (Za J4.out 0).trans rfl; have hcz17_1 : w15.cell? ⟨J6, 1, none⟩ = some (.int .i64 0) := (Za J4.out 1).trans rfl; have hcz17_2 : w15.cell? ⟨J6, 2, none⟩ = some (.int .i64 0) := (Za J4.out 2).trans rfl; have hcz17_3 : w15.cell? ⟨J6, 3, none⟩ = some (.bool false) := (Za J4.out 3).trans rfl; have hcz17_4 : w15.cell? ⟨J6, 4, none⟩ = some (.int .i64 0) := (Za J4.out 4).trans rfl; have hcz17_5 : w15.cell? ⟨J6, 5, none⟩ = some (.int .u64 0) := (Za J4.out 5).trans rfl; have hcz17_6 : w15.cell? ⟨J6, 6, none⟩ = some (.int .u64 0) := (Za J4.out 6).trans rfl; have hcz17_7 : w15.cell? ⟨J6, 7, none⟩ = some (.int .i64 0) := (Za J4.out 7).trans rfl; have hcz17_8 : w15.cell? ⟨J6, 8, none⟩ = some (.bool false) := (Za J4.out 8).trans rfl; have hcz17_9 : w15.cell? ⟨J6, 9, none⟩ = some (.int .i64 0) := (Za J4.out 9).trans rfl; have hcz17_10 : w15.cell? ⟨J6, 10, none⟩ = some (.slice none 0 0) := (Za J4.out 10).trans rfl; have hcz17_11 : w15.cell? ⟨J6, 11, none⟩ = some (.int .i64 0) := (Za J4.out 11).trans rfl; have hcz17_12 : w15.cell? ⟨J6, 12, none⟩ = some (.int .i64 0) := (Za J4.out 12).trans rfl; have hcz17_13 : w15.cell? ⟨J6, 13, none⟩ = some (.slice none 0 0) := (Za J4.out 13).trans rfl; have hfz17_0 := Zb J4.out 0; have hfz17_1 := Zb J4.out 1; have hfz17_2 := Zb J4.out 2; have hfz17_3 := Zb J4.out 3; have hfz17_4 := Zb J4.out 4; have hfz17_5 := Zb J4.out 5; have hfz17_6 := Zb J4.out 6; have hfz17_7 := Zb J4.out 7; have hfz17_8 := Zb J4.out 8; have hfz17_9 := Zb J4.out 9; have hfz17_10 := Zb J4.out 10; have hfz17_11 := Zb J4.out 11; have hfz17_12 := Zb J4.out 12; have hfz17_13 := Zb J4.out 13) | ((with_reducible refine Zx (f := 15) rfl ?_); refine Xz (some 31) rfl rfl Try.func15 (by kernel_rfl) rfl #[.agg #[.int .i64 ((Zc J0 J1).f0), .int .i64 ((Zc J0 J1).f1.f0), .int .i64 ((Zc J0 J1).f1.f1), .bool ((Zc J0 J1).f1.f2), .int .i64 ((Zc J0 J1).f1.f3.f0), .int .u64 ((Zc J0 J1).f1.f3.f1), .int .u64 ((Zc J0 J1).f1.f3.f2), .int .i64 ((Zc J0 J1).f1.f4), .bool ((Zc J0 J1).f1.f5), .int .i64 ((Zc J0 J1).f1.f6), .slice A110_10 ((Zc J0 J1).f1.f7).length c110_10, .int .i64 ((Zc J0 J1).f2), .int .i64 ((Zc J0 J1).f3), .slice A110_13 ((Zc J0 J1).f4).length c110_13], .int .i64 (wrap64 (a1 - 1))] rfl (by (try simp only [List.map_toArray, List.map_cons, List.map_nil]); first | done | rfl | (simp only [List.length_drop, List.length_take]; rfl)) ?_; (with_reducible refine (ih k2 (by have := HJ2.out; have := HK2.out; omega) ((Zc J0 J1).f0) ((Zc J0 J1).f1.f0) ((Zc J0 J1).f1.f1) ((Zc J0 J1).f1.f2) ((Zc J0 J1).f1.f3.f0) ((Zc J0 J1).f1.f3.f1) ((Zc J0 J1).f1.f3.f2) ((Zc J0 J1).f1.f4) ((Zc J0 J1).f1.f5) ((Zc J0 J1).f1.f6) _ _ ((Zc J0 J1).f1.f7) ((Zc J0 J1).f2) ((Zc J0 J1).f3) _ _ ((Zc J0 J1).f4) (wrap64 (a1 - 1)) t112 t113 t114 _ ?side1 ?side2 ?side3 ?side4 A12.out).mono ?_); (case side1 => exact Kd.Zw HR110_10.out (by repeat (first | (with_reducible first | exact HB.out | apply Xm | apply Xi | apply Xj | refine Xc ?_ GE109.out | refine Xc ?_ GE111.out) | exact HB.out))); (case side2 => exact HC110_10.out); (case side3 => exact Kd.Zw HR110_13.out (by repeat (first | (with_reducible first | exact HB.out | apply Xm | apply Xi | apply Xj | refine Xc ?_ GE109.out | refine Xc ?_ GE111.out) | exact HB.out))); (case side4 => exact HC110_13.out); rintro e w18 ⟨rfl, hb⟩; refine ⟨_, rfl, ?_⟩; have n0_ := Zd.mk (Zp (g := Jj) (o := .cells #[.int .i64 J7, .int .i64 Ji, .int .i64 Jo, .bool Ja, .int .i64 J9, .int .u64 J8, .int .u64 Jg, .int .i64 Jk, .bool Je, .int .i64 Jt, .slice A0_10 Jl.length c0_10, .int .i64 Js, .int .i64 Jr, .slice (some ad110) J0.length c0_13] 30 (0, 0)) (by (with_reducible repeat (first | refine Zf ?_ _ | refine Zg ?_ | refine Ze ?_ _)); refine Zm ?_ NB109_111.out _; (with_reducible repeat (first | refine Zf ?_ _ | refine Zg ?_ | refine Ze ?_ _)); refine Zm ?_ NB109_111.out _; (with_reducible repeat (first | refine Zf ?_ _ | refine Zg ?_ | refine Ze ?_ _)); refine Zm ?_ NB109_111.out _; (with_reducible repeat (first | refine Zf ?_ _ | refine Zg ?_ | refine Ze ?_ _)); refine Zm ?_ NB109_111.out _; (with_reducible repeat (first | refine Zf ?_ _ | refine Zg ?_ | refine Ze ?_ _)); refine Zm ?_ NB109_111.out _; (with_reducible repeat (first | refine Zf ?_ _ | refine Zg ?_ | refine Ze ?_ _)); refine Zm ?_ NB109_111.out _; (with_reducible repeat (first | refine Zf ?_ _ | refine Zg ?_ | refine Ze ?_ _)); refine Zm ?_ NB109_111.out _; (with_reducible repeat (first | refine Zf ?_ _ | refine Zg ?_ | refine Ze ?_ _)); refine Zm ?_ NB109_111.out _; (with_reducible repeat (first | refine Zf ?_ _ | refine Zg ?_ | refine Ze ?_ _)); refine Zm ?_ NB109_111.out _; (with_reducible repeat (first | refine Zf ?_ _ | refine Zg ?_ | refine Ze ?_ _)); refine Zm ?_ NB109_111.out _; (with_reducible repeat (first | refine Zf ?_ _ | refine Zg ?_ | refine Ze ?_ _)); refine Zm ?_ NB109_111.out _; (with_reducible repeat (first | refine Zf ?_ _ | refine Zg ?_ | refine Ze ?_ _)); refine Zm ?_ NB109_111.out _; (with_reducible repeat (first | refine Zf ?_ _ | refine Zg ?_ | refine Ze ?_ _)); refine Zm ?_ NB109_111.out _; (with_reducible repeat (first | refine Zf ?_ _ | refine Zg ?_ | refine Ze ?_ _)); refine Zm ?_ NB109_111.out _; (with_reducible repeat (first | refine Zf ?_ _ | refine Zg ?_ | refine Ze ?_ _)); exact J5.out) hb); have n1_ := Zd.mk (Zp (g := J6) (o := .cells #[.int .i64 ((Zc J0 J1).f0), .int .i64 ((Zc J0 J1).f1.f0), .int .i64 ((Zc J0 J1).f1.f1), .bool ((Zc J0 J1).f1.f2), .int .i64 ((Zc J0 J1).f1.f3.f0), .int .u64 ((Zc J0 J1).f1.f3.f1), .int .u64 ((Zc J0 J1).f1.f3.f2), .int .i64 ((Zc J0 J1).f1.f4), .bool ((Zc J0 J1).f1.f5), .int .i64 ((Zc J0 J1).f1.f6), .slice A110_10 ((Zc J0 J1).f1.f7).length c110_10, .int .i64 ((Zc J0 J1).f2), .int .i64 ((Zc J0 J1).f3), .slice A110_13 ((Zc J0 J1).f4).length c110_13] 30 (0, 0)) (by (with_reducible repeat (first | refine Zf ?_ _ | refine Zg ?_ | refine Ze ?_ _)); refine Zk (cs := #[.int .i64 ((Zc J0 J1).f0), .int .i64 ((Zc J0 J1).f1.f0), .int .i64 ((Zc J0 J1).f1.f1), .bool ((Zc J0 J1).f1.f2), .int .i64 ((Zc J0 J1).f1.f3.f0), .int .u64 ((Zc J0 J1).f1.f3.f1), .int .u64 ((Zc J0 J1).f1.f3.f2), .int .i64 ((Zc J0 J1).f1.f4), .bool ((Zc J0 J1).f1.f5), .int .i64 ((Zc J0 J1).f1.f6), .slice A110_10 ((Zc J0 J1).f1.f7).length c110_10, .int .i64 ((Zc J0 J1).f2), .int .i64 ((Zc J0 J1).f3), .slice none 0 0]) ?_ 13 _ rfl; (with_reducible repeat (first | refine Zf ?_ _ | refine Zg ?_ | refine Ze ?_ _)); refine Zk (cs := #[.int .i64 ((Zc J0 J1).f0), .int .i64 ((Zc J0 J1).f1.f0), .int .i64 ((Zc J0 J1).f1.f1), .bool ((Zc J0 J1).f1.f2), .int .i64 ((Zc J0 J1).f1.f3.f0), .int .u64 ((Zc J0 J1).f1.f3.f1), .int .u64 ((Zc J0 J1).f1.f3.f2), .int .i64 ((Zc J0 J1).f1.f4), .bool ((Zc J0 J1).f1.f5), .int .i64 ((Zc J0 J1).f1.f6), .slice A110_10 ((Zc J0 J1).f1.f7).length c110_10, .int .i64 ((Zc J0 J1).f2), .int .i64 0, .slice none 0 0]) ?_ 12 _ rfl; (with_reducible repeat (first | refine Zf ?_ _ | refine Zg ?_ | refine Ze ?_ _)); refine Zk (cs := #[.int .i64 ((Zc J0 J1).f0), .int .i64 ((Zc J0 J1).f1.f0), .int .i64 ((Zc J0 J1).f1.f1), .bool ((Zc J0 J1).f1.f2), .int .i64 ((Zc J0 J1).f1.f3.f0), .int .u64 ((Zc J0 J1).f1.f3.f1), .int .u64 ((Zc J0 J1).f1.f3.f2), .int .i64 ((Zc J0 J1).f1.f4), .bool ((Zc J0 J1).f1.f5), .int .i64 ((Zc J0 J1).f1.f6), .slice A110_10 ((Zc J0 J1).f1.f7).length c110_10, .int .i64 0, .int .i64 0, .slice none 0 0]) ?_ 11 _ rfl; (with_reducible repeat (first | refine Zf ?_ _ | refine Zg ?_ | refine Ze ?_ _)); refine Zk (cs := #[.int .i64 ((Zc J0 J1).f0), .int .i64 ((Zc J0 J1).f1.f0), .int .i64 ((Zc J0 J1).f1.f1), .bool ((Zc J0 J1).f1.f2), .int .i64 ((Zc J0 J1).f1.f3.f0), .int .u64 ((Zc J0 J1).f1.f3.f1), .int .u64 ((Zc J0 J1).f1.f3.f2), .int .i64 ((Zc J0 J1).f1.f4), .bool ((Zc J0 J1).f1.f5), .int .i64 ((Zc J0 J1).f1.f6), .slice none 0 0, .int .i64 0, .int .i64 0, .slice none 0 0]) ?_ 10 _ rfl; (with_reducible repeat (first | refine Zf ?_ _ | refine Zg ?_ | refine Ze ?_ _)); refine Zk (cs := #[.int .i64 ((Zc J0 J1).f0), .int .i64 ((Zc J0 J1).f1.f0), .int .i64 ((Zc J0 J1).f1.f1), .bool ((Zc J0 J1).f1.f2), .int .i64 ((Zc J0 J1).f1.f3.f0), .int .u64 ((Zc J0 J1).f1.f3.f1), .int .u64 ((Zc J0 J1).f1.f3.f2), .int .i64 ((Zc J0 J1).f1.f4), .bool ((Zc J0 J1).f1.f5), .int .i64 0, .slice none 0 0, .int .i64 0, .int .i64 0, .slice none 0 0]) ?_ 9 _ rfl; (with_reducible repeat (first | refine Zf ?_ _ | refine Zg ?_ | refine Ze ?_ _)); refine Zk (cs := #[.int .i64 ((Zc J0 J1).f0), .int .i64 ((Zc J0 J1).f1.f0), .int .i64 ((Zc J0 J1).f1.f1), .bool ((Zc J0 J1).f1.f2), .int .i64 ((Zc J0 J1).f1.f3.f0), .int .u64 ((Zc J0 J1).f1.f3.f1), .int .u64 ((Zc J0 J1).f1.f3.f2), .int .i64 ((Zc J0 J1).f1.f4), .bool false, .int .i64 0, .slice none 0 0, .int .i64 0, .int .i64 0, .slice none 0 0]) ?_ 8 _ rfl; (with_reducible repeat (first | refine Zf ?_ _ | refine Zg ?_ | refine Ze ?_ _)); refine Zk (cs := #[.int .i64 ((Zc J0 J1).f0), .int .i64 ((Zc J0 J1).f1.f0), .int .i64 ((Zc J0 J1).f1.f1), .bool ((Zc J0 J1).f1.f2), .int .i64 ((Zc J0 J1).f1.f3.f0), .int .u64 ((Zc J0 J1).f1.f3.f1), .int .u64 ((Zc J0 J1).f1.f3.f2), .int .i64 0, .bool false, .int .i64 0, .slice none 0 0, .int .i64 0, .int .i64 0, .slice none 0 0]) ?_ 7 _ rfl; (with_reducible repeat (first | refine Zf ?_ _ | refine Zg ?_ | refine Ze ?_ _)); refine Zk (cs := #[.int .i64 ((Zc J0 J1).f0), .int .i64 ((Zc J0 J1).f1.f0), .int .i64 ((Zc J0 J1).f1.f1), .bool ((Zc J0 J1).f1.f2), .int .i64 ((Zc J0 J1).f1.f3.f0), .int .u64 ((Zc J0 J1).f1.f3.f1), .int .u64 0, .int .i64 0, .bool false, .int .i64 0, .slice none 0 0, .int .i64 0, .int .i64 0, .slice none 0 0]) ?_ 6 _ rfl; (with_reducible repeat (first | refine Zf ?_ _ | refine Zg ?_ | refine Ze ?_ _)); refine Zk (cs := #[.int .i64 ((Zc J0 J1).f0), .int .i64 ((Zc J0 J1).f1.f0), .int .i64 ((Zc J0 J1).f1.f1), .bool ((Zc J0 J1).f1.f2), .int .i64 ((Zc J0 J1).f1.f3.f0), .int .u64 0, .int .u64 0, .int .i64 0, .bool false, .int .i64 0, .slice none 0 0, .int .i64 0, .int .i64 0, .slice none 0 0]) ?_ 5 _ rfl; (with_reducible repeat (first | refine Zf ?_ _ | refine Zg ?_ | refine Ze ?_ _)); refine Zk (cs := #[.int .i64 ((Zc J0 J1).f0), .int .i64 ((Zc J0 J1).f1.f0), .int .i64 ((Zc J0 J1).f1.f1), .bool ((Zc J0 J1).f1.f2), .int .i64 0, .int .u64 0, .int .u64 0, .int .i64 0, .bool false, .int .i64 0, .slice none 0 0, .int .i64 0, .int .i64 0, .slice none 0 0]) ?_ 4 _ rfl; (with_reducible repeat (first | refine Zf ?_ _ | refine Zg ?_ | refine Ze ?_ _)); refine Zk (cs := #[.int .i64 ((Zc J0 J1).f0), .int .i64 ((Zc J0 J1).f1.f0), .int .i64 ((Zc J0 J1).f1.f1), .bool false, .int .i64 0, .int .u64 0, .int .u64 0, .int .i64 0, .bool false, .int .i64 0, .slice none 0 0, .int .i64 0, .int .i64 0, .slice none 0 0]) ?_ 3 _ rfl; (with_reducible repeat (first | refine Zf ?_ _ | refine Zg ?_ | refine Ze ?_ _)); refine Zk (cs := #[.int .i64 ((Zc J0 J1).f0), .int .i64 ((Zc J0 J1).f1.f0), .int .i64 0, .bool false, .int .i64 0, .int .u64 0, .int .u64 0, .int .i64 0, .bool false, .int .i64 0, .slice none 0 0, .int .i64 0, .int .i64 0, .slice none 0 0]) ?_ 2 _ rfl; (with_reducible repeat (first | refine Zf ?_ _ | refine Zg ?_ | refine Ze ?_ _)); refine Zk (cs := #[.int .i64 ((Zc J0 J1).f0), .int .i64 0, .int .i64 0, .bool false, .int .i64 0, .int .u64 0, .int .u64 0, .int .i64 0, .bool false, .int .i64 0, .slice none 0 0, .int .i64 0, .int .i64 0, .slice none 0 0]) ?_ 1 _ rfl; (with_reducible repeat (first | refine Zf ?_ _ | refine Zg ?_ | refine Ze ?_ _)); refine Zk (cs := #[.int .i64 0, .int .i64 0, .int .i64 0, .bool false, .int .i64 0, .int .u64 0, .int .u64 0, .int .i64 0, .bool false, .int .i64 0, .slice none 0 0, .int .i64 0, .int .i64 0, .slice none 0 0]) ?_ 0 _ rfl; (with_reducible repeat (first | refine Zf ?_ _ | refine Zg ?_ | refine Ze ?_ _)); exact J4.out) hb); have n2_ := Zd.mk (Zj (by repeat (first | (with_reducible first | exact HB.out | apply Xm | apply Xi | apply Xj | refine Xc ?_ GE109.out | refine Xc ?_ GE111.out) | exact HB.out)) hb); clear J5; clear J4; clear HB; have J5 := n0_; have J4 := n1_; have HB := n2_; clear n0_ n1_ n2_; (try clear hb); (try clear hb2); (try clear hk); (try clear hi)))
          go_ret3
          exact ⟨by first | rfl | (simp [errW_none, errW_some] <;> rfl) | (simp only [← hji13]; first | rfl | (simp [errW_none, errW_some] <;> rfl)) | (simp [*, errW_none, errW_some] <;> rfl), HB.out⟩
         ·rw [if_neg c14] at H
          have c14b0 : decide (1000 < (wrap64 (Jx + t112))) = false := decide_eq_false c14
          clear c14
          have H' := Zd.mk H
          clear H
          have p110 : 0 ≤ (J1 : Int) := of_decide_eq_true (by first | (with_reducible assumption) | assumption)
          have q110 : J1 < (J0.length : Int) := of_decide_eq_true (by first | (with_reducible assumption) | assumption)
          obtain ⟨ad110, A110_10, c110_10, A110_13, c110_13, e110, hx110_0, hx110_1, hx110_2, hx110_3, hx110_4, hx110_5, hx110_6, hx110_7, hx110_8, hx110_9, hx110_10, hx110_11, hx110_12, hx110_13, hl110_10, hi110_10, hl110_13, hi110_13⟩ := Jc HR0_13.out J1 p110 q110
          cases e110
          replace hx110_0 := zb HB.out hx110_0
          replace hx110_1 := zb HB.out hx110_1
          replace hx110_2 := zb HB.out hx110_2
          replace hx110_3 := zb HB.out hx110_3
          replace hx110_4 := zb HB.out hx110_4
          replace hx110_5 := zb HB.out hx110_5
          replace hx110_6 := zb HB.out hx110_6
          replace hx110_7 := zb HB.out hx110_7
          replace hx110_8 := zb HB.out hx110_8
          replace hx110_9 := zb HB.out hx110_9
          replace hx110_10 := zb HB.out hx110_10
          replace hx110_11 := zb HB.out hx110_11
          replace hx110_12 := zb HB.out hx110_12
          replace hx110_13 := zb HB.out hx110_13
          have HR110_10 := Zd.mk hi110_10
          have HC110_10 := Zd.mk hl110_10
          clear hi110_10 hl110_10
          have HR110_13 := Zd.mk hi110_13
          have HC110_13 := Zd.mk hl110_13
          clear hi110_13 hl110_13
          replace p110 := eq_true p110
          replace q110 := eq_true q110
          go_wp2_with (first | ((with_reducible refine Xd (N := 8) rfl ?_); refine Xe ?hg (N := 8) ?hd (cs := #[.int .i64 0, .int .i64 0, .int .i64 0, .bool false, .int .i64 0, .int .u64 0, .int .u64 0, .int .i64 0, .bool false, .int .i64 0, .slice none 0 0, .int .i64 0, .int .i64 0, .slice none 0 0]) (t := 30) ?hr ?_; (case hd => rfl); (case hg => rfl); (case hr => first | (go_simp; done) | (go_simp; rfl)); intro J6 hg w19 hbox hb; have n0_ := Zd.mk (Zp J5.out hb); have n1_ := Zd.mk (Zj HB.out hb); have n2_ := Zd.mk (hbox); have n3_ := Zd.mk ((by rw [hg]; exact (Zl HB.out) : w.heap.size ≤ J6)); have n4_ := n3_; have n5_ := Zd.mk ((by rw [hg]; exact Nat.ne_of_lt (Kv J5.out) : Jj ≠ J6)); have n6_ := Zd.mk ((by rw [hg]; exact Nat.ne_of_gt (Kv J5.out) : J6 ≠ Jj)); clear J5; clear HB; have J5 := n0_; have HB := n1_; have J4 := n2_; have GW111 := n3_; have GE111 := n4_; have NB109_111 := n5_; have NB111_109 := n6_; clear n0_ n1_ n2_ n3_ n4_ n5_ n6_; clear hb hbox hg; have hnb20 := NB111_109.out; have hnc20 := NB109_111.out; have hcz21_0 : w19.cell? ⟨J6, 0, none⟩ = some (.int .i64 0) := (Za J4.out 0).trans rfl; have hcz21_1 : w19.cell? ⟨J6, 1, none⟩ = some (.int .i64 0) := (Za J4.out 1).trans rfl; have hcz21_2 : w19.cell? ⟨J6, 2, none⟩ = some (.int .i64 0) := (Za J4.out 2).trans rfl; have hcz21_3 : w19.cell? ⟨J6, 3, none⟩ = some (.bool false) := (Za J4.out 3).trans rfl; have hcz21_4 : w19.cell? ⟨J6, 4, none⟩ = some (.int .i64 0) := (Za J4.out 4).trans rfl; have hcz21_5 : w19.cell? ⟨J6, 5, none⟩ = some (.int .u64 0) := (Za J4.out 5).trans rfl; have hcz21_6 : w19.cell? ⟨J6, 6, none⟩ = some (.int .u64 0) := (Za J4.out 6).trans rfl; have hcz21_7 : w19.cell? ⟨J6, 7, none⟩ = some (.int .i64 0) := (Za J4.out 7).trans rfl; have hcz21_8 : w19.cell? ⟨J6, 8, none⟩ = some (.bool false) := (Za J4.out 8).trans rfl; have hcz21_9 : w19.cell? ⟨J6, 9, none⟩ = some (.int .i64 0) := (Za J4.out 9).trans rfl; have hcz21_10 : w19.cell? ⟨J6, 10, none⟩ = some (.slice none 0 0) := (Za J4.out 10).trans rfl; have hcz21_11 : w19.cell? ⟨J6, 11, none⟩ = some (.int .i64 0) := (Za J4.out 11).trans rfl; have hcz21_12 : w19.cell? ⟨J6, 12, none⟩ = some (.int .i64 0) := (Za J4.out 12).trans rfl; have hcz21_13 : w19.cell? ⟨J6, 13, none⟩ = some (.slice none 0 0) := (Za J4.out 13).trans rfl; have hfz21_0 := Zb J4.out 0; have hfz21_1 := Zb J4.out 1; have hfz21_2 := Zb J4.out 2; have hfz21_3 := Zb J4.out 3; have hfz21_4 := Zb J4.out 4; have hfz21_5 := Zb J4.out 5; have hfz21_6 := Zb J4.out 6; have hfz21_7 := Zb J4.out 7; have hfz21_8 := Zb J4.out 8; have hfz21_9 := Zb J4.out 9; have hfz21_10 := Zb J4.out 10; have hfz21_11 := Zb J4.out 11; have hfz21_12 := Zb J4.out 12; have hfz21_13 := Zb J4.out 13) | ((with_reducible refine Zx (f := 15) rfl ?_); refine Xz (some 31) rfl rfl Try.func15 (by kernel_rfl) rfl #[.agg #[.int .i64 ((Zc J0 J1).f0), .int .i64 ((Zc J0 J1).f1.f0), .int .i64 ((Zc J0 J1).f1.f1), .bool ((Zc J0 J1).f1.f2), .int .i64 ((Zc J0 J1).f1.f3.f0), .int .u64 ((Zc J0 J1).f1.f3.f1), .int .u64 ((Zc J0 J1).f1.f3.f2), .int .i64 ((Zc J0 J1).f1.f4), .bool ((Zc J0 J1).f1.f5), .int .i64 ((Zc J0 J1).f1.f6), .slice A110_10 ((Zc J0 J1).f1.f7).length c110_10, .int .i64 ((Zc J0 J1).f2), .int .i64 ((Zc J0 J1).f3), .slice A110_13 ((Zc J0 J1).f4).length c110_13], .int .i64 (wrap64 (a1 - 1))] rfl (by (try simp only [List.map_toArray, List.map_cons, List.map_nil]); first | done | rfl | (simp only [List.length_drop, List.length_take]; rfl)) ?_; (with_reducible refine (ih k2 (by have := HJ2.out; have := HK2.out; omega) ((Zc J0 J1).f0) ((Zc J0 J1).f1.f0) ((Zc J0 J1).f1.f1) ((Zc J0 J1).f1.f2) ((Zc J0 J1).f1.f3.f0) ((Zc J0 J1).f1.f3.f1) ((Zc J0 J1).f1.f3.f2) ((Zc J0 J1).f1.f4) ((Zc J0 J1).f1.f5) ((Zc J0 J1).f1.f6) _ _ ((Zc J0 J1).f1.f7) ((Zc J0 J1).f2) ((Zc J0 J1).f3) _ _ ((Zc J0 J1).f4) (wrap64 (a1 - 1)) t112 t113 t114 _ ?side1 ?side2 ?side3 ?side4 A12.out).mono ?_); (case side1 => exact Kd.Zw HR110_10.out (by repeat (first | (with_reducible first | exact HB.out | apply Xm | apply Xi | apply Xj | refine Xc ?_ GE109.out | refine Xc ?_ GE111.out) | exact HB.out))); (case side2 => exact HC110_10.out); (case side3 => exact Kd.Zw HR110_13.out (by repeat (first | (with_reducible first | exact HB.out | apply Xm | apply Xi | apply Xj | refine Xc ?_ GE109.out | refine Xc ?_ GE111.out) | exact HB.out))); (case side4 => exact HC110_13.out); rintro e w22 ⟨rfl, hb⟩; refine ⟨_, rfl, ?_⟩; have n0_ := Zd.mk (Zp (g := Jj) (o := .cells #[.int .i64 J7, .int .i64 Ji, .int .i64 Jo, .bool Ja, .int .i64 J9, .int .u64 J8, .int .u64 Jg, .int .i64 Jk, .bool Je, .int .i64 Jt, .slice A0_10 Jl.length c0_10, .int .i64 Js, .int .i64 Jr, .slice (some ad110) J0.length c0_13] 30 (0, 0)) (by (with_reducible repeat (first | refine Zf ?_ _ | refine Zg ?_ | refine Ze ?_ _)); refine Zm ?_ NB109_111.out _; (with_reducible repeat (first | refine Zf ?_ _ | refine Zg ?_ | refine Ze ?_ _)); refine Zm ?_ NB109_111.out _; (with_reducible repeat (first | refine Zf ?_ _ | refine Zg ?_ | refine Ze ?_ _)); refine Zm ?_ NB109_111.out _; (with_reducible repeat (first | refine Zf ?_ _ | refine Zg ?_ | refine Ze ?_ _)); refine Zm ?_ NB109_111.out _; (with_reducible repeat (first | refine Zf ?_ _ | refine Zg ?_ | refine Ze ?_ _)); refine Zm ?_ NB109_111.out _; (with_reducible repeat (first | refine Zf ?_ _ | refine Zg ?_ | refine Ze ?_ _)); refine Zm ?_ NB109_111.out _; (with_reducible repeat (first | refine Zf ?_ _ | refine Zg ?_ | refine Ze ?_ _)); refine Zm ?_ NB109_111.out _; (with_reducible repeat (first | refine Zf ?_ _ | refine Zg ?_ | refine Ze ?_ _)); refine Zm ?_ NB109_111.out _; (with_reducible repeat (first | refine Zf ?_ _ | refine Zg ?_ | refine Ze ?_ _)); refine Zm ?_ NB109_111.out _; (with_reducible repeat (first | refine Zf ?_ _ | refine Zg ?_ | refine Ze ?_ _)); refine Zm ?_ NB109_111.out _; (with_reducible repeat (first | refine Zf ?_ _ | refine Zg ?_ | refine Ze ?_ _)); refine Zm ?_ NB109_111.out _; (with_reducible repeat (first | refine Zf ?_ _ | refine Zg ?_ | refine Ze ?_ _)); refine Zm ?_ NB109_111.out _; (with_reducible repeat (first | refine Zf ?_ _ | refine Zg ?_ | refine Ze ?_ _)); refine Zm ?_ NB109_111.out _; (with_reducible repeat (first | refine Zf ?_ _ | refine Zg ?_ | refine Ze ?_ _)); refine Zm ?_ NB109_111.out _; (with_reducible repeat (first | refine Zf ?_ _ | refine Zg ?_ | refine Ze ?_ _)); exact J5.out) hb); have n1_ := Zd.mk (Zp (g := J6) (o := .cells #[.int .i64 ((Zc J0 J1).f0), .int .i64 ((Zc J0 J1).f1.f0), .int .i64 ((Zc J0 J1).f1.f1), .bool ((Zc J0 J1).f1.f2), .int .i64 ((Zc J0 J1).f1.f3.f0), .int .u64 ((Zc J0 J1).f1.f3.f1), .int .u64 ((Zc J0 J1).f1.f3.f2), .int .i64 ((Zc J0 J1).f1.f4), .bool ((Zc J0 J1).f1.f5), .int .i64 ((Zc J0 J1).f1.f6), .slice A110_10 ((Zc J0 J1).f1.f7).length c110_10, .int .i64 ((Zc J0 J1).f2), .int .i64 ((Zc J0 J1).f3), .slice A110_13 ((Zc J0 J1).f4).length c110_13] 30 (0, 0)) (by (with_reducible repeat (first | refine Zf ?_ _ | refine Zg ?_ | refine Ze ?_ _)); refine Zk (cs := #[.int .i64 ((Zc J0 J1).f0), .int .i64 ((Zc J0 J1).f1.f0), .int .i64 ((Zc J0 J1).f1.f1), .bool ((Zc J0 J1).f1.f2), .int .i64 ((Zc J0 J1).f1.f3.f0), .int .u64 ((Zc J0 J1).f1.f3.f1), .int .u64 ((Zc J0 J1).f1.f3.f2), .int .i64 ((Zc J0 J1).f1.f4), .bool ((Zc J0 J1).f1.f5), .int .i64 ((Zc J0 J1).f1.f6), .slice A110_10 ((Zc J0 J1).f1.f7).length c110_10, .int .i64 ((Zc J0 J1).f2), .int .i64 ((Zc J0 J1).f3), .slice none 0 0]) ?_ 13 _ rfl; (with_reducible repeat (first | refine Zf ?_ _ | refine Zg ?_ | refine Ze ?_ _)); refine Zk (cs := #[.int .i64 ((Zc J0 J1).f0), .int .i64 ((Zc J0 J1).f1.f0), .int .i64 ((Zc J0 J1).f1.f1), .bool ((Zc J0 J1).f1.f2), .int .i64 ((Zc J0 J1).f1.f3.f0), .int .u64 ((Zc J0 J1).f1.f3.f1), .int .u64 ((Zc J0 J1).f1.f3.f2), .int .i64 ((Zc J0 J1).f1.f4), .bool ((Zc J0 J1).f1.f5), .int .i64 ((Zc J0 J1).f1.f6), .slice A110_10 ((Zc J0 J1).f1.f7).length c110_10, .int .i64 ((Zc J0 J1).f2), .int .i64 0, .slice none 0 0]) ?_ 12 _ rfl; (with_reducible repeat (first | refine Zf ?_ _ | refine Zg ?_ | refine Ze ?_ _)); refine Zk (cs := #[.int .i64 ((Zc J0 J1).f0), .int .i64 ((Zc J0 J1).f1.f0), .int .i64 ((Zc J0 J1).f1.f1), .bool ((Zc J0 J1).f1.f2), .int .i64 ((Zc J0 J1).f1.f3.f0), .int .u64 ((Zc J0 J1).f1.f3.f1), .int .u64 ((Zc J0 J1).f1.f3.f2), .int .i64 ((Zc J0 J1).f1.f4), .bool ((Zc J0 J1).f1.f5), .int .i64 ((Zc J0 J1).f1.f6), .slice A110_10 ((Zc J0 J1).f1.f7).length c110_10, .int .i64 0, .int .i64 0, .slice none 0 0]) ?_ 11 _ rfl; (with_reducible repeat (first | refine Zf ?_ _ | refine Zg ?_ | refine Ze ?_ _)); refine Zk (cs := #[.int .i64 ((Zc J0 J1).f0), .int .i64 ((Zc J0 J1).f1.f0), .int .i64 ((Zc J0 J1).f1.f1), .bool ((Zc J0 J1).f1.f2), .int .i64 ((Zc J0 J1).f1.f3.f0), .int .u64 ((Zc J0 J1).f1.f3.f1), .int .u64 ((Zc J0 J1).f1.f3.f2), .int .i64 ((Zc J0 J1).f1.f4), .bool ((Zc J0 J1).f1.f5), .int .i64 ((Zc J0 J1).f1.f6), .slice none 0 0, .int .i64 0, .int .i64 0, .slice none 0 0]) ?_ 10 _ rfl; (with_reducible repeat (first | refine Zf ?_ _ | refine Zg ?_ | refine Ze ?_ _)); refine Zk (cs := #[.int .i64 ((Zc J0 J1).f0), .int .i64 ((Zc J0 J1).f1.f0), .int .i64 ((Zc J0 J1).f1.f1), .bool ((Zc J0 J1).f1.f2), .int .i64 ((Zc J0 J1).f1.f3.f0), .int .u64 ((Zc J0 J1).f1.f3.f1), .int .u64 ((Zc J0 J1).f1.f3.f2), .int .i64 ((Zc J0 J1).f1.f4), .bool ((Zc J0 J1).f1.f5), .int .i64 0, .slice none 0 0, .int .i64 0, .int .i64 0, .slice none 0 0]) ?_ 9 _ rfl; (with_reducible repeat (first | refine Zf ?_ _ | refine Zg ?_ | refine Ze ?_ _)); refine Zk (cs := #[.int .i64 ((Zc J0 J1).f0), .int .i64 ((Zc J0 J1).f1.f0), .int .i64 ((Zc J0 J1).f1.f1), .bool ((Zc J0 J1).f1.f2), .int .i64 ((Zc J0 J1).f1.f3.f0), .int .u64 ((Zc J0 J1).f1.f3.f1), .int .u64 ((Zc J0 J1).f1.f3.f2), .int .i64 ((Zc J0 J1).f1.f4), .bool false, .int .i64 0, .slice none 0 0, .int .i64 0, .int .i64 0, .slice none 0 0]) ?_ 8 _ rfl; (with_reducible repeat (first | refine Zf ?_ _ | refine Zg ?_ | refine Ze ?_ _)); refine Zk (cs := #[.int .i64 ((Zc J0 J1).f0), .int .i64 ((Zc J0 J1).f1.f0), .int .i64 ((Zc J0 J1).f1.f1), .bool ((Zc J0 J1).f1.f2), .int .i64 ((Zc J0 J1).f1.f3.f0), .int .u64 ((Zc J0 J1).f1.f3.f1), .int .u64 ((Zc J0 J1).f1.f3.f2), .int .i64 0, .bool false, .int .i64 0, .slice none 0 0, .int .i64 0, .int .i64 0, .slice none 0 0]) ?_ 7 _ rfl; (with_reducible repeat (first | refine Zf ?_ _ | refine Zg ?_ | refine Ze ?_ _)); refine Zk (cs := #[.int .i64 ((Zc J0 J1).f0), .int .i64 ((Zc J0 J1).f1.f0), .int .i64 ((Zc J0 J1).f1.f1), .bool ((Zc J0 J1).f1.f2), .int .i64 ((Zc J0 J1).f1.f3.f0), .int .u64 ((Zc J0 J1).f1.f3.f1), .int .u64 0, .int .i64 0, .bool false, .int .i64 0, .slice none 0 0, .int .i64 0, .int .i64 0, .slice none 0 0]) ?_ 6 _ rfl; (with_reducible repeat (first | refine Zf ?_ _ | refine Zg ?_ | refine Ze ?_ _)); refine Zk (cs := #[.int .i64 ((Zc J0 J1).f0), .int .i64 ((Zc J0 J1).f1.f0), .int .i64 ((Zc J0 J1).f1.f1), .bool ((Zc J0 J1).f1.f2), .int .i64 ((Zc J0 J1).f1.f3.f0), .int .u64 0, .int .u64 0, .int .i64 0, .bool false, .int .i64 0, .slice none 0 0, .int .i64 0, .int .i64 0, .slice none 0 0]) ?_ 5 _ rfl; (with_reducible repeat (first | refine Zf ?_ _ | refine Zg ?_ | refine Ze ?_ _)); refine Zk (cs := #[.int .i64 ((Zc J0 J1).f0), .int .i64 ((Zc J0 J1).f1.f0), .int .i64 ((Zc J0 J1).f1.f1), .bool ((Zc J0 J1).f1.f2), .int .i64 0, .int .u64 0, .int .u64 0, .int .i64 0, .bool false, .int .i64 0, .slice none 0 0, .int .i64 0, .int .i64 0, .slice none 0 0]) ?_ 4 _ rfl; (with_reducible repeat (first | refine Zf ?_ _ | refine Zg ?_ | refine Ze ?_ _)); refine Zk (cs := #[.int .i64 ((Zc J0 J1).f0), .int .i64 ((Zc J0 J1).f1.f0), .int .i64 ((Zc J0 J1).f1.f1), .bool false, .int .i64 0, .int .u64 0, .int .u64 0, .int .i64 0, .bool false, .int .i64 0, .slice none 0 0, .int .i64 0, .int .i64 0, .slice none 0 0]) ?_ 3 _ rfl; (with_reducible repeat (first | refine Zf ?_ _ | refine Zg ?_ | refine Ze ?_ _)); refine Zk (cs := #[.int .i64 ((Zc J0 J1).f0), .int .i64 ((Zc J0 J1).f1.f0), .int .i64 0, .bool false, .int .i64 0, .int .u64 0, .int .u64 0, .int .i64 0, .bool false, .int .i64 0, .slice none 0 0, .int .i64 0, .int .i64 0, .slice none 0 0]) ?_ 2 _ rfl; (with_reducible repeat (first | refine Zf ?_ _ | refine Zg ?_ | refine Ze ?_ _)); refine Zk (cs := #[.int .i64 ((Zc J0 J1).f0), .int .i64 0, .int .i64 0, .bool false, .int .i64 0, .int .u64 0, .int .u64 0, .int .i64 0, .bool false, .int .i64 0, .slice none 0 0, .int .i64 0, .int .i64 0, .slice none 0 0]) ?_ 1 _ rfl; (with_reducible repeat (first | refine Zf ?_ _ | refine Zg ?_ | refine Ze ?_ _)); refine Zk (cs := #[.int .i64 0, .int .i64 0, .int .i64 0, .bool false, .int .i64 0, .int .u64 0, .int .u64 0, .int .i64 0, .bool false, .int .i64 0, .slice none 0 0, .int .i64 0, .int .i64 0, .slice none 0 0]) ?_ 0 _ rfl; (with_reducible repeat (first | refine Zf ?_ _ | refine Zg ?_ | refine Ze ?_ _)); exact J4.out) hb); have n2_ := Zd.mk (Zj (by repeat (first | (with_reducible first | exact HB.out | apply Xm | apply Xi | apply Xj | refine Xc ?_ GE109.out | refine Xc ?_ GE111.out) | exact HB.out)) hb); clear J5; clear J4; clear HB; have J5 := n0_; have J4 := n1_; have HB := n2_; clear n0_ n1_ n2_; (try clear hb); (try clear hb2); (try clear hk); (try clear hi)))
          go_roundg k2
          case measure => have := HJ2.out; have := HK2.out; omega
          case rel => exact ⟨(wrap64 (Jx + t112)), (ji13), (wrap64 (Jw + t114)), (wrap64 (J1 + 1)), (by first | rfl | (simp; done) | (simp [*]; done)), (by first | rfl | (simp; done) | (simp only [← hji13] <;> (first | rfl | simp)) | (simp [*]; done)), (by first | rfl | (simp; done) | (simp [*]; done)), (by first | rfl | (simp; done) | (simp [*]; done)), H', ⟨by have := HJ2.out; have := HK2.out; omega⟩, ⟨J5.out⟩, ⟨HB.out⟩⟩
        ·rw [if_neg c11] at H
         exact absurd H (by simp)
       ·rw [if_neg c10] at H
        exact absurd H (by simp)
      ·rw [if_neg c9] at H
       have c9b0 : decide (J1 < (J0.length : Int)) = false := decide_eq_false c9
       clear c9
       simp only [Option.some.injEq, Prod.mk.injEq] at H
       obtain ⟨rfl, rfl, rfl⟩ := H
       go_wp2
       go_ret3
       exact ⟨by first | rfl | (simp [errW_none, errW_some] <;> rfl) | (simp [*, errW_none, errW_some] <;> rfl), HB.out⟩
end Go.Proofs.Ytkbkndfonccekaa.PF
