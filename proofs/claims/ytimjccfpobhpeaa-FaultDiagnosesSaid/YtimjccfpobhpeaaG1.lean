/- Joined by this session's own program out of its texts: PFx0 Rep Under Kd Clones PFx3 Map Names PFx5 PFx6 PFx7 PFx8 PFx9. -/
import Derived.Test.YtimjccfpobhpeaaProg
import Derived.Below
import Derived.Deep.Draws
import Derived.Deep.AppendLies
import Derived.Maps.AppendAt
import Derived.OwnWalk
import Derived.Laws.BytesArg
import Derived.Laws.MakeOwn
import Derived.Laws.OwnMore
import Derived.Deep.OwnRows
import Derived.Tactics
import Derived.Lib.ConvBytes
import Derived.Laws.Slices
import Derived.WalkKit
import Derived.KernelRfl
import Derived.RowKit3
import Derived.Deep.LoopGhost
import Derived.Deep.QuietTactic
import Derived.BigQuiet
import Derived.WideLaws
import Derived.Deep.DeepCutAuto
import Derived.Deep.CutBlock
import Derived.Deep.RegionHeld3
import Derived.Laws.Rows
import Derived.Lib.AppendStr
import Derived.ArgAppend
import Derived.Laws.IdiomCopy
import Derived.OrdersHeld
import Derived.Laws.BitsLemmas
import Derived.RowKit
import Derived.Test.YtimjccfpobhpeaaG0
import Derived.Laws.StructEq
import Derived.WalkSpells
import Derived.WalkLawsBesides
import Derived.Lib.Hide
import Derived.Lib.SmallJoins
import Derived.Lib.BufferMore
import Derived.Maps.Keyed
import Derived.Laws.IdiomMaps
import Derived.ChangeMaps4
namespace Go.Proofs.Ytimjccfpobhpeaa.PF
open Go.RowKit Go.Proofs.YtimjccfpobhpeaaW.PrintWords Go.Proofs.YtimjccfpobhpeaaW.PrintLast Go.Proofs.YtimjccfpobhpeaaW.PrintMore
set_option linter.unusedVariables false
set_option linter.unusedSimpArgs false
theorem info3 : (Try.prog.info? 3).map (fun i => (i.zero, i.size, i.bytes)) = some (some (.int .i64 0), 1, 8) := by kernel_rfl
theorem info4 : (Try.prog.info? 4).map (fun i => (i.zero, i.size, i.bytes)) = some (some (.bool false), 1, 1) := by kernel_rfl
theorem info9 : (Try.prog.info? 9).map (fun i => (i.zero, i.size, i.bytes)) = some (some (.string ⟨#[]⟩), 1, 16) := by kernel_rfl
theorem info29 : (Try.prog.info? 29).map (fun i => (i.zero, i.size, i.bytes)) = some (some (.agg #[(.int .i64 0), (.int .i64 0), (.bool false)]), 3, 24) := by kernel_rfl
theorem info78 : (Try.prog.info? 78).map (fun i => (i.zero, i.size, i.bytes)) = some (some (.int .u64 0), 1, 8) := by kernel_rfl
structure S82 where
  f0 : ByteArray
  f1 : Int
  f2 : Int
  f3 : Int
  f4 : Bool
def z82 : S82 := ⟨(⟨#[]⟩ : ByteArray), (0 : Int), (0 : Int), (0 : Int), false⟩
def k82 : Kd S82 := Kd.iso (Kd.pair Kd.string (Kd.pair (Kd.int .i64) (Kd.pair (Kd.int .i64) (Kd.pair (Kd.int .i64) Kd.bool)))) (fun x : S82 => (x.f0, x.f1, x.f2, x.f3, x.f4))
theorem k82_open {w : World} {x : S82} {cs : List Value} (h : k82.K w x cs) : cs = [.string x.f0, .int .i64 x.f1, .int .i64 x.f2, .int .i64 x.f3, .bool x.f4] := by
  obtain ⟨_, _, rfl, rfl, ⟨_, _, rfl, rfl, ⟨_, _, rfl, rfl, ⟨_, _, rfl, rfl, rfl⟩⟩⟩⟩ := h
  exact rfl
theorem k82_openM {w : World} {base : Nat} {ok : Nat → Prop} {x : S82} {cs : List Value} (h : k82.M w base ok x cs) : cs = [.string x.f0, .int .i64 x.f1, .int .i64 x.f2, .int .i64 x.f3, .bool x.f4] := by
  obtain ⟨_, _, rfl, rfl, ⟨_, _, rfl, rfl, ⟨_, _, rfl, rfl, ⟨_, _, rfl, rfl, rfl⟩⟩⟩⟩ := h
  exact rfl
theorem k82_mkM (w : World) (base : Nat) (ok : Nat → Prop) (x : S82)  : k82.M w base ok x [.string x.f0, .int .i64 x.f1, .int .i64 x.f2, .int .i64 x.f3, .bool x.f4] := ⟨[.string x.f0], [.int .i64 x.f1, .int .i64 x.f2, .int .i64 x.f3, .bool x.f4], rfl, rfl, ⟨[.int .i64 x.f1], [.int .i64 x.f2, .int .i64 x.f3, .bool x.f4], rfl, rfl, ⟨[.int .i64 x.f2], [.int .i64 x.f3, .bool x.f4], rfl, rfl, ⟨[.int .i64 x.f3], [.bool x.f4], rfl, rfl, rfl⟩⟩⟩⟩
def Xa (xs : List S82) (i : Int) : S82 := xs.getD i.toNat z82
theorem at_T82 {w : World} {A : Option Addr} {n : Nat} {xs : List S82} (h : Kd.C k82 w A n xs) (i : Int) (h0 : 0 ≤ i) (h1 : i < n) : ∃ ad , A = some ad ∧ w.cell? (ad.add (i.toNat * 5)) = some (.string (Xa xs i).f0) ∧ w.cell? ⟨(ad.add (i.toNat * 5)).block, (ad.add (i.toNat * 5)).off + 1, none⟩ = some (.int .i64 (Xa xs i).f1) ∧ w.cell? ⟨(ad.add (i.toNat * 5)).block, (ad.add (i.toNat * 5)).off + 2, none⟩ = some (.int .i64 (Xa xs i).f2) ∧ w.cell? ⟨(ad.add (i.toNat * 5)).block, (ad.add (i.toNat * 5)).off + 3, none⟩ = some (.int .i64 (Xa xs i).f3) ∧ w.cell? ⟨(ad.add (i.toNat * 5)).block, (ad.add (i.toNat * 5)).off + 4, none⟩ = some (.bool (Xa xs i).f4) := by
  obtain ⟨ad, c, e, _, hK, hc0⟩ := Kd.C_get h z82 i h0 h1
  have hc : ∀ j u, c[j]? = some u → w.cell? (ad.add (i.toNat * 5 + j)) = some u := hc0
  obtain rfl := k82_open hK
  exact ⟨ad, e, hc 0 _ rfl, by rw [← add_field _ _ 1 (by omega)]; exact hc 1 _ rfl, by rw [← add_field _ _ 2 (by omega)]; exact hc 2 _ rfl, by rw [← add_field _ _ 3 (by omega)]; exact hc 3 _ rfl, by rw [← add_field _ _ 4 (by omega)]; exact hc 4 _ rfl⟩
structure Ky where
  f0 : Int
  f1 : Int
  f2 : (List Int)
def z80 : Ky := ⟨(0 : Int), (0 : Int), ([] : List Int)⟩
def k80 : Kd Ky := Kd.iso (Kd.pair (Kd.int .i64) (Kd.pair (Kd.int .u64) (Kd.slice 3 (Kd.int .i64)))) (fun x : Ky => (x.f0, x.f1, x.f2))
theorem k80_open {w : World} {x : Ky} {cs : List Value} (h : k80.K w x cs) : ∃ A2 c2, cs = [.int .i64 x.f0, .int .u64 x.f1, .slice A2 x.f2.length c2] ∧ x.f2.length ≤ c2 ∧ (Kd.int .i64).C w A2 x.f2.length x.f2 := by
  obtain ⟨_, _, rfl, rfl, ⟨_, _, rfl, rfl, ⟨A2, c2, rfl, l2, g2⟩⟩⟩ := h
  exact ⟨A2, c2, rfl, l2, g2⟩
theorem k80_openM {w : World} {base : Nat} {ok : Nat → Prop} {x : Ky} {cs : List Value} (h : k80.M w base ok x cs) : ∃ v2, cs = [.int .i64 x.f0, .int .u64 x.f1, v2] ∧ (Kd.int .i64).R 3 w base ok v2 x.f2 := by
  obtain ⟨_, _, rfl, rfl, ⟨_, _, rfl, rfl, ⟨v2, rfl, g2⟩⟩⟩ := h
  exact ⟨v2, rfl, g2⟩
theorem k80_mk (w : World) (x : Ky) {A2 : Option Addr} {c2 : Nat} (l2 : x.f2.length ≤ c2) (g2 : (Kd.int .i64).C w A2 x.f2.length x.f2) : k80.K w x [.int .i64 x.f0, .int .u64 x.f1, .slice A2 x.f2.length c2] := ⟨[.int .i64 x.f0], [.int .u64 x.f1, .slice A2 x.f2.length c2], rfl, rfl, ⟨[.int .u64 x.f1], [.slice A2 x.f2.length c2], rfl, rfl, ⟨A2, c2, rfl, l2, g2⟩⟩⟩
theorem k80_mkM (w : World) (base : Nat) (ok : Nat → Prop) (x : Ky) {v2 : Value} (g2 : (Kd.int .i64).R 3 w base ok v2 x.f2) : k80.M w base ok x [.int .i64 x.f0, .int .u64 x.f1, v2] := ⟨[.int .i64 x.f0], [.int .u64 x.f1, v2], rfl, rfl, ⟨[.int .u64 x.f1], [v2], rfl, rfl, ⟨v2, rfl, g2⟩⟩⟩
theorem k80_openF {W : World} {ok : Nat → Prop} {x : Ky} {cs : List Value} (h : Kd.FK k80 W ok x cs) : ∃ A2 c2, cs = [.int .i64 x.f0, .int .u64 x.f1, .slice A2 x.f2.length c2] ∧ x.f2.length ≤ c2 ∧ Kd.F (Kd.int .i64) W ok A2 x.f2.length x.f2 := by
  obtain ⟨A2, c2, rfl, l2, _⟩ := k80_open (Kd.FK_now h)
  exact ⟨A2, c2, rfl, l2, (fun W' hW => by obtain ⟨A2_, c2_, he, l2_, g2_⟩ := k80_open (h W' hW); injection (Option.some.inj (show some (Value.slice A2 x.f2.length c2) = some (Value.slice A2_ x.f2.length c2_) from congrArg (fun l => l[2]?) he)) with ha_ _ _; rw [ha_]; exact g2_)⟩
theorem k80_mkF (W : World) (ok : Nat → Prop) (x : Ky) {A2 : Option Addr} {c2 : Nat} (l2 : x.f2.length ≤ c2) (g2 : Kd.F (Kd.int .i64) W ok A2 x.f2.length x.f2) : Kd.FK k80 W ok x [.int .i64 x.f0, .int .u64 x.f1, .slice A2 x.f2.length c2] := fun W2 hW => k80_mk W2 x l2 (g2 W2 hW)
def Xe (xs : List Ky) (i : Int) : Ky := xs.getD i.toNat z80
theorem at_T80 {w : World} {A : Option Addr} {n : Nat} {xs : List Ky} (h : Kd.C k80 w A n xs) (i : Int) (h0 : 0 ≤ i) (h1 : i < n) : ∃ ad A2 c2, A = some ad ∧ w.cell? (ad.add (i.toNat * 3)) = some (.int .i64 (Xe xs i).f0) ∧ w.cell? ⟨(ad.add (i.toNat * 3)).block, (ad.add (i.toNat * 3)).off + 1, none⟩ = some (.int .u64 (Xe xs i).f1) ∧ w.cell? ⟨(ad.add (i.toNat * 3)).block, (ad.add (i.toNat * 3)).off + 2, none⟩ = some (.slice A2 (Xe xs i).f2.length c2) ∧ (Xe xs i).f2.length ≤ c2 ∧ (Kd.int .i64).C w A2 (Xe xs i).f2.length (Xe xs i).f2 := by
  obtain ⟨ad, c, e, _, hK, hc0⟩ := Kd.C_get h z80 i h0 h1
  have hc : ∀ j u, c[j]? = some u → w.cell? (ad.add (i.toNat * 3 + j)) = some u := hc0
  obtain ⟨A2, c2, rfl, l2, g2⟩ := k80_open hK
  exact ⟨ad, A2, c2, e, hc 0 _ rfl, by rw [← add_field _ _ 1 (by omega)]; exact hc 1 _ rfl, by rw [← add_field _ _ 2 (by omega)]; exact hc 2 _ rfl, l2, g2⟩
structure S77 where
  f0 : Int
  f1 : Int
  f2 : Int
def k77 : Kd S77 := Kd.iso (Kd.pair (Kd.int .i64) (Kd.pair (Kd.int .i64) (Kd.int .i64))) (fun x : S77 => (x.f0, x.f1, x.f2))
theorem k77_open {w : World} {x : S77} {cs : List Value} (h : k77.K w x cs) : cs = [.int .i64 x.f0, .int .i64 x.f1, .int .i64 x.f2] := by
  obtain ⟨_, _, rfl, rfl, ⟨_, _, rfl, rfl, rfl⟩⟩ := h
  exact rfl
theorem k77_mkM (w : World) (base : Nat) (ok : Nat → Prop) (x : S77)  : k77.M w base ok x [.int .i64 x.f0, .int .i64 x.f1, .int .i64 x.f2] := ⟨[.int .i64 x.f0], [.int .i64 x.f1, .int .i64 x.f2], rfl, rfl, ⟨[.int .i64 x.f1], [.int .i64 x.f2], rfl, rfl, rfl⟩⟩
def Kr (xs : List (List S77)) (i : Int) : (List S77) := xs.getD i.toNat ([] : List S77)
theorem at_L12 {w : World} {A : Option Addr} {n : Nat} {xs : List (List S77)} (h : Kd.C (Kd.slice 77 k77) w A n xs) (i : Int) (h0 : 0 ≤ i) (h1 : i < n) : ∃ ad A0 c0, A = some ad ∧ w.cell? (ad.add i.toNat) = some (.slice A0 (Kr xs i).length c0) ∧ (Kr xs i).length ≤ c0 ∧ k77.C w A0 (Kr xs i).length (Kr xs i) := by
  obtain ⟨ad, c, e, _, hK, hc0⟩ := Kd.C_get h ([] : List S77) i h0 h1
  have hc : ∀ j u, c[j]? = some u → w.cell? (ad.add (i.toNat * 1 + j)) = some u := hc0
  obtain ⟨A0, c0, rfl, l0, g0⟩ := hK
  exact ⟨ad, A0, c0, e, by have hq := hc 0 _ rfl; rwa [Nat.mul_one, Nat.add_zero] at hq, l0, g0⟩
structure S29 where
  f0 : Int
  f1 : Int
  f2 : Bool
def z29 : S29 := ⟨(0 : Int), (0 : Int), false⟩
def k29 : Kd S29 := Kd.iso (Kd.pair (Kd.int .i64) (Kd.pair (Kd.int .i64) Kd.bool)) (fun x : S29 => (x.f0, x.f1, x.f2))
theorem k29_open {w : World} {x : S29} {cs : List Value} (h : k29.K w x cs) : cs = [.int .i64 x.f0, .int .i64 x.f1, .bool x.f2] := by
  obtain ⟨_, _, rfl, rfl, ⟨_, _, rfl, rfl, rfl⟩⟩ := h
  exact rfl
theorem k29_mkM (w : World) (base : Nat) (ok : Nat → Prop) (x : S29)  : k29.M w base ok x [.int .i64 x.f0, .int .i64 x.f1, .bool x.f2] := ⟨[.int .i64 x.f0], [.int .i64 x.f1, .bool x.f2], rfl, rfl, ⟨[.int .i64 x.f1], [.bool x.f2], rfl, rfl, rfl⟩⟩
def Zr (xs : List S29) (i : Int) : S29 := xs.getD i.toNat z29
theorem at_T29 {w : World} {A : Option Addr} {n : Nat} {xs : List S29} (h : Kd.C k29 w A n xs) (i : Int) (h0 : 0 ≤ i) (h1 : i < n) : ∃ ad , A = some ad ∧ w.cell? (ad.add (i.toNat * 3)) = some (.int .i64 (Zr xs i).f0) ∧ w.cell? ⟨(ad.add (i.toNat * 3)).block, (ad.add (i.toNat * 3)).off + 1, none⟩ = some (.int .i64 (Zr xs i).f1) ∧ w.cell? ⟨(ad.add (i.toNat * 3)).block, (ad.add (i.toNat * 3)).off + 2, none⟩ = some (.bool (Zr xs i).f2) := by
  obtain ⟨ad, c, e, _, hK, hc0⟩ := Kd.C_get h z29 i h0 h1
  have hc : ∀ j u, c[j]? = some u → w.cell? (ad.add (i.toNat * 3 + j)) = some u := hc0
  obtain rfl := k29_open hK
  exact ⟨ad, e, hc 0 _ rfl, by rw [← add_field _ _ 1 (by omega)]; exact hc 1 _ rfl, by rw [← add_field _ _ 2 (by omega)]; exact hc 2 _ rfl⟩
structure S55 where
  f0 : (List Bool)
  f1 : (List Bool)
def z55 : S55 := ⟨([] : List Bool), ([] : List Bool)⟩
def k55 : Kd S55 := Kd.iso (Kd.pair (Kd.slice 4 Kd.bool) (Kd.slice 4 Kd.bool)) (fun x : S55 => (x.f0, x.f1))
theorem k55_open {w : World} {x : S55} {cs : List Value} (h : k55.K w x cs) : ∃ A0 c0 A1 c1, cs = [.slice A0 x.f0.length c0, .slice A1 x.f1.length c1] ∧ x.f0.length ≤ c0 ∧ Kd.bool.C w A0 x.f0.length x.f0 ∧ x.f1.length ≤ c1 ∧ Kd.bool.C w A1 x.f1.length x.f1 := by
  obtain ⟨_, _, rfl, ⟨A0, c0, rfl, l0, g0⟩, ⟨A1, c1, rfl, l1, g1⟩⟩ := h
  exact ⟨A0, c0, A1, c1, rfl, l0, g0, l1, g1⟩
def Zx (xs : List S55) (i : Int) : S55 := xs.getD i.toNat z55
theorem at_T55 {w : World} {A : Option Addr} {n : Nat} {xs : List S55} (h : Kd.C k55 w A n xs) (i : Int) (h0 : 0 ≤ i) (h1 : i < n) : ∃ ad A0 c0 A1 c1, A = some ad ∧ w.cell? (ad.add (i.toNat * 2)) = some (.slice A0 (Zx xs i).f0.length c0) ∧ w.cell? ⟨(ad.add (i.toNat * 2)).block, (ad.add (i.toNat * 2)).off + 1, none⟩ = some (.slice A1 (Zx xs i).f1.length c1) ∧ (Zx xs i).f0.length ≤ c0 ∧ Kd.bool.C w A0 (Zx xs i).f0.length (Zx xs i).f0 ∧ (Zx xs i).f1.length ≤ c1 ∧ Kd.bool.C w A1 (Zx xs i).f1.length (Zx xs i).f1 := by
  obtain ⟨ad, c, e, _, hK, hc0⟩ := Kd.C_get h z55 i h0 h1
  have hc : ∀ j u, c[j]? = some u → w.cell? (ad.add (i.toNat * 2 + j)) = some u := hc0
  obtain ⟨A0, c0, A1, c1, rfl, l0, g0, l1, g1⟩ := k55_open hK
  exact ⟨ad, A0, c0, A1, c1, e, hc 0 _ rfl, by rw [← add_field _ _ 1 (by omega)]; exact hc 1 _ rfl, l0, g0, l1, g1⟩
structure S60 where
  f0 : (List Bool)
  f1 : (List Bool)
def z60 : S60 := ⟨([] : List Bool), ([] : List Bool)⟩
def k60 : Kd S60 := Kd.iso (Kd.pair (Kd.slice 4 Kd.bool) (Kd.slice 4 Kd.bool)) (fun x : S60 => (x.f0, x.f1))
theorem k60_open {w : World} {x : S60} {cs : List Value} (h : k60.K w x cs) : ∃ A0 c0 A1 c1, cs = [.slice A0 x.f0.length c0, .slice A1 x.f1.length c1] ∧ x.f0.length ≤ c0 ∧ Kd.bool.C w A0 x.f0.length x.f0 ∧ x.f1.length ≤ c1 ∧ Kd.bool.C w A1 x.f1.length x.f1 := by
  obtain ⟨_, _, rfl, ⟨A0, c0, rfl, l0, g0⟩, ⟨A1, c1, rfl, l1, g1⟩⟩ := h
  exact ⟨A0, c0, A1, c1, rfl, l0, g0, l1, g1⟩
def rd_T60 (xs : List S60) (i : Int) : S60 := xs.getD i.toNat z60
theorem at_T60 {w : World} {A : Option Addr} {n : Nat} {xs : List S60} (h : Kd.C k60 w A n xs) (i : Int) (h0 : 0 ≤ i) (h1 : i < n) : ∃ ad A0 c0 A1 c1, A = some ad ∧ w.cell? (ad.add (i.toNat * 2)) = some (.slice A0 (rd_T60 xs i).f0.length c0) ∧ w.cell? ⟨(ad.add (i.toNat * 2)).block, (ad.add (i.toNat * 2)).off + 1, none⟩ = some (.slice A1 (rd_T60 xs i).f1.length c1) ∧ (rd_T60 xs i).f0.length ≤ c0 ∧ Kd.bool.C w A0 (rd_T60 xs i).f0.length (rd_T60 xs i).f0 ∧ (rd_T60 xs i).f1.length ≤ c1 ∧ Kd.bool.C w A1 (rd_T60 xs i).f1.length (rd_T60 xs i).f1 := by
  obtain ⟨ad, c, e, _, hK, hc0⟩ := Kd.C_get h z60 i h0 h1
  have hc : ∀ j u, c[j]? = some u → w.cell? (ad.add (i.toNat * 2 + j)) = some u := hc0
  obtain ⟨A0, c0, A1, c1, rfl, l0, g0, l1, g1⟩ := k60_open hK
  exact ⟨ad, A0, c0, A1, c1, e, hc 0 _ rfl, by rw [← add_field _ _ 1 (by omega)]; exact hc 1 _ rfl, l0, g0, l1, g1⟩
end Go.Proofs.Ytimjccfpobhpeaa.PF
namespace Go.Proofs.Ytimjccfpobhpeaa
open Go.RowKit
def InK (k : IntKind) (x : Int) : Prop := k.min ≤ x ∧ x ≤ k.max
theorem InK.mk64 {x : Int} (h : -9223372036854775808 ≤ x ∧ x ≤ 9223372036854775807) : InK .i64 x := h
structure Rep (α : Type) where
  sz : Nat
  rel : World → (Nat → Prop) → α → List Value → Prop
  len : ∀ {w F x cs}, rel w F x cs → cs.length = sz
  one : ∀ {w F x cs}, rel w F x cs → ∀ u ∈ cs, u.oneCell' = true
  step : ∀ {w w1 : World} {F G : Nat → Prop} {x cs}, (∀ k, F k → k < w.heap.size → G k ∧ w1.heap[k]? = w.heap[k]?) → rel w F x cs → rel w1 G x cs
def CellsAt (w : World) (b o : Nat) (cs : List Value) : Prop := ∀ j u, cs[j]? = some u → w.cell? ⟨b, o + j, none⟩ = some u
theorem CellsAt.step {w w1 : World} {b o : Nat} {cs : List Value} (h : CellsAt w b o cs) (hb : w1.heap[b]? = w.heap[b]?) : CellsAt w1 b o cs := fun j u hu =>
  (World.cell?_of_block (a := ⟨b, o + j, none⟩) hb).trans (h j u hu)
namespace Rep
section
variable {α β : Type}
theorem mono (d : Rep α) {w : World} {F G : Nat → Prop} {x cs} (hFG : ∀ k, F k → k < w.heap.size → G k) (h : d.rel w F x cs) : d.rel w G x cs :=
  d.step (fun k hk hl => ⟨hFG k hk hl, rfl⟩) h
def cell (enc : α → Value) (ok : α → Prop) (h1 : ∀ x, (enc x).oneCell' = true) : Rep α where
  sz := 1
  rel := fun _ _ x cs => cs = [enc x] ∧ ok x
  len := fun h => by rw [h.1]; rfl
  one := fun h u hu => by rw [h.1] at hu; rw [List.mem_singleton.1 hu]; exact h1 _
  step := fun _ h => h
def int (k : IntKind) : Rep Int := cell (Value.int k) (InK k) (fun _ => rfl)
def bool : Rep Bool := cell Value.bool (fun _ => True) (fun _ => rfl)
def str : Rep ByteArray := cell Value.string (fun s => s.size ≤ 9223372036854775807) (fun _ => rfl)
def Row (d : Rep α) (w : World) (F : Nat → Prop) (A : Option Addr) (xs : List α) : Prop :=
  ∀ i x, xs[i]? = some x → ∃ b o cs, A = some ⟨b, o, none⟩ ∧ F b ∧ b < w.heap.size ∧ d.rel w F x cs ∧ CellsAt w b (o + i * d.sz) cs
theorem Row.step {d : Rep α} {w w1 : World} {F G : Nat → Prop} {A : Option Addr} {xs : List α} (hm : ∀ k, F k → k < w.heap.size → G k ∧ w1.heap[k]? = w.heap[k]?) (h : Row d w F A xs) : Row d w1 G A xs := by
  intro i x hx
  obtain ⟨b, o, cs, hA, hF, hl, hr, hc⟩ := h i x hx
  have hb := hm b hF hl
  refine ⟨b, o, cs, hA, hb.1, ?_, d.step hm hr, hc.step hb.2⟩
  have := hb.2
  rw [Array.getElem?_eq_getElem hl] at this
  exact (Array.getElem?_eq_some_iff.1 this).1
theorem Row.nil (d : Rep α) (w : World) (F : Nat → Prop) (A : Option Addr) : Row d w F A [] := fun i x h => by simp at h
theorem Row.head {d : Rep α} {w : World} {F : Nat → Prop} {A : Option Addr} {xs : List α} (h : Row d w F A xs) (hx : 0 < xs.length) : ∃ b o, A = some ⟨b, o, none⟩ ∧ F b ∧ b < w.heap.size := by
  obtain ⟨b, o, _, hA, hF, hl, _⟩ := h 0 xs[0] (List.getElem?_eq_getElem hx)
  exact ⟨b, o, hA, hF, hl⟩
structure Sl (d : Rep α) (w : World) (F : Nat → Prop) (A : Option Addr) (cap : Nat) (xs : List α) : Prop where
  le : xs.length ≤ cap
  cap_le : cap ≤ 9223372036854775807
  nil : A = none → cap = 0
  row : Row d w F A xs
theorem Sl.step {d : Rep α} {w w1 : World} {F G : Nat → Prop} {A : Option Addr} {cap : Nat} {xs : List α} (hm : ∀ k, F k → k < w.heap.size → G k ∧ w1.heap[k]? = w.heap[k]?) (h : Sl d w F A cap xs) : Sl d w1 G A cap xs :=
  ⟨h.le, h.cap_le, h.nil, Row.step hm h.row⟩
theorem Sl.len {d : Rep α} {w : World} {F : Nat → Prop} {A : Option Addr} {cap : Nat} {xs : List α} (h : Sl d w F A cap xs) : (xs.length : Int) ≤ 9223372036854775807 := by
  have := h.le; have := h.cap_le; omega
theorem Sl.empty (d : Rep α) (w : World) (F : Nat → Prop) : Sl d w F none 0 [] := ⟨Nat.le_refl _, by omega, fun _ => rfl, Row.nil d w F none⟩
def slice (d : Rep α) : Rep (List α) where
  sz := 1
  rel := fun w F xs cs => ∃ A cap, cs = [.slice A xs.length cap] ∧ Sl d w F A cap xs
  len := by rintro w F x cs ⟨A, cap, rfl, _⟩; rfl
  one := by rintro w F x cs ⟨A, cap, rfl, _⟩ u hu; rw [List.mem_singleton.1 hu]; rfl
  step := by
    rintro w w1 F G x cs hm ⟨A, cap, rfl, h⟩
    exact ⟨A, cap, rfl, h.step hm⟩
def pair (a : Rep α) (b : Rep β) : Rep (α × β) where
  sz := a.sz + b.sz
  rel := fun w F x cs => ∃ c0 c1, cs = c0 ++ c1 ∧ a.rel w F x.1 c0 ∧ b.rel w F x.2 c1
  len := by rintro w F x cs ⟨c0, c1, rfl, h0, h1⟩; rw [List.length_append, a.len h0, b.len h1]
  one := by
    rintro w F x cs ⟨c0, c1, rfl, h0, h1⟩ u hu
    rcases List.mem_append.1 hu with hu | hu
    · exact a.one h0 u hu
    · exact b.one h1 u hu
  step := by
    rintro w w1 F G x cs hm ⟨c0, c1, rfl, h0, h1⟩
    exact ⟨c0, c1, rfl, a.step hm h0, b.step hm h1⟩
def iso (d : Rep α) (f : β → α) : Rep β where
  sz := d.sz
  rel := fun w F x cs => d.rel w F (f x) cs
  len := d.len
  one := d.one
  step := d.step
def All (d : Rep α) (w : World) (F : Nat → Prop) (xs : List α) (cs : List Value) : Prop :=
  cs.length = xs.length * d.sz ∧ ∀ i x, xs[i]? = some x → d.rel w F x ((cs.drop (i * d.sz)).take d.sz)
theorem All.step {d : Rep α} {w w1 : World} {F G : Nat → Prop} {xs : List α} {cs : List Value} (hm : ∀ k, F k → k < w.heap.size → G k ∧ w1.heap[k]? = w.heap[k]?) (h : All d w F xs cs) : All d w1 G xs cs :=
  ⟨h.1, fun i x hx => d.step hm (h.2 i x hx)⟩
theorem All.nil (d : Rep α) (w : World) (F : Nat → Prop) : All d w F [] [] := ⟨by simp, fun i x h => by simp at h⟩
def Own (d : Rep α) (e : TypeId) (w : World) (base : Nat) (F : Nat → Prop) (v : Value) (xs : List α) : Prop :=
  ∃ cs, w.ownsRow base e d.sz v xs.length cs ∧ All d w F xs cs ∧ ∀ k, v.ownBlock = some k → ¬ F k
theorem Own.nil (d : Rep α) (e : TypeId) (w : World) (base : Nat) (F : Nat → Prop) : Own d e w base F (.slice none 0 0) [] :=
  ⟨[], World.ownsRow_nil w base e d.sz, All.nil d w F, fun k h => by simp [Value.ownBlock] at h⟩
theorem ownsRow_step {w w1 : World} {base : Nat} {e : TypeId} {size n : Nat} {v : Value} {xs : List Value} (h : w.ownsRow base e size v n xs) (hm : ∀ k, v.ownBlock = some k → w1.heap[k]? = w.heap[k]?) : w1.ownsRow base e size v n xs := by
  obtain ⟨h1, h2⟩ := h
  refine ⟨h1, ?_⟩
  rcases h2 with h2 | ⟨g, cap, cur, rfl, hg, hh, r⟩
  · exact .inl h2
  · exact .inr ⟨g, cap, cur, rfl, hg, (hm g (by simp [Value.ownBlock])).trans hh, r⟩
theorem Own.step {d : Rep α} {e : TypeId} {w w1 : World} {base : Nat} {F : Nat → Prop} {v : Value} {xs : List α} (h : Own d e w base F v xs)
    (hm : ∀ k, F k ∨ v.ownBlock = some k → k < w.heap.size → w1.heap[k]? = w.heap[k]?) : Own d e w1 base F v xs := by
  obtain ⟨cs, h1, h2, h3⟩ := h
  refine ⟨cs, ownsRow_step h1 (fun k hk => hm k (.inr hk) (h1.lt k hk).2), h2.step (fun k hk hl => ⟨hk, hm k (.inl hk) hl⟩), h3⟩
theorem Own.below {d : Rep α} {e : TypeId} {w w1 : World} {base : Nat} {F : Nat → Prop} {v : Value} {xs : List α} (h : Own d e w base F v xs) (hb : Below w.heap.size w w1) : Own d e w1 base F v xs :=
  h.step fun k _ hl => hb.block k hl
theorem Own.lt {d : Rep α} {e : TypeId} {w : World} {base : Nat} {F : Nat → Prop} {v : Value} {xs : List α} (h : Own d e w base F v xs) : ∀ k, v.ownBlock = some k → base ≤ k ∧ k < w.heap.size :=
  fun k hk => by obtain ⟨cs, h1, _⟩ := h; exact h1.lt k hk
theorem Own.val {d : Rep α} {e : TypeId} {w : World} {base : Nat} {F : Nat → Prop} {v : Value} {xs : List α} (h : Own d e w base F v xs) : ∃ A cap, v = .slice A xs.length cap := by
  obtain ⟨cs, ⟨h1, h2⟩, _⟩ := h
  rcases h2 with ⟨rfl, h0⟩ | ⟨g, cap, cur, rfl, _⟩
  · exact ⟨none, 0, by rw [h0]⟩
  · exact ⟨_, cap, rfl⟩
theorem Own.rel {d : Rep α} {e : TypeId} {w : World} {base : Nat} {F G : Nat → Prop} {v : Value} {xs : List α} (h : Own d e w base F v xs) (hG : ∀ k, F k ∨ v.ownBlock = some k → G k) : (slice d).rel w G xs [v] := by
  obtain ⟨cs, ⟨h1, h2⟩, hA, h3⟩ := h
  rcases h2 with ⟨rfl, h0⟩ | ⟨g, cap, cur, rfl, hb, hg, hn, hc, hs, ht⟩
  · obtain rfl : xs = [] := List.eq_nil_of_length_eq_zero h0
    exact ⟨none, 0, rfl, Sl.empty d w G⟩
  · refine ⟨_, cap, rfl, hn, by simpa [maxLen] using hc, by simp, ?_⟩
    intro i x hx
    have hl : i < xs.length := (List.getElem?_eq_some_iff.1 hx).1
    refine ⟨g, 0, _, rfl, hG g (.inr (by simp [Value.ownBlock])), (Array.getElem?_eq_some_iff.1 hg).1, d.mono (fun k hk _ => hG k (.inl hk)) (hA.2 i x hx), ?_⟩
    intro j u hu
    rw [List.getElem?_take] at hu
    split at hu
    · rw [List.getElem?_drop, ← ht, List.getElem?_take] at hu
      split at hu
      · rw [cell_of_row w g _ cur e (0, 0) hg]
        simpa using hu
      · simp at hu
    · simp at hu
end
end Rep
end Go.Proofs.Ytimjccfpobhpeaa
namespace Go.Proofs.Ytimjccfpobhpeaa
open Go.RowKit
structure Under (w : World) where
  val : World
  ok : Below w.heap.size w val
namespace Under
variable {w : World}
@[go_sem] theorem cell (x : Under w) (b o : Nat) (h : b < w.heap.size) : x.val.cell? ⟨b, o, none⟩ = w.cell? ⟨b, o, none⟩ := x.ok.cell (p := ⟨b, o, none⟩) h
@[go_sem] theorem frozen (x : Under w) (b o : Nat) (h : b < w.heap.size) : x.val.frozen? ⟨b, o, none⟩ = w.frozen? ⟨b, o, none⟩ := x.ok.frozen (p := ⟨b, o, none⟩) h
@[go_sem] theorem lt (x : Under w) (b : Nat) (h : b < w.heap.size) : b < x.val.heap.size := Nat.lt_of_lt_of_le h x.ok.size
theorem size (x : Under w) : w.heap.size ≤ x.val.heap.size := x.ok.size
def refl (w : World) : Under w := ⟨w, Below.refl _ _⟩
def alloc (x : Under w) (o : Obj) : Under w := ⟨x.val.alloc o, x.ok.alloc x.ok.size o⟩
def drew (x : Under w) : Under w := ⟨x.val.drew, x.ok.drew⟩
def trans (x : Under w) (y : Under x.val) : Under w := ⟨y.val, x.ok.trans (y.ok.mono x.ok.size)⟩
instance (w : World) : Nonempty (Under w) := ⟨Under.refl w⟩
end Under
@[go_sem] theorem le_heap_of {w : World} {b : Nat} (h : b < w.heap.size) : b ≤ w.heap.size := Nat.le_of_lt h
@[go_sem] theorem lt_heap_succ {w : World} {b : Nat} (h : b < w.heap.size) : b < w.heap.size + 1 := Nat.lt_succ_of_lt h
@[go_sem] theorem lt_heap_succ2 {w : World} {b : Nat} (h : b < w.heap.size) : b < w.heap.size + 1 + 1 := by omega
def Is (w w1 : World) : Prop := ∃ x : Under w, w1 = x.val
theorem Is.of {w w1 : World} (h : Below w.heap.size w w1) : Is w w1 := ⟨⟨w1, h⟩, rfl⟩
theorem Is.below {w w1 : World} (h : Is w w1) : Below w.heap.size w w1 := by obtain ⟨x, rfl⟩ := h; exact x.ok
theorem Is.refl (w : World) : Is w w := ⟨Under.refl w, rfl⟩
theorem Is.val {w : World} (x : Under w) : Is w x.val := ⟨x, rfl⟩
theorem Is.alloc {w w1 : World} (h : Is w w1) (o : Obj) : Is w (w1.alloc o) := by obtain ⟨x, rfl⟩ := h; exact ⟨x.alloc o, rfl⟩
theorem Is.drew {w w1 : World} (h : Is w w1) : Is w w1.drew := by obtain ⟨x, rfl⟩ := h; exact ⟨x.drew, rfl⟩
theorem Is.trans {w w1 w2 : World} (h : Is w w1) (k : Is w1 w2) : Is w w2 := by obtain ⟨x, rfl⟩ := h; obtain ⟨y, rfl⟩ := k; exact ⟨x.trans y, rfl⟩
theorem Is.step {w w1 : World} (h : Is w w1) (y : Under w1) : Is w y.val := h.trans (Is.val y)
theorem wp_region_under {P : Program} {id : Nat} {Q : Exit → Act → World → Prop} {a : Act} {w : World} {l : List Oper} (hm : P.follows .mixedOrders = true) (hB : Region.lexB .any l.toArray = true)
    (h : wpQuiet P l.toArray (fun w' => ∃ x : Under w, w' = x.val) (fun a' => ∀ w', (∃ x : Under w, w' = x.val) → Q .normal a' w') l a) : (Code.region id l.toArray true).wp P Q a w :=
  wp_region_quiet (C := fun w' => ∃ x : Under w, w' = x.val) hm hB ⟨⟨_, (Below.refl _ _).drew⟩, rfl⟩ (by simpa using h)
theorem ret_int {k : IntKind} {a b : Int} (h : a = b) : Ending.returned (.int k a) = .returned (.int k b) := by rw [h]
theorem ret_bool {a b : Bool} (h : a = b) : Ending.returned (.bool a) = .returned (.bool b) := by rw [h]
end Go.Proofs.Ytimjccfpobhpeaa
namespace Go.Proofs.Ytimjccfpobhpeaa
open Go.RowKit Go.Proofs.YtimjccfpobhpeaaW.PrintWords
theorem kd_plain {α : Type} {d : Kd α} {w : World} {A : Option Addr} {n : Nat} {xs : List α} (h : Kd.C d w A n xs) (hz : 0 < d.sz) (hn : 0 < n) : ∃ b o, A = some ⟨b, o, none⟩ ∧ b < w.heap.size := by
  obtain ⟨hl, _, hc⟩ := h
  obtain ⟨ad, rfl, hc2⟩ := hc hn
  obtain ⟨c, hcl, _, hcell⟩ := hc2 0 xs[0] (List.getElem?_eq_getElem (by omega))
  have h0 := hcell 0 c[0] (List.getElem?_eq_getElem (by omega))
  obtain ⟨b, o, spot⟩ := ad
  have h9 := World.cell?_spot h0
  have hspot : spot = none := by simpa [Addr.add] using h9
  subst hspot
  exact ⟨b, o, rfl, by have := block_lt_of_cell h0; rwa [Addr.add_lit] at this⟩
theorem kd_at {α : Type} {d : Kd α} {w : World} {A : Option Addr} {n : Nat} {xs : List α} (h : Kd.C d w A n xs) (hz : 0 < d.sz) {i : Nat} {x : α} (hx : xs[i]? = some x) :
    ∃ b o cs, A = some ⟨b, o, none⟩ ∧ b < w.heap.size ∧ cs.length = d.sz ∧ d.K w x cs ∧ ∀ j u, cs[j]? = some u → w.cell? ⟨b, o + (i * d.sz + j), none⟩ = some u := by
  have hi : i < xs.length := (List.getElem?_eq_some_iff.1 hx).1
  obtain ⟨b, o, rfl, hb⟩ := kd_plain h hz (by have := h.1; omega)
  obtain ⟨hl, _, hc⟩ := h
  obtain ⟨ad, had, hc⟩ := hc (by omega)
  injection had with had
  subst had
  obtain ⟨c, hcl, hK, hcell⟩ := hc i x hx
  exact ⟨b, o, c, rfl, hb, hcl, hK, fun j u hu => by have := hcell j u hu; rwa [Addr.add_lit] at this⟩
theorem kd_len {α : Type} {d : Kd α} {w : World} {A : Option Addr} {n : Nat} {xs : List α} (h : Kd.C d w A n xs) : xs.length = n ∧ (xs.length : Int) ≤ 9223372036854775807 := by
  obtain ⟨hl, hm, _⟩ := h
  exact ⟨hl, by omega⟩
theorem kd_str {w : World} {A : Option Addr} {n : Nat} {xs : List ByteArray} (h : Kd.C Kd.string w A n xs) {i : Nat} {x : ByteArray} (hx : xs[i]? = some x) :
    ∃ b o, A = some ⟨b, o, none⟩ ∧ b < w.heap.size ∧ w.cell? ⟨b, o + i, none⟩ = some (.string x) := by
  obtain ⟨b, o, cs, rfl, hb, _, hK, hc⟩ := kd_at h (by exact Nat.one_pos) hx
  have hK : cs = [.string x] := hK
  subst hK
  refine ⟨b, o, rfl, hb, ?_⟩
  have := hc 0 _ rfl
  simpa [Kd.string, Kd.scalar] using this
theorem kd_int {k : IntKind} {w : World} {A : Option Addr} {n : Nat} {xs : List Int} (h : Kd.C (Kd.int k) w A n xs) {i : Nat} {x : Int} (hx : xs[i]? = some x) :
    ∃ b o, A = some ⟨b, o, none⟩ ∧ b < w.heap.size ∧ w.cell? ⟨b, o + i, none⟩ = some (.int k x) := by
  obtain ⟨b, o, cs, rfl, hb, _, hK, hc⟩ := kd_at h (by exact Nat.one_pos) hx
  have hK : cs = [.int k x] := hK
  subst hK
  refine ⟨b, o, rfl, hb, ?_⟩
  have := hc 0 _ rfl
  simpa [Kd.int, Kd.scalar] using this
theorem kd_bool {w : World} {A : Option Addr} {n : Nat} {xs : List Bool} (h : Kd.C Kd.bool w A n xs) {i : Nat} {x : Bool} (hx : xs[i]? = some x) :
    ∃ b o, A = some ⟨b, o, none⟩ ∧ b < w.heap.size ∧ w.cell? ⟨b, o + i, none⟩ = some (.bool x) := by
  obtain ⟨b, o, cs, rfl, hb, _, hK, hc⟩ := kd_at h (by exact Nat.one_pos) hx
  have hK : cs = [.bool x] := hK
  subst hK
  refine ⟨b, o, rfl, hb, ?_⟩
  have := hc 0 _ rfl
  simpa [Kd.bool, Kd.scalar] using this
end Go.Proofs.Ytimjccfpobhpeaa
namespace Go.Proofs.Ytimjccfpobhpeaa
open Go.RowKit Go.Proofs.YtimjccfpobhpeaaW.PrintWords Go.Proofs.Ytimjccfpobhpeaa.PF
set_option maxRecDepth 100000
theorem kd_fresh {α : Type} (d : Kd α) (e : Nat) (w : World) (base : Nat) (hb : base ≤ w.heap.size) : Kd.R d e (w.alloc (.cells #[] e)) base (fun _ => True) (.slice (some ⟨w.heap.size, 0, none⟩) 0 0) [] := by
  refine ⟨fun _ _ => trivial, [], ?_, Reps.none _ _⟩
  have h2 := World.ownsRow_lit (base := base) (e := e) (size := d.sz) w #[] 0 hb (by simp [maxLen]) (by simp)
  simpa using h2
theorem kd_nil {α : Type} {d : Kd α} {w : World} {n : Nat} {xs : List α} (h : Kd.C d w none n xs) : xs = [] := by
  obtain ⟨hl, _, hc⟩ := h
  rcases Nat.eq_zero_or_pos n with h0 | h0
  · exact List.eq_nil_of_length_eq_zero (by omega)
  · obtain ⟨ad, h, _⟩ := hc h0
    cases h
def kGateF (w0 : World) : Kd Ky := Kd.iso (Kd.pair (Kd.int .i64) (Kd.pair (Kd.int .u64) (Kd.fixed (Kd.slice 3 (Kd.int .i64)) w0))) (fun x : Ky => (x.f0, x.f1, x.f2))
theorem kGateF_mk {w0 w : World} {base : Nat} {x : Ky} {cs : List Value} (h : k80.K w0 x cs) : (kGateF w0).M w base (fun _ => False) x cs := by
  obtain ⟨A2, c2, rfl, l2, g2⟩ := k80_open h
  exact ⟨[_], [_, _], rfl, rfl, [_], [_], rfl, rfl, A2, c2, rfl, l2, g2⟩
theorem info_strs : (Try.prog.info? 9).map (fun i => (i.zero, i.size, i.bytes)) = some (some (.string ⟨#[]⟩), Kd.string.sz, 16) := by kernel_rfl
set_option maxHeartbeats 2000000 in
theorem clone_strs (A : Option Addr) (c : Nat) (ys : List ByteArray) (w : World) (h : Kd.C Kd.string w A ys.length ys) (hmax : ys.length * 16 ≤ 140737488355328) :
    Calls Try.prog 30 #[.slice A ys.length c] w fun e w' => ∃ v, e = .returned v ∧ Kd.R Kd.string 9 w' w.heap.size (fun _ => True) v ys ∧ Below w.heap.size w w' := by
  have hu := Try.underlying22
  rcases A with _ | ad
  · obtain rfl := kd_nil h
    go_enter Try.func30, Try.ntmps30
    have heq : ∀ W : World, (binOp .eql 22 (.slice none 0 c) (.slice none 0 0)).run Try.prog W = .ok (.bool true) W := fun W => Lib.run_eql_slice_nil_nil W 0 c hu
    go_wp2
    go_ret
    exact ⟨_, rfl, Kd.R_nil _ _ _ _ _, Below.refl _ _⟩
  · have heq : ∀ W : World, (binOp .eql 22 (.slice (some ad) ys.length c) (.slice none 0 0)).run Try.prog W = .ok (.bool false) W := fun W => Lib.run_eql_slice_nil W _ _ _ _ _ _ _ hu
    have hf := kd_fresh Kd.string 9 w w.heap.size (Nat.le_refl _)
    have hW : Below w.heap.size w (w.alloc (.cells #[] 9)) := (Below.refl _ _).alloc (Nat.le_refl _) _
    go_enter Try.func30, Try.ntmps30
    go_wp2_with (at_builtin; refine Kd.R_append_rows Kd.string (Rr := Kd.string.K w) (w0 := w) w.heap.size rfl (.tmp 5) (.tmp 6) 22 9 _ 16 rfl Try.underlying22 info_strs rfl (Nat.succ_pos _) (by decide) _ [] ys (some ad) ys.length c (fun _ => True) (fun _ => False) rfl rfl hf ?hR (fun _ _ hK => hK) (fun _ hk => hk.elim) (fun _ _ => trivial) hW (by simp) (by simpa using hmax) ?_; (case hR => exact { h.imp_ hW (fun _ _ hK => hK) with }); intro v1 w1 hR1 hB1 hg1 hat1)
    go_ret
    exact ⟨_, rfl, hR1, hB1⟩
theorem info_ints : (Try.prog.info? 3).map (fun i => (i.zero, i.size, i.bytes)) = some (some (.int .i64 0), (Kd.int .i64).sz, 8) := by kernel_rfl
set_option maxHeartbeats 2000000 in
theorem clone_ints (A : Option Addr) (c : Nat) (ys : List Int) (w : World) (h : Kd.C (Kd.int .i64) w A ys.length ys) (hmax : ys.length * 8 ≤ 140737488355328) :
    Calls Try.prog 56 #[.slice A ys.length c] w fun e w' => ∃ v, e = .returned v ∧ Kd.R (Kd.int .i64) 3 w' w.heap.size (fun _ => True) v ys ∧ Below w.heap.size w w' := by
  have hu := Try.underlying25
  rcases A with _ | ad
  · obtain rfl := kd_nil h
    go_enter Try.func56, Try.ntmps56
    have heq : ∀ W : World, (binOp .eql 25 (.slice none 0 c) (.slice none 0 0)).run Try.prog W = .ok (.bool true) W := fun W => Lib.run_eql_slice_nil_nil W 0 c hu
    go_wp2
    go_ret
    exact ⟨_, rfl, Kd.R_nil _ _ _ _ _, Below.refl _ _⟩
  · have heq : ∀ W : World, (binOp .eql 25 (.slice (some ad) ys.length c) (.slice none 0 0)).run Try.prog W = .ok (.bool false) W := fun W => Lib.run_eql_slice_nil W _ _ _ _ _ _ _ hu
    have hf := kd_fresh (Kd.int .i64) 3 w w.heap.size (Nat.le_refl _)
    have hW : Below w.heap.size w (w.alloc (.cells #[] 3)) := (Below.refl _ _).alloc (Nat.le_refl _) _
    go_enter Try.func56, Try.ntmps56
    go_wp2_with (at_builtin; refine Kd.R_append_rows (Kd.int .i64) (Rr := (Kd.int .i64).K w) (w0 := w) w.heap.size rfl (.tmp 5) (.tmp 6) 25 3 _ 8 rfl Try.underlying25 info_ints rfl (Nat.succ_pos _) (by decide) _ [] ys (some ad) ys.length c (fun _ => True) (fun _ => False) rfl rfl hf ?hR (fun _ _ hK => hK) (fun _ hk => hk.elim) (fun _ _ => trivial) hW (by simp) (by simpa using hmax) ?_; (case hR => exact { h.imp_ hW (fun _ _ hK => hK) with }); intro v1 w1 hR1 hB1 hg1 hat1)
    go_ret
    exact ⟨_, rfl, hR1, hB1⟩
theorem info_flops : (Try.prog.info? 82).map (fun i => (i.zero, i.size, i.bytes)) = some (some (.agg #[.string ⟨#[]⟩, .int .i64 0, .int .i64 0, .int .i64 0, .bool false]), k82.sz, 48) := by kernel_rfl
set_option maxHeartbeats 2000000 in
theorem clone_flops (A : Option Addr) (c : Nat) (ys : List S82) (w : World) (h : Kd.C k82 w A ys.length ys) (hmax : ys.length * 48 ≤ 140737488355328) :
    Calls Try.prog 54 #[.slice A ys.length c] w fun e w' => ∃ v, e = .returned v ∧ Kd.R k82 82 w' w.heap.size (fun _ => True) v ys ∧ Below w.heap.size w w' := by
  have hu := Try.underlying23
  rcases A with _ | ad
  · obtain rfl := kd_nil h
    go_enter Try.func54, Try.ntmps54
    have heq : ∀ W : World, (binOp .eql 23 (.slice none 0 c) (.slice none 0 0)).run Try.prog W = .ok (.bool true) W := fun W => Lib.run_eql_slice_nil_nil W 0 c hu
    go_wp2
    go_ret
    exact ⟨_, rfl, Kd.R_nil _ _ _ _ _, Below.refl _ _⟩
  · have heq : ∀ W : World, (binOp .eql 23 (.slice (some ad) ys.length c) (.slice none 0 0)).run Try.prog W = .ok (.bool false) W := fun W => Lib.run_eql_slice_nil W _ _ _ _ _ _ _ hu
    have hf := kd_fresh k82 82 w w.heap.size (Nat.le_refl _)
    have hW : Below w.heap.size w (w.alloc (.cells #[] 82)) := (Below.refl _ _).alloc (Nat.le_refl _) _
    go_enter Try.func54, Try.ntmps54
    go_wp2_with (at_builtin; refine Kd.R_append_rows k82 (Rr := k82.K w) (w0 := w) w.heap.size rfl (.tmp 5) (.tmp 6) 23 82 _ 48 rfl Try.underlying23 info_flops rfl (Nat.succ_pos _) (by decide) _ [] ys (some ad) ys.length c (fun _ => True) (fun _ => False) rfl rfl hf ?hR (fun _ _ hK => (by obtain rfl := k82_open hK; exact k82_mkM _ _ _ _)) (fun _ hk => hk.elim) (fun _ _ => trivial) hW (by simp) (by simpa using hmax) ?_; (case hR => exact { h.imp_ hW (fun _ _ hK => hK) with }); intro v1 w1 hR1 hB1 hg1 hat1)
    go_ret
    exact ⟨_, rfl, hR1, hB1⟩
theorem info_gates : (Try.prog.info? 80).map (fun i => (i.zero, i.size, i.bytes)) = some (some (.agg #[.int .i64 0, .int .u64 0, .slice none 0 0]), 3, 40) := by kernel_rfl
set_option maxHeartbeats 2000000 in
theorem clone_gates (A : Option Addr) (c : Nat) (ys : List Ky) (w0 w : World) (hb0 : Below w0.heap.size w0 w) (h : Kd.C k80 w0 A ys.length ys) (hmax : ys.length * 40 ≤ 140737488355328) :
    Calls Try.prog 55 #[.slice A ys.length c] w fun e w' => ∃ v, e = .returned v ∧ Kd.R (kGateF w0) 80 w' w.heap.size (fun _ => True) v ys ∧ Below w.heap.size w w' := by
  have hu := Try.underlying24
  rcases A with _ | ad
  · obtain rfl := kd_nil h
    go_enter Try.func55, Try.ntmps55
    have heq : ∀ W : World, (binOp .eql 24 (.slice none 0 c) (.slice none 0 0)).run Try.prog W = .ok (.bool true) W := fun W => Lib.run_eql_slice_nil_nil W 0 c hu
    go_wp2
    go_ret
    exact ⟨_, rfl, Kd.R_nil _ _ _ _ _, Below.refl _ _⟩
  · have heq : ∀ W : World, (binOp .eql 24 (.slice (some ad) ys.length c) (.slice none 0 0)).run Try.prog W = .ok (.bool false) W := fun W => Lib.run_eql_slice_nil W _ _ _ _ _ _ _ hu
    have hf := kd_fresh (kGateF w0) 80 w w.heap.size (Nat.le_refl _)
    have hW : Below w.heap.size w (w.alloc (.cells #[] 80)) := (Below.refl _ _).alloc (Nat.le_refl _) _
    go_enter Try.func55, Try.ntmps55
    go_wp2_with (at_builtin; refine Kd.R_append_rows (kGateF w0) (Rr := k80.K w0) (w0 := w) w.heap.size rfl (.tmp 5) (.tmp 6) 24 80 _ 40 rfl Try.underlying24 info_gates rfl (Nat.succ_pos _) (by decide) _ [] ys (some ad) ys.length c (fun _ => True) (fun _ => False) rfl rfl hf ?hR (fun _ _ hK => kGateF_mk hK) (fun _ hk => hk.elim) (fun _ _ => trivial) hW (by simp) (by simpa using hmax) ?_; (case hR => exact { h.imp_ (hb0.trans (hW.mono hb0.size)) (fun _ _ hK => hK) with }); intro v1 w1 hR1 hB1 hg1 hat1)
    go_ret
    exact ⟨_, rfl, hR1, hB1⟩
end Go.Proofs.Ytimjccfpobhpeaa
namespace Go.Proofs.Ytimjccfpobhpeaa.PF
open Go.RowKit Go.Proofs.YtimjccfpobhpeaaW.PrintWords Go.Proofs.YtimjccfpobhpeaaW.PrintLast Go.Proofs.YtimjccfpobhpeaaW.PrintMore
set_option linter.unusedVariables false
set_option linter.unusedSimpArgs false
def Qm.f (l0 : List ByteArray) : Option (List ByteArray) := if l0.length * 16 ≤ 140737488355328 then some l0 else none
theorem Qm.calls (A0 : Option Addr) (c0 : Nat) (l0 : List ByteArray) (r : List ByteArray) (w : World) (hr0 : Kd.C Kd.string w A0 l0.length l0) (hc0 : l0.length ≤ c0) (h : Qm.f l0 = some r) :
 Calls Try.prog 30 #[.slice A0 l0.length c0] w fun e w' => ∃ v0_ : Value, e = .returned (v0_) ∧ Kd.R Kd.string 9 w' w.heap.size (fun _ => True) v0_ r ∧ Below w.heap.size w w' := by
 have h2 : (if l0.length * 16 ≤ 140737488355328 then some l0 else none) = some r := h
 by_cases hc : l0.length * 16 ≤ 140737488355328
 ·rw [if_pos hc] at h2
  obtain rfl := Option.some.inj h2
  exact (clone_strs A0 c0 l0 w hr0 hc).mono fun e w' ⟨v, he, hR, hB⟩ => ⟨v, he, hR, hB⟩
 ·rw [if_neg hc] at h2
  cases h2
end Go.Proofs.Ytimjccfpobhpeaa.PF
namespace Go.Proofs.Ytimjccfpobhpeaa
open Go.RowKit
open Go.ChangeMaps (setBlock)
structure KeyEnc (P : Program) (kt : TypeId) (κ : Type) where
  enc : κ → Value
  ok : κ → Prop
  law : Maps.Keyed P kt
  key : ∀ k, ok k → ∃ l, keyOf P kt (enc k) = some l
  inj : ∀ a b, enc a = enc b → a = b
section
variable {κ ν : Type} [DecidableEq κ]
def mget : List (κ × ν) → κ → Option ν
  | [], _ => none
  | p :: m, k => if p.1 = k then some p.2 else mget m k
def mput : List (κ × ν) → κ → ν → List (κ × ν)
  | [], k, v => [(k, v)]
  | p :: m, k, v => if p.1 = k then (k, v) :: m else p :: mput m k v
theorem mget_mput (m : List (κ × ν)) (k k' : κ) (v : ν) : mget (mput m k v) k' = if k = k' then some v else mget m k' := by
  induction m with
  | nil => simp [mget, mput]
  | cons p m ih =>
    simp only [mput]
    split
    · rename_i h
      simp only [mget, h]
      split <;> simp_all
    · rename_i h
      simp only [mget, ih]
      split
      · rename_i h2
        rw [if_neg (by rintro rfl; exact h h2)]
      · rfl
theorem mem_mput {m : List (κ × ν)} {k : κ} {v : ν} {p : κ × ν} (h : p ∈ mput m k v) : p = (k, v) ∨ p ∈ m := by
  induction m with
  | nil => simpa [mput] using h
  | cons q m ih =>
    simp only [mput] at h
    split at h
    · rcases List.mem_cons.1 h with h | h
      · exact .inl h
      · exact .inr (List.mem_cons_of_mem _ h)
    · rcases List.mem_cons.1 h with h | h
      · exact .inr (h ▸ List.mem_cons_self)
      · rcases ih h with h | h
        · exact .inl h
        · exact .inr (List.mem_cons_of_mem _ h)
theorem mput_new {m : List (κ × ν)} {k : κ} {v : ν} (h : ∀ p ∈ m, p.1 ≠ k) : mput m k v = m ++ [(k, v)] := by
  induction m with
  | nil => rfl
  | cons p m ih => rw [mput, if_neg (h p List.mem_cons_self), ih (fun q hq => h q (List.mem_cons_of_mem _ hq))]; rfl
theorem mget_new {m : List (κ × ν)} {k : κ} (h : ∀ p ∈ m, p.1 ≠ k) : mget m k = none := by
  induction m with
  | nil => rfl
  | cons p m ih => rw [mget, if_neg (h p List.mem_cons_self), ih (fun q hq => h q (List.mem_cons_of_mem _ hq))]
theorem mput_at {m : List (κ × ν)} (hn : (m.map (·.1)).Nodup) {j : Nat} {k : κ} {v0 v : ν} (h : m[j]? = some (k, v0)) : mput m k v = m.set j (k, v) := by
  induction m generalizing j with
  | nil => simp at h
  | cons p m ih =>
    rw [List.map_cons, List.nodup_cons] at hn
    cases j with
    | zero =>
      simp only [List.getElem?_cons_zero, Option.some.injEq] at h
      subst h
      simp [mput]
    | succ j =>
      simp only [List.getElem?_cons_succ] at h
      have hm : (k, v0) ∈ m := List.mem_of_getElem? h
      rw [mput, if_neg (fun h0 : p.1 = k => hn.1 (by rw [h0]; exact List.mem_map_of_mem (f := Prod.fst) hm)), ih hn.2 h]
      rfl
theorem mget_at {m : List (κ × ν)} (hn : (m.map (·.1)).Nodup) {j : Nat} {k : κ} {v0 : ν} (h : m[j]? = some (k, v0)) : mget m k = some v0 := by
  induction m generalizing j with
  | nil => simp at h
  | cons p m ih =>
    rw [List.map_cons, List.nodup_cons] at hn
    cases j with
    | zero =>
      simp only [List.getElem?_cons_zero, Option.some.injEq] at h
      subst h
      simp [mget]
    | succ j =>
      simp only [List.getElem?_cons_succ] at h
      have hm : (k, v0) ∈ m := List.mem_of_getElem? h
      rw [mget, if_neg (fun h0 : p.1 = k => hn.1 (by rw [h0]; exact List.mem_map_of_mem (f := Prod.fst) hm)), ih hn.2 h]
theorem nodup_mput {m : List (κ × ν)} (hn : (m.map (·.1)).Nodup) (k : κ) (v : ν) : ((mput m k v).map (·.1)).Nodup := by
  induction m with
  | nil => simp [mput]
  | cons p m ih =>
    rw [List.map_cons, List.nodup_cons] at hn
    rw [mput]
    split
    · rename_i h
      rw [List.map_cons, List.nodup_cons]
      exact ⟨h ▸ hn.1, hn.2⟩
    · rename_i h
      rw [List.map_cons, List.nodup_cons]
      refine ⟨fun hm => ?_, ih hn.2⟩
      obtain ⟨q, hq, he⟩ := List.mem_map.1 hm
      rcases mem_mput hq with rfl | hq
      · exact h he.symm
      · exact hn.1 (he ▸ List.mem_map_of_mem (f := (·.1)) hq)
def MapAt {P : Program} {kt : TypeId} (E : KeyEnc P kt κ) (ev : ν → Value) (w : World) (b : Nat) (m : List (κ × ν)) : Prop :=
  ∃ es clock, w.heap[b]? = some (.map es clock) ∧ es.toList.map (fun e => (e.key, e.val)) = m.map (fun p => (E.enc p.1, ev p.2)) ∧ (∀ p ∈ m, E.ok p.1) ∧ (m.map (·.1)).Nodup
variable {P : Program} {kt : TypeId} {E : KeyEnc P kt κ} {ev : ν → Value} {w : World} {b : Nat} {m : List (κ × ν)}
omit [DecidableEq κ] in
theorem MapAt.step {w1 : World} (h : MapAt E ev w b m) (hb : w1.heap[b]? = w.heap[b]?) : MapAt E ev w1 b m := by
  obtain ⟨es, clock, h1, h2⟩ := h
  exact ⟨es, clock, hb.trans h1, h2⟩
omit [DecidableEq κ] in
theorem MapAt.lt (h : MapAt E ev w b m) : b < w.heap.size := by
  obtain ⟨es, clock, h1, _⟩ := h
  exact (Array.getElem?_eq_some_iff.1 h1).1
omit [DecidableEq κ] in
theorem MapAt.is {w1 : World} (h : MapAt E ev w b m) (hw : Is w w1) : MapAt E ev w1 b m := h.step (hw.below.block b h.lt)
omit [DecidableEq κ] in
theorem MapAt.made (w : World) : MapAt E ev (w.alloc (.map #[] 0)) w.heap.size ([] : List (κ × ν)) := ⟨#[], 0, heap_alloc_new w _, rfl, by simp, by simp⟩
theorem map_find (h : MapAt E ev w b m) {k : κ} (hk : E.ok k) : ∃ es clock, w.heap[b]? = some (.map es clock) ∧
    (((Instr.findKey kt (E.enc k) es.toList).run P w = .ok none w ∧ mget m k = none ∧ mput (κ := κ) (ν := ν) m k = fun v => m ++ [(k, v)]) ∨
     ∃ j v0 e0, (Instr.findKey kt (E.enc k) es.toList).run P w = .ok (some (j, ev v0)) w ∧ es[j]? = some e0 ∧ e0.key = E.enc k ∧ m[j]? = some (k, v0) ∧ mget m k = some v0) := by
  obtain ⟨es, clock, h1, h2, h3, h4⟩ := h
  refine ⟨es, clock, h1, ?_⟩
  obtain ⟨l, hl⟩ := E.key k hk
  have hks : ∀ e ∈ es.toList, ∃ l, keyOf P kt e.key = some l := by
    intro e he
    have : (e.key, e.val) ∈ m.map (fun p => (E.enc p.1, ev p.2)) := h2 ▸ List.mem_map_of_mem (f := fun e : MapEntry => (e.key, e.val)) he
    obtain ⟨p, hp, hpe⟩ := List.mem_map.1 this
    have : e.key = E.enc p.1 := (congrArg Prod.fst hpe).symm
    rw [this]
    exact E.key p.1 (h3 p hp)
  rcases E.law.find w hl es.toList hks with ⟨hf, hne⟩ | ⟨j, e0, hf, hj, hke⟩
  · left
    have hne2 : ∀ p ∈ m, p.1 ≠ k := by
      rintro p hp rfl
      have : (E.enc p.1, ev p.2) ∈ es.toList.map (fun e => (e.key, e.val)) := h2 ▸ List.mem_map_of_mem (f := fun p : κ × ν => (E.enc p.1, ev p.2)) hp
      obtain ⟨e, he, hee⟩ := List.mem_map.1 this
      exact hne e he (congrArg Prod.fst hee)
    exact ⟨hf, mget_new hne2, funext fun v => mput_new hne2⟩
  · right
    have hx : (m.map (fun p => (E.enc p.1, ev p.2)))[j]? = some (e0.key, e0.val) := by rw [← h2, List.getElem?_map, hj]; rfl
    rw [List.getElem?_map] at hx
    cases hm : m[j]? with
    | none => rw [hm] at hx; simp at hx
    | some p =>
      rw [hm] at hx
      simp only [Option.map_some, Option.some.injEq, Prod.mk.injEq] at hx
      have hpk : p.1 = k := E.inj _ _ (hx.1.trans hke)
      obtain ⟨p1, p2⟩ := p
      subst hpk
      exact ⟨j, p2, e0, by rw [hf, hx.2], by simpa using hj, hke, hm, mget_at h4 hm⟩
theorem run_mapLookup (h : MapAt E ev w b m) {t e : TypeId} (ht : P.underlying t = some (.map kt e)) {z : Value} (hz : (zeroValue e).run P w = .ok z w) {k : κ} (hk : E.ok k) :
    (Instr.lookup t (.map (some b)) (E.enc k) false).run P w = .ok (((mget m k).map ev).getD z) w := by
  obtain ⟨l, hl⟩ := E.key k hk
  obtain ⟨es, clock, h1, hf | ⟨j, v0, e0, hf, _, _, _, hg⟩⟩ := map_find h hk
  · simp [Instr.lookup, run_underlying ht, MapKept.run_getObj_map h1, E.law.check w _ hl, hf.1, hf.2.1, hz, Result.andThen]
  · simp [Instr.lookup, run_underlying ht, MapKept.run_getObj_map h1, E.law.check w _ hl, hf, hg, Result.andThen]
theorem run_mapStore (h : MapAt E ev w b m) {t e : TypeId} (ht : P.underlying t = some (.map kt e)) {k : κ} (hk : E.ok k) (v : ν) :
    ∃ o, (Instr.mapUpdate t (.map (some b)) (E.enc k) (ev v)).run P w = .ok () (setBlock w b o) ∧ MapAt E ev (setBlock w b o) b (mput m k v) := by
  obtain ⟨l, hl⟩ := E.key k hk
  have hb := h.lt
  have hset : ∀ o, (setBlock w b o).heap[b]? = some o := fun o => by simp [setBlock, hb]
  have hfull := h
  obtain ⟨es', clock', h1', h2, h3, h4⟩ := h
  have hok : ∀ p ∈ mput m k v, E.ok p.1 := fun p hp => by
    rcases mem_mput hp with rfl | hp
    · exact hk
    · exact h3 p hp
  obtain ⟨es, clock, h1, hf | ⟨j, v0, e0, hf, he0, hke, hm, hg⟩⟩ := map_find hfull hk
  · rw [h1] at h1'
    cases h1'
    refine ⟨.map (es'.push { key := E.enc k, val := ev v, born := clock' }) (clock' + 1), ?_, _, _, hset _, ?_, hok, nodup_mput h4 k v⟩
    · simp [Instr.mapUpdate, run_underlying ht, MapKept.run_getObj_map h1, E.law.check w _ hl, hf.1, MapKept.run_setObj_map _ h1, Result.andThen, setBlock]
    · rw [hf.2.2]
      simp [h2]
  · rw [h1] at h1'
    cases h1'
    refine ⟨.map (es'.modify j fun e => { e with key := E.enc k, val := ev v }) clock', ?_, _, _, hset _, ?_, hok, nodup_mput h4 k v⟩
    · simp [Instr.mapUpdate, run_underlying ht, MapKept.run_getObj_map h1, E.law.check w _ hl, hf, he0, hke, E.law.stays w hl, MapKept.run_setObj_map _ h1, Result.andThen, setBlock]
    · rw [mput_at h4 hm]
      apply List.ext_getElem?
      intro i
      have hi := congrArg (fun l => l[i]?) h2
      simp only [List.getElem?_map] at hi ⊢
      rw [Array.getElem?_toList, Array.getElem?_modify, List.getElem?_set]
      have hjl : j < m.length := (List.getElem?_eq_some_iff.1 hm).1
      rw [Array.getElem?_toList] at hi
      by_cases hij : j = i
      · subst hij
        rw [if_pos rfl, if_pos rfl, if_pos hjl, he0]
        rfl
      · rw [if_neg hij, if_neg hij]
        exact hi
end
structure But (w : World) (G : Nat → Prop) where
  val : World
  os : val.os = w.os
  tape : val.tape = w.tape
  output : val.output = w.output
  size : w.heap.size ≤ val.heap.size
  block : ∀ k, k < w.heap.size → ¬ G k → val.heap[k]? = w.heap[k]?
namespace But
variable {w : World} {G : Nat → Prop}
@[go_sem] theorem cell (x : But w G) (b o : Nat) (h : b < w.heap.size) (hG : ¬ G b) : x.val.cell? ⟨b, o, none⟩ = w.cell? ⟨b, o, none⟩ := World.cell?_of_block (a := ⟨b, o, none⟩) (x.block b h hG)
@[go_sem] theorem frozen (x : But w G) (b o : Nat) (h : b < w.heap.size) (hG : ¬ G b) : x.val.frozen? ⟨b, o, none⟩ = w.frozen? ⟨b, o, none⟩ := World.frozen?_of_block (a := ⟨b, o, none⟩) (x.block b h hG)
@[go_sem] theorem lt (x : But w G) (b : Nat) (h : b < w.heap.size) : b < x.val.heap.size := Nat.lt_of_lt_of_le h x.size
def refl (w : World) (G : Nat → Prop) : But w G := ⟨w, rfl, rfl, rfl, Nat.le_refl _, fun _ _ _ => rfl⟩
def under (x : But w G) (y : Under x.val) : But w G := ⟨y.val, y.ok.os.trans x.os, y.ok.tape.trans x.tape, y.ok.output.trans x.output, Nat.le_trans x.size y.ok.size, fun k hk hG => (y.ok.block k (Nat.lt_of_lt_of_le hk x.size)).trans (x.block k hk hG)⟩
def alloc (x : But w G) (o : Obj) : But w G := x.under ((Under.refl x.val).alloc o)
def drew (x : But w G) : But w G := x.under (Under.refl x.val).drew
def set (x : But w G) (b : Nat) (hb : G b) (o : Obj) : But w G := ⟨setBlock x.val b o, x.os, x.tape, x.output, by simpa [setBlock] using x.size, fun k hk hG => by
  have : b ≠ k := fun e => hG (e ▸ hb)
  simp only [setBlock]
  rw [Array.getElem?_setIfInBounds, if_neg this]
  exact x.block k hk hG⟩
theorem is {w0 : World} (x : But w G) (h : Is w0 w) (hG : ∀ k, G k → w0.heap.size ≤ k) : Is w0 x.val := by
  have hb := h.below
  refine Is.of ⟨x.os.trans hb.os, x.tape.trans hb.tape, x.output.trans hb.output, Nat.le_trans hb.size x.size, fun k hk => ?_⟩
  exact (x.block k (Nat.lt_of_lt_of_le hk hb.size) (fun hg => by have := hG k hg; omega)).trans (hb.block k hk)
end But
@[go_sem] theorem setBlock_cell (w : World) (b b' o' : Nat) (o : Obj) (h : b' ≠ b) : (setBlock w b o).cell? ⟨b', o', none⟩ = w.cell? ⟨b', o', none⟩ := by
  refine World.cell?_of_block (a := ⟨b', o', none⟩) ?_
  simp only [setBlock]
  rw [Array.getElem?_setIfInBounds, if_neg (Ne.symm h)]
@[go_sem] theorem setBlock_size (w : World) (b : Nat) (o : Obj) : (setBlock w b o).heap.size = w.heap.size := by simp [setBlock]
def strKey (P : Program) (kt : TypeId) (h : P.underlying kt = some .string) : KeyEnc P kt ByteArray where
  enc := Value.string
  ok := fun s => s.size ≤ maxLen
  law := Maps.string_keyed h
  key := fun s hs => ⟨_, WideMaps.keyOf_string_mk h hs⟩
  inj := fun a b h => by injection h
end Go.Proofs.Ytimjccfpobhpeaa
namespace Go.Proofs.Ytimjccfpobhpeaa
open Go.RowKit Go.Proofs.YtimjccfpobhpeaaW.PrintWords
open Go.ChangeMaps (setBlock)
set_option maxRecDepth 100000
theorem get_ex {α : Type} {xs : List α} {i : Nat} (h : i < xs.length) : ∃ x, xs[i]? = some x := ⟨xs[i], List.getElem?_eq_getElem h⟩
theorem drop_cons {α : Type} {xs : List α} {i : Nat} {x : α} (h : xs[i]? = some x) : xs.drop i = x :: xs.drop (i + 1) := by
  obtain ⟨hi, rfl⟩ := List.getElem?_eq_some_iff.1 h
  exact List.drop_eq_getElem_cons hi
theorem drop_end {α : Type} (xs : List α) : xs.drop xs.length = [] := List.drop_length
def Aside (p : Prop) : Prop := p
theorem Aside.out {p : Prop} (h : Aside p) : p := h
def charsOk (l : List UInt8) : Bool := l.all fun c => decide (33 ≤ c.toNat) && decide (c.toNat ≤ 126)
def nameOk (s : ByteArray) : Bool := decide (1 ≤ s.size) && decide (s.size ≤ 128) && charsOk s.data.toList
set_option maxHeartbeats 2000000 in
theorem name_calls (s : ByteArray) (w : World) :
    Calls Try.prog 57 #[.string s] w fun e w' => e = .returned (.bool (nameOk s)) ∧ Is w w' := by
  by_cases h1 : 1 ≤ s.size ∧ s.size ≤ 128
  case neg =>
    have hno : nameOk s = false := by
      unfold nameOk
      by_cases h : 1 ≤ s.size
      · have : ¬ s.size ≤ 128 := fun e => h1 ⟨h, e⟩
        simp [this]
      · simp [h]
    rw [hno]
    go_enter Try.func57, Try.ntmps57
    by_cases h : 1 ≤ s.size
    · have h2 : ¬ s.size ≤ 128 := fun e => h1 ⟨h, e⟩
      clear h1 hno
      have q1 : decide ((s.size : Int) < 1) = false := by grind
      have q2 : decide (128 < (s.size : Int)) = true := by grind
      go_wp2
      go_ret
      exact ⟨rfl, Is.refl w⟩
    · clear h1 hno
      have q1 : decide ((s.size : Int) < 1) = true := by grind
      go_wp2
      go_ret
      exact ⟨rfl, Is.refl w⟩
  case pos =>
    obtain ⟨ha, hb⟩ := h1
    have hno : nameOk s = charsOk s.data.toList := by
      unfold nameOk
      simp [ha, hb]
    rw [hno]
    have hconv : ∀ W : World, (convert 9 129 (.string s)).run Try.prog W = .ok (.slice (some ⟨W.heap.size, 0, none⟩) s.size (grownCap W s.size 0 5)) (Lib.bytesWorld W 5 s) := fun W =>
      Lib.run_convert_string_bytes W _ _ _ s Try.underlying9 Try.underlying129 Try.underlying5
    have hW : Is w (Lib.bytesWorld w 5 s) := Is.of ⟨by simp [Lib.bytesWorld, World.freeze, World.alloc, World.drew, -World.alloc_eq, -World.drew_eq], by simp [Lib.bytesWorld, World.freeze, World.alloc, World.drew, -World.alloc_eq, -World.drew_eq], by simp [Lib.bytesWorld, World.freeze, World.alloc, World.drew, -World.alloc_eq, -World.drew_eq], by rw [Lib.bytesWorld_size]; omega, fun k hk => Lib.bytesWorld_at_old w _ s k hk⟩
    go_enter Try.func57, Try.ntmps57
    have q1 : decide ((s.size : Int) < 1) = false := by grind
    have q2 : decide (128 < (s.size : Int)) = false := by grind
    have hcell : ∀ i c, s.data.toList[i]? = some c → (Lib.bytesWorld w 5 s).cell? ⟨w.heap.size, i, none⟩ = some (.int .u8 (c.toNat : Int)) := by
      intro i c hc
      have hi : i < s.size := (List.getElem?_eq_some_iff.1 hc).1
      rw [Lib.bytesWorld_cell w _ s i hi, List.getD, hc]
      rfl
    have hlen : s.data.toList.length = s.size := rfl
    generalize hL : s.data.toList = L at *
    generalize hbw : Lib.bytesWorld w 5 s = bw at *
    have hcell2 := Lib.hid hcell
    have hlen2 := Lib.hid hlen
    have hL2 := Lib.hid hL
    clear hcell hlen hL
    go_wp2
    clear hbw hconv
    go_loopg [4, 16] s.size (fun d _ t wr => ∃ (i : Nat), i + d = s.size ∧ t = .int .i64 i ∧ wr = bw ∧ Aside (charsOk (L.drop i) = charsOk L))
    case atStart => exact ⟨0, by omega, rfl, rfl, rfl⟩
    case round =>
      obtain ⟨i, hi, rfl, rfl, hI⟩ := hrel
      have hi2 := Lib.hid hi
      by_cases hlt : i < s.size
      · obtain ⟨c, hc⟩ := get_ex (xs := L) (i := i) (by rw [hlen2.out]; exact hlt)
        have hcl := hcell2.out i c hc
        obtain ⟨gk, rfl⟩ : ∃ m, gk = m + 1 := ⟨gk - 1, by omega⟩
        rw [drop_cons hc] at hI
        have hI2 := Lib.hid hI.out
        clear hI hc hi
        go_wp2
        all_goals first
          | (go_roundg gk
             case measure => omega
             case rel =>
               refine ⟨i + 1, by have := hi2.out; omega, by go_num, rfl, ?_⟩
               unfold Aside
               rw [← hI2.out]
               unfold charsOk
               rw [List.all_cons]
               have h1 : 33 ≤ c.toNat := by omega
               have h2 : c.toNat ≤ 126 := by omega
               simp [h1, h2])
          | (go_ret
             refine ⟨ret_bool ?_, hW⟩
             rw [← hI2.out]
             unfold charsOk
             rw [List.all_cons]
             have : ¬ (33 ≤ c.toNat ∧ c.toNat ≤ 126) := by omega
             by_cases h1 : 33 ≤ c.toNat
             · have h2 : ¬ c.toNat ≤ 126 := by omega
               simp [h2]
             · simp [h1])
      · obtain rfl : i = s.size := by omega
        go_wp2
        go_ret
        refine ⟨ret_bool ?_, hW⟩
        have := hI.out
        rw [← hlen2.out, drop_end] at this
        rw [← this]; rfl
def nameKey : KeyEnc Try.prog 9 ByteArray := strKey Try.prog 9 Try.underlying9
def inB (s : ByteArray) (l : List ByteArray) : Bool := l.any fun x => decide (x = s)
theorem inB_iff {s : ByteArray} {l : List ByteArray} : inB s l = true ↔ s ∈ l := by
  unfold inB
  rw [List.any_eq_true]
  constructor
  · rintro ⟨x, hx, he⟩
    rw [← of_decide_eq_true he]
    exact hx
  · exact fun h => ⟨s, h, decide_eq_true rfl⟩
def namesF : List ByteArray → List ByteArray → Int
  | _, [] => 0
  | seen, s :: r => if nameOk s then (if inB s seen then 6 else namesF (seen ++ [s]) r) else 9
def seenOf (xs : List ByteArray) : List (ByteArray × Int) := xs.map fun s => (s, 1)
theorem mget_seen (xs : List ByteArray) (s : ByteArray) : mget (seenOf xs) s = if inB s xs then some 1 else none := by
  induction xs with
  | nil => rfl
  | cons x xs ih =>
    unfold seenOf at ih ⊢
    rw [List.map_cons, mget]
    by_cases h : x = s
    · simp [h, inB]
    · rw [if_neg h, ih]
      unfold inB
      rw [List.any_cons, decide_eq_false h, Bool.false_or]
theorem mput_seen (xs : List ByteArray) (s : ByteArray) (h : ¬ inB s xs = true) : mput (seenOf xs) s 1 = seenOf (xs ++ [s]) := by
  rw [mput_new (by
    intro p hp
    obtain ⟨x, hx, rfl⟩ := List.mem_map.1 hp
    rintro rfl
    exact h (inB_iff.2 hx))]
  simp [seenOf]
theorem nameOk_size {s : ByteArray} (h : nameOk s = true) : s.size ≤ maxLen := by
  unfold nameOk at h
  simp only [Bool.and_eq_true, decide_eq_true_eq] at h
  unfold maxLen
  omega
set_option maxHeartbeats 4000000 in
theorem names_calls (A : Option Addr) (c : Nat) (xs : List ByteArray) (w : World) (h : Kd.C Kd.string w A xs.length xs) :
    Calls Try.prog 31 #[.slice A xs.length c] w fun e w' => e = .returned (.int .i64 (namesF [] xs)) ∧ Is w w' := by
  have hm := (kd_len h).2
  have hmm := @run_makeMap Try.prog
  have hz : ∀ W, (zeroValue 3).run Try.prog W = .ok (.int .i64 0) W := fun W => by kernel_rfl
  have hM0 : MapAt nameKey (Value.int .i64) (w.alloc (.map #[] 0)) w.heap.size (seenOf (xs.take 0)) := MapAt.made w
  go_enter Try.func31, Try.ntmps31
  go_wp2
  go_loopg [5, 9] xs.length (fun d _ t wr => ∃ (i : Nat) (z : But (w.alloc (.map #[] 0)) (fun k => k = w.heap.size)), i + d = xs.length ∧ t = .int .i64 i ∧ wr = z.val ∧ MapAt nameKey (Value.int .i64) z.val w.heap.size (seenOf (xs.take i)) ∧ Aside (namesF (xs.take i) (xs.drop i) = namesF [] xs))
  case atStart => exact ⟨0, But.refl _ _, by omega, rfl, rfl, hM0, rfl⟩
  case round =>
    clear hM0
    obtain ⟨i, z, hi, rfl, rfl, hM, hI⟩ := hrel
    have hi2 := Lib.hid hi
    have hwz : Is w z.val := z.is ((Is.refl w).alloc _) (by rintro k rfl; exact Nat.le_refl _)
    by_cases hlt : i < xs.length
    · obtain ⟨s, hs⟩ := get_ex hlt
      obtain ⟨b, o, rfl, hb, hc⟩ := kd_str h hs
      obtain ⟨gk, rfl⟩ : ∃ m, gk = m + 1 := ⟨gk - 1, by omega⟩
      have hbn : b ≠ w.heap.size := by omega
      have hbl : b ≤ w.heap.size := by omega
      rw [drop_cons hs, namesF] at hI
      have hI2 := Lib.hid hI.out
      have hs2 := Lib.hid hs
      clear hI hs hi
      cases hk : nameOk s with
      | false =>
        have hk2 := Lib.hid hk
        clear hk
        go_wp2_with (go_at_call 57; refine (name_calls s _).mono ?_; rw [hk2.out]; rintro e w' ⟨rfl, ⟨v, rfl⟩⟩)
        go_ret
        exact ⟨ret_int (by rw [← hI2.out, hk2.out]; rfl), hwz.step v⟩
      | true =>
        have hk2 := Lib.hid hk
        have hok : nameKey.ok s := nameOk_size hk
        clear hk
        by_cases hd : inB s (xs.take i) = true
        · have hg1 : mget (seenOf (xs.take i)) s = some 1 := by rw [mget_seen, if_pos hd]
          have hlk : ∀ v : Under z.val, (Instr.lookup 120 (.map (some w.heap.size)) (.string s) false).run Try.prog v.val = .ok (.int .i64 1) v.val := fun v =>
            (run_mapLookup (hM.is ⟨v, rfl⟩) Try.underlying120 (hz _) hok).trans (by rw [hg1]; rfl)
          have hup0 : ∀ v : Under z.val, ∃ o, (Instr.mapUpdate 120 (.map (some w.heap.size)) (.string s) (.int .i64 2)).run Try.prog v.val = .ok () (setBlock v.val w.heap.size o) ∧ MapAt nameKey (Value.int .i64) (setBlock v.val w.heap.size o) w.heap.size (mput (seenOf (xs.take i)) s 2) := fun v =>
            run_mapStore (hM.is ⟨v, rfl⟩) Try.underlying120 hok 2
          obtain ⟨ob, hob⟩ := Classical.skolem.1 hup0
          have hup := fun v => (hob v).1
          have hlk2 : ∀ v : Under z.val, (Instr.lookup 120 (.map (some w.heap.size)) (.string s) false).run Try.prog (setBlock v.val w.heap.size (ob v)) = .ok (.int .i64 2) (setBlock v.val w.heap.size (ob v)) := fun v =>
            (run_mapLookup (hob v).2 Try.underlying120 (hz _) hok).trans (by rw [mget_mput, if_pos rfl]; rfl)
          clear hup0 hob hg1
          have hd2 := Lib.hid hd
          clear hd
          have hwz2 : ∀ v : Under z.val, Is w (setBlock v.val w.heap.size (ob v)) := fun v => ((z.under v).set _ rfl (ob v)).is ((Is.refl w).alloc _) (by rintro k rfl; exact Nat.le_refl _)
          go_wp2_with (go_at_call 57; refine (name_calls s _).mono ?_; rw [hk2.out]; rintro e w' ⟨rfl, ⟨v, rfl⟩⟩)
          go_ret
          exact ⟨ret_int (by rw [← hI2.out, hk2.out, if_pos rfl, if_pos hd2.out]), hwz2 _⟩
        · have hg1 : mget (seenOf (xs.take i)) s = none := by rw [mget_seen, if_neg hd]
          have hlk : ∀ v : Under z.val, (Instr.lookup 120 (.map (some w.heap.size)) (.string s) false).run Try.prog v.val = .ok (.int .i64 0) v.val := fun v =>
            (run_mapLookup (hM.is ⟨v, rfl⟩) Try.underlying120 (hz _) hok).trans (by rw [hg1]; rfl)
          have hup0 : ∀ v : Under z.val, ∃ o, (Instr.mapUpdate 120 (.map (some w.heap.size)) (.string s) (.int .i64 1)).run Try.prog v.val = .ok () (setBlock v.val w.heap.size o) ∧ MapAt nameKey (Value.int .i64) (setBlock v.val w.heap.size o) w.heap.size (mput (seenOf (xs.take i)) s 1) := fun v =>
            run_mapStore (hM.is ⟨v, rfl⟩) Try.underlying120 hok 1
          obtain ⟨ob, hob⟩ := Classical.skolem.1 hup0
          have hup := fun v => (hob v).1
          have hob2 := Lib.hid (fun v => (hob v).2)
          have hlk2 : ∀ v : Under z.val, (Instr.lookup 120 (.map (some w.heap.size)) (.string s) false).run Try.prog (setBlock v.val w.heap.size (ob v)) = .ok (.int .i64 1) (setBlock v.val w.heap.size (ob v)) := fun v =>
            (run_mapLookup (hob v).2 Try.underlying120 (hz _) hok).trans (by rw [mget_mput, if_pos rfl]; rfl)
          clear hup0 hob hg1
          have hd2 := Lib.hid hd
          clear hd
          go_wp2_with (go_at_call 57; refine (name_calls s _).mono ?_; rw [hk2.out]; rintro e w' ⟨rfl, ⟨v, rfl⟩⟩)
          go_roundg gk
          case measure => omega
          case rel =>
            refine ⟨i + 1, (z.under v).set _ rfl (ob v), by have := hi2.out; omega, by go_num, rfl, ?_, ?_⟩
            · rw [List.take_add_one, hs2.out, Option.toList_some, ← mput_seen _ _ hd2.out]
              exact hob2.out v
            · unfold Aside
              rw [← hI2.out, hk2.out, if_pos rfl, if_neg hd2.out, List.take_add_one, hs2.out, Option.toList_some]
    · obtain rfl : i = xs.length := by omega
      obtain rfl : gk = 0 := by omega
      rw [drop_end, namesF] at hI
      have hI2 := Lib.hid hI.out
      clear hI hi
      go_wp2
      go_ret
      exact ⟨ret_int (by rw [← hI2.out]), hwz⟩
end Go.Proofs.Ytimjccfpobhpeaa
namespace Go.Proofs.Ytimjccfpobhpeaa.PF
open Go.RowKit Go.Proofs.YtimjccfpobhpeaaW.PrintWords Go.Proofs.YtimjccfpobhpeaaW.PrintLast Go.Proofs.YtimjccfpobhpeaaW.PrintMore
set_option linter.unusedVariables false
set_option linter.unusedSimpArgs false
def graph_Names.f (l0 : List ByteArray) : Option (Int) := some (namesF [] l0)
theorem graph_Names.calls (A0 : Option Addr) (c0 : Nat) (l0 : List ByteArray) (r : Int) (w : World) (hr0 : Kd.C Kd.string w A0 l0.length l0) (hc0 : l0.length ≤ c0) (h : graph_Names.f l0 = some r) :
 Calls Try.prog 31 #[.slice A0 l0.length c0] w fun e w' => e = .returned (.int .i64 r) ∧ Below w.heap.size w w' := by
 obtain rfl := Option.some.inj h
 exact (names_calls A0 c0 l0 w hr0).mono fun e w' ⟨he, hw⟩ => ⟨he, hw.below⟩
end Go.Proofs.Ytimjccfpobhpeaa.PF
namespace Go.Proofs.Ytimjccfpobhpeaa.PF
open Go.RowKit Go.Proofs.YtimjccfpobhpeaaW.PrintWords Go.Proofs.YtimjccfpobhpeaaW.PrintLast Go.Proofs.YtimjccfpobhpeaaW.PrintMore
set_option linter.unusedVariables false
set_option linter.unusedSimpArgs false
def netlist_First.f (l0_0 : List ByteArray) (l0_1 : List ByteArray) (l0_2 : List (S82)) (l0_3 : List (Ky)) (l0_4 : List Int) : Option (Int) := some (wrap64 ((wrap64 (2 + (l0_0.length : Int))) + (l0_2.length : Int)))
set_option maxHeartbeats 8000000 in
set_option maxRecDepth 100000 in
theorem netlist_First.calls (A0_0 : Option Addr) (c0_0 : Nat) (l0_0 : List ByteArray) (A0_1 : Option Addr) (c0_1 : Nat) (l0_1 : List ByteArray) (A0_2 : Option Addr) (c0_2 : Nat) (l0_2 : List (S82)) (A0_3 : Option Addr) (c0_3 : Nat) (l0_3 : List (Ky)) (A0_4 : Option Addr) (c0_4 : Nat) (l0_4 : List Int) (r : Int) (w : World) (hr0_0 : Kd.C Kd.string w A0_0 l0_0.length l0_0) (hc0_0 : l0_0.length ≤ c0_0) (hr0_1 : Kd.C Kd.string w A0_1 l0_1.length l0_1) (hc0_1 : l0_1.length ≤ c0_1) (hr0_2 : Kd.C k82 w A0_2 l0_2.length l0_2) (hc0_2 : l0_2.length ≤ c0_2) (hr0_3 : Kd.C k80 w A0_3 l0_3.length l0_3) (hc0_3 : l0_3.length ≤ c0_3) (hr0_4 : Kd.C (Kd.int .i64) w A0_4 l0_4.length l0_4) (hc0_4 : l0_4.length ≤ c0_4) (h : netlist_First.f l0_0 l0_1 l0_2 l0_3 l0_4 = some r) :
 Calls Try.prog 32 #[.agg #[.slice A0_0 l0_0.length c0_0, .slice A0_1 l0_1.length c0_1, .slice A0_2 l0_2.length c0_2, .slice A0_3 l0_3.length c0_3, .slice A0_4 l0_4.length c0_4]] w fun e w' => e = .returned (.int .i64 r) ∧ Below w.heap.size w w' := by
 have hu27 := Try.underlying27
 have HR0_0 := Za.mk hr0_0
 have HC0_0 := Za.mk hc0_0
 clear hr0_0 hc0_0
 have HR0_1 := Za.mk hr0_1
 have HC0_1 := Za.mk hc0_1
 clear hr0_1 hc0_1
 have HR0_2 := Za.mk hr0_2
 have HC0_2 := Za.mk hc0_2
 clear hr0_2 hc0_2
 have HR0_3 := Za.mk hr0_3
 have HC0_3 := Za.mk hc0_3
 clear hr0_3 hc0_3
 have HR0_4 := Za.mk hr0_4
 have HC0_4 := Za.mk hc0_4
 clear hr0_4 hc0_4
 have HB := Za.mk (Below.refl w.heap.size w)
 have H : (some (wrap64 ((wrap64 (2 + (l0_0.length : Int))) + (l0_2.length : Int)))) = some r := h
 clear h
 obtain rfl := Option.some.inj H
 go_enter Try.func32, Try.ntmps32
 go_wp2_with (((with_reducible refine Xl (N := 1) rfl ?_); refine Xr ?hg (N := 1) ?hd (cs := #[.slice A0_0 l0_0.length c0_0, .slice A0_1 l0_1.length c0_1, .slice A0_2 l0_2.length c0_2, .slice A0_3 l0_3.length c0_3, .slice A0_4 l0_4.length c0_4]) (t := 27) ?hr ?_; (case hd => rfl); (case hg => rfl); (case hr => first | (go_simp; done) | (go_simp; rfl)); intro gb101 hg w2 hbox hb; have n0_ := Za.mk (Zn HB.out hb); have n1_ := Za.mk (hbox); have n2_ := Za.mk ((by rw [hg]; exact (Zm HB.out) : w.heap.size ≤ gb101)); have n3_ := n2_; clear HB; have HB := n0_; have BK101 := n1_; have GW101 := n2_; have GE101 := n3_; clear n0_ n1_ n2_ n3_; clear hb hbox hg; have hcz3_0 : w2.cell? ⟨gb101, 0, none⟩ = some (.slice A0_0 l0_0.length c0_0) := (Zc BK101.out 0).trans rfl; have hcz3_1 : w2.cell? ⟨gb101, 1, none⟩ = some (.slice A0_1 l0_1.length c0_1) := (Zc BK101.out 1).trans rfl; have hcz3_2 : w2.cell? ⟨gb101, 2, none⟩ = some (.slice A0_2 l0_2.length c0_2) := (Zc BK101.out 2).trans rfl; have hcz3_3 : w2.cell? ⟨gb101, 3, none⟩ = some (.slice A0_3 l0_3.length c0_3) := (Zc BK101.out 3).trans rfl; have hcz3_4 : w2.cell? ⟨gb101, 4, none⟩ = some (.slice A0_4 l0_4.length c0_4) := (Zc BK101.out 4).trans rfl; have hfz3_0 := Zb BK101.out 0; have hfz3_1 := Zb BK101.out 1; have hfz3_2 := Zb BK101.out 2; have hfz3_3 := Zb BK101.out 3; have hfz3_4 := Zb BK101.out 4))
 go_ret
 exact ⟨by first | rfl | (simp [errW_none, errW_some] <;> rfl) | (simp [*, errW_none, errW_some] <;> rfl), HB.out⟩
end Go.Proofs.Ytimjccfpobhpeaa.PF
namespace Go.Proofs.Ytimjccfpobhpeaa.PF
open Go.RowKit Go.Proofs.YtimjccfpobhpeaaW.PrintWords Go.Proofs.YtimjccfpobhpeaaW.PrintLast Go.Proofs.YtimjccfpobhpeaaW.PrintMore
set_option linter.unusedVariables false
set_option linter.unusedSimpArgs false
def netlist_Mask.f (a0 : Int) : Option (Int) := some (if a0 < 0 then 0 else if 6 < a0 then 0 else if a0 = 6 then 18446744073709551615 else if a0 = 5 then 4294967295 else if a0 = 4 then 65535 else if a0 = 3 then 255 else if a0 = 2 then 15 else if a0 = 1 then 3 else 1)
set_option maxHeartbeats 2000000 in
theorem netlist_Mask.calls (a0 : Int) (r : Int) (w : World) (h : netlist_Mask.f a0 = some r) :
 Calls Try.prog 33 #[.int .i64 a0] w fun e w' => e = .returned (.int .u64 r) ∧ Below w.heap.size w w' := by
 obtain rfl := Option.some.inj h
 by_cases h1 : a0 < 0
 ·rw [if_pos h1]
  go_enter Try.func33, Try.ntmps33
  go_wp2
  all_goals (go_ret; exact ⟨rfl, Below.refl _ _⟩)
 ·rw [if_neg h1]
  by_cases h2 : 6 < a0
  ·rw [if_pos h2]
   have q1 : decide (a0 < 0) = false := decide_eq_false h1
   have q2 : decide (6 < a0) = true := decide_eq_true h2
   clear h
   go_enter Try.func33, Try.ntmps33
   go_wp2
   all_goals (go_ret; exact ⟨rfl, Below.refl _ _⟩)
  ·rw [if_neg h2]
   clear h
   have hc : a0 = 0 ∨ a0 = 1 ∨ a0 = 2 ∨ a0 = 3 ∨ a0 = 4 ∨ a0 = 5 ∨ a0 = 6 := by omega
   clear h1 h2
   rcases hc with rfl | rfl | rfl | rfl | rfl | rfl | rfl
   all_goals
    go_enter Try.func33, Try.ntmps33
    go_wp2
    (go_ret; exact ⟨rfl, Below.refl _ _⟩)
end Go.Proofs.Ytimjccfpobhpeaa.PF
namespace Go.Proofs.Ytimjccfpobhpeaa.PF
open Go.RowKit Go.Proofs.YtimjccfpobhpeaaW.PrintWords Go.Proofs.YtimjccfpobhpeaaW.PrintLast Go.Proofs.YtimjccfpobhpeaaW.PrintMore
set_option linter.unusedVariables false
set_option linter.unusedSimpArgs false
def netlist_Nets.f (l0_0 : List ByteArray) (l0_1 : List ByteArray) (l0_2 : List (S82)) (l0_3 : List (Ky)) (l0_4 : List Int) : Option (Int) := (netlist_First.f l0_0 l0_1 l0_2 l0_3 l0_4).bind fun t103 => (some (wrap64 (t103 + (l0_3.length : Int))))
set_option maxHeartbeats 8000000 in
set_option maxRecDepth 100000 in
theorem netlist_Nets.calls (A0_0 : Option Addr) (c0_0 : Nat) (l0_0 : List ByteArray) (A0_1 : Option Addr) (c0_1 : Nat) (l0_1 : List ByteArray) (A0_2 : Option Addr) (c0_2 : Nat) (l0_2 : List (S82)) (A0_3 : Option Addr) (c0_3 : Nat) (l0_3 : List (Ky)) (A0_4 : Option Addr) (c0_4 : Nat) (l0_4 : List Int) (r : Int) (w : World) (hr0_0 : Kd.C Kd.string w A0_0 l0_0.length l0_0) (hc0_0 : l0_0.length ≤ c0_0) (hr0_1 : Kd.C Kd.string w A0_1 l0_1.length l0_1) (hc0_1 : l0_1.length ≤ c0_1) (hr0_2 : Kd.C k82 w A0_2 l0_2.length l0_2) (hc0_2 : l0_2.length ≤ c0_2) (hr0_3 : Kd.C k80 w A0_3 l0_3.length l0_3) (hc0_3 : l0_3.length ≤ c0_3) (hr0_4 : Kd.C (Kd.int .i64) w A0_4 l0_4.length l0_4) (hc0_4 : l0_4.length ≤ c0_4) (h : netlist_Nets.f l0_0 l0_1 l0_2 l0_3 l0_4 = some r) :
 Calls Try.prog 52 #[.agg #[.slice A0_0 l0_0.length c0_0, .slice A0_1 l0_1.length c0_1, .slice A0_2 l0_2.length c0_2, .slice A0_3 l0_3.length c0_3, .slice A0_4 l0_4.length c0_4]] w fun e w' => e = .returned (.int .i64 r) ∧ Below w.heap.size w w' := by
 have hu27 := Try.underlying27
 have HR0_0 := Za.mk hr0_0
 have HC0_0 := Za.mk hc0_0
 clear hr0_0 hc0_0
 have HR0_1 := Za.mk hr0_1
 have HC0_1 := Za.mk hc0_1
 clear hr0_1 hc0_1
 have HR0_2 := Za.mk hr0_2
 have HC0_2 := Za.mk hc0_2
 clear hr0_2 hc0_2
 have HR0_3 := Za.mk hr0_3
 have HC0_3 := Za.mk hc0_3
 clear hr0_3 hc0_3
 have HR0_4 := Za.mk hr0_4
 have HC0_4 := Za.mk hc0_4
 clear hr0_4 hc0_4
 have HB := Za.mk (Below.refl w.heap.size w)
 have H : ((netlist_First.f l0_0 l0_1 l0_2 l0_3 l0_4).bind fun t103 => (some (wrap64 (t103 + (l0_3.length : Int))))) = some r := h
 clear h
 replace H := Option.bind_eq_some_iff.mp H
 obtain ⟨t103, A20, H⟩ := H
 replace H : (some (wrap64 (t103 + (l0_3.length : Int)))) = some r := H
 have A2 := Za.mk A20
 clear A20
 obtain rfl := Option.some.inj H
 go_enter Try.func52, Try.ntmps52
 try go_wp2_with (((with_reducible refine Xl (N := 1) rfl ?_); refine Xr ?hg (N := 1) ?hd (cs := #[.slice A0_0 l0_0.length c0_0, .slice A0_1 l0_1.length c0_1, .slice A0_2 l0_2.length c0_2, .slice A0_3 l0_3.length c0_3, .slice A0_4 l0_4.length c0_4]) (t := 27) ?hr ?_; (case hd => rfl); (case hg => rfl); (case hr => first | (go_simp; done) | (go_simp; rfl)); intro gb102 hg w3 hbox hb; have n0_ := Za.mk (Zn HB.out hb); have n1_ := Za.mk (hbox); have n2_ := Za.mk ((by rw [hg]; exact (Zm HB.out) : w.heap.size ≤ gb102)); have n3_ := n2_; clear HB; have HB := n0_; have BK102 := n1_; have GW102 := n2_; have GE102 := n3_; clear n0_ n1_ n2_ n3_; clear hb hbox hg))
 have n0_ := Za.mk (Zi BK102.out)
 have n1_ := Za.mk (Zo HB.out)
 clear BK102
 clear HB
 have BK102 := n0_
 have HB := n1_
 clear n0_ n1_
 refine start_ (n := 7) (S := fun w' => w'.cell? ⟨gb102, 0, none⟩ = some (.slice A0_0 l0_0.length c0_0) ∧ w'.cell? ⟨gb102, 1, none⟩ = some (.slice A0_1 l0_1.length c0_1) ∧ w'.cell? ⟨gb102, 2, none⟩ = some (.slice A0_2 l0_2.length c0_2) ∧ w'.cell? ⟨gb102, 3, none⟩ = some (.slice A0_3 l0_3.length c0_3) ∧ w'.cell? ⟨gb102, 4, none⟩ = some (.slice A0_4 l0_4.length c0_4)) (ds := []) #[false, false, false, false, false, false, false] (by kernel_rfl) rfl rfl ⟨(Zc BK102.out 0).trans rfl, (Zc BK102.out 1).trans rfl, (Zc BK102.out 2).trans rfl, (Zc BK102.out 3).trans rfl, (Zc BK102.out 4).trans rfl⟩ (fun hHeld => ?_)
 generalize w3.drew = w4 at BK102 HB hHeld ⊢
 refine Kq (i := 2) (N := some 5) (v := ?_) (a' := ?_) #[false, false, true, false, false, false, false] rfl rfl (by kernel_rfl) (fun _ _ _ h => h) (Or.inl ⟨by rfl, ?_⟩) ?_ ?_
 rotate_left
 ·intro w'
  go_simp
  with_reducible rfl
 rotate_left
 ·simp only [Act.put, List.setIfInBounds_toArray, List.set_cons_zero, List.set_cons_succ, Qb, Qc]
  rfl
 refine take_ (i := 0) (N := some 3) (v := ?_) (a' := ?_) #[true, false, true, false, false, false, false] rfl rfl (by kernel_rfl) (fun _ _ _ h => h) (Or.inl ⟨by rfl, ?_⟩) hHeld ?_ ?_
 rotate_left
 ·rintro w' ⟨s0, s1, s2, s3, s4⟩
  go_simp
  with_reducible rfl
 rotate_left
 ·simp only [Act.put, List.setIfInBounds_toArray, List.set_cons_zero, List.set_cons_succ, Qb, Qc]
  rfl
 refine take_ (i := 3) (N := some 6) (v := ?_) (a' := ?_) #[true, false, true, true, false, false, false] rfl rfl (by kernel_rfl) (fun _ _ _ h => h) (Or.inl ⟨by rfl, ?_⟩) hHeld ?_ ?_
 rotate_left
 ·rintro w' ⟨s0, s1, s2, s3, s4⟩
  go_simp
  with_reducible rfl
 rotate_left
 ·simp only [Act.put, List.setIfInBounds_toArray, List.set_cons_zero, List.set_cons_succ, Qb, Qc]
  rfl
 refine Kq (i := 4) (N := some 7) (v := ?_) (a' := ?_) #[true, false, true, true, true, false, false] rfl rfl (by kernel_rfl) (fun _ _ _ h => h) (Or.inl ⟨by rfl, ?_⟩) ?_ ?_
 rotate_left
 ·intro w'
  go_simp
  with_reducible rfl
 rotate_left
 ·simp only [Act.put, List.setIfInBounds_toArray, List.set_cons_zero, List.set_cons_succ, Qb, Qc]
  rfl
 refine one_ (i := 1) (N := some 4) #[true, true, true, true, true, false, false] rfl rfl (by kernel_rfl) (by decide) (fun K hK => ?_)
 refine goes_ Try.func32 (by kernel_rfl) rfl #[.agg #[.slice A0_0 l0_0.length c0_0, .slice A0_1 l0_1.length c0_1, .slice A0_2 l0_2.length c0_2, .slice A0_3 l0_3.length c0_3, .slice A0_4 l0_4.length c0_4]] (by rfl) rfl rfl (by (try simp only [List.map_toArray, List.map_cons, List.map_nil]); first | done | rfl | (simp only [List.length_drop, List.length_take]; rfl)) ?_
 with_reducible refine (netlist_First.calls _ _ l0_0 _ _ l0_1 _ _ l0_2 _ _ l0_3 _ _ l0_4 t103 _ ?side1 ?side2 ?side3 ?side4 ?side5 ?side6 ?side7 ?side8 ?side9 ?side10 A2.out).mono ?_
 (case side1 => exact (Kd.Zk HR0_0.out HB.out))
 (case side2 => exact HC0_0.out)
 (case side3 => exact (Kd.Zk HR0_1.out HB.out))
 (case side4 => exact HC0_1.out)
 (case side5 => exact (Kd.Zk HR0_2.out HB.out))
 (case side6 => exact HC0_2.out)
 (case side7 => exact (Kd.Zk HR0_3.out HB.out))
 (case side8 => exact HC0_3.out)
 (case side9 => exact (Kd.Zk HR0_4.out HB.out))
 (case side10 => exact HC0_4.out)
 rintro e w5 ⟨rfl, hb⟩
 refine ⟨_, rfl, ?_⟩
 have n0_ := Za.mk (Zq BK102.out hb)
 have n1_ := Za.mk (Zn HB.out hb)
 clear BK102
 clear HB
 have BK102 := n0_
 have HB := n1_
 clear n0_ n1_
 (try clear hb)
 (try clear hb2)
 (try clear hk)
 (try clear hi)
 refine hK.out _ _ ⟨(Zc BK102.out 0).trans rfl, (Zc BK102.out 1).trans rfl, (Zc BK102.out 2).trans rfl, (Zc BK102.out 3).trans rfl, (Zc BK102.out 4).trans rfl⟩ (fun hHeld => ?_)
 clear hK K
 refine norm_ (a' := ?_) ?_ ?_
 rotate_left
 ·show Act.put _ (some 4) _ = _
  simp only [Act.put, List.setIfInBounds_toArray, List.set_cons_zero, List.set_cons_succ, Qb, Qc]
  rfl
 refine Kq (i := 5) (N := some 8) (v := ?_) (a' := ?_) #[true, true, true, true, true, true, false] rfl rfl (by kernel_rfl) (fun _ _ _ h => h) (Or.inl ⟨by rfl, ?_⟩) ?_ ?_
 rotate_left
 ·intro w'
  go_simp
  with_reducible rfl
 rotate_left
 ·simp only [Act.put, List.setIfInBounds_toArray, List.set_cons_zero, List.set_cons_succ, Qb, Qc]
  rfl
 refine Kq (i := 6) (N := some 2) (v := ?_) (a' := ?_) #[true, true, true, true, true, true, true] rfl rfl (by kernel_rfl) (fun _ _ _ h => h) (Or.inl ⟨by rfl, ?_⟩) ?_ ?_
 rotate_left
 ·intro w'
  go_simp
  with_reducible rfl
 rotate_left
 ·simp only [Act.put, List.setIfInBounds_toArray, List.set_cons_zero, List.set_cons_succ, Qb, Qc]
  rfl
 refine done_ (by kernel_rfl) ?_
 try go_wp2
 go_ret
 exact ⟨by first | rfl | (simp [errW_none, errW_some] <;> rfl) | (simp [*, errW_none, errW_some] <;> rfl), HB.out⟩
end Go.Proofs.Ytimjccfpobhpeaa.PF
namespace Go.Proofs.Ytimjccfpobhpeaa.PF
open Go.RowKit Go.Proofs.YtimjccfpobhpeaaW.PrintWords Go.Proofs.YtimjccfpobhpeaaW.PrintLast Go.Proofs.YtimjccfpobhpeaaW.PrintMore
set_option linter.unusedVariables false
set_option linter.unusedSimpArgs false
mutual
def Xc.l0 : Nat → Int → List (S82) → Int → Int → List ByteArray → List ByteArray → List (S82) → List (Ky) → List Int → Option (Int)
  | 0, _, _, _, _, _, _, _, _, _ => none
  | k + 1, x3, x11, x12, x13, x105000, x105001, x105002, x105003, x105004 => if x13 < x12 then (if 0 ≤ x13 then (if x13 < (x11.length : Int) then (if ((Xa x11 x13).f2) < 0 then (some 2) else (if ((Xa x11 x13).f2) ≥ x3 then (some 2) else (if ((Xa x11 x13).f3) < 0 then (some 2) else (if ((Xa x11 x13).f3) ≥ x3 then (some 2) else (Xc.l0 k x3 x11 x12 (wrap64 (x13 + 1)) x105000 x105001 x105002 x105003 x105004))))) else (none)) else (none)) else (Xc.l1 k x3 x105004 (x105004.length : Int) 0)
def Xc.l1 : Nat → Int → List Int → Int → Int → Option (Int)
  | 0, _, _, _, _ => none
  | k + 1, x3, x39, x40, x41 => if x41 < x40 then (if 0 ≤ x41 then (if x41 < (x39.length : Int) then (if (rd x39 x41) < 0 then (some 2) else (if (rd x39 x41) ≥ x3 then (some 2) else (Xc.l1 k x3 x39 x40 (wrap64 (x41 + 1))))) else (none)) else (none)) else (some 0)
end
def Xc.f (k : Nat) (l0_0 : List ByteArray) (l0_1 : List ByteArray) (l0_2 : List (S82)) (l0_3 : List (Ky)) (l0_4 : List Int) : Option (Int) := (netlist_Nets.f l0_0 l0_1 l0_2 l0_3 l0_4).bind fun t105 => (Xc.l0 k t105 l0_2 (l0_2.length : Int) 0 l0_0 l0_1 l0_2 l0_3 l0_4)
theorem Xc.mono_l : ∀ k, (∀ y0 y1 y2 y3 y4 y5 y6 y7 y8, Xz (Xc.l0 k y0 y1 y2 y3 y4 y5 y6 y7 y8) (Xc.l0 (k + 1) y0 y1 y2 y3 y4 y5 y6 y7 y8)) ∧ (∀ y0 y1 y2 y3, Xz (Xc.l1 k y0 y1 y2 y3) (Xc.l1 (k + 1) y0 y1 y2 y3))
  | 0 => ⟨fun _ _ _ _ _ _ _ _ _ r h => by simp [Xc.l0] at h, fun _ _ _ _ r h => by simp [Xc.l1] at h⟩
  | k + 1 => by
    obtain ⟨ih0, ih1⟩ := Xc.mono_l k
    refine ⟨?_, ?_⟩
    · intro y0 y1 y2 y3 y4 y5 y6 y7 y8
      unfold Xc.l0
      repeat' first
      | (with_reducible exact ih0 _ _ _ _ _ _ _ _ _)
      | (with_reducible exact ih1 _ _ _ _)
      | (with_reducible exact Xz.refl _)
      | (with_reducible exact Xz.none _)
      | (with_reducible refine Xz.ite ?_ ?_)
      | (with_reducible refine Xz.bind ?_ (fun _ => ?_))
      | exact ih0 _ _ _ _ _ _ _ _ _
      | exact ih1 _ _ _ _
      | exact Xz.none _
      | refine Xz.ite ?_ ?_
      | refine Xz.bind ?_ (fun _ => ?_)
    · intro y0 y1 y2 y3
      unfold Xc.l1
      repeat' first
      | (with_reducible exact ih0 _ _ _ _ _ _ _ _ _)
      | (with_reducible exact ih1 _ _ _ _)
      | (with_reducible exact Xz.refl _)
      | (with_reducible exact Xz.none _)
      | (with_reducible refine Xz.ite ?_ ?_)
      | (with_reducible refine Xz.bind ?_ (fun _ => ?_))
      | exact ih0 _ _ _ _ _ _ _ _ _
      | exact ih1 _ _ _ _
      | exact Xz.none _
      | refine Xz.ite ?_ ?_
      | refine Xz.bind ?_ (fun _ => ?_)
theorem Xc.mono : ∀ a0 a1 a2 a3 a4 k, Xz (Xc.f k a0 a1 a2 a3 a4) (Xc.f (k + 1) a0 a1 a2 a3 a4) := by
  intro a0 a1 a2 a3 a4 k
  obtain ⟨ih0, ih1⟩ := Xc.mono_l k
  unfold Xc.f
  repeat' first
      | (with_reducible exact ih0 _ _ _ _ _ _ _ _ _)
      | (with_reducible exact ih1 _ _ _ _)
      | (with_reducible exact Xz.refl _)
      | (with_reducible exact Xz.none _)
      | (with_reducible refine Xz.ite ?_ ?_)
      | (with_reducible refine Xz.bind ?_ (fun _ => ?_))
      | exact ih0 _ _ _ _ _ _ _ _ _
      | exact ih1 _ _ _ _
      | exact Xz.none _
      | refine Xz.ite ?_ ?_
      | refine Xz.bind ?_ (fun _ => ?_)
set_option maxHeartbeats 8000000 in
set_option maxRecDepth 100000 in
theorem Xc.calls (k : Nat) (A0_0 : Option Addr) (c0_0 : Nat) (l0_0 : List ByteArray) (A0_1 : Option Addr) (c0_1 : Nat) (l0_1 : List ByteArray) (A0_2 : Option Addr) (c0_2 : Nat) (l0_2 : List (S82)) (A0_3 : Option Addr) (c0_3 : Nat) (l0_3 : List (Ky)) (A0_4 : Option Addr) (c0_4 : Nat) (l0_4 : List Int) (r : Int) (w : World) (hr0_0 : Kd.C Kd.string w A0_0 l0_0.length l0_0) (hc0_0 : l0_0.length ≤ c0_0) (hr0_1 : Kd.C Kd.string w A0_1 l0_1.length l0_1) (hc0_1 : l0_1.length ≤ c0_1) (hr0_2 : Kd.C k82 w A0_2 l0_2.length l0_2) (hc0_2 : l0_2.length ≤ c0_2) (hr0_3 : Kd.C k80 w A0_3 l0_3.length l0_3) (hc0_3 : l0_3.length ≤ c0_3) (hr0_4 : Kd.C (Kd.int .i64) w A0_4 l0_4.length l0_4) (hc0_4 : l0_4.length ≤ c0_4) (h : Xc.f k l0_0 l0_1 l0_2 l0_3 l0_4 = some r) :
 Calls Try.prog 34 #[.agg #[.slice A0_0 l0_0.length c0_0, .slice A0_1 l0_1.length c0_1, .slice A0_2 l0_2.length c0_2, .slice A0_3 l0_3.length c0_3, .slice A0_4 l0_4.length c0_4]] w fun e w' => e = .returned (.int .i64 r) ∧ Below w.heap.size w w' := by
 have hu27 := Try.underlying27
 have hu82 := Try.underlying82
 have HR0_0 := Za.mk hr0_0
 have HC0_0 := Za.mk hc0_0
 clear hr0_0 hc0_0
 have HR0_1 := Za.mk hr0_1
 have HC0_1 := Za.mk hc0_1
 clear hr0_1 hc0_1
 have HR0_2 := Za.mk hr0_2
 have HC0_2 := Za.mk hc0_2
 clear hr0_2 hc0_2
 have HR0_3 := Za.mk hr0_3
 have HC0_3 := Za.mk hc0_3
 clear hr0_3 hc0_3
 have HR0_4 := Za.mk hr0_4
 have HC0_4 := Za.mk hc0_4
 clear hr0_4 hc0_4
 have HB := Za.mk (Below.refl w.heap.size w)
 have H : ((netlist_Nets.f l0_0 l0_1 l0_2 l0_3 l0_4).bind fun t105 => (Xc.l0 k t105 l0_2 (l0_2.length : Int) 0 l0_0 l0_1 l0_2 l0_3 l0_4)) = some r := h
 clear h
 replace H := Option.bind_eq_some_iff.mp H
 obtain ⟨t105, A20, H⟩ := H
 replace H : (Xc.l0 k t105 l0_2 (l0_2.length : Int) 0 l0_0 l0_1 l0_2 l0_3 l0_4) = some r := H
 have A2 := Za.mk A20
 clear A20
 have H' := Za.mk H
 clear H
 go_enter Try.func34, Try.ntmps34
 go_wp2_with (first | ((with_reducible refine Xl (N := 1) rfl ?_); refine Xr ?hg (N := 1) ?hd (cs := #[.slice A0_0 l0_0.length c0_0, .slice A0_1 l0_1.length c0_1, .slice A0_2 l0_2.length c0_2, .slice A0_3 l0_3.length c0_3, .slice A0_4 l0_4.length c0_4]) (t := 27) ?hr ?_; (case hd => rfl); (case hg => rfl); (case hr => first | (go_simp; done) | (go_simp; rfl)); intro gb104 hg w3 hbox hb; have n0_ := Za.mk (Zn HB.out hb); have n1_ := Za.mk (hbox); have n2_ := Za.mk ((by rw [hg]; exact (Zm HB.out) : w.heap.size ≤ gb104)); have n3_ := n2_; clear HB; have HB := n0_; have BK104 := n1_; have GW104 := n2_; have GE104 := n3_; clear n0_ n1_ n2_ n3_; clear hb hbox hg; have hcz4_0 : w3.cell? ⟨gb104, 0, none⟩ = some (.slice A0_0 l0_0.length c0_0) := (Zc BK104.out 0).trans rfl; have hcz4_1 : w3.cell? ⟨gb104, 1, none⟩ = some (.slice A0_1 l0_1.length c0_1) := (Zc BK104.out 1).trans rfl; have hcz4_2 : w3.cell? ⟨gb104, 2, none⟩ = some (.slice A0_2 l0_2.length c0_2) := (Zc BK104.out 2).trans rfl; have hcz4_3 : w3.cell? ⟨gb104, 3, none⟩ = some (.slice A0_3 l0_3.length c0_3) := (Zc BK104.out 3).trans rfl; have hcz4_4 : w3.cell? ⟨gb104, 4, none⟩ = some (.slice A0_4 l0_4.length c0_4) := (Zc BK104.out 4).trans rfl; have hfz4_0 := Zb BK104.out 0; have hfz4_1 := Zb BK104.out 1; have hfz4_2 := Zb BK104.out 2; have hfz4_3 := Zb BK104.out 3; have hfz4_4 := Zb BK104.out 4) | ((with_reducible refine Xo (f := 52) rfl ?_); refine Qp (some 9) rfl rfl Try.func52 (by kernel_rfl) rfl #[.agg #[.slice A0_0 l0_0.length c0_0, .slice A0_1 l0_1.length c0_1, .slice A0_2 l0_2.length c0_2, .slice A0_3 l0_3.length c0_3, .slice A0_4 l0_4.length c0_4]] rfl (by (try simp only [List.map_toArray, List.map_cons, List.map_nil]); first | done | rfl | (simp only [List.length_drop, List.length_take]; rfl)) ?_; (with_reducible refine (netlist_Nets.calls _ _ l0_0 _ _ l0_1 _ _ l0_2 _ _ l0_3 _ _ l0_4 t105 _ ?side1 ?side2 ?side3 ?side4 ?side5 ?side6 ?side7 ?side8 ?side9 ?side10 A2.out).mono ?_); (case side1 => exact (Kd.Zk HR0_0.out HB.out)); (case side2 => exact HC0_0.out); (case side3 => exact (Kd.Zk HR0_1.out HB.out)); (case side4 => exact HC0_1.out); (case side5 => exact (Kd.Zk HR0_2.out HB.out)); (case side6 => exact HC0_2.out); (case side7 => exact (Kd.Zk HR0_3.out HB.out)); (case side8 => exact HC0_3.out); (case side9 => exact (Kd.Zk HR0_4.out HB.out)); (case side10 => exact HC0_4.out); rintro e w5 ⟨rfl, hb⟩; refine ⟨_, rfl, ?_⟩; have n0_ := Za.mk (Zq BK104.out hb); have n1_ := Za.mk (Zn HB.out hb); clear BK104; clear HB; have BK104 := n0_; have HB := n1_; clear n0_ n1_; (try clear hb); (try clear hb2); (try clear hk); (try clear hi); have hcz6_0 : w5.cell? ⟨gb104, 0, none⟩ = some (.slice A0_0 l0_0.length c0_0) := (Zc BK104.out 0).trans rfl; have hcz6_1 : w5.cell? ⟨gb104, 1, none⟩ = some (.slice A0_1 l0_1.length c0_1) := (Zc BK104.out 1).trans rfl; have hcz6_2 : w5.cell? ⟨gb104, 2, none⟩ = some (.slice A0_2 l0_2.length c0_2) := (Zc BK104.out 2).trans rfl; have hcz6_3 : w5.cell? ⟨gb104, 3, none⟩ = some (.slice A0_3 l0_3.length c0_3) := (Zc BK104.out 3).trans rfl; have hcz6_4 : w5.cell? ⟨gb104, 4, none⟩ = some (.slice A0_4 l0_4.length c0_4) := (Zc BK104.out 4).trans rfl; have hfz6_0 := Zb BK104.out 0; have hfz6_1 := Zb BK104.out 1; have hfz6_2 := Zb BK104.out 2; have hfz6_3 := Zb BK104.out 3; have hfz6_4 := Zb BK104.out 4))
 go_loopg [13] k (fun kq v13 w' => ∃ (x13_1 : Int), v13 = .int .i64 x13_1 ∧ Za (Xc.l0 kq t105 l0_2 (l0_2.length : Int) x13_1 l0_0 l0_1 l0_2 l0_3 l0_4 = some r) ∧ Za (kq ≤ k) ∧ Za (w'.heap[gb104]? = some (.cells #[(.slice A0_0 l0_0.length c0_0), (.slice A0_1 l0_1.length c0_1), (.slice A0_2 l0_2.length c0_2), (.slice A0_3 l0_3.length c0_3), (.slice A0_4 l0_4.length c0_4)] 27 (0, 0))) ∧ Za (Below w.heap.size w w'))
 case atStart => exact ⟨(0), (by first | rfl | (simp; done) | (simp [*]; done)), H', ⟨Nat.le_refl _⟩, ⟨BK104.out⟩, ⟨HB.out⟩⟩
 case round =>
  clear H'
  try clear hcz4_0
  try clear hcz4_1
  try clear hcz4_2
  try clear hcz4_3
  try clear hcz4_4
  try clear hcz6_0
  try clear hcz6_1
  try clear hcz6_2
  try clear hcz6_3
  try clear hcz6_4
  try clear hfz4_0
  try clear hfz4_1
  try clear hfz4_2
  try clear hfz4_3
  try clear hfz4_4
  try clear hfz6_0
  try clear hfz6_1
  try clear hfz6_2
  try clear hfz6_3
  try clear hfz6_4
  obtain ⟨x13_1, rfl, HA, HK1, BK104, HB⟩ := hrel
  cases gk with
  | zero => exact absurd HA.out (by simp [Xc.l0])
  | succ k1 =>
   have H := HA.out
   clear HA
   simp only [Xc.l0] at H
   by_cases c7 : x13_1 < (l0_2.length : Int)
   ·rw [if_pos c7] at H
    have c7b0 : decide (x13_1 < (l0_2.length : Int)) = true := decide_eq_true c7
    clear c7
    by_cases c8 : 0 ≤ x13_1
    ·rw [if_pos c8] at H
     have c8b0 : decide (0 ≤ x13_1) = true := decide_eq_true c8
     clear c8
     by_cases c9 : x13_1 < (l0_2.length : Int)
     ·rw [if_pos c9] at H
      have c9b0 : decide (x13_1 < (l0_2.length : Int)) = true := decide_eq_true c9
      clear c9
      by_cases c10 : ((Xa l0_2 x13_1).f2) < 0
      ·rw [if_pos c10] at H
       have c10b0 : decide (((Xa l0_2 x13_1).f2) < 0) = true := decide_eq_true c10
       clear c10
       obtain rfl := Option.some.inj H
       have p106 : 0 ≤ (x13_1 : Int) := of_decide_eq_true (by first | (with_reducible assumption) | assumption)
       have q106 : x13_1 < (l0_2.length : Int) := of_decide_eq_true (by first | (with_reducible assumption) | assumption)
       obtain ⟨ad106, e106, hx106_0, hx106_1, hx106_2, hx106_3, hx106_4⟩ := at_T82 HR0_2.out x13_1 p106 q106
       cases e106
       replace hx106_0 := (HB.out.cell (World.block_lt_of_cell? w _ hx106_0)).trans hx106_0
       replace hx106_1 := (HB.out.cell (World.block_lt_of_cell? w _ hx106_1)).trans hx106_1
       replace hx106_2 := (HB.out.cell (World.block_lt_of_cell? w _ hx106_2)).trans hx106_2
       replace hx106_3 := (HB.out.cell (World.block_lt_of_cell? w _ hx106_3)).trans hx106_3
       replace hx106_4 := (HB.out.cell (World.block_lt_of_cell? w _ hx106_4)).trans hx106_4
       replace p106 := eq_true p106
       replace q106 := eq_true q106
       go_wp2_with (((with_reducible refine Xl (N := 5) rfl ?_); refine Xr ?hg (N := 5) ?hd (cs := #[.string (⟨#[]⟩ : ByteArray), .int .i64 0, .int .i64 0, .int .i64 0, .bool false]) (t := 82) ?hr ?_; (case hd => rfl); (case hg => rfl); (case hr => first | (go_simp; done) | (go_simp; rfl)); intro gb107 hg w11 hbox hb; have n0_ := Za.mk (Zq BK104.out hb); have n1_ := Za.mk (Zn HB.out hb); have n2_ := Za.mk (hbox); have n3_ := Za.mk ((by rw [hg]; exact (Zm HB.out) : w.heap.size ≤ gb107)); have n4_ := n3_; have n5_ := Za.mk ((by rw [hg]; exact Nat.ne_of_lt (Xx BK104.out) : gb104 ≠ gb107)); have n6_ := Za.mk ((by rw [hg]; exact Nat.ne_of_gt (Xx BK104.out) : gb107 ≠ gb104)); clear BK104; clear HB; have BK104 := n0_; have HB := n1_; have BK107 := n2_; have GW107 := n3_; have GE107 := n4_; have NB104_107 := n5_; have NB107_104 := n6_; clear n0_ n1_ n2_ n3_ n4_ n5_ n6_; clear hb hbox hg; have hnb12 := NB107_104.out; have hnc12 := NB104_107.out; have hcz13_0 : w11.cell? ⟨gb107, 0, none⟩ = some (.string (⟨#[]⟩ : ByteArray)) := (Zc BK107.out 0).trans rfl; have hcz13_1 : w11.cell? ⟨gb107, 1, none⟩ = some (.int .i64 0) := (Zc BK107.out 1).trans rfl; have hcz13_2 : w11.cell? ⟨gb107, 2, none⟩ = some (.int .i64 0) := (Zc BK107.out 2).trans rfl; have hcz13_3 : w11.cell? ⟨gb107, 3, none⟩ = some (.int .i64 0) := (Zc BK107.out 3).trans rfl; have hcz13_4 : w11.cell? ⟨gb107, 4, none⟩ = some (.bool false) := (Zc BK107.out 4).trans rfl; have hfz13_0 := Zb BK107.out 0; have hfz13_1 := Zb BK107.out 1; have hfz13_2 := Zb BK107.out 2; have hfz13_3 := Zb BK107.out 3; have hfz13_4 := Zb BK107.out 4))
       go_ret
       exact ⟨by first | rfl | (simp [errW_none, errW_some] <;> rfl) | (simp [*, errW_none, errW_some] <;> rfl), by repeat (first | (with_reducible first | exact HB.out | apply Zl | apply Zj | apply Zo | refine Zh ?_ GE104.out | refine Zh ?_ GE107.out) | exact HB.out)⟩
      ·rw [if_neg c10] at H
       have c10b0 : decide (((Xa l0_2 x13_1).f2) < 0) = false := decide_eq_false c10
       clear c10
       by_cases c14 : ((Xa l0_2 x13_1).f2) ≥ t105
       ·rw [if_pos c14] at H
        have c14b0 : decide (t105 ≤ ((Xa l0_2 x13_1).f2)) = true := decide_eq_true c14
        clear c14
        obtain rfl := Option.some.inj H
        have p106 : 0 ≤ (x13_1 : Int) := of_decide_eq_true (by first | (with_reducible assumption) | assumption)
        have q106 : x13_1 < (l0_2.length : Int) := of_decide_eq_true (by first | (with_reducible assumption) | assumption)
        obtain ⟨ad106, e106, hx106_0, hx106_1, hx106_2, hx106_3, hx106_4⟩ := at_T82 HR0_2.out x13_1 p106 q106
        cases e106
        replace hx106_0 := (HB.out.cell (World.block_lt_of_cell? w _ hx106_0)).trans hx106_0
        replace hx106_1 := (HB.out.cell (World.block_lt_of_cell? w _ hx106_1)).trans hx106_1
        replace hx106_2 := (HB.out.cell (World.block_lt_of_cell? w _ hx106_2)).trans hx106_2
        replace hx106_3 := (HB.out.cell (World.block_lt_of_cell? w _ hx106_3)).trans hx106_3
        replace hx106_4 := (HB.out.cell (World.block_lt_of_cell? w _ hx106_4)).trans hx106_4
        replace p106 := eq_true p106
        replace q106 := eq_true q106
        go_wp2_with (((with_reducible refine Xl (N := 5) rfl ?_); refine Xr ?hg (N := 5) ?hd (cs := #[.string (⟨#[]⟩ : ByteArray), .int .i64 0, .int .i64 0, .int .i64 0, .bool false]) (t := 82) ?hr ?_; (case hd => rfl); (case hg => rfl); (case hr => first | (go_simp; done) | (go_simp; rfl)); intro gb107 hg w15 hbox hb; have n0_ := Za.mk (Zq BK104.out hb); have n1_ := Za.mk (Zn HB.out hb); have n2_ := Za.mk (hbox); have n3_ := Za.mk ((by rw [hg]; exact (Zm HB.out) : w.heap.size ≤ gb107)); have n4_ := n3_; have n5_ := Za.mk ((by rw [hg]; exact Nat.ne_of_lt (Xx BK104.out) : gb104 ≠ gb107)); have n6_ := Za.mk ((by rw [hg]; exact Nat.ne_of_gt (Xx BK104.out) : gb107 ≠ gb104)); clear BK104; clear HB; have BK104 := n0_; have HB := n1_; have BK107 := n2_; have GW107 := n3_; have GE107 := n4_; have NB104_107 := n5_; have NB107_104 := n6_; clear n0_ n1_ n2_ n3_ n4_ n5_ n6_; clear hb hbox hg; have hnb16 := NB107_104.out; have hnc16 := NB104_107.out; have hcz17_0 : w15.cell? ⟨gb107, 0, none⟩ = some (.string (⟨#[]⟩ : ByteArray)) := (Zc BK107.out 0).trans rfl; have hcz17_1 : w15.cell? ⟨gb107, 1, none⟩ = some (.int .i64 0) := (Zc BK107.out 1).trans rfl; have hcz17_2 : w15.cell? ⟨gb107, 2, none⟩ = some (.int .i64 0) := (Zc BK107.out 2).trans rfl; have hcz17_3 : w15.cell? ⟨gb107, 3, none⟩ = some (.int .i64 0) := (Zc BK107.out 3).trans rfl; have hcz17_4 : w15.cell? ⟨gb107, 4, none⟩ = some (.bool false) := (Zc BK107.out 4).trans rfl; have hfz17_0 := Zb BK107.out 0; have hfz17_1 := Zb BK107.out 1; have hfz17_2 := Zb BK107.out 2; have hfz17_3 := Zb BK107.out 3; have hfz17_4 := Zb BK107.out 4))
        go_ret
        exact ⟨by first | rfl | (simp [errW_none, errW_some] <;> rfl) | (simp [*, errW_none, errW_some] <;> rfl), by repeat (first | (with_reducible first | exact HB.out | apply Zl | apply Zj | apply Zo | refine Zh ?_ GE104.out | refine Zh ?_ GE107.out) | exact HB.out)⟩
       ·rw [if_neg c14] at H
        have c14b0 : decide (t105 ≤ ((Xa l0_2 x13_1).f2)) = false := decide_eq_false c14
        clear c14
        by_cases c18 : ((Xa l0_2 x13_1).f3) < 0
        ·rw [if_pos c18] at H
         have c18b0 : decide (((Xa l0_2 x13_1).f3) < 0) = true := decide_eq_true c18
         clear c18
         obtain rfl := Option.some.inj H
         have p106 : 0 ≤ (x13_1 : Int) := of_decide_eq_true (by first | (with_reducible assumption) | assumption)
         have q106 : x13_1 < (l0_2.length : Int) := of_decide_eq_true (by first | (with_reducible assumption) | assumption)
         obtain ⟨ad106, e106, hx106_0, hx106_1, hx106_2, hx106_3, hx106_4⟩ := at_T82 HR0_2.out x13_1 p106 q106
         cases e106
         replace hx106_0 := (HB.out.cell (World.block_lt_of_cell? w _ hx106_0)).trans hx106_0
         replace hx106_1 := (HB.out.cell (World.block_lt_of_cell? w _ hx106_1)).trans hx106_1
         replace hx106_2 := (HB.out.cell (World.block_lt_of_cell? w _ hx106_2)).trans hx106_2
         replace hx106_3 := (HB.out.cell (World.block_lt_of_cell? w _ hx106_3)).trans hx106_3
         replace hx106_4 := (HB.out.cell (World.block_lt_of_cell? w _ hx106_4)).trans hx106_4
         replace p106 := eq_true p106
         replace q106 := eq_true q106
         go_wp2_with (((with_reducible refine Xl (N := 5) rfl ?_); refine Xr ?hg (N := 5) ?hd (cs := #[.string (⟨#[]⟩ : ByteArray), .int .i64 0, .int .i64 0, .int .i64 0, .bool false]) (t := 82) ?hr ?_; (case hd => rfl); (case hg => rfl); (case hr => first | (go_simp; done) | (go_simp; rfl)); intro gb107 hg w19 hbox hb; have n0_ := Za.mk (Zq BK104.out hb); have n1_ := Za.mk (Zn HB.out hb); have n2_ := Za.mk (hbox); have n3_ := Za.mk ((by rw [hg]; exact (Zm HB.out) : w.heap.size ≤ gb107)); have n4_ := n3_; have n5_ := Za.mk ((by rw [hg]; exact Nat.ne_of_lt (Xx BK104.out) : gb104 ≠ gb107)); have n6_ := Za.mk ((by rw [hg]; exact Nat.ne_of_gt (Xx BK104.out) : gb107 ≠ gb104)); clear BK104; clear HB; have BK104 := n0_; have HB := n1_; have BK107 := n2_; have GW107 := n3_; have GE107 := n4_; have NB104_107 := n5_; have NB107_104 := n6_; clear n0_ n1_ n2_ n3_ n4_ n5_ n6_; clear hb hbox hg; have hnb20 := NB107_104.out; have hnc20 := NB104_107.out; have hcz21_0 : w19.cell? ⟨gb107, 0, none⟩ = some (.string (⟨#[]⟩ : ByteArray)) := (Zc BK107.out 0).trans rfl; have hcz21_1 : w19.cell? ⟨gb107, 1, none⟩ = some (.int .i64 0) := (Zc BK107.out 1).trans rfl; have hcz21_2 : w19.cell? ⟨gb107, 2, none⟩ = some (.int .i64 0) := (Zc BK107.out 2).trans rfl; have hcz21_3 : w19.cell? ⟨gb107, 3, none⟩ = some (.int .i64 0) := (Zc BK107.out 3).trans rfl; have hcz21_4 : w19.cell? ⟨gb107, 4, none⟩ = some (.bool false) := (Zc BK107.out 4).trans rfl; have hfz21_0 := Zb BK107.out 0; have hfz21_1 := Zb BK107.out 1; have hfz21_2 := Zb BK107.out 2; have hfz21_3 := Zb BK107.out 3; have hfz21_4 := Zb BK107.out 4))
         go_ret
         exact ⟨by first | rfl | (simp [errW_none, errW_some] <;> rfl) | (simp [*, errW_none, errW_some] <;> rfl), by repeat (first | (with_reducible first | exact HB.out | apply Zl | apply Zj | apply Zo | refine Zh ?_ GE104.out | refine Zh ?_ GE107.out) | exact HB.out)⟩
        ·rw [if_neg c18] at H
         have c18b0 : decide (((Xa l0_2 x13_1).f3) < 0) = false := decide_eq_false c18
         clear c18
         by_cases c22 : ((Xa l0_2 x13_1).f3) ≥ t105
         ·rw [if_pos c22] at H
          have c22b0 : decide (t105 ≤ ((Xa l0_2 x13_1).f3)) = true := decide_eq_true c22
          clear c22
          obtain rfl := Option.some.inj H
          have p106 : 0 ≤ (x13_1 : Int) := of_decide_eq_true (by first | (with_reducible assumption) | assumption)
          have q106 : x13_1 < (l0_2.length : Int) := of_decide_eq_true (by first | (with_reducible assumption) | assumption)
          obtain ⟨ad106, e106, hx106_0, hx106_1, hx106_2, hx106_3, hx106_4⟩ := at_T82 HR0_2.out x13_1 p106 q106
          cases e106
          replace hx106_0 := (HB.out.cell (World.block_lt_of_cell? w _ hx106_0)).trans hx106_0
          replace hx106_1 := (HB.out.cell (World.block_lt_of_cell? w _ hx106_1)).trans hx106_1
          replace hx106_2 := (HB.out.cell (World.block_lt_of_cell? w _ hx106_2)).trans hx106_2
          replace hx106_3 := (HB.out.cell (World.block_lt_of_cell? w _ hx106_3)).trans hx106_3
          replace hx106_4 := (HB.out.cell (World.block_lt_of_cell? w _ hx106_4)).trans hx106_4
          replace p106 := eq_true p106
          replace q106 := eq_true q106
          go_wp2_with (((with_reducible refine Xl (N := 5) rfl ?_); refine Xr ?hg (N := 5) ?hd (cs := #[.string (⟨#[]⟩ : ByteArray), .int .i64 0, .int .i64 0, .int .i64 0, .bool false]) (t := 82) ?hr ?_; (case hd => rfl); (case hg => rfl); (case hr => first | (go_simp; done) | (go_simp; rfl)); intro gb107 hg w23 hbox hb; have n0_ := Za.mk (Zq BK104.out hb); have n1_ := Za.mk (Zn HB.out hb); have n2_ := Za.mk (hbox); have n3_ := Za.mk ((by rw [hg]; exact (Zm HB.out) : w.heap.size ≤ gb107)); have n4_ := n3_; have n5_ := Za.mk ((by rw [hg]; exact Nat.ne_of_lt (Xx BK104.out) : gb104 ≠ gb107)); have n6_ := Za.mk ((by rw [hg]; exact Nat.ne_of_gt (Xx BK104.out) : gb107 ≠ gb104)); clear BK104; clear HB; have BK104 := n0_; have HB := n1_; have BK107 := n2_; have GW107 := n3_; have GE107 := n4_; have NB104_107 := n5_; have NB107_104 := n6_; clear n0_ n1_ n2_ n3_ n4_ n5_ n6_; clear hb hbox hg; have hnb24 := NB107_104.out; have hnc24 := NB104_107.out; have hcz25_0 : w23.cell? ⟨gb107, 0, none⟩ = some (.string (⟨#[]⟩ : ByteArray)) := (Zc BK107.out 0).trans rfl; have hcz25_1 : w23.cell? ⟨gb107, 1, none⟩ = some (.int .i64 0) := (Zc BK107.out 1).trans rfl; have hcz25_2 : w23.cell? ⟨gb107, 2, none⟩ = some (.int .i64 0) := (Zc BK107.out 2).trans rfl; have hcz25_3 : w23.cell? ⟨gb107, 3, none⟩ = some (.int .i64 0) := (Zc BK107.out 3).trans rfl; have hcz25_4 : w23.cell? ⟨gb107, 4, none⟩ = some (.bool false) := (Zc BK107.out 4).trans rfl; have hfz25_0 := Zb BK107.out 0; have hfz25_1 := Zb BK107.out 1; have hfz25_2 := Zb BK107.out 2; have hfz25_3 := Zb BK107.out 3; have hfz25_4 := Zb BK107.out 4))
          go_ret
          exact ⟨by first | rfl | (simp [errW_none, errW_some] <;> rfl) | (simp [*, errW_none, errW_some] <;> rfl), by repeat (first | (with_reducible first | exact HB.out | apply Zl | apply Zj | apply Zo | refine Zh ?_ GE104.out | refine Zh ?_ GE107.out) | exact HB.out)⟩
         ·rw [if_neg c22] at H
          have c22b0 : decide (t105 ≤ ((Xa l0_2 x13_1).f3)) = false := decide_eq_false c22
          clear c22
          have H' := Za.mk H
          clear H
          have p106 : 0 ≤ (x13_1 : Int) := of_decide_eq_true (by first | (with_reducible assumption) | assumption)
          have q106 : x13_1 < (l0_2.length : Int) := of_decide_eq_true (by first | (with_reducible assumption) | assumption)
          obtain ⟨ad106, e106, hx106_0, hx106_1, hx106_2, hx106_3, hx106_4⟩ := at_T82 HR0_2.out x13_1 p106 q106
          cases e106
          replace hx106_0 := (HB.out.cell (World.block_lt_of_cell? w _ hx106_0)).trans hx106_0
          replace hx106_1 := (HB.out.cell (World.block_lt_of_cell? w _ hx106_1)).trans hx106_1
          replace hx106_2 := (HB.out.cell (World.block_lt_of_cell? w _ hx106_2)).trans hx106_2
          replace hx106_3 := (HB.out.cell (World.block_lt_of_cell? w _ hx106_3)).trans hx106_3
          replace hx106_4 := (HB.out.cell (World.block_lt_of_cell? w _ hx106_4)).trans hx106_4
          replace p106 := eq_true p106
          replace q106 := eq_true q106
          go_wp2_with (((with_reducible refine Xl (N := 5) rfl ?_); refine Xr ?hg (N := 5) ?hd (cs := #[.string (⟨#[]⟩ : ByteArray), .int .i64 0, .int .i64 0, .int .i64 0, .bool false]) (t := 82) ?hr ?_; (case hd => rfl); (case hg => rfl); (case hr => first | (go_simp; done) | (go_simp; rfl)); intro gb107 hg w26 hbox hb; have n0_ := Za.mk (Zq BK104.out hb); have n1_ := Za.mk (Zn HB.out hb); have n2_ := Za.mk (hbox); have n3_ := Za.mk ((by rw [hg]; exact (Zm HB.out) : w.heap.size ≤ gb107)); have n4_ := n3_; have n5_ := Za.mk ((by rw [hg]; exact Nat.ne_of_lt (Xx BK104.out) : gb104 ≠ gb107)); have n6_ := Za.mk ((by rw [hg]; exact Nat.ne_of_gt (Xx BK104.out) : gb107 ≠ gb104)); clear BK104; clear HB; have BK104 := n0_; have HB := n1_; have BK107 := n2_; have GW107 := n3_; have GE107 := n4_; have NB104_107 := n5_; have NB107_104 := n6_; clear n0_ n1_ n2_ n3_ n4_ n5_ n6_; clear hb hbox hg; have hnb27 := NB107_104.out; have hnc27 := NB104_107.out; have hcz28_0 : w26.cell? ⟨gb107, 0, none⟩ = some (.string (⟨#[]⟩ : ByteArray)) := (Zc BK107.out 0).trans rfl; have hcz28_1 : w26.cell? ⟨gb107, 1, none⟩ = some (.int .i64 0) := (Zc BK107.out 1).trans rfl; have hcz28_2 : w26.cell? ⟨gb107, 2, none⟩ = some (.int .i64 0) := (Zc BK107.out 2).trans rfl; have hcz28_3 : w26.cell? ⟨gb107, 3, none⟩ = some (.int .i64 0) := (Zc BK107.out 3).trans rfl; have hcz28_4 : w26.cell? ⟨gb107, 4, none⟩ = some (.bool false) := (Zc BK107.out 4).trans rfl; have hfz28_0 := Zb BK107.out 0; have hfz28_1 := Zb BK107.out 1; have hfz28_2 := Zb BK107.out 2; have hfz28_3 := Zb BK107.out 3; have hfz28_4 := Zb BK107.out 4))
          go_roundg k1
          case measure => have := HK1.out; omega
          case rel => exact ⟨(wrap64 (x13_1 + 1)), (by first | rfl | (simp; done) | (simp [*]; done)), H', ⟨by have := HK1.out; omega⟩, ⟨by (with_reducible repeat (first | refine Zg ?_ _ | refine Zi ?_ | refine Zf ?_ _)); refine Xp ?_ NB104_107.out _; (with_reducible repeat (first | refine Zg ?_ _ | refine Zi ?_ | refine Zf ?_ _)); refine Xp ?_ NB104_107.out _; (with_reducible repeat (first | refine Zg ?_ _ | refine Zi ?_ | refine Zf ?_ _)); refine Xp ?_ NB104_107.out _; (with_reducible repeat (first | refine Zg ?_ _ | refine Zi ?_ | refine Zf ?_ _)); refine Xp ?_ NB104_107.out _; (with_reducible repeat (first | refine Zg ?_ _ | refine Zi ?_ | refine Zf ?_ _)); refine Xp ?_ NB104_107.out _; (with_reducible repeat (first | refine Zg ?_ _ | refine Zi ?_ | refine Zf ?_ _)); exact BK104.out⟩, ⟨by repeat (first | (with_reducible first | exact HB.out | apply Zl | apply Zj | apply Zo | refine Zh ?_ GE104.out | refine Zh ?_ GE107.out) | exact HB.out)⟩⟩
     ·rw [if_neg c9] at H
      exact absurd H (by simp)
    ·rw [if_neg c8] at H
     exact absurd H (by simp)
   ·rw [if_neg c7] at H
    have c7b0 : decide (x13_1 < (l0_2.length : Int)) = false := decide_eq_false c7
    clear c7
    have H' := Za.mk H
    clear H
    have hcz29_0 : wr.cell? ⟨gb104, 0, none⟩ = some (.slice A0_0 l0_0.length c0_0) := (Zc BK104.out 0).trans rfl
    have hcz29_1 : wr.cell? ⟨gb104, 1, none⟩ = some (.slice A0_1 l0_1.length c0_1) := (Zc BK104.out 1).trans rfl
    have hcz29_2 : wr.cell? ⟨gb104, 2, none⟩ = some (.slice A0_2 l0_2.length c0_2) := (Zc BK104.out 2).trans rfl
    have hcz29_3 : wr.cell? ⟨gb104, 3, none⟩ = some (.slice A0_3 l0_3.length c0_3) := (Zc BK104.out 3).trans rfl
    have hcz29_4 : wr.cell? ⟨gb104, 4, none⟩ = some (.slice A0_4 l0_4.length c0_4) := (Zc BK104.out 4).trans rfl
    have hfz29_0 := Zb BK104.out 0
    have hfz29_1 := Zb BK104.out 1
    have hfz29_2 := Zb BK104.out 2
    have hfz29_3 := Zb BK104.out 3
    have hfz29_4 := Zb BK104.out 4
    go_wp2
    go_loopg [41] k1 (fun kq v41 w' => ∃ (x41_2 : Int), v41 = .int .i64 x41_2 ∧ Za (Xc.l1 kq t105 l0_4 (l0_4.length : Int) x41_2 = some r) ∧ Za (kq ≤ k1) ∧ Za (w'.heap[gb104]? = some (.cells #[(.slice A0_0 l0_0.length c0_0), (.slice A0_1 l0_1.length c0_1), (.slice A0_2 l0_2.length c0_2), (.slice A0_3 l0_3.length c0_3), (.slice A0_4 l0_4.length c0_4)] 27 (0, 0))) ∧ Za (Below w.heap.size w w'))
    case atStart => exact ⟨(0), (by first | rfl | (simp; done) | (simp [*]; done)), H', ⟨Nat.le_refl _⟩, ⟨BK104.out⟩, ⟨HB.out⟩⟩
    case round =>
     clear H'
     try clear c7b0
     try clear hcz29_0
     try clear hcz29_1
     try clear hcz29_2
     try clear hcz29_3
     try clear hcz29_4
     try clear hfz29_0
     try clear hfz29_1
     try clear hfz29_2
     try clear hfz29_3
     try clear hfz29_4
     obtain ⟨x41_2, rfl, HA, HK2, BK104, HB⟩ := hrel
     cases gk with
     | zero => exact absurd HA.out (by simp [Xc.l1])
     | succ k2 =>
      have H := HA.out
      clear HA
      simp only [Xc.l1] at H
      by_cases c30 : x41_2 < (l0_4.length : Int)
      ·rw [if_pos c30] at H
       have c30b0 : decide (x41_2 < (l0_4.length : Int)) = true := decide_eq_true c30
       clear c30
       by_cases c31 : 0 ≤ x41_2
       ·rw [if_pos c31] at H
        have c31b0 : decide (0 ≤ x41_2) = true := decide_eq_true c31
        clear c31
        by_cases c32 : x41_2 < (l0_4.length : Int)
        ·rw [if_pos c32] at H
         have c32b0 : decide (x41_2 < (l0_4.length : Int)) = true := decide_eq_true c32
         clear c32
         by_cases c33 : (rd l0_4 x41_2) < 0
         ·rw [if_pos c33] at H
          have c33b0 : decide ((rd l0_4 x41_2) < 0) = true := decide_eq_true c33
          clear c33
          obtain rfl := Option.some.inj H
          have p108 : 0 ≤ (x41_2 : Int) := of_decide_eq_true (by first | (with_reducible assumption) | assumption)
          have q108 : x41_2 < (l0_4.length : Int) := of_decide_eq_true (by first | (with_reducible assumption) | assumption)
          obtain ⟨ad108, e108, hx108_0⟩ := Kd.at_int HR0_4.out x41_2 p108 q108
          cases e108
          replace hx108_0 := (HB.out.cell (World.block_lt_of_cell? w _ hx108_0)).trans hx108_0
          replace p108 := eq_true p108
          replace q108 := eq_true q108
          go_wp2
          go_ret
          exact ⟨by first | rfl | (simp [errW_none, errW_some] <;> rfl) | (simp [*, errW_none, errW_some] <;> rfl), HB.out⟩
         ·rw [if_neg c33] at H
          have c33b0 : decide ((rd l0_4 x41_2) < 0) = false := decide_eq_false c33
          clear c33
          by_cases c34 : (rd l0_4 x41_2) ≥ t105
          ·rw [if_pos c34] at H
           have c34b0 : decide (t105 ≤ (rd l0_4 x41_2)) = true := decide_eq_true c34
           clear c34
           obtain rfl := Option.some.inj H
           have p108 : 0 ≤ (x41_2 : Int) := of_decide_eq_true (by first | (with_reducible assumption) | assumption)
           have q108 : x41_2 < (l0_4.length : Int) := of_decide_eq_true (by first | (with_reducible assumption) | assumption)
           obtain ⟨ad108, e108, hx108_0⟩ := Kd.at_int HR0_4.out x41_2 p108 q108
           cases e108
           replace hx108_0 := (HB.out.cell (World.block_lt_of_cell? w _ hx108_0)).trans hx108_0
           replace p108 := eq_true p108
           replace q108 := eq_true q108
           go_wp2
           go_ret
           exact ⟨by first | rfl | (simp [errW_none, errW_some] <;> rfl) | (simp [*, errW_none, errW_some] <;> rfl), HB.out⟩
          ·rw [if_neg c34] at H
           have c34b0 : decide (t105 ≤ (rd l0_4 x41_2)) = false := decide_eq_false c34
           clear c34
           have H' := Za.mk H
           clear H
           have p108 : 0 ≤ (x41_2 : Int) := of_decide_eq_true (by first | (with_reducible assumption) | assumption)
           have q108 : x41_2 < (l0_4.length : Int) := of_decide_eq_true (by first | (with_reducible assumption) | assumption)
           obtain ⟨ad108, e108, hx108_0⟩ := Kd.at_int HR0_4.out x41_2 p108 q108
           cases e108
           replace hx108_0 := (HB.out.cell (World.block_lt_of_cell? w _ hx108_0)).trans hx108_0
           replace p108 := eq_true p108
           replace q108 := eq_true q108
           go_wp2
           go_roundg k2
           case measure => have := HK1.out; have := HK2.out; omega
           case rel => exact ⟨(wrap64 (x41_2 + 1)), (by first | rfl | (simp; done) | (simp [*]; done)), H', ⟨by have := HK1.out; have := HK2.out; omega⟩, ⟨BK104.out⟩, ⟨HB.out⟩⟩
        ·rw [if_neg c32] at H
         exact absurd H (by simp)
       ·rw [if_neg c31] at H
        exact absurd H (by simp)
      ·rw [if_neg c30] at H
       have c30b0 : decide (x41_2 < (l0_4.length : Int)) = false := decide_eq_false c30
       clear c30
       obtain rfl := Option.some.inj H
       go_wp2
       go_ret
       exact ⟨by first | rfl | (simp [errW_none, errW_some] <;> rfl) | (simp [*, errW_none, errW_some] <;> rfl), HB.out⟩
end Go.Proofs.Ytimjccfpobhpeaa.PF
