/- Worlds in which all that was there is as it was: for walks over calls that make memory, and for statements whose order is open. -/
import Derived.Test.YtabhafllkhoefaaRep
import Derived.Deep.QuietTactic
import Derived.BigQuiet
import Derived.KernelRfl
import Derived.Laws.StructEq
namespace Go.Proofs.Ytabhafllkhoefaa
open Go.RowKit

/-- A world behind w: all blocks of w are there as they were. -/
structure Under (w : World) where
  val : World
  ok : Below w.heap.size w val

namespace Under
variable {w : World}
@[go_sem] theorem cell (x : Under w) (b o : Nat) (h : b < w.heap.size) : x.val.cell? ⟨b, o, none⟩ = w.cell? ⟨b, o, none⟩ := x.ok.cell (p := ⟨b, o, none⟩) h
@[go_sem] theorem frozen (x : Under w) (b o : Nat) (h : b < w.heap.size) : x.val.frozen? ⟨b, o, none⟩ = w.frozen? ⟨b, o, none⟩ := x.ok.frozen (p := ⟨b, o, none⟩) h
@[go_sem] theorem lt (x : Under w) (b : Nat) (h : b < w.heap.size) : b < x.val.heap.size := Nat.lt_of_lt_of_le h x.ok.size
theorem size (x : Under w) : w.heap.size ≤ x.val.heap.size := x.ok.size
def refl (w : World) : Under w := ⟨w, Below.refl _ _⟩
def alloc (x : Under w) (o : Obj) : Under w := ⟨x.val.alloc o, x.ok.alloc x.ok.size o⟩
def drew (x : Under w) : Under w := ⟨x.val.drew, x.ok.drew⟩
def trans (x : Under w) (y : Under x.val) : Under w := ⟨y.val, x.ok.trans (y.ok.mono x.ok.size)⟩
instance (w : World) : Nonempty (Under w) := ⟨Under.refl w⟩
end Under

@[go_sem] theorem le_heap_of {w : World} {b : Nat} (h : b < w.heap.size) : b ≤ w.heap.size := Nat.le_of_lt h
@[go_sem] theorem lt_heap_succ {w : World} {b : Nat} (h : b < w.heap.size) : b < w.heap.size + 1 := Nat.lt_succ_of_lt h
@[go_sem] theorem lt_heap_succ2 {w : World} {b : Nat} (h : b < w.heap.size) : b < w.heap.size + 1 + 1 := by omega

/-- w1 lies behind w. -/
def Is (w w1 : World) : Prop := ∃ x : Under w, w1 = x.val
theorem Is.of {w w1 : World} (h : Below w.heap.size w w1) : Is w w1 := ⟨⟨w1, h⟩, rfl⟩
theorem Is.below {w w1 : World} (h : Is w w1) : Below w.heap.size w w1 := by obtain ⟨x, rfl⟩ := h; exact x.ok
theorem Is.refl (w : World) : Is w w := ⟨Under.refl w, rfl⟩
theorem Is.val {w : World} (x : Under w) : Is w x.val := ⟨x, rfl⟩
theorem Is.alloc {w w1 : World} (h : Is w w1) (o : Obj) : Is w (w1.alloc o) := by obtain ⟨x, rfl⟩ := h; exact ⟨x.alloc o, rfl⟩
theorem Is.drew {w w1 : World} (h : Is w w1) : Is w w1.drew := by obtain ⟨x, rfl⟩ := h; exact ⟨x.drew, rfl⟩
theorem Is.trans {w w1 w2 : World} (h : Is w w1) (k : Is w1 w2) : Is w w2 := by obtain ⟨x, rfl⟩ := h; obtain ⟨y, rfl⟩ := k; exact ⟨x.trans y, rfl⟩
theorem Is.step {w w1 : World} (h : Is w w1) (y : Under w1) : Is w y.val := h.trans (Is.val y)
theorem Is.setCell {w w1 : World} (h : Is w w1) {p : Addr} (hp : w.heap.size ≤ p.block) (u : Value) : Is w (w1.setCell p u) := Is.of (h.below.setCell hp u)
theorem Is.grown {w w1 w2 : World} {row : Option Nat} (h : Is w w1) (hg : w1.grownBy w2 row) (hr : ∀ k, row = some k → w.heap.size ≤ k) : Is w w2 := Is.of (h.below.grown hg h.below.size hr)

theorem Calls.under {P : Program} {f : FuncId} {args : Array Value} {w : World} {v : Value} (x : Under w)
    (h : Calls P f args x.val fun e w'' => e = .returned v ∧ Is x.val w'') : Calls P f args x.val fun e w'' => e = .returned v ∧ ∃ y : Under w, w'' = y.val :=
  h.mono fun _ _ ⟨he, hw⟩ => ⟨he, (Is.val x).trans hw⟩

/-- A region that draws its order, whose operations read what was there and whose callees may make memory: one walk of the text's order. -/
theorem wp_region_under {P : Program} {id : Nat} {Q : Exit → Act → World → Prop} {a : Act} {w : World} {l : List Oper} (hm : P.follows .mixedOrders = true) (hB : Region.lexB .any l.toArray = true)
    (h : wpQuiet P l.toArray (fun w' => ∃ x : Under w, w' = x.val) (fun a' => ∀ w', (∃ x : Under w, w' = x.val) → Q .normal a' w') l a) : (Code.region id l.toArray true).wp P Q a w :=
  wp_region_quiet (C := fun w' => ∃ x : Under w, w' = x.val) hm hB ⟨⟨_, (Below.refl _ _).drew⟩, rfl⟩ (by simpa using h)

theorem Rep.Sl.is {α : Type} {d : Rep α} {w w1 : World} {F : Nat → Prop} {A : Option Addr} {cap : Nat} {xs : List α} (h : Rep.Sl d w F A cap xs) (hw : Is w w1) : Rep.Sl d w1 F A cap xs := h.later hw.below
theorem Rep.is {α : Type} (d : Rep α) {w w1 : World} {F : Nat → Prop} {x : α} {cs : List Value} (h : d.rel w F x cs) (hw : Is w w1) : d.rel w1 F x cs := d.later hw.below h
/-- '==' of two structs: field by field. -/
theorem eqFields_step {P : Program} {d : Nat} {xs ys : Array Value} {f : Field} {fs : List Field} {a b : Value} {r s : Bool} {w : World} (hn : f.name ≠ "_")
    (ha : (part f.type xs f.offset).run P w = .ok a w) (hb : (part f.type ys f.offset).run P w = .ok b w) (he : (Op.equalIn d f.type a b).run P w = .ok r w)
    (hr : (Op.eqFields d xs ys fs).run P w = .ok s w) : (Op.eqFields d xs ys (f :: fs)).run P w = .ok (r && s) w := by
  unfold Op.eqFields
  rw [if_pos hn]
  simp only [Sem.run_bind, ha, hb, he, Result.andThen_ok]
  cases r with
  | false => simp
  | true => simp [hr]
theorem eqFields_last {P : Program} {d : Nat} {xs ys : Array Value} {f : Field} {a b : Value} {r : Bool} {w : World} (hn : f.name ≠ "_")
    (ha : (part f.type xs f.offset).run P w = .ok a w) (hb : (part f.type ys f.offset).run P w = .ok b w) (he : (Op.equalIn d f.type a b).run P w = .ok r w) : (Op.eqFields d xs ys [f]).run P w = .ok r w := by
  have h := eqFields_step hn ha hb he (show (Op.eqFields d xs ys []).run P w = .ok true w by simp [Op.eqFields])
  rwa [Bool.and_true] at h
theorem eqStruct {P : Program} {d : Nat} {xs ys : Array Value} {r : Bool} {w : World} {t : TypeId} {fs : Array Field} (hu : P.underlying t = some (.struct fs)) (hp : P.stoodInHeld t = false)
    (h : (Op.eqFields d xs ys fs.toList).run P w = .ok r w) : (Op.equalIn (d + 1) t (.agg xs) (.agg ys)).run P w = .ok r w := by
  have hf : P.fieldsOf t = fs := by simp [Program.fieldsOf, hu]
  rw [run_equalIn_struct w d t xs ys (by rw [hf]; exact hu) hp, hf]
  exact h

theorem ret_int {k : IntKind} {a b : Int} (h : a = b) : Ending.returned (.int k a) = .returned (.int k b) := by rw [h]
theorem ret_bool {a b : Bool} (h : a = b) : Ending.returned (.bool a) = .returned (.bool b) := by rw [h]
theorem ret_val {a b : Value} (h : a = b) : Ending.returned a = .returned b := by rw [h]
end Go.Proofs.Ytabhafllkhoefaa
