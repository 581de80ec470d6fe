/- The line with a name; the value of a line at a time. -/
import Derived.Test.YtabhafllkhoefaaIndex
import Derived.Laws.ResultCell
import Derived.Laws.Rows
namespace Go.Proofs.Ytabhafllkhoefaa
open Go.RowKit
set_option maxRecDepth 100000

theorem idxFrom_bound (s : ByteArray) : ∀ (ls : List Line) (i : Int), 0 ≤ i → idxFrom s ls i = -1 ∨ (i ≤ idxFrom s ls i ∧ idxFrom s ls i < i + ls.length)
  | [], _, _ => .inl rfl
  | l :: ls, i, h => by
    rw [idxFrom]
    split
    · right; simp only [List.length_cons]; omega
    · rcases idxFrom_bound s ls (i + 1) (by omega) with h1 | h1
      · exact .inl h1
      · right; simp only [List.length_cons]; omega
def findErr (x : Wave) (s : ByteArray) : Int := if waveFault x ≠ 0 then waveFault x else if idxFrom s x.Lines 0 < 0 then 7 else 0

theorem results_cell_tmp_row {P : Program} {fn : Func} {p u : Tmp} {ty : TypeId} (h : fn.results = #[.cell p ty, .tmp u]) (tmps : Array Value) (w : World) (g : Nat) (t : TypeId) (cs : Array Value) (fr : Nat × Nat) (d : TypeDesc)
    (hp : tmps.getD p undef = .pointer (some ⟨g, 0, none⟩)) (hg : w.heap[g]? = some (.cells cs t fr))
    (hu : P.underlying ty = some d) (hd : (match d with | .struct _ | .array _ _ => true | _ => false) = true) (hi : (P.info? ty).map (·.size) = some cs.size) :
    (results fn tmps).run P w = .ok (.tuple #[.agg cs, tmps.getD u undef]) w := by
  rw [results_cell_tmp h, hp]
  simp [asAddr, run_loadVar_row w g t ty cs fr d hg hu hd hi]
theorem heap_alloc3_new (w : World) (A B C : Obj) : (((w.alloc A).alloc B).alloc C).heap[w.heap.size + 1 + 1]? = some C := by
  have := heap_alloc_new ((w.alloc A).alloc B) C
  simpa using this
theorem setCell4_heap (w : World) (b : Nat) {t : TypeId} (a0 a1 a2 a3 u0 u1 u2 u3 : Value) (h : w.heap[b]? = some (.cells #[a0, a1, a2, a3] t (0, 0))) :
    ((((w.setCell ⟨b, 0, none⟩ u0).setCell ⟨b, 1, none⟩ u1).setCell ⟨b, 2, none⟩ u2).setCell ⟨b, 3, none⟩ u3).heap[b]? = some (.cells #[u0, u1, u2, u3] t (0, 0)) := by
  have h1 := heap_setCell_same w b 0 _ _ u0 h
  have h2 := heap_setCell_same _ b 1 _ _ u1 h1
  have h3 := heap_setCell_same _ b 2 _ _ u2 h2
  have h4 := heap_setCell_same _ b 3 _ _ u3 h3
  exact h4

set_option maxHeartbeats 4000000 in
theorem find_calls (x : Wave) (s : ByteArray) (A : Option Addr) (c : Nat) (w : World) (F : Nat → Prop) (he : InK .i64 x.End) (h : Rep.Sl kLine w F A c x.Lines) :
    Calls Try.prog 57 #[.agg #[.int .i64 x.End, .slice A x.Lines.length c], .string s] w fun e w' =>
      ((findErr x s ≠ 0 ∧ e = .returned (.tuple #[.agg #[.string ⟨#[]⟩, .int .i64 0, .slice none 0 0, .slice none 0 0], .int .i64 (findErr x s)])) ∨
       (findErr x s = 0 ∧ waveFault x = 0 ∧ ∃ (l : Line) (A2 : Option Addr) (c2 : Nat) (A3 : Option Addr) (c3 : Nat), x.Lines[(idxFrom s x.Lines 0).toNat]? = some l ∧ LineOk l ∧ Rep.Sl (Rep.int .i64) w F A2 c2 l.At ∧ Rep.Sl kBits w F A3 c3 l.Val ∧
         e = .returned (.tuple #[.agg #[.string l.Name, .int .i64 l.W, .slice A2 l.At.length c2, .slice A3 l.Val.length c3], .int .i64 0]))) ∧ Is w w' := by
  have hu := Try.underlying50
  have hu2 := Try.underlying24
  have hm := h.len
  by_cases hwf : waveFault x = 0
  · have hwf2 := Lib.hid hwf
    rcases idxFrom_bound s x.Lines 0 (by omega) with hi | hi
    · have hfe : Hid (findErr x s = 7) := Lib.hid (by unfold findErr; rw [if_neg (by omega), if_pos (by omega)])
      go_enter Try.func57, Try.ntmps57
      go_wp2_with (first
        | (go_at_call 17; refine (check_calls x A c _ F he (h.is ((((Is.refl w).alloc _).alloc _).alloc _))).mono ?_; rintro e w1 ⟨rfl, ⟨x1, rfl⟩⟩; have hx1 : w.heap.size + 1 < x1.val.heap.size := x1.lt _ (by simp); have hx2 : w.heap.size + 1 + 1 < x1.val.heap.size := x1.lt _ (by simp); have hx0 : w.heap.size < x1.val.heap.size := x1.lt _ (by simp; omega))
        | (go_at_call 79; refine (indexName2_calls x.Lines s A c (w.heap.size + 1) _ F (h.is (((((Is.refl w).alloc _).alloc _).alloc _).step x1)) hx1 (by go_simp)).mono ?_; rintro e w2 ⟨rfl, ⟨x2, rfl⟩⟩))
      have hrow := setCell4_heap _ (w.heap.size + 1 + 1) _ _ _ _ (.string ⟨#[]⟩) (.int .i64 0) (.slice none 0 0) (.slice none 0 0) ((x2.ok.block _ hx2).trans ((x1.ok.block _ (by simp)).trans (heap_alloc3_new w _ _ _)))
      ((try simp only [Exit.inBlock, Exit.then]); refine bodyPost_ret (results_cell_tmp_row rfl _ _ (w.heap.size + 1 + 1) _ _ _ _ rfl hrow Try.underlying50 rfl (by kernel_rfl)) rfl ?_)
      refine ⟨.inl ⟨by rw [hfe.out]; decide, by rw [hfe.out]; rfl⟩, ?_⟩
      exact (((((((((Is.refl w).alloc _).alloc _).alloc _).step x1).step x2).setCell (by simp; omega) _).setCell (by simp; omega) _).setCell (by simp; omega) _).setCell (by simp; omega) _
    · have hfe : Hid (findErr x s = 0) := Lib.hid (by unfold findErr; rw [if_neg (by omega), if_neg (by omega)])
      have hi0 := hi.1
      have hi1 := hi.2
      have hlt : (idxFrom s x.Lines 0).toNat < x.Lines.length := by omega
      obtain ⟨l, hl⟩ := get_ex hlt
      obtain ⟨b, o, A2, c2, A3, c3, rfl, hb, hc0, hc1, hc2, hc3, hk, hs2, hs3⟩ := Rep.rowLine h.row hl
      have hi2 : idxFrom s x.Lines 0 < (x.Lines.length : Int) := by omega
      have hl2 := Lib.hid hl
      have hbl : b ≤ w.heap.size := by omega
      have hb3 : b < w.heap.size + 1 + 1 + 1 := by omega
      have k3 : ∀ (A B C : Obj) (o' : Nat), (((w.alloc A).alloc B).alloc C).cell? ⟨b, o', none⟩ = w.cell? ⟨b, o', none⟩ := fun A B C o' => ((((Is.refl w).alloc A).alloc B).alloc C).below.cell (p := ⟨b, o', none⟩) hb
      clear hi hl hlt hi1
      go_enter Try.func57, Try.ntmps57
      go_wp2_with (first
        | (go_at_call 17; refine (check_calls x (some ⟨b, o, none⟩) c _ F he (h.is ((((Is.refl w).alloc _).alloc _).alloc _))).mono ?_; rintro e w1 ⟨rfl, ⟨x1, rfl⟩⟩; have hbx : b < x1.val.heap.size := x1.lt _ (by simp; omega); have hx1 : w.heap.size + 1 < x1.val.heap.size := x1.lt _ (by simp); have hx2 : w.heap.size + 1 + 1 < x1.val.heap.size := x1.lt _ (by simp); have hx0 : w.heap.size < x1.val.heap.size := x1.lt _ (by simp; omega))
        | (go_at_call 79; refine (indexName2_calls x.Lines s (some ⟨b, o, none⟩) c (w.heap.size + 1) _ F (h.is (((((Is.refl w).alloc _).alloc _).alloc _).step x1)) hx1 (by go_simp)).mono ?_; rintro e w2 ⟨rfl, ⟨x2, rfl⟩⟩); have hx20 := x2.lt _ hx0; have hx22 := x2.lt _ hx2)
      have hrow := setCell4_heap _ (w.heap.size + 1 + 1) _ _ _ _ (.string l.Name) (.int .i64 l.W) (.slice A2 l.At.length c2) (.slice A3 l.Val.length c3) ((x2.ok.block _ hx2).trans ((x1.ok.block _ (by simp)).trans (heap_alloc3_new w _ _ _)))
      ((try simp only [Exit.inBlock, Exit.then]); refine bodyPost_ret (results_cell_tmp_row rfl _ _ (w.heap.size + 1 + 1) _ _ _ _ rfl hrow Try.underlying50 rfl (by kernel_rfl)) rfl ?_)
      refine ⟨.inr ⟨hfe.out, hwf2.out, l, A2, c2, A3, c3, hl2.out, hk, hs2, hs3, rfl⟩, ?_⟩
      exact (((((((((Is.refl w).alloc _).alloc _).alloc _).step x1).step x2).setCell (by simp; omega) _).setCell (by simp; omega) _).setCell (by simp; omega) _).setCell (by simp; omega) _
  · have hb : (waveFault x != 0) = true := by simpa using hwf
    have hfe : Hid (findErr x s = waveFault x ∧ waveFault x ≠ 0) := Lib.hid ⟨by unfold findErr; rw [if_pos hwf], hwf⟩
    clear hwf
    go_enter Try.func57, Try.ntmps57
    go_wp2_with (go_at_call 17; refine (check_calls x A c _ F he (h.is ((((Is.refl w).alloc _).alloc _).alloc _))).mono ?_; rintro e w1 ⟨rfl, ⟨x1, rfl⟩⟩; have hx1 : w.heap.size + 1 < x1.val.heap.size := x1.lt _ (by simp); have hx2 : w.heap.size + 1 + 1 < x1.val.heap.size := x1.lt _ (by simp); have hx0 : w.heap.size < x1.val.heap.size := x1.lt _ (by simp; omega))
    have hrow := setCell4_heap _ (w.heap.size + 1 + 1) _ _ _ _ (.string ⟨#[]⟩) (.int .i64 0) (.slice none 0 0) (.slice none 0 0) ((x1.ok.block _ (by simp)).trans (heap_alloc3_new w _ _ _))
    ((try simp only [Exit.inBlock, Exit.then]); refine bodyPost_ret (results_cell_tmp_row rfl _ _ (w.heap.size + 1 + 1) _ _ _ _ rfl hrow Try.underlying50 rfl (by kernel_rfl)) rfl ?_)
    refine ⟨.inl ⟨by rw [hfe.out.1]; exact hfe.out.2, by rw [hfe.out.1]; rfl⟩, ?_⟩
    exact ((((((((Is.refl w).alloc _).alloc _).alloc _).step x1).setCell (by simp; omega) _).setCell (by simp; omega) _).setCell (by simp; omega) _).setCell (by simp; omega) _
end Go.Proofs.Ytabhafllkhoefaa
