/- The reference's check of a line: it answers as the program's does. -/
import Derived.Test.YtabhafllkhoefaaWord
namespace Go.Proofs.Ytabhafllkhoefaa
open Go.RowKit
set_option maxRecDepth 100000

set_option maxHeartbeats 4000000 in
theorem lineFault_calls (l : Line) (e : Int) (w : World) (F : Nat → Prop) (A2 A3 : Option Addr) (c2 c3 : Nat) (hl : LineOk l) (h2 : Rep.Sl (Rep.int .i64) w F A2 c2 l.At) (h3 : Rep.Sl kBits w F A3 c3 l.Val) (_he : InK .i64 e) :
    Calls Try.prog 45 #[.agg #[.string l.Name, .int .i64 l.W, .slice A2 l.At.length c2, .slice A3 l.Val.length c3], .int .i64 e] w fun r w' => r = .returned (.int .i64 (lineFault l e)) ∧ Is w w' := by
  have hu := Try.underlying50
  have hu2 := Try.underlying41
  have hm2 := h2.len
  have hm3 := h3.len
  go_enter Try.func45, Try.ntmps45
  go_wp2_with (go_at_call 76; refine (word_calls _ _ hl.1).mono ?_; rintro e w' ⟨rfl, ⟨x0, rfl⟩⟩)
  all_goals try (go_ret; exact ⟨ret_int (by unfold lineFault; grind), ((Is.refl w).alloc _).step x0⟩)
  have q1 : ((l.At.length : Int) == 0) = false := by grind
  have q2 : ((l.At.length : Int) != (l.Val.length : Int)) = false := by grind
  have hlen : l.At.length = l.Val.length := by grind
  have hlen2 := Lib.hid hlen
  have hname : named l.Name = true := by grind
  have hW1 : 1 ≤ l.W := by grind
  have hW2 : l.W ≤ 64 := by grind
  have d1 : decide (l.W < 1) = false := by grind
  have d2 : decide (64 < l.W) = false := by grind
  have hat : Hid (l.At ≠ []) := by apply Lib.hid; grind
  clear hlen
  have q3 : decide ((l.At.length : Int) < 1) = false := by grind
  have q4 : ((l.Val.length : Int) != (l.At.length : Int)) = false := by grind
  simp only [q3, q4, hname, d1, d2, Bool.or_self]
  go_loopg [5, 6, 7, 36] l.At.length (fun d z _ _ t wr => ∃ (i : Nat) (zz : Int) (x : Under (w.alloc (.cells #[.string l.Name, .int .i64 l.W, .slice A2 l.At.length c2, .slice A3 l.Val.length c3] 50))), z = .int .i64 zz ∧ Aside (i = 0 → zz = -1) ∧ Aside (∀ j, i = j + 1 → l.At[j]? = some zz) ∧ i + d = l.At.length ∧ t = .int .i64 i ∧ wr = x.val ∧ Aside (lineFrom l e d i = lineFault l e))
  case atStart => exact ⟨0, -1, x0, rfl, (show Aside (_ → _) from fun _ => rfl), by unfold Aside; omega, by omega, rfl, rfl, by unfold Aside lineFault; have h5 := hat.out; have h6 := hlen2.out; have h7 : l.At.length ≠ 0 := fun h => h5 (List.eq_nil_of_length_eq_zero h); rw [if_neg (by rw [hname]; decide), if_neg (by omega), if_neg (by omega)]⟩
  case round =>
    obtain ⟨i, zz, x, rfl, hz0, hz, hi, rfl, rfl, hI⟩ := hrel
    have hlen : l.At.length = l.Val.length := hlen2.out
    have hi2 := Lib.hid hi
    by_cases hlt : i < l.At.length
    · obtain ⟨t, ht⟩ := get_ex hlt
      obtain ⟨v, hv⟩ := get_ex (xs := l.Val) (i := i) (by omega)
      obtain ⟨b2, o2, rfl, hb2, hct, hkt⟩ := Rep.rowInt h2.row ht
      obtain ⟨b3, o3, rfl, hb3, hcv1, hcv2, hcv3, hkv⟩ := Rep.rowBits h3.row hv
      obtain ⟨gk, rfl⟩ : ∃ m, gk = m + 1 := ⟨gk - 1, by omega⟩
      have hlv : (i : Int) < (l.Val.length : Int) := by omega
      have hbx2 : b2 < x.val.heap.size := x.lt _ (by simp; omega)
      have hbx3 : b3 < x.val.heap.size := x.lt _ (by simp; omega)
      have hgx : w.heap.size < x.val.heap.size := x.lt _ (by simp)
      have hbl2 : b2 ≤ w.heap.size := by omega
      have hbl3 : b3 ≤ w.heap.size := by omega
      clear hlen hi
      cases i with
      | zero =>
        have hst := Lib.hid ((lineFrom_zero (e := e) (d := gk) ht hv).symm.trans hI.out)
        clear hI
        simp only [Nat.zero_mul, Nat.add_zero] at hct hcv1 hcv2 hcv3
        obtain rfl : zz = -1 := hz0.out rfl
        clear hz0 hz
        go_wp2
        all_goals try (go_ret; exact ⟨ret_int (by rw [← hst.out]; grind), ((Is.refl w).alloc _).step x⟩)
        by_cases cb : bitsCheck v = 0
        · have cb1 : (bitsCheck v != 0) = false := by simp [cb]
          have cb2 := Lib.hid cb
          clear cb
          refine wp_region_under (by kernel_rfl) (by kernel_rfl) ?_
          repeat (go_big_quiet_step ((go_at_call 73; exact Calls.under _ (bitsCheck_calls v _ hkv))))
          refine wpQuiet_nil ?_
          rintro _ ⟨y, rfl⟩
          go_wp2
          all_goals try (go_ret; exact ⟨ret_int (by rw [← hst.out]; grind), (((Is.refl w).alloc _).step x).step y⟩)
          refine wp_region_under (by kernel_rfl) (by kernel_rfl) ?_
          repeat (go_big_quiet_step (fail))
          refine wpQuiet_nil ?_
          rintro _ ⟨z, rfl⟩
          go_wp2
          go_roundg gk
          case measure => omega
          case rel => exact ⟨1, 0, (x.trans y).trans z, rfl, (show Aside (1 = 0 → _) from fun h => by omega), (show Aside (∀ j, 1 = j + 1 → l.At[j]? = some 0) from fun j hj => by rw [show j = 0 by omega, ht]; grind), by have := hi2.out; omega, by go_num, rfl, by unfold Aside; rw [← hst.out]; grind⟩
        · have cb1 : (bitsCheck v != 0) = true := by simp [cb]
          refine wp_region_under (by kernel_rfl) (by kernel_rfl) ?_
          repeat (go_big_quiet_step ((go_at_call 73; exact Calls.under _ (bitsCheck_calls v _ hkv))))
          refine wpQuiet_nil ?_
          rintro _ ⟨y, rfl⟩
          go_wp2
          go_ret
          exact ⟨ret_int (by rw [← hst.out]; grind), (((Is.refl w).alloc _).step x).step y⟩
      | succ j =>
        obtain ⟨p, hp⟩ := get_ex (xs := l.At) (i := j) (by omega)
        obtain ⟨q, hq⟩ := get_ex (xs := l.Val) (i := j) (by omega)
        obtain rfl : zz = p := by have := hz.out j rfl; rw [hp] at this; exact (Option.some.inj this).symm
        clear hz hz0
        obtain ⟨_, hcp, hkp⟩ := Rep.rowIntAt h2.row hp
        obtain ⟨_, hcq1, hcq2, hcq3, hkq⟩ := Rep.rowBitsAt h3.row hq
        have hst := Lib.hid ((lineFrom_succ (e := e) (d := gk) ht hp hv hq).symm.trans hI.out)
        clear hI
        go_wp2
        all_goals try (go_ret; exact ⟨ret_int (by rw [← hst.out]; grind), ((Is.refl w).alloc _).step x⟩)
        by_cases cb : bitsCheck v = 0
        · have cb1 : (bitsCheck v != 0) = false := by simp [cb]
          have cb2 := Lib.hid cb
          have cj : decide ((0 : Int) < (j : Int) + 1) = true := by simp
          clear cb
          refine wp_region_under (by kernel_rfl) (by kernel_rfl) ?_
          repeat (go_big_quiet_step ((go_at_call 73; exact Calls.under _ (bitsCheck_calls v _ hkv))))
          refine wpQuiet_nil ?_
          rintro _ ⟨y, rfl⟩
          go_wp2
          all_goals try (go_ret; exact ⟨ret_int (by rw [← hst.out]; grind), (((Is.refl w).alloc _).step x).step y⟩)
          refine wp_region_under (by kernel_rfl) (by kernel_rfl) ?_
          repeat (go_big_quiet_step (fail))
          refine wpQuiet_nil ?_
          rintro _ ⟨z, rfl⟩
          go_wp2
          · go_ret
            exact ⟨ret_int (by have hb : v.beq q = true := by unfold Bits.beq; grind
                               rw [← hst.out, if_neg (by omega), if_neg (by have := cb2.out; omega), if_neg (by grind), if_pos hb]), ((((Is.refl w).alloc _).step x).step y).step z⟩
          · have hb : Hid (v.beq q = false) := Lib.hid (by unfold Bits.beq; grind)
            go_roundg gk
            case measure => omega
            case rel => exact ⟨j + 2, t, (x.trans y).trans z, rfl, (show Aside (j + 2 = 0 → _) from fun h => by omega), (show Aside (∀ m, j + 2 = m + 1 → l.At[m]? = some t) from fun m hm => by rw [show m = j + 1 by omega]; exact ht), by have := hi2.out; omega, by go_num, rfl, by
              unfold Aside; rw [← hst.out, if_neg (by omega), if_neg (by have := cb2.out; omega), if_neg (by grind), if_neg (by rw [hb.out]; decide)]⟩
        · have cb1 : (bitsCheck v != 0) = true := by simp [cb]
          refine wp_region_under (by kernel_rfl) (by kernel_rfl) ?_
          repeat (go_big_quiet_step ((go_at_call 73; exact Calls.under _ (bitsCheck_calls v _ hkv))))
          refine wpQuiet_nil ?_
          rintro _ ⟨y, rfl⟩
          go_wp2
          go_ret
          exact ⟨ret_int (by rw [← hst.out]; grind), (((Is.refl w).alloc _).step x).step y⟩
    · obtain rfl : i = l.At.length := by omega
      obtain rfl : gk = 0 := by omega
      go_wp2
      go_ret
      exact ⟨ret_int (by rw [← hI.out]; rfl), ((Is.refl w).alloc _).step x⟩
end Go.Proofs.Ytabhafllkhoefaa
