/- Joined by this session's own program out of its texts: Faults PFx29 PFx30 HeadP SplitL Heads PFx31. -/
import Derived.Test.YtimjccfpobhpeaaL5
import Derived.Test.YtimjccfpobhpeaaL1
import Derived.Test.YtimjccfpobhpeaaL3
import Derived.Test.YtimjccfpobhpeaaL2
namespace Go.Proofs.Ytimjccfpobhpeaa
open Go.RowKit Go.Proofs.YtimjccfpobhpeaaW.PrintWords Go.Proofs.Ytimjccfpobhpeaa.PF
set_option maxRecDepth 100000
def allFrom : List (List Load) → Nat → List S29
  | [], _ => []
  | r :: rs, n => (if n < 2 then [] else netF n r.length) ++ allFrom rs (n + 1)
theorem allFrom_list : ∀ (rs : List (List Load)) (n : Nat), 2 ≤ n → allFrom rs n = listFrom rs n
  | [], _, _ => rfl
  | r :: rs, n, h => by rw [allFrom, listFrom, if_neg (by omega), allFrom_list rs (n + 1) (by omega)]
theorem allFrom_zero (rows : List (List Load)) : allFrom rows 0 = listFrom (rows.drop 2) 2 := by
  match rows with
  | [] => rfl
  | [_] => rfl
  | _ :: _ :: rs => simp only [allFrom, List.drop]; exact allFrom_list rs 2 (by omega)
def whichOf (k : Nat) : List Int := if k = 0 then [] else if k = 1 then [-1] else -1 :: (List.range k).map fun i : Nat => (i : Int)
theorem netF_which (net : Int) (k : Nat) : netF net k = (whichOf k).flatMap (pairF net) := by
  have hb : ∀ s, bodyF net k s = if 0 < k ∧ (s = 0 ∨ 1 < k) then pairF net ((s : Int) - 1) else [] := fun s => rfl
  unfold netF whichOf
  by_cases h0 : k = 0
  · subst h0
    rfl
  rw [if_neg h0]
  by_cases h1 : k = 1
  · subst h1
    rfl
  rw [if_neg h1]
  have e : bodyF net k = fun s : Nat => pairF net ((s : Int) - 1) := funext fun s => by rw [hb, if_pos ⟨by omega, .inr (by omega)⟩]
  rw [e, List.range'_succ, List.flatMap_cons, List.flatMap_cons, List.flatMap_map, List.range'_eq_map_range, List.flatMap_map]
  congr 1
  congr 1
  funext s
  congr 1
  omega
theorem whichOf_len (k : Nat) : (whichOf k).length ≤ k + 1 := by
  unfold whichOf
  split
  · simp
  · split <;> simp
set_option maxHeartbeats 16000000 in
theorem faults_walk (A0 A1 A2 A3 A4 : Option Addr) (n0 n1 n2 n3 n4 d0 d1 d2 d3 d4 : Nat) (er : Int) (w : World) (rows : List (List Load)) (hrl : rows.length ≤ 1000000000) (hrr : ∀ r ∈ rows, r.length ≤ 1000000000) (hfit : (listFrom (rows.drop 2) 2).length ≤ 1000000000)
    (HM : ∀ W, Below w.heap.size w W → Calls Try.prog 27 #[.agg #[.slice A0 n0 d0, .slice A1 n1 d1, .slice A2 n2 d2, .slice A3 n3 d3, .slice A4 n4 d4]] W fun e w' => ∃ v, e = .returned (.tuple #[v, .int .i64 er]) ∧ Kd.S (Kd.slice 77 kLoad) 75 w' W.heap.size (fun _ => True) v rows ∧ Below W.heap.size W w') :
    Calls Try.prog 17 #[.agg #[.slice A0 n0 d0, .slice A1 n1 d1, .slice A2 n2 d2, .slice A3 n3 d3, .slice A4 n4 d4]] w fun e w' => ∃ v, e = .returned v ∧
      Kd.R k29 29 w' w.heap.size (fun _ => True) v (listFrom (rows.drop 2) 2) ∧ Below w.heap.size w w' := by
  have hu := Try.underlying27
  have huF := Try.underlying29
  have huI := Try.underlying25
  have huB := Try.underlying53
  have hW0 : Below w.heap.size w (w.alloc (.cells #[.slice A0 n0 d0, .slice A1 n1 d1, .slice A2 n2 d2, .slice A3 n3 d3, .slice A4 n4 d4] 27)) := (Below.refl _ _).alloc (Nat.le_refl _) _
  go_enter Try.func17, Try.ntmps17
  go_wp2_with (go_at_call 27; refine (HM _ hW0).mono ?_; rintro e w1 ⟨vR, rfl, hS1, hB1⟩; have hw1 := hW0.trans (hB1.mono (by simp)); obtain ⟨AR, cR, rfl, _, hR1⟩ := Kd.S_reads hS1)
  clear hS1 hB1 hW0
  have hmR := (kd_len hR1).2
  have hT := allFrom_zero rows
  go_loopg [5, 6, 7, 8, 9, 11, 13, 21] rows.length (fun d vO _ _ _ _ _ _ t wr => ∃ (i : Nat) (y : Under w1) (xs : List S29), t = .int .i64 i ∧ wr = y.val ∧ Aside (i + d = rows.length) ∧ Kd.R k29 29 y.val w1.heap.size (fun _ => True) vO xs ∧ Aside (xs ++ allFrom (rows.drop i) i = listFrom (rows.drop 2) 2))
  case atStart => exact ⟨0, Under.refl _, [], rfl, rfl, by show 0 + rows.length = rows.length; omega, Kd.R_nil _ _ _ _ _, hT⟩
  case round =>
    clear hT
    obtain ⟨i, y, xs, rfl, rfl, hi, hO, hI⟩ := hrel
    have hys := y.size
    by_cases hlt : i < rows.length
    · obtain ⟨row, hrow⟩ := get_ex hlt
      obtain ⟨b, ob, Al, cl, rfl, hb, hcr, hCl⟩ := kd_rows hR1 hrow
      obtain ⟨gO, rfl⟩ : ∃ m, gk = m + 1 := ⟨gk - 1, by have := hi.out; omega⟩
      have hml := (kd_len hCl).2
      have hrlen := hrr row (List.mem_of_getElem? hrow)
      rw [drop_cons hrow, allFrom] at hI
      have hih := Lib.hid hi.out
      have hIh := Lib.hid hI.out
      have hOh := Lib.hid hO
      clear hi hI hrow hO
      by_cases c2 : i < 2
      · have q1 : decide ((i : Int) < 2) = true := decide_eq_true (by omega)
        rw [if_pos c2, List.nil_append] at hIh
        clear c2
        go_wp2
        go_roundg gO
        case measure => have := hih.out; omega
        case rel => exact ⟨i + 1, y, xs, by go_num, rfl, by show i + 1 + gO = rows.length; have := hih.out; omega, hOh.out, hIh.out⟩
      · rw [if_neg c2] at hIh
        have q1 : decide ((i : Int) < 2) = false := decide_eq_false (by omega)
        by_cases c3 : row.length = 0
        · have q2 : ((row.length : Int) == 0) = true := by rw [beq_iff_eq]; omega
          have e0 : netF i row.length = [] := by rw [netF_which, c3]; rfl
          rw [e0, List.nil_append] at hIh
          clear c2 e0 c3
          go_wp2
          go_roundg gO
          case measure => have := hih.out; omega
          case rel => exact ⟨i + 1, y, xs, by go_num, rfl, by show i + 1 + gO = rows.length; have := hih.out; omega, hOh.out, hIh.out⟩
        · have q2 : ((row.length : Int) == 0) = false := by rw [beq_eq_false_iff_ne]; omega
          clear c2
          have hl0 : (y.val.alloc (.cells #[.int .i64 (-1)] 3)).heap.size = y.val.heap.size + 1 := by simp
          have hW1 : Kd.R (Kd.int .i64) 3 (y.val.alloc (.cells #[.int .i64 (-1)] 3)) w1.heap.size (fun _ => True) (.slice (some ⟨y.val.heap.size, 0, none⟩) 1 1) [-1] := Kd.R_of_own (own_lit y.val w1.heap.size 3 .i64 [-1] y.size (by decide)) (fun _ _ => trivial)
          have hO1 : Kd.R k29 29 (y.val.alloc (.cells #[.int .i64 (-1)] 3)) w1.heap.size (fun _ => True) _ xs := Kd.R_alloc hOh.out _
          obtain ⟨ws, hws⟩ : ∃ ws, whichOf row.length = ws := ⟨_, rfl⟩
          have hlen2 : ws.length ≤ row.length + 1 := hws ▸ whichOf_len _
          have hI2 := Lib.hid (show xs ++ ((ws.drop 0).flatMap (pairF i) ++ allFrom (rows.drop (i + 1)) (i + 1)) = listFrom (rows.drop 2) 2 by rw [List.drop_zero, ← hws, ← netF_which]; exact hIh.out)
          clear hIh hOh
          by_cases c4 : row.length = 1
          · have q3 : decide ((row.length : Int) > 1) = false := decide_eq_false (by omega)
            have hwz : ws = [-1] := by rw [← hws, c4]; rfl
            obtain ⟨y2, hy2⟩ : ∃ y2 : Under w1, y.val.alloc (.cells #[.int .i64 (-1)] 3) = y2.val := ⟨y.alloc _, rfl⟩
            obtain ⟨gw, hgw⟩ : ∃ gw, y.val.heap.size = gw := ⟨_, rfl⟩
            rw [hy2, hgw] at hW1
            rw [hy2] at hO1
            have hLh := Lib.hid (show ws.length = 1 by rw [hwz]; rfl)
            rw [← hwz] at hW1
            have hO2h := Lib.hid hO1
            have hW2h := Lib.hid hW1
            clear hW1 hO1 c4 hws hl0 hwz
            go_wp2
            have hO2 := hO2h.out
            have hW2 := hW2h.out
            clear hO2h hW2h
            have hmW : ((1 : Nat) : Int) ≤ 1000000001 := by omega
            go_wp2
            clear hlen2
            go_loopg [5, 11, 13, 49] 1 (fun d vO _ _ t wr => ∃ (m : Nat) (y : Under w1) (xs : List S29), t = .int .i64 m ∧ wr = y.val ∧ Aside (m + d = 1) ∧ Kd.R k29 29 y.val w1.heap.size (fun _ => True) vO xs ∧ Kd.R (Kd.int .i64) 3 y.val w1.heap.size (fun _ => True) (.slice (some ⟨gw, 0, none⟩) 1 1) ws ∧ Aside (xs ++ ((ws.drop m).flatMap (pairF i) ++ allFrom (rows.drop (i + 1)) (i + 1)) = listFrom (rows.drop 2) 2))
            case atStart => exact ⟨0, y2, xs, rfl, rfl, by show 0 + 1 = 1; omega, hO2, hW2, hI2.out⟩
            case round =>
              clear hO2 hW2 hI2
              obtain ⟨m, y, xs, rfl, rfl, hm, hO, hW, hI⟩ := hrel
              have hys := y.size
              by_cases hlm : m < 1
              · obtain ⟨x, hx⟩ := get_ex (xs := ws) (i := m) (by rw [hLh.out]; exact hlm)
                obtain ⟨gI, rfl⟩ : ∃ m, gk = m + 1 := ⟨gk - 1, by have := hm.out; omega⟩
                have hgwl := Kd.R_lt hW gw (by simp [Value.ownBlock])
                have hcx := (Kd.R_celln (0 : Int) hW (m : Int) (by omega) (by omega)).1
                rw [Int.toNat_natCast, show rdOf (0 : Int) ws (m : Int) = x by simp [rdOf, hx]] at hcx
                rw [drop_cons hx, List.flatMap_cons, List.append_assoc] at hI
                have hmh := Lib.hid hm.out
                have hIh := Lib.hid hI.out
                have hOh := Lib.hid hO
                have hWh := Lib.hid hW
                have hBb : (y.val.alloc (.cells #[.bool false, .bool true] 4)).heap[y.val.heap.size]? = some (.cells #[.bool false, .bool true] 4 (0, 0)) := heap_alloc_new _ _
                have hgbl : y.val.heap.size < (y.alloc (.cells #[.bool false, .bool true] 4)).val.heap.size := by show _ < (y.val.alloc _).heap.size; simp
                clear hm hI hO hW hx
                go_wp2
                obtain ⟨gb, hgb⟩ : ∃ gb, y.val.heap.size = gb := ⟨_, rfl⟩
                rw [hgb] at hBb hgbl ⊢
                go_loopg [5, 13, 55] 2 (fun d vO _ t wr => ∃ (q : Nat) (y : Under w1) (xs : List S29), t = .int .i64 q ∧ wr = y.val ∧ Aside (q + d = 2) ∧ Kd.R k29 29 y.val w1.heap.size (fun _ => True) vO xs ∧ Kd.R (Kd.int .i64) 3 y.val w1.heap.size (fun _ => True) (.slice (some ⟨gw, 0, none⟩) 1 1) ws ∧ y.val.heap[gb]? = some (.cells #[.bool false, .bool true] 4 (0, 0)) ∧
                  Aside (xs ++ (([false, true].drop q).map (fun one => (⟨(i : Int), x, one⟩ : S29)) ++ ((ws.drop (m + 1)).flatMap (pairF i) ++ allFrom (rows.drop (i + 1)) (i + 1))) = listFrom (rows.drop 2) 2))
                case atStart => exact ⟨0, y.alloc _, xs, rfl, rfl, rfl, Kd.R_alloc hOh.out _, Kd.R_alloc hWh.out _, hBb, hIh.out⟩
                case round =>
                  clear hOh hWh hBb hIh hgbl hgb hys hcx hgwl
                  obtain ⟨q, y, xs, rfl, rfl, hq, hO, hW, hBb, hI⟩ := hrel
                  have hys := y.size
                  have hgbl : gb < y.val.heap.size := (Array.getElem?_eq_some_iff.1 hBb).1
                  by_cases hlq : q < 2
                  · obtain ⟨one, hone⟩ := get_ex (xs := [false, true]) (i := q) hlq
                    obtain ⟨gQ, rfl⟩ : ∃ m, gk = m + 1 := ⟨gk - 1, by have := hq.out; omega⟩
                    have hcb : y.val.cell? ⟨gb, q, none⟩ = some (.bool one) := by
                      rw [cell_of_row _ _ q _ _ _ hBb]
                      match q, hlq, hone with
                      | 0, _, h => cases h; rfl
                      | 1, _, h => cases h; rfl
                    rw [drop_cons hone, List.map_cons] at hI
                    have hqh := Lib.hid hq.out
                    have hIh := Lib.hid hI.out
                    have hxl : (xs.length + 1) * 24 ≤ 140737488355328 := by
                      have h1 := congrArg List.length hI.out
                      rw [List.length_append, List.length_append, List.length_cons] at h1
                      omega
                    have hBbh := Lib.hid hBb
                    clear hq hI hone hBb
                    go_wp2_with ((with_reducible refine gate_builtin (b := .append) (xs := #[.tmp 59, .tmp 64]) rfl ?_); at_builtin; refine Kd.R_append k29 (w0 := w1) w1.heap.size rfl (.tmp 59) (.tmp 64) 39 29 (.agg #[(.int .i64 0), (.int .i64 0), (.bool false)]) 24 rfl Try.underlying39 info29 rfl (by decide) (by decide) _ xs ⟨(i : Int), x, one⟩ [.int .i64 i, .int .i64 x, .bool one] (fun _ => True) (fun _ => False) rfl rfl (k29_mkM _ _ _ ⟨(i : Int), x, one⟩) (fun _ h => h.elim) (fun _ _ => trivial) hO y.ok y.size hxl ?_; intro v2 w2 ho hb hg hat)
                    have hW2 := Kd.R_over' hW (Kd.R_typed hO) (by decide) hg
                    have hB2 := blk_grown hBbh.out hg (fun e => by
                      obtain ⟨cs, hc⟩ := Kd.R_typed hO gb e.symm
                      rw [hBbh.out] at hc
                      injection hc with hc
                      injection hc with _ hc
                      exact absurd hc (by decide))
                    go_roundg gQ
                    case measure => have := hqh.out; omega
                    case rel =>
                      refine ⟨q + 1, ⟨w2, hb⟩, xs ++ [⟨(i : Int), x, one⟩], by go_num, rfl, by show q + 1 + gQ = 2; have := hqh.out; omega, ho, hW2, hB2, ?_⟩
                      have := hIh.out
                      show xs ++ [_] ++ _ = _
                      rw [List.append_assoc]
                      exact this
                  · obtain rfl : q = 2 := by have := hq.out; omega
                    have hIh := Lib.hid hI.out
                    clear hq hI
                    go_wp2
                    go_roundg gI
                    case measure => have := hmh.out; omega
                    case rel => exact ⟨m + 1, y, xs, by go_num, rfl, by show m + 1 + gI = 1; have := hmh.out; omega, hO, hW, hIh.out⟩
              · have hdm : ws.drop m = [] := List.drop_eq_nil_of_le (by rw [hLh.out]; omega)
                rw [hdm, List.flatMap_nil, List.nil_append] at hI
                have hIh := Lib.hid hI.out
                clear hm hI hW hdm
                go_wp2
                go_roundg gO
                case measure => have := hih.out; omega
                case rel => exact ⟨i + 1, y, xs, by go_num, rfl, by show i + 1 + gO = rows.length; have := hih.out; omega, hO, hIh.out⟩
          · have q3 : decide ((row.length : Int) > 1) = true := decide_eq_true (by omega)
            have hwz := Lib.hid (show ws = -1 :: (List.range row.length).map (fun i : Nat => (i : Int)) by rw [← hws]; unfold whichOf; rw [if_neg c3, if_neg c4])
            have hLh := Lib.hid (show ws.length = row.length + 1 by rw [hwz.out]; simp)
            have hO1h := Lib.hid hO1
            have hW1h := Lib.hid hW1
            clear hO1 hW1 c3 c4 hws hl0
            go_wp2
            go_loopg [8, 9, 39] row.length (fun d vW _ t wr => ∃ (j : Nat) (y : Under w1), t = .int .i64 j ∧ wr = y.val ∧ Aside (j + d = row.length) ∧ Kd.R k29 29 y.val w1.heap.size (fun _ => True) _ xs ∧ Kd.R (Kd.int .i64) 3 y.val w1.heap.size (fun _ => True) vW (-1 :: (List.range j).map (fun i : Nat => (i : Int))))
            case atStart => exact ⟨0, y.alloc _, rfl, rfl, by show 0 + row.length = row.length; omega, hO1h.out, hW1h.out⟩
            case round =>
              clear hO1h hW1h hys
              obtain ⟨j, y, rfl, rfl, hj, hO, hW⟩ := hrel
              have hys := y.size
              by_cases hlj : j < row.length
              · obtain ⟨gJ, rfl⟩ : ∃ m, gk = m + 1 := ⟨gk - 1, by have := hj.out; omega⟩
                have hjh := Lib.hid hj.out
                have hxl : ((-1 :: (List.range j).map (fun i : Nat => (i : Int))).length + 1) * 8 ≤ 140737488355328 := by simp; omega
                clear hj
                go_wp2_with ((with_reducible refine gate_builtin (b := .append) (xs := #[.tmp 42, .tmp 44]) rfl ?_); at_builtin; refine Kd.R_append (Kd.int .i64) (w0 := w1) w1.heap.size rfl (.tmp 42) (.tmp 44) 25 3 (.int .i64 0) 8 rfl Try.underlying25 info3 rfl (by decide) (by decide) _ (-1 :: (List.range j).map (fun i : Nat => (i : Int))) (j : Int) [.int .i64 j] (fun _ => True) (fun _ => False) rfl rfl rfl (fun _ h => h.elim) (fun _ _ => trivial) hW y.ok y.size hxl ?_; intro v2 w2 ho hb hg hat)
                have hO2 := Kd.R_over' hO (Kd.R_typed hW) (by decide) hg
                go_roundg gJ
                case measure => have := hjh.out; omega
                case rel =>
                  refine ⟨j + 1, ⟨w2, hb⟩, by go_num, rfl, by show j + 1 + gJ = row.length; have := hjh.out; omega, hO2, ?_⟩
                  rw [List.range_succ, List.map_append]
                  exact ho
              · obtain rfl : j = row.length := by have := hj.out; omega
                clear hj
                rw [← hwz.out] at hW
                obtain ⟨gw, cW, rfl, _, _, _⟩ := Kd.R_form hW (by rw [hLh.out]; omega)
                obtain ⟨wl, hwl⟩ : ∃ wl, row.length + 1 = wl := ⟨_, rfl⟩
                rw [hwl] at hLh hlen2
                rw [hLh.out] at hW ⊢
                have hO2 := hO
                have hW2 := hW
                have hwb : wl ≤ 1000000001 := by omega
                clear hO hW hwl
                have hmW : ((wl : Nat) : Int) ≤ 1000000001 := by omega
                go_wp2
                clear hlen2
                go_loopg [5, 11, 13, 49] wl (fun d vO _ _ t wr => ∃ (m : Nat) (y : Under w1) (xs : List S29), t = .int .i64 m ∧ wr = y.val ∧ Aside (m + d = wl) ∧ Kd.R k29 29 y.val w1.heap.size (fun _ => True) vO xs ∧ Kd.R (Kd.int .i64) 3 y.val w1.heap.size (fun _ => True) (.slice (some ⟨gw, 0, none⟩) wl cW) ws ∧ Aside (xs ++ ((ws.drop m).flatMap (pairF i) ++ allFrom (rows.drop (i + 1)) (i + 1)) = listFrom (rows.drop 2) 2))
                case atStart => exact ⟨0, y, xs, rfl, rfl, by show 0 + wl = wl; omega, hO2, hW2, hI2.out⟩
                case round =>
                  clear hO2 hW2 hI2
                  obtain ⟨m, y, xs, rfl, rfl, hm, hO, hW, hI⟩ := hrel
                  have hys := y.size
                  by_cases hlm : m < wl
                  · obtain ⟨x, hx⟩ := get_ex (xs := ws) (i := m) (by rw [hLh.out]; exact hlm)
                    obtain ⟨gI, rfl⟩ : ∃ m, gk = m + 1 := ⟨gk - 1, by have := hm.out; omega⟩
                    have hgwl := Kd.R_lt hW gw (by simp [Value.ownBlock])
                    have hcx := (Kd.R_celln (0 : Int) hW (m : Int) (by omega) (by omega)).1
                    rw [Int.toNat_natCast, show rdOf (0 : Int) ws (m : Int) = x by simp [rdOf, hx]] at hcx
                    rw [drop_cons hx, List.flatMap_cons, List.append_assoc] at hI
                    have hmh := Lib.hid hm.out
                    have hIh := Lib.hid hI.out
                    have hOh := Lib.hid hO
                    have hWh := Lib.hid hW
                    have hBb : (y.val.alloc (.cells #[.bool false, .bool true] 4)).heap[y.val.heap.size]? = some (.cells #[.bool false, .bool true] 4 (0, 0)) := heap_alloc_new _ _
                    have hgbl : y.val.heap.size < (y.alloc (.cells #[.bool false, .bool true] 4)).val.heap.size := by show _ < (y.val.alloc _).heap.size; simp
                    clear hm hI hO hW hx
                    go_wp2
                    obtain ⟨gb, hgb⟩ : ∃ gb, y.val.heap.size = gb := ⟨_, rfl⟩
                    rw [hgb] at hBb hgbl ⊢
                    go_loopg [5, 13, 55] 2 (fun d vO _ t wr => ∃ (q : Nat) (y : Under w1) (xs : List S29), t = .int .i64 q ∧ wr = y.val ∧ Aside (q + d = 2) ∧ Kd.R k29 29 y.val w1.heap.size (fun _ => True) vO xs ∧ Kd.R (Kd.int .i64) 3 y.val w1.heap.size (fun _ => True) (.slice (some ⟨gw, 0, none⟩) wl cW) ws ∧ y.val.heap[gb]? = some (.cells #[.bool false, .bool true] 4 (0, 0)) ∧
                      Aside (xs ++ (([false, true].drop q).map (fun one => (⟨(i : Int), x, one⟩ : S29)) ++ ((ws.drop (m + 1)).flatMap (pairF i) ++ allFrom (rows.drop (i + 1)) (i + 1))) = listFrom (rows.drop 2) 2))
                    case atStart => exact ⟨0, y.alloc _, xs, rfl, rfl, rfl, Kd.R_alloc hOh.out _, Kd.R_alloc hWh.out _, hBb, hIh.out⟩
                    case round =>
                      clear hOh hWh hBb hIh hgbl hgb hys hcx hgwl
                      obtain ⟨q, y, xs, rfl, rfl, hq, hO, hW, hBb, hI⟩ := hrel
                      have hys := y.size
                      have hgbl : gb < y.val.heap.size := (Array.getElem?_eq_some_iff.1 hBb).1
                      by_cases hlq : q < 2
                      · obtain ⟨one, hone⟩ := get_ex (xs := [false, true]) (i := q) hlq
                        obtain ⟨gQ, rfl⟩ : ∃ m, gk = m + 1 := ⟨gk - 1, by have := hq.out; omega⟩
                        have hcb : y.val.cell? ⟨gb, q, none⟩ = some (.bool one) := by
                          rw [cell_of_row _ _ q _ _ _ hBb]
                          match q, hlq, hone with
                          | 0, _, h => cases h; rfl
                          | 1, _, h => cases h; rfl
                        rw [drop_cons hone, List.map_cons] at hI
                        have hqh := Lib.hid hq.out
                        have hIh := Lib.hid hI.out
                        have hxl : (xs.length + 1) * 24 ≤ 140737488355328 := by
                          have h1 := congrArg List.length hI.out
                          rw [List.length_append, List.length_append, List.length_cons] at h1
                          omega
                        have hBbh := Lib.hid hBb
                        clear hq hI hone hBb
                        go_wp2_with ((with_reducible refine gate_builtin (b := .append) (xs := #[.tmp 59, .tmp 64]) rfl ?_); at_builtin; refine Kd.R_append k29 (w0 := w1) w1.heap.size rfl (.tmp 59) (.tmp 64) 39 29 (.agg #[(.int .i64 0), (.int .i64 0), (.bool false)]) 24 rfl Try.underlying39 info29 rfl (by decide) (by decide) _ xs ⟨(i : Int), x, one⟩ [.int .i64 i, .int .i64 x, .bool one] (fun _ => True) (fun _ => False) rfl rfl (k29_mkM _ _ _ ⟨(i : Int), x, one⟩) (fun _ h => h.elim) (fun _ _ => trivial) hO y.ok y.size hxl ?_; intro v2 w2 ho hb hg hat)
                        have hW2 := Kd.R_over' hW (Kd.R_typed hO) (by decide) hg
                        have hB2 := blk_grown hBbh.out hg (fun e => by
                          obtain ⟨cs, hc⟩ := Kd.R_typed hO gb e.symm
                          rw [hBbh.out] at hc
                          injection hc with hc
                          injection hc with _ hc
                          exact absurd hc (by decide))
                        go_roundg gQ
                        case measure => have := hqh.out; omega
                        case rel =>
                          refine ⟨q + 1, ⟨w2, hb⟩, xs ++ [⟨(i : Int), x, one⟩], by go_num, rfl, by show q + 1 + gQ = 2; have := hqh.out; omega, ho, hW2, hB2, ?_⟩
                          have := hIh.out
                          show xs ++ [_] ++ _ = _
                          rw [List.append_assoc]
                          exact this
                      · obtain rfl : q = 2 := by have := hq.out; omega
                        have hIh := Lib.hid hI.out
                        clear hq hI
                        go_wp2
                        go_roundg gI
                        case measure => have := hmh.out; omega
                        case rel => exact ⟨m + 1, y, xs, by go_num, rfl, by show m + 1 + gI = wl; have := hmh.out; omega, hO, hW, hIh.out⟩
                  · have hdm : ws.drop m = [] := List.drop_eq_nil_of_le (by rw [hLh.out]; omega)
                    rw [hdm, List.flatMap_nil, List.nil_append] at hI
                    have hIh := Lib.hid hI.out
                    clear hm hI hW hdm
                    go_wp2
                    go_roundg gO
                    case measure => have := hih.out; omega
                    case rel => exact ⟨i + 1, y, xs, by go_num, rfl, by show i + 1 + gO = rows.length; have := hih.out; omega, hO, hIh.out⟩
    · obtain rfl : i = rows.length := by have := hi.out; omega
      rw [drop_end, allFrom, List.append_nil] at hI
      have hIh := Lib.hid hI.out
      have hOh := Lib.hid hO
      clear hi hI hO
      go_wp2
      go_ret
      exact ⟨_, rfl, hIh.out ▸ Kd.R_lower hOh.out hw1.size, hw1.trans (y.ok.mono hw1.size)⟩
end Go.Proofs.Ytimjccfpobhpeaa
namespace Go.Proofs.Ytimjccfpobhpeaa.PF
open Go.RowKit Go.Proofs.YtimjccfpobhpeaaW.PrintWords Go.Proofs.YtimjccfpobhpeaaW.PrintLast Go.Proofs.YtimjccfpobhpeaaW.PrintMore
set_option linter.unusedVariables false
set_option linter.unusedSimpArgs false
def faultsOk (rows : List (List S77)) : Bool := decide (rows.length ≤ 1000000000) && rows.all (fun r => decide (r.length ≤ 1000000000)) && decide ((listFrom (rows.drop 2) 2).length ≤ 1000000000)
def maskref2_Faults.f (k : Nat) (l0_0 : List ByteArray) (l0_1 : List ByteArray) (l0_2 : List (S82)) (l0_3 : List (S80)) (l0_4 : List Int) : Option ((List (S29))) := (netlist_Loads.f k l0_0 l0_1 l0_2 l0_3 l0_4).bind fun r => if faultsOk r.1 = true then some (listFrom (r.1.drop 2) 2) else none
theorem maskref2_Faults.calls (k : Nat) (A0_0 : Option Addr) (c0_0 : Nat) (l0_0 : List ByteArray) (A0_1 : Option Addr) (c0_1 : Nat) (l0_1 : List ByteArray) (A0_2 : Option Addr) (c0_2 : Nat) (l0_2 : List (S82)) (A0_3 : Option Addr) (c0_3 : Nat) (l0_3 : List (S80)) (A0_4 : Option Addr) (c0_4 : Nat) (l0_4 : List Int) (r : List (S29)) (w : World) (hr0_0 : Kd.C Kd.string w A0_0 l0_0.length l0_0) (hc0_0 : l0_0.length ≤ c0_0) (hr0_1 : Kd.C Kd.string w A0_1 l0_1.length l0_1) (hc0_1 : l0_1.length ≤ c0_1) (hr0_2 : Kd.C k82 w A0_2 l0_2.length l0_2) (hc0_2 : l0_2.length ≤ c0_2) (hr0_3 : Kd.C k80 w A0_3 l0_3.length l0_3) (hc0_3 : l0_3.length ≤ c0_3) (hr0_4 : Kd.C (Kd.int .i64) w A0_4 l0_4.length l0_4) (hc0_4 : l0_4.length ≤ c0_4) (h : maskref2_Faults.f k l0_0 l0_1 l0_2 l0_3 l0_4 = some r) :
    Calls Try.prog 17 #[.agg #[.slice A0_0 l0_0.length c0_0, .slice A0_1 l0_1.length c0_1, .slice A0_2 l0_2.length c0_2, .slice A0_3 l0_3.length c0_3, .slice A0_4 l0_4.length c0_4]] w fun e w' => ∃ v0_ : Value, e = .returned (v0_) ∧ Kd.R k29 29 w' w.heap.size (fun _ => True) v0_ r ∧ Below w.heap.size w w' := by
  unfold maskref2_Faults.f at h
  obtain ⟨⟨rows, e1⟩, hM, h2⟩ := Option.bind_eq_some_iff.1 h
  by_cases hc : faultsOk rows = true
  · rw [if_pos hc] at h2
    obtain rfl := Option.some.inj h2
    unfold faultsOk at hc
    simp only [Bool.and_eq_true, decide_eq_true_eq, List.all_eq_true] at hc
    obtain ⟨⟨c1, c2⟩, c3⟩ := hc
    exact faults_walk A0_0 A0_1 A0_2 A0_3 A0_4 l0_0.length l0_1.length l0_2.length l0_3.length l0_4.length c0_0 c0_1 c0_2 c0_3 c0_4 e1 w rows c1 c2 c3 (fun W hW => netlist_Loads.calls k A0_0 c0_0 l0_0 A0_1 c0_1 l0_1 A0_2 c0_2 l0_2 A0_3 c0_3 l0_3 A0_4 c0_4 l0_4 rows e1 W (Kd.C_below hr0_0 hW) hc0_0 (Kd.C_below hr0_1 hW) hc0_1 (Kd.C_below hr0_2 hW) hc0_2 (Kd.C_below hr0_3 hW) hc0_3 (Kd.C_below hr0_4 hW) hc0_4 hM)
  · rw [if_neg hc] at h2
    cases h2
end Go.Proofs.Ytimjccfpobhpeaa.PF
namespace Go.Proofs.Ytimjccfpobhpeaa.PF
open Go.RowKit Go.Proofs.YtimjccfpobhpeaaW.PrintWords Go.Proofs.YtimjccfpobhpeaaW.PrintLast Go.Proofs.YtimjccfpobhpeaaW.PrintMore
set_option linter.unusedVariables false
set_option linter.unusedSimpArgs false
attribute [local go_sem high] eqA29
def fault_Fault_44.l0 : Nat → List (S29) → Int → Int → Int → Int → Bool → Option (Int)
  | 0, _, _, _, _, _, _ => none
  | k + 1, x0, x7, x8, x278000, x278001, x278002 => if x8 < x7 then (if 0 ≤ x8 then (if x8 < (x0.length : Int) then (if (x278000 == ((rd_T29 x0 x8).f0) && (x278001 == ((rd_T29 x0 x8).f1) && (x278002 == ((rd_T29 x0 x8).f2)))) = true then (some x8) else (fault_Fault_44.l0 k x0 x7 (wrap64 (x8 + 1)) x278000 x278001 x278002)) else (none)) else (none)) else (some (-1))
def fault_Fault_44.f (k : Nat) (l0 : List (S29)) (a1_0 : Int) (a1_1 : Int) (a1_2 : Bool) : Option (Int) := fault_Fault_44.l0 k l0 (l0.length : Int) 0 a1_0 a1_1 a1_2
set_option maxHeartbeats 8000000 in
set_option maxRecDepth 100000 in
theorem fault_Fault_44.calls (k : Nat) (A0 : Option Addr) (c0 : Nat) (l0 : List (S29)) (a1_0 : Int) (a1_1 : Int) (a1_2 : Bool) (r : Int) (w : World) (hr0 : Kd.C k29 w A0 l0.length l0) (hc0 : l0.length ≤ c0) (h : fault_Fault_44.f k l0 a1_0 a1_1 a1_2 = some r) :
    Calls Try.prog 44 #[.slice A0 l0.length c0, .agg #[.int .i64 a1_0, .int .i64 a1_1, .bool a1_2]] w fun e w' => e = .returned (.int .i64 r) ∧ Below w.heap.size w w' := by
  have hu29 := Try.underlying29
  have HR0 := Aside0.mk hr0
  have HC0 := Aside0.mk hc0
  clear hr0 hc0
  have HB := Aside0.mk (Below.refl w.heap.size w)
  have H : (fault_Fault_44.l0 k l0 (l0.length : Int) 0 a1_0 a1_1 a1_2) = some r := h
  clear h
  have H' := Aside0.mk H
  clear H
  go_enter Try.func44, Try.ntmps44
  go_wp2_with (first | ((with_reducible refine gate_dst (N := 3) rfl ?_); refine box_event ?hg (N := 3) ?hd (cs := #[.int .i64 a1_0, .int .i64 a1_1, .bool a1_2]) (t := 29) ?hr ?_; (case hd => rfl); (case hg => rfl); (case hr => first | (go_simp; done) | (go_simp; rfl)); intro gb277 hg w3 hbox hb; have n0_ := Aside0.mk (below_step (by repeat (first | (with_reducible first | exact HB.out | apply below_alloc | apply pw_below_drewN | apply below_drew1) | exact HB.out)) hb); have n1_ := Aside0.mk (hbox); have n2_ := Aside0.mk ((by rw [hg]; exact (below_size (by repeat (first | (with_reducible first | exact HB.out | apply below_alloc | apply pw_below_drewN | apply below_drew1) | exact HB.out))) : w.heap.size ≤ gb277)); have n3_ := Aside0.mk ((by rw [hg]; exact (below_size (by repeat (first | (with_reducible first | exact HB.out | apply below_alloc | apply pw_below_drewN | apply below_drew1) | exact HB.out))) : w.heap.size ≤ gb277)); clear HB; have HB := n0_; have BK277 := n1_; have GW277 := n2_; have GE277 := n3_; clear n0_ n1_ n2_ n3_; clear hb hbox hg))
  repeat (go_quiet (first | ((with_reducible refine gate_dst (N := 3) rfl ?_); refine box_event ?hg (N := 3) ?hd (cs := #[.int .i64 a1_0, .int .i64 a1_1, .bool a1_2]) (t := 29) ?hr ?_; (case hd => rfl); (case hg => rfl); (case hr => first | (go_simp; done) | (go_simp; rfl)); intro gb277 hg w3 hbox hb; have n0_ := Aside0.mk (below_step (by repeat (first | (with_reducible first | exact HB.out | apply below_alloc | apply pw_below_drewN | apply below_drew1) | exact HB.out)) hb); have n1_ := Aside0.mk (hbox); have n2_ := Aside0.mk ((by rw [hg]; exact (below_size (by repeat (first | (with_reducible first | exact HB.out | apply below_alloc | apply pw_below_drewN | apply below_drew1) | exact HB.out))) : w.heap.size ≤ gb277)); have n3_ := Aside0.mk ((by rw [hg]; exact (below_size (by repeat (first | (with_reducible first | exact HB.out | apply below_alloc | apply pw_below_drewN | apply below_drew1) | exact HB.out))) : w.heap.size ≤ gb277)); clear HB; have HB := n0_; have BK277 := n1_; have GW277 := n2_; have GE277 := n3_; clear n0_ n1_ n2_ n3_; clear hb hbox hg)); try go_wp2_with (first | ((with_reducible refine gate_dst (N := 3) rfl ?_); refine box_event ?hg (N := 3) ?hd (cs := #[.int .i64 a1_0, .int .i64 a1_1, .bool a1_2]) (t := 29) ?hr ?_; (case hd => rfl); (case hg => rfl); (case hr => first | (go_simp; done) | (go_simp; rfl)); intro gb277 hg w3 hbox hb; have n0_ := Aside0.mk (below_step (by repeat (first | (with_reducible first | exact HB.out | apply below_alloc | apply pw_below_drewN | apply below_drew1) | exact HB.out)) hb); have n1_ := Aside0.mk (hbox); have n2_ := Aside0.mk ((by rw [hg]; exact (below_size (by repeat (first | (with_reducible first | exact HB.out | apply below_alloc | apply pw_below_drewN | apply below_drew1) | exact HB.out))) : w.heap.size ≤ gb277)); have n3_ := Aside0.mk ((by rw [hg]; exact (below_size (by repeat (first | (with_reducible first | exact HB.out | apply below_alloc | apply pw_below_drewN | apply below_drew1) | exact HB.out))) : w.heap.size ≤ gb277)); clear HB; have HB := n0_; have BK277 := n1_; have GW277 := n2_; have GE277 := n3_; clear n0_ n1_ n2_ n3_; clear hb hbox hg)))
  go_loopg [8] k (fun kq v8 w' => ∃ (x8_1 : Int), v8 = .int .i64 x8_1 ∧ Aside0 (fault_Fault_44.l0 kq l0 (l0.length : Int) x8_1 a1_0 a1_1 a1_2 = some r) ∧ Aside0 (kq ≤ k) ∧ Aside0 (w'.heap[gb277]? = some (.cells #[.int .i64 a1_0, .int .i64 a1_1, .bool a1_2] 29 (0, 0))) ∧ Aside0 (Below w.heap.size w w'))
  case atStart => exact ⟨(0), (by first | rfl | (simp; done) | (simp [*]; done)), H', ⟨Nat.le_refl _⟩, ⟨by (with_reducible repeat (first | refine blk_drewN ?_ _ | refine blk_drew ?_ | refine blk_alloc ?_ _)); exact BK277.out⟩, ⟨by repeat (first | (with_reducible first | exact HB.out | apply below_alloc | apply pw_below_drewN | apply below_drew1 | refine below_set ?_ GE277.out) | exact HB.out)⟩⟩
  case round =>
    clear H'
    try clear p2
    obtain ⟨x8_1, rfl, HA, HK1, BK277, HB⟩ := hrel
    cases gk with
    | zero => exact absurd HA.out (by simp [fault_Fault_44.l0])
    | succ k1 =>
      have H := HA.out
      clear HA
      simp only [fault_Fault_44.l0] at H
      by_cases c4 : x8_1 < (l0.length : Int)
      · rw [if_pos c4] at H
        have c4b0 : decide (x8_1 < (l0.length : Int)) = true := decide_eq_true c4
        clear c4
        by_cases c5 : 0 ≤ x8_1
        · rw [if_pos c5] at H
          have c5b0 : decide (0 ≤ x8_1) = true := decide_eq_true c5
          clear c5
          by_cases c6 : x8_1 < (l0.length : Int)
          · rw [if_pos c6] at H
            have c6b0 : decide (x8_1 < (l0.length : Int)) = true := decide_eq_true c6
            clear c6
            by_cases c7 : (a1_0 == ((rd_T29 l0 x8_1).f0) && (a1_1 == ((rd_T29 l0 x8_1).f1) && (a1_2 == ((rd_T29 l0 x8_1).f2)))) = true
            · rw [if_pos c7] at H
              have c7b0 : (a1_0 == ((rd_T29 l0 x8_1).f0) && (a1_1 == ((rd_T29 l0 x8_1).f1) && (a1_2 == ((rd_T29 l0 x8_1).f2)))) = true := c7
              (try (have c7b1 : decide (a1_0 = ((rd_T29 l0 x8_1).f0) && (a1_1 == ((rd_T29 l0 x8_1).f1) && (a1_2 == ((rd_T29 l0 x8_1).f2)))) = true := by simpa using c7))
              (try (have c7b2 : (a1_0 == ((rd_T29 l0 x8_1).f0) && (a1_1 == ((rd_T29 l0 x8_1).f1) && (a1_2 == ((rd_T29 l0 x8_1).f2)))) = true := by simpa using c7))
              clear c7
              obtain rfl := Option.some.inj H
              have hcz8_0 : wr.cell? ⟨gb277, 0, none⟩ = some (.int .i64 a1_0) := (blk_cell BK277.out 0).trans rfl
              have hcz8_1 : wr.cell? ⟨gb277, 1, none⟩ = some (.int .i64 a1_1) := (blk_cell BK277.out 1).trans rfl
              have hcz8_2 : wr.cell? ⟨gb277, 2, none⟩ = some (.bool a1_2) := (blk_cell BK277.out 2).trans rfl
              have hfz8_0 := blk_frozen BK277.out 0
              have hfz8_1 := blk_frozen BK277.out 1
              have hfz8_2 := blk_frozen BK277.out 2
              have p278 : 0 ≤ (x8_1 : Int) := of_decide_eq_true (by first | (with_reducible assumption) | assumption)
              have q278 : x8_1 < (l0.length : Int) := of_decide_eq_true (by first | (with_reducible assumption) | assumption)
              obtain ⟨ad278, e278, hx278_0, hx278_1, hx278_2⟩ := at_T29 HR0.out x8_1 p278 q278
              cases e278
              replace hx278_0 := (HB.out.cell (World.block_lt_of_cell? w _ hx278_0)).trans hx278_0
              replace hx278_1 := (HB.out.cell (World.block_lt_of_cell? w _ hx278_1)).trans hx278_1
              replace hx278_2 := (HB.out.cell (World.block_lt_of_cell? w _ hx278_2)).trans hx278_2
              replace p278 := eq_true p278
              replace q278 := eq_true q278
              go_wp2
              repeat (go_quiet (fail); try go_wp2)
              go_ret
              exact ⟨by first | rfl | (simp [errW_none, errW_some] <;> rfl) | (simp [*, errW_none, errW_some] <;> rfl), by repeat (first | (with_reducible first | exact HB.out | apply below_alloc | apply pw_below_drewN | apply below_drew1 | refine below_set ?_ GE277.out) | exact HB.out)⟩
            · rw [if_neg c7] at H
              have c7b0 : (a1_0 == ((rd_T29 l0 x8_1).f0) && (a1_1 == ((rd_T29 l0 x8_1).f1) && (a1_2 == ((rd_T29 l0 x8_1).f2)))) = false := by simpa using c7
              (try (have c7b1 : decide (a1_0 = ((rd_T29 l0 x8_1).f0) && (a1_1 == ((rd_T29 l0 x8_1).f1) && (a1_2 == ((rd_T29 l0 x8_1).f2)))) = false := by simpa using c7))
              (try (have c7b2 : (a1_0 == ((rd_T29 l0 x8_1).f0) && (a1_1 == ((rd_T29 l0 x8_1).f1) && (a1_2 == ((rd_T29 l0 x8_1).f2)))) = false := by simpa using c7))
              (try (have c7b3 : ¬ (a1_0 = ((rd_T29 l0 x8_1).f0) && (a1_1 == ((rd_T29 l0 x8_1).f1) && (a1_2 == ((rd_T29 l0 x8_1).f2)))) := by simpa using c7))
              clear c7
              have H' := Aside0.mk H
              clear H
              have hcz9_0 : wr.cell? ⟨gb277, 0, none⟩ = some (.int .i64 a1_0) := (blk_cell BK277.out 0).trans rfl
              have hcz9_1 : wr.cell? ⟨gb277, 1, none⟩ = some (.int .i64 a1_1) := (blk_cell BK277.out 1).trans rfl
              have hcz9_2 : wr.cell? ⟨gb277, 2, none⟩ = some (.bool a1_2) := (blk_cell BK277.out 2).trans rfl
              have hfz9_0 := blk_frozen BK277.out 0
              have hfz9_1 := blk_frozen BK277.out 1
              have hfz9_2 := blk_frozen BK277.out 2
              have p278 : 0 ≤ (x8_1 : Int) := of_decide_eq_true (by first | (with_reducible assumption) | assumption)
              have q278 : x8_1 < (l0.length : Int) := of_decide_eq_true (by first | (with_reducible assumption) | assumption)
              obtain ⟨ad278, e278, hx278_0, hx278_1, hx278_2⟩ := at_T29 HR0.out x8_1 p278 q278
              cases e278
              replace hx278_0 := (HB.out.cell (World.block_lt_of_cell? w _ hx278_0)).trans hx278_0
              replace hx278_1 := (HB.out.cell (World.block_lt_of_cell? w _ hx278_1)).trans hx278_1
              replace hx278_2 := (HB.out.cell (World.block_lt_of_cell? w _ hx278_2)).trans hx278_2
              replace p278 := eq_true p278
              replace q278 := eq_true q278
              go_wp2
              repeat (go_quiet (fail); try go_wp2)
              go_roundg k1
              case measure => have := HK1.out; omega
              case rel => exact ⟨(wrap64 (x8_1 + 1)), (by first | rfl | (simp; done) | (simp [*]; done)), H', ⟨by have := HK1.out; omega⟩, ⟨by (with_reducible repeat (first | refine blk_drewN ?_ _ | refine blk_drew ?_ | refine blk_alloc ?_ _)); exact BK277.out⟩, ⟨by repeat (first | (with_reducible first | exact HB.out | apply below_alloc | apply pw_below_drewN | apply below_drew1 | refine below_set ?_ GE277.out) | exact HB.out)⟩⟩
          · rw [if_neg c6] at H
            exact absurd H (by simp)
        · rw [if_neg c5] at H
          exact absurd H (by simp)
      · rw [if_neg c4] at H
        have c4b0 : decide (x8_1 < (l0.length : Int)) = false := decide_eq_false c4
        clear c4
        obtain rfl := Option.some.inj H
        go_wp2
        repeat (go_quiet (fail); try go_wp2)
        go_ret
        exact ⟨by first | rfl | (simp [errW_none, errW_some] <;> rfl) | (simp [*, errW_none, errW_some] <;> rfl), by repeat (first | (with_reducible first | exact HB.out | apply below_alloc | apply pw_below_drewN | apply below_drew1 | refine below_set ?_ GE277.out) | exact HB.out)⟩
end Go.Proofs.Ytimjccfpobhpeaa.PF
namespace Go.Proofs.Ytimjccfpobhpeaa
open Go.RowKit Go.Proofs.YtimjccfpobhpeaaW.PrintWords Go.Proofs.Ytimjccfpobhpeaa.PF Go.Proofs.Ytimjccfpobhpeaa.Union
set_option maxRecDepth 100000
section
variable {P : Program} {kt : TypeId} {κ ν : Type} [DecidableEq κ] {E : KeyEnc P kt κ} {ev : ν → Value} {w : World} {b : Nat} {m : List (κ × ν)}
omit [DecidableEq κ] in
theorem run_mapLen (h : MapAt E ev w b m) {t e : TypeId} (ht : P.underlying t = some (.map kt e)) (ty : TypeId) : (Builtin.len_ #[t] ty #[.map (some b)]).run P w = .ok (.int .i64 (m.length : Int)) w := by
  obtain ⟨es, clock, h1, h2, _⟩ := h
  have hl : es.size = m.length := by have := congrArg List.length h2; simpa using this
  simp [Builtin.len_, run_underlying ht, MapKept.run_getObj_map h1, goInt, Result.andThen, hl]
theorem mput_len (m : List (κ × ν)) (k : κ) (v : ν) : (mput m k v).length = if (mget m k).isSome = true then m.length else m.length + 1 := by
  induction m with
  | nil => rfl
  | cons p m ih =>
    rw [mput, mget]
    by_cases h : p.1 = k
    · rw [if_pos h, if_pos h]
      rfl
    · rw [if_neg h, if_neg h, List.length_cons, List.length_cons, ih]
      split <;> rfl
end
def boolKey (P : Program) (kt : TypeId) (h : P.underlying kt = some .bool) : KeyEnc P kt Bool where
  enc := Value.bool
  ok := fun _ => True
  law := Maps.bool_keyed h
  key := fun s _ => ⟨_, Maps.keyOf_bool_mk h s⟩
  inj := fun a b h => by injection h
def seenM (tab pin : Int) (one : Bool) : Nat → List (Bool × Bool)
  | 0 => []
  | n + 1 => if selB pin one n = true then mput (seenM tab pin one n) (bitB tab n) true else seenM tab pin one n
def anyB (tab pin : Int) (one : Bool) (b : Bool) (n : Nat) : Bool := if b = true then anyOne tab pin one n else anyZero tab pin one n
theorem anyB_succ (tab pin : Int) (one b : Bool) (n : Nat) : anyB tab pin one b (n + 1) = (anyB tab pin one b n || (selB pin one n && (bitB tab n == b))) := by
  unfold anyB anyOne anyZero
  cases b
  · simp only [Bool.false_eq_true, if_false, List.range_succ, List.any_append, List.any_cons, List.any_nil, Bool.or_false]
    congr 1
    congr 1
    cases bitB tab n <;> rfl
  · simp only [if_true, List.range_succ, List.any_append, List.any_cons, List.any_nil, Bool.or_false]
    congr 1
    congr 1
    cases bitB tab n <;> rfl
theorem seenM_get (tab pin : Int) (one b : Bool) : ∀ n, mget (seenM tab pin one n) b = if anyB tab pin one b n = true then some true else none
  | 0 => by
    unfold anyB anyOne anyZero
    cases b <;> rfl
  | n + 1 => by
    rw [seenM, anyB_succ]
    cases hs : selB pin one n with
    | false =>
      rw [if_neg Bool.false_ne_true, seenM_get tab pin one b n, Bool.false_and, Bool.or_false]
    | true =>
      rw [if_pos rfl, mget_mput, seenM_get tab pin one b n, Bool.true_and]
      by_cases h : bitB tab n = b
      · rw [if_pos h, h, beq_self_eq_true, Bool.or_true, if_pos rfl]
      · rw [if_neg h, beq_eq_false_iff_ne.2 h, Bool.or_false]
theorem seenM_len (tab pin : Int) (one : Bool) : ∀ n, (seenM tab pin one n).length = (if anyOne tab pin one n = true then 1 else 0) + (if anyZero tab pin one n = true then 1 else 0)
  | 0 => rfl
  | n + 1 => by
    have h1 := anyB_succ tab pin one true n
    have h0 := anyB_succ tab pin one false n
    have e1 : ∀ n, anyB tab pin one true n = anyOne tab pin one n := fun _ => rfl
    have e0 : ∀ n, anyB tab pin one false n = anyZero tab pin one n := fun _ => rfl
    rw [e1, e1] at h1
    rw [e0, e0] at h0
    rw [seenM, h1, h0]
    have ih := seenM_len tab pin one n
    cases hs : selB pin one n with
    | false =>
      rw [if_neg Bool.false_ne_true, ih, Bool.false_and, Bool.false_and, Bool.or_false, Bool.or_false]
    | true =>
      rw [if_pos rfl, mput_len, seenM_get, ih]
      cases hb : bitB tab n with
      | false =>
        rw [e0]
        cases anyOne tab pin one n <;> cases anyZero tab pin one n <;> rfl
      | true =>
        rw [e1]
        cases anyOne tab pin one n <;> cases anyZero tab pin one n <;> rfl
theorem fix_cases {tab pin : Int} {one : Bool} {n : Nat} (h : (anyZero tab pin one n || anyOne tab pin one n) = true) :
    ((seenM tab pin one n).length = 2 ∧ ¬ 0 ≤ fixV tab pin one n) ∨ ((seenM tab pin one n).length = 1 ∧ 0 ≤ fixV tab pin one n ∧ (fixV tab pin one n == 1) = anyOne tab pin one n) := by
  rw [seenM_len]
  unfold fixV
  cases h1 : anyOne tab pin one n <;> cases h0 : anyZero tab pin one n
  · rw [h1, h0] at h
    cases h
  · right
    decide
  · right
    decide
  · left
    decide
section
variable (lead : Nat → Option Nat)
def leadM : Nat → List (Int × Int)
  | 0 => []
  | i + 1 => match lead i with
    | none => leadM i
    | some k => mput (leadM i) (i : Int) (k : Int)
theorem leadM_none {i : Nat} (h : lead i = none) : leadM lead (i + 1) = leadM lead i := by rw [leadM, h]
theorem leadM_some {i k : Nat} (h : lead i = some k) : leadM lead (i + 1) = mput (leadM lead i) (i : Int) (k : Int) := by rw [leadM, h]
theorem leadM_get : ∀ (n j : Nat), mget (leadM lead n) (j : Int) = if j < n then (lead j).map (fun k => ((k : Nat) : Int)) else none
  | 0, j => rfl
  | n + 1, j => by
    have ih := leadM_get n j
    cases h : lead n with
    | none =>
      rw [leadM_none lead h, ih]
      by_cases c : j = n
      · subst c
        rw [if_neg (by omega), if_pos (by omega), h]
        rfl
      · by_cases c2 : j < n
        · rw [if_pos c2, if_pos (by omega)]
        · rw [if_neg c2, if_neg (by omega)]
    | some k =>
      rw [leadM_some lead h, mget_mput, ih]
      by_cases c : j = n
      · subst c
        rw [if_pos rfl, if_pos (by omega), h]
        rfl
      · rw [if_neg (by omega)]
        by_cases c2 : j < n
        · rw [if_pos c2, if_pos (by omega)]
        · rw [if_neg c2, if_neg (by omega)]
end
section
variable (rt : Nat → Nat)
def headM : Nat → List (Int × Int)
  | 0 => []
  | i + 1 => if (mget (headM i) ((rt i : Nat) : Int)).isSome = true then headM i else mput (headM i) ((rt i : Nat) : Int) (i : Int)
theorem headM_get : ∀ (n k : Nat), mget (headM rt n) (k : Int) = ((List.range n).find? (fun j => rt j == k)).map (fun j => ((j : Nat) : Int))
  | 0, k => rfl
  | n + 1, k => by
    have ih := headM_get n
    rw [headM, List.range_succ, List.find?_append]
    by_cases c : (mget (headM rt n) ((rt n : Nat) : Int)).isSome = true
    · rw [if_pos c, ih k]
      cases hf : (List.range n).find? (fun j => rt j == k) with
      | some j => rfl
      | none =>
        have : ¬ rt n = k := by
          rintro rfl
          rw [ih (rt n), hf] at c
          cases c
        simp [this]
    · rw [if_neg c, mget_mput, ih k]
      by_cases e : rt n = k
      · subst e
        rw [if_pos rfl]
        cases hf : (List.range n).find? (fun j => rt j == rt n) with
        | some j => rw [ih (rt n), hf] at c; exact absurd rfl c
        | none => simp
      · rw [if_neg (by omega)]
        cases hf : (List.range n).find? (fun j => rt j == k) with
        | some j => rfl
        | none => simp [e]
end
theorem headM_cls {lead : Nat → Option Nat} (up : ∀ i k, lead i = some k → i < k) {n i : Nat} (hi : i < n) : mget (headM (root lead n) (i + 1)) ((root lead n i : Nat) : Int) = some ((cls lead n i : Nat) : Int) := by
  have h := first_eq up hi
  rw [List.find?_range_eq_some] at h
  obtain ⟨h1, _, h3⟩ := h
  have hle := (cls_least up n i).1
  rw [headM_get, show (List.range (i + 1)).find? (fun j => root lead n j == root lead n i) = some (cls lead n i) from by
    rw [List.find?_range_eq_some]
    exact ⟨h1, List.mem_range.2 (by omega), h3⟩]
  rfl
def idxOr (l : List S29) (t : S29) : Int := match l.findIdx? (eqF t) with
  | some j => (j : Int)
  | none => -1
end Go.Proofs.Ytimjccfpobhpeaa
namespace Go.Proofs.Ytimjccfpobhpeaa
open Go.RowKit
section
variable {P : Program} {ops : Array Oper} {S : World → Prop} {Q : Exit → Act → World → Prop} {md : Region.Mode} {E : List Nat}
def rdr2 (o : Oper) : Bool := rdr o || (match o.op with | .nilCheck _ => true | _ => false)
theorem quiet_reads2 {o : Oper} {a : Act} {w : World} {v : Value} (hr : rdr2 o = true) (h : o.quietAt P a S w v) : (execOp a.eval o).run P w = .ok (.value v) w := by
  by_cases h1 : rdr o = true
  · exact quiet_reads h1 h
  · have h2 : ∃ x, o.op = .nilCheck x := by
      simp only [rdr2, h1, Bool.false_or] at hr
      split at hr
      · exact ⟨_, by assumption⟩
      · cases hr
    obtain ⟨x, hx⟩ := h2
    unfold Oper.quietAt execOp at h
    unfold execOp
    simp only [hx] at h ⊢
    generalize a.eval x = y at h ⊢
    revert h
    split
    · intro h; simp [runtimePanic, Oper.quietUpon] at h
    · intro h; simp [runtimePanic, Oper.quietUpon] at h
    · intro h; simp [runtimePanic, Oper.quietUpon] at h
    · split
      · intro h; simp [runtimePanic, Oper.quietUpon] at h
      · intro h
        simp only [Sem.run_bind] at h ⊢
        cases h3 : program.run P w with
        | halt z w1 => rw [h3] at h; simp [Result.andThen, Oper.quietUpon] at h
        | ok p w1 =>
          rw [h3] at h
          simp only [Result.andThen_ok] at h ⊢
          cases h4 : (nilAhead (p.types.size + Made.depth) _ _ _).run P w1 with
          | halt z w2 => rw [h4] at h; simp [Result.andThen, Oper.quietUpon] at h
          | ok b w2 =>
            rw [h4] at h
            simp only [Result.andThen_ok] at h ⊢
            by_cases hb : (b != some false) = true
            · rw [if_pos hb] at h
              simp [unsupported, Oper.quietUpon] at h
            · rw [if_neg hb] at h ⊢
              simp only [Sem.run_pure, Oper.quietUpon] at h ⊢
              rw [h.1, h.2]
      · intro h; simpa [Oper.quietUpon, eq_comm] using h
    · intro h; simpa [Oper.quietUpon, eq_comm] using h
def pur (o : Oper) : Bool := match o.op with | .move _ => true | _ => false
theorem pur_reads {o : Oper} {a : Act} {w w' : World} {v : Value} (hp : pur o = true) (h : (execOp a.eval o).run P w = .ok (.value v) w) : (execOp a.eval o).run P w' = .ok (.value v) w' := by
  have h2 : ∃ x, o.op = .move x := by
    unfold pur at hp
    split at hp
    · exact ⟨_, by assumption⟩
    · cases hp
  obtain ⟨x, hx⟩ := h2
  unfold execOp at h ⊢
  simp only [hx, Sem.run_pure] at h ⊢
  simp only [Result.ok.injEq, Next.value.injEq, and_true] at h
  rw [h]
theorem pur_rdr {o : Oper} (hp : pur o = true) : rdr2 o = true := by
  unfold pur at hp
  split at hp
  · rename_i h; simp [rdr2, rdr, h]
  · cases hp
def wpAnyL (P : Program) (md : Region.Mode) (ops : Array Oper) (Q : Exit → Act → World → Prop) (S : World → Prop) (E : List Nat) : Nat → Array Bool → Act → World → Prop
  | 0, listed, a, w => Region.ready md ops listed = [] ∧ Q .normal a w
  | fuel + 1, listed, a, w =>
    (Region.ready md ops listed = [] → Q .normal a w) ∧
    ∀ i ∈ Region.ready md ops listed, wpOp P ops Q i (fun a' w' => (i ∈ E ∨ S w') ∧ wpAnyL P md ops Q S E fuel (listed.setIfInBounds i true) a' w') a w
theorem anyL : ∀ (fuel : Nat) (listed : Array Bool) (a : Act) (w : World), wpAnyL P md ops Q S E fuel listed a w → wpAny P md ops Q fuel listed a w
  | 0, _, _, _, h => h
  | fuel + 1, _, _, _, h => ⟨h.1, fun i hi => wpOp_mono (fun a' w' h' => anyL fuel _ a' w' h'.2) (h.2 i hi)⟩
def reach (md : Region.Mode) (ops : Array Oper) : Nat → Nat → Nat → Bool
  | 0, _, _ => false
  | f + 1, i, j => match ops[j]? with
    | none => false
    | some o => o.after.any fun e => Region.binds md e && (e.on == i || reach md ops f i e.on)
def Closed (md : Region.Mode) (ops : Array Oper) (listed : Array Bool) : Prop :=
  ∀ m, listed.getD m false = true → ∀ o, ops[m]? = some o → ∀ e ∈ o.after, Region.binds md e = true → listed.getD e.on false = true
theorem Closed.start (n : Nat) : Closed md ops (Array.replicate n false) := by
  intro m hm
  exfalso
  rcases Nat.lt_or_ge m n with h | h
  · simp [h] at hm
  · simp [Nat.not_lt.2 h] at hm
theorem Closed.step {listed : Array Bool} {j : Nat} (h : Closed md ops listed) (hj : j ∈ Region.ready md ops listed) : Closed md ops (listed.setIfInBounds j true) := by
  intro m hm o ho e he hb
  refine getD_set_true ?_
  by_cases hmj : m = j
  · subst hmj
    obtain ⟨_, oj, hoj, hall⟩ := mem_ready.1 hj
    rw [ho] at hoj
    cases hoj
    exact hall e he hb
  · refine h m ?_ o ho e he hb
    rwa [getD_set_ne false (fun e => hmj e.symm)] at hm
theorem reach_listed {listed : Array Bool} (hc : Closed md ops listed) {i : Nat} : ∀ (f j : Nat) (o : Oper), ops[j]? = some o → (∀ e ∈ o.after, Region.binds md e = true → listed.getD e.on false = true) → reach md ops f i j = true → listed.getD i false = true
  | 0, j, o, _, _, h => by simp [reach] at h
  | f + 1, j, o, ho, hd, h => by
    rw [reach, ho] at h
    simp only [Array.any_eq_true, Bool.and_eq_true, Bool.or_eq_true, beq_iff_eq] at h
    obtain ⟨k, hk, hb, h⟩ := h
    have h1 := hd _ (Array.getElem_mem hk) hb
    rcases h with h | h
    · rw [h] at h1; exact h1
    · cases hm : ops[(o.after[k]).on]? with
      | none =>
        cases f with
        | zero => simp [reach] at h
        | succ f => rw [reach, hm] at h; simp at h
      | some om => exact reach_listed hc f _ om hm (fun e he hb' => hc _ h1 om hm e he hb') h
theorem not_both {listed : Array Bool} {i : Nat} (h0 : listed.getD i true = false) (h1 : listed.getD i false = true) : False := by
  rcases Nat.lt_or_ge i listed.size with hlt | hge
  · simp only [Array.getD_eq_getD_getElem?, Array.getElem?_eq_getElem hlt, Option.getD_some] at h1 h0
    rw [h0] at h1; cases h1
  · simp [Array.getElem?_eq_none hge] at h1
theorem anyL_first {i f : Nat} {oi : Oper} {v : Value} (hi : ops[i]? = some oi) (hs : Region.noSelect ops = true) (hQ : ∀ c a w, Q (.panic c) (a.put oi.dst v) w → Q (.panic c) a w) :
    ∀ (fuel : Nat) (listed : Array Bool) (a : Act) (w : World), Closed md ops listed → (∀ j ∈ E, reach md ops f i j = true ∨ listed.getD j false = true) →
      (∀ j oj, ops[j]? = some oj → j ≠ i → listed.getD j true = false → (∀ e ∈ oj.after, Region.binds md e = true → e.on ≠ i) → oi.apart ops oj = true) →
      i ∈ Region.ready md ops listed → YieldsIf P ops S oi v a → S w → wpAnyL P md ops Q S E fuel (listed.setIfInBounds i true) (a.put oi.dst v) w → wpAnyL P md ops Q S E (fuel + 1) listed a w := by
  have hsel := Region.noSelect_spec hs
  intro fuel
  induction fuel with
  | zero =>
    intro listed a w _ _ _ hr hy hS H
    refine ⟨fun h0 => (by rw [h0] at hr; cases hr), fun j hj => ?_⟩
    by_cases hji : j = i
    · subst hji
      exact hy.wpOp hi hS ⟨.inr hS, H⟩
    · have h0 := ready_mono hj hji
      rw [H.1] at h0
      cases h0
  | succ fuel ih =>
    intro listed a w hc hE hfree hr hy hS H
    refine ⟨fun h0 => (by rw [h0] at hr; cases hr), fun j hj => ?_⟩
    by_cases hji : j = i
    · subst hji
      exact hy.wpOp hi hS ⟨.inr hS, H⟩
    · obtain ⟨hjun, oj, hoj, hall⟩ := mem_ready.1 hj
      have hjE : j ∉ E := fun hm => by
        rcases hE j hm with h | h
        · exact not_both (mem_ready.1 hr).1 (reach_listed hc f j oj hoj hall h)
        · exact not_both hjun h
      have hnot : ∀ e ∈ oj.after, Region.binds md e = true → e.on ≠ i := fun e he hb heq => by
        have h1 := hall e he hb
        rw [heq] at h1
        exact not_both (mem_ready.1 hr).1 h1
      have h2 := wpOp_putIf hoj (hfree j oj hoj hji hjun hnot) (fun cs b => hsel i oi cs b hi) (fun cs b => hsel j oj cs b hoj) hQ hy (H.2 j (ready_mono hj hji))
      refine wpOp_mono (fun a' w' h3 => ?_) h2
      have hSw : S w' := h3.2.1.resolve_left hjE
      refine ⟨.inr hSw, ih (listed.setIfInBounds j true) a' w' (hc.step hj) (fun k hk => (hE k hk).imp id (fun h => getD_set_true h)) ?_ (ready_mono hr (Ne.symm hji)) h3.1 hSw ?_⟩
      · intro k ok hk hki hun hno
        refine hfree k ok hk hki ?_ hno
        by_cases hjk : j = k
        · exact hjk ▸ hjun
        · rwa [getD_set_ne true hjk] at hun
      · rw [Array.setIfInBounds_comm _ _ hji]
        exact h3.2.2
theorem anyL_pure {i : Nat} {oi : Oper} {v : Value} (hi : ops[i]? = some oi) (hs : Region.noSelect ops = true) (hiE : i ∈ E) (hQ : ∀ c a w, Q (.panic c) (a.put oi.dst v) w → Q (.panic c) a w) :
    ∀ (fuel : Nat) (listed : Array Bool) (a : Act) (w : World),
      (∀ j oj, ops[j]? = some oj → j ≠ i → listed.getD j true = false → (∀ e ∈ oj.after, Region.binds md e = true → e.on ≠ i) → oi.apart ops oj = true) →
      i ∈ Region.ready md ops listed → YieldsIf P ops (fun _ => True) oi v a → wpAnyL P md ops Q S E fuel (listed.setIfInBounds i true) (a.put oi.dst v) w → wpAnyL P md ops Q S E (fuel + 1) listed a w := by
  have hsel := Region.noSelect_spec hs
  intro fuel
  induction fuel with
  | zero =>
    intro listed a w _ hr hy H
    refine ⟨fun h0 => (by rw [h0] at hr; cases hr), fun j hj => ?_⟩
    by_cases hji : j = i
    · subst hji
      exact hy.wpOp hi trivial ⟨.inl hiE, H⟩
    · have h0 := ready_mono hj hji
      rw [H.1] at h0
      cases h0
  | succ fuel ih =>
    intro listed a w hfree hr hy H
    refine ⟨fun h0 => (by rw [h0] at hr; cases hr), fun j hj => ?_⟩
    by_cases hji : j = i
    · subst hji
      exact hy.wpOp hi trivial ⟨.inl hiE, H⟩
    · obtain ⟨hjun, oj, hoj, hall⟩ := mem_ready.1 hj
      have hnot : ∀ e ∈ oj.after, Region.binds md e = true → e.on ≠ i := fun e he hb heq => by
        have h1 := hall e he hb
        rw [heq] at h1
        exact not_both (mem_ready.1 hr).1 h1
      have h2 := wpOp_putIf hoj (hfree j oj hoj hji hjun hnot) (fun cs b => hsel i oi cs b hi) (fun cs b => hsel j oj cs b hoj) hQ hy (H.2 j (ready_mono hj hji))
      refine wpOp_mono (fun a' w' h3 => ?_) h2
      refine ⟨h3.2.1, ih (listed.setIfInBounds j true) a' w' ?_ (ready_mono hr (Ne.symm hji)) h3.1 ?_⟩
      · intro k ok hk hki hun hno
        refine hfree k ok hk hki ?_ hno
        by_cases hjk : j = k
        · exact hjk ▸ hjun
        · rwa [getD_set_ne true hjk] at hun
      · rw [Array.setIfInBounds_comm _ _ hji]
        exact h3.2.2
def readersL (md : Region.Mode) (ops : Array Oper) (E : List Nat) : List Bool → Nat → Array Bool → Bool
  | [], _, _ => true
  | true :: m, k, listed => (Region.ready md ops listed).contains k && Region.free md ops listed k && ((ops[k]?).map rdr2).getD false && E.all (fun j => reach md ops ops.size k j || listed.getD j false) && readersL md ops E m (k + 1) (listed.setIfInBounds k true)
  | false :: m, k, listed => readersL md ops E m (k + 1) listed
def puresL (md : Region.Mode) (ops : Array Oper) (E : List Nat) : List Bool → Nat → Array Bool → Bool
  | [], _, _ => true
  | true :: m, k, listed => (Region.ready md ops listed).contains k && Region.free md ops listed k && ((ops[k]?).map pur).getD false && E.contains k && puresL md ops E m (k + 1) (listed.setIfInBounds k true)
  | false :: m, k, listed => puresL md ops E m (k + 1) listed
theorem mixL_readers {w : World} (hs : Region.noSelect ops = true) (hS : S w) (hQ : ∀ c a d v w, Q (.panic c) (Act.put a d v) w → Q (.panic c) a w) {G : Act → Prop} {n : Nat} :
    ∀ (m : List Bool) (l : List Oper) (k : Nat) (listed : Array Bool) (a : Act), (∀ j, l[j]? = ops[k + j]?) → m.length = l.length → Closed md ops listed → readersL md ops E m k listed = true →
      (∀ a', G a' → wpAnyL P md ops Q S E n (listedB m k listed) a' w) → wpQuiet P ops S G (pickB m l) a → wpAnyL P md ops Q S E ((m.filter id).length + n) listed a w
  | [], l, k, listed, a, _, _, _, _, hG, h => by
    simp only [pickB] at h
    simpa [listedB] using hG a h
  | _ :: _, [], _, _, _, _, hm, _, _, _, _ => by simp at hm
  | true :: m, o :: l, k, listed, a, hl, hm, hc, hB, hG, h => by
    have h0 : ops[k]? = some o := by simpa using (hl 0).symm
    simp only [readersL, Bool.and_eq_true, h0, Option.map_some, Option.getD_some, List.all_eq_true, Bool.or_eq_true] at hB
    obtain ⟨⟨⟨⟨hr, hf⟩, hrd⟩, hE⟩, hB'⟩ := hB
    have hl' : ∀ j, l[j]? = ops[k + 1 + j]? := fun j => by have := hl (j + 1); simpa [Nat.add_assoc, Nat.add_comm 1 j] using this
    have hr' : k ∈ Region.ready md ops listed := by simpa using hr
    simp only [pickB, wpQuiet] at h
    rw [show ((true :: m).filter id).length + n = ((m.filter id).length + n) + 1 by simp; omega]
    by_cases hw : Region.wanted o (yielded ops a.tmps) = true
    · rw [if_pos hw] at h
      obtain ⟨v, hv, hn⟩ := h
      refine anyL_first (v := v) h0 hs (fun c a w => hQ c a _ _ w) _ _ _ _ hc hE (Region.free_spec h0 hf) hr' (.inl ⟨hw, fun w' hw' => quiet_reads2 hrd (hv w' hw')⟩) hS ?_
      exact mixL_readers hs hS hQ m l (k + 1) _ _ hl' (by simpa using hm) (hc.step hr') hB' hG hn
    · rw [if_neg hw] at h
      refine anyL_first (v := undef) h0 hs (fun c a w => hQ c a _ _ w) _ _ _ _ hc hE (Region.free_spec h0 hf) hr' (.inr ⟨by simpa using hw, rfl⟩) hS ?_
      exact mixL_readers hs hS hQ m l (k + 1) _ _ hl' (by simpa using hm) (hc.step hr') hB' hG h
  | false :: m, o :: l, k, listed, a, hl, hm, hc, hB, hG, h => by
    have := mixL_readers hs hS hQ m l (k + 1) listed a (fun j => by have := hl (j + 1); simpa [Nat.add_assoc, Nat.add_comm 1 j] using this) (by simpa using hm) hc hB hG h
    simpa using this
theorem mixL_pures {w : World} (hs : Region.noSelect ops = true) (hS : S w) (hQ : ∀ c a d v w, Q (.panic c) (Act.put a d v) w → Q (.panic c) a w) {G : Act → Prop} {n : Nat} :
    ∀ (m : List Bool) (l : List Oper) (k : Nat) (listed : Array Bool) (a : Act), (∀ j, l[j]? = ops[k + j]?) → m.length = l.length → Closed md ops listed → puresL md ops E m k listed = true →
      (∀ a', G a' → Closed md ops (listedB m k listed) → wpAnyL P md ops Q S E n (listedB m k listed) a' w) → wpQuiet P ops S G (pickB m l) a → wpAnyL P md ops Q S E ((m.filter id).length + n) listed a w
  | [], l, k, listed, a, _, _, hc, _, hG, h => by
    simp only [pickB] at h
    simpa [listedB] using hG a h hc
  | _ :: _, [], _, _, _, _, hm, _, _, _, _ => by simp at hm
  | true :: m, o :: l, k, listed, a, hl, hm, hc, hB, hG, h => by
    have h0 : ops[k]? = some o := by simpa using (hl 0).symm
    simp only [puresL, Bool.and_eq_true, h0, Option.map_some, Option.getD_some] at hB
    obtain ⟨⟨⟨⟨hr, hf⟩, hpu⟩, hE⟩, hB'⟩ := hB
    have hl' : ∀ j, l[j]? = ops[k + 1 + j]? := fun j => by have := hl (j + 1); simpa [Nat.add_assoc, Nat.add_comm 1 j] using this
    have hr' : k ∈ Region.ready md ops listed := by simpa using hr
    have hkE : k ∈ E := by simpa using hE
    simp only [pickB, wpQuiet] at h
    rw [show ((true :: m).filter id).length + n = ((m.filter id).length + n) + 1 by simp; omega]
    by_cases hw : Region.wanted o (yielded ops a.tmps) = true
    · rw [if_pos hw] at h
      obtain ⟨v, hv, hn⟩ := h
      refine anyL_pure (v := v) h0 hs hkE (fun c a w => hQ c a _ _ w) _ _ _ _ (Region.free_spec h0 hf) hr' (.inl ⟨hw, fun w' _ => pur_reads hpu (quiet_reads2 (pur_rdr hpu) (hv w hS))⟩) ?_
      exact mixL_pures hs hS hQ m l (k + 1) _ _ hl' (by simpa using hm) (hc.step hr') hB' hG hn
    · rw [if_neg hw] at h
      refine anyL_pure (v := undef) h0 hs hkE (fun c a w => hQ c a _ _ w) _ _ _ _ (Region.free_spec h0 hf) hr' (.inr ⟨by simpa using hw, rfl⟩) ?_
      exact mixL_pures hs hS hQ m l (k + 1) _ _ hl' (by simpa using hm) (hc.step hr') hB' hG h
  | false :: m, o :: l, k, listed, a, hl, hm, hc, hB, hG, h => by
    have := mixL_pures hs hS hQ m l (k + 1) listed a (fun j => by have := hl (j + 1); simpa [Nat.add_assoc, Nat.add_comm 1 j] using this) (by simpa using hm) hc hB hG h
    simpa using this
theorem anyL_end {a : Act} {w : World} {L : Array Bool} (hr : Region.ready md ops L = []) (h : Q .normal a w) : wpAnyL P md ops Q S E 0 L a w := ⟨hr, h⟩
theorem anyL_one {i : Nat} {o : Oper} {fuel : Nat} {a : Act} {w : World} {L : Array Bool} (L' : Array Bool) (hr : Region.ready md ops L = [i]) (hi : ops.toList[i]? = some o) (hL : L.setIfInBounds i true = L')
    (h : ∀ Q', (∀ a' w', (i ∈ E ∨ S w') ∧ wpAnyL P md ops Q S E fuel L' a' w' → Q' .normal a' w') → wpList P ops Q' [o] a w) : wpAnyL P md ops Q S E (fuel + 1) L a w := by
  refine ⟨fun h0 => absurd (hr ▸ h0) (by simp), fun k hk => ?_⟩
  rw [hr, List.mem_singleton] at hk
  subst hk
  rw [hL]
  exact wpOp_of_list (by simpa using hi) h
theorem anyL_two {i j : Nat} {o1 o2 : Oper} {fuel : Nat} {a : Act} {w : World} {L : Array Bool} (L1 L2 : Array Bool) (hr : Region.ready md ops L = [i, j]) (hi : ops.toList[i]? = some o1) (hj : ops.toList[j]? = some o2) (hL1 : L.setIfInBounds i true = L1) (hL2 : L.setIfInBounds j true = L2)
    (h1 : ∀ Q', (∀ a' w', (i ∈ E ∨ S w') ∧ wpAnyL P md ops Q S E fuel L1 a' w' → Q' .normal a' w') → wpList P ops Q' [o1] a w)
    (h2 : ∀ Q', (∀ a' w', (j ∈ E ∨ S w') ∧ wpAnyL P md ops Q S E fuel L2 a' w' → Q' .normal a' w') → wpList P ops Q' [o2] a w) : wpAnyL P md ops Q S E (fuel + 1) L a w := by
  refine ⟨fun h0 => absurd (hr ▸ h0) (by simp), fun k hk => ?_⟩
  rw [hr] at hk
  rcases List.mem_cons.1 hk with rfl | hk
  · rw [hL1]
    exact wpOp_of_list (by simpa using hi) h1
  · rw [List.mem_singleton] at hk
    subst hk
    rw [hL2]
    exact wpOp_of_list (by simpa using hj) h2
def splitL (md : Region.Mode) (ops : Array Oper) (mp m : List Bool) (E : List Nat) (n : Nat) : Bool :=
  Region.noSelect ops && (mp.length == ops.size) && (m.length == ops.size) && ((mp.filter id).length + ((m.filter id).length + n) == ops.size) && puresL md ops E mp 0 (Array.replicate ops.size false) && readersL md ops E m 0 (listedB mp 0 (Array.replicate ops.size false))
theorem wp_region_splitL {id : Nat} {a : Act} {w : World} {l : List Oper} (S : World → Prop) (mp m : List Bool) (E : List Nat) (n : Nat) (L : Array Bool) (hm : P.follows .mixedOrders = true) (hB : splitL .any l.toArray mp m E n = true)
    (hL : listedB m 0 (listedB mp 0 (Array.replicate l.toArray.size false)) = L) (hS : S w.drew)
    (hQ : ∀ c a d v w, Q (.panic c) (Act.put a d v) w → Q (.panic c) a w)
    (h : wpQuiet P l.toArray S (fun a' => wpQuiet P l.toArray S (fun a'' => wpAnyL P .any l.toArray Q S E n L a'' w.drew) (pickB m l) a') (pickB mp l) a) : (Code.region id l.toArray true).wp P Q a w := by
  simp only [splitL, Bool.and_eq_true, beq_iff_eq] at hB
  obtain ⟨⟨⟨⟨⟨hs, hlp⟩, hlm⟩, hn⟩, hp⟩, hR⟩ := hB
  refine wp_region_any hm (anyL (S := S) (E := E) _ _ _ _ ?_)
  have key := mixL_pures (P := P) (Q := Q) (md := .any) (E := E) (w := w.drew) (n := (m.filter (fun b => b)).length + n) hs hS hQ mp l 0 (Array.replicate l.toArray.size false) a (fun j => by simp) (by simpa using hlp) (Closed.start _) hp
    (G := fun a' => wpQuiet P l.toArray S (fun a'' => wpAnyL P .any l.toArray Q S E n L a'' w.drew) (pickB m l) a') (fun a' ha' hc =>
      mixL_readers hs hS hQ m l 0 _ a' (fun j => by simp) (by simpa using hlm) hc hR (fun a'' ha'' => by rw [hL]; exact ha'') ha') h
  rw [show (mp.filter _root_.id).length + ((m.filter (fun b => b)).length + n) = l.toArray.size from hn] at key
  exact key
def closedB (md : Region.Mode) (ops : Array Oper) (L : Array Bool) : Bool :=
  (List.range ops.size).all fun m => !(L.getD m false) || (match ops[m]? with | none => true | some o => o.after.all fun e => !(Region.binds md e) || L.getD e.on false)
theorem closedB_spec {L : Array Bool} (h : closedB md ops L = true) : Closed md ops L := by
  intro m hm o ho e he hb
  simp only [closedB, List.all_eq_true, List.mem_range] at h
  have h1 := h m (Array.getElem?_eq_some_iff.1 ho).1
  rw [hm, ho] at h1
  simp only [Bool.not_true, Bool.false_or, Array.all_eq_true] at h1
  obtain ⟨k, hk, rfl⟩ := Array.getElem_of_mem he
  have h2 := h1 k hk
  simpa [hb] using h2
def takeB (md : Region.Mode) (ops : Array Oper) (E : List Nat) (L : Array Bool) (i : Nat) : Bool :=
  Region.noSelect ops && (Region.ready md ops L).contains i && Region.free md ops L i && ((ops[i]?).map rdr2).getD false && E.all (fun j => reach md ops ops.size i j || L.getD j false) && closedB md ops L
theorem anyL_take {i : Nat} {o : Oper} {fuel : Nat} {a : Act} {w : World} {L : Array Bool} (L' : Array Bool) (hB : takeB md ops E L i = true) (hi : ops.toList[i]? = some o) (hL : L.setIfInBounds i true = L') (hS : S w)
    (hQ : ∀ c a d v w, Q (.panic c) (Act.put a d v) w → Q (.panic c) a w)
    (h : wpQuiet P ops S (fun a' => wpAnyL P md ops Q S E fuel L' a' w) [o] a) : wpAnyL P md ops Q S E (fuel + 1) L a w := by
  have h0 : ops[i]? = some o := by simpa using hi
  simp only [takeB, Bool.and_eq_true, h0, Option.map_some, Option.getD_some, List.all_eq_true, Bool.or_eq_true] at hB
  obtain ⟨⟨⟨⟨⟨hs, hr⟩, hf⟩, hrd⟩, hE⟩, hc⟩ := hB
  have hr' : i ∈ Region.ready md ops L := by simpa using hr
  simp only [wpQuiet] at h
  by_cases hw : Region.wanted o (yielded ops a.tmps) = true
  · rw [if_pos hw] at h
    obtain ⟨v, hv, hn⟩ := h
    exact anyL_first (v := v) h0 hs (fun c a w => hQ c a _ _ w) _ _ _ _ (closedB_spec hc) hE (Region.free_spec h0 hf) hr' (.inl ⟨hw, fun w' hw' => quiet_reads2 hrd (hv w' hw')⟩) hS (by rw [hL]; exact hn)
  · rw [if_neg hw] at h
    exact anyL_first (v := undef) h0 hs (fun c a w => hQ c a _ _ w) _ _ _ _ (closedB_spec hc) hE (Region.free_spec h0 hf) hr' (.inr ⟨by simpa using hw, rfl⟩) hS (by rw [hL]; exact h)
end
end Go.Proofs.Ytimjccfpobhpeaa
namespace Go.Proofs.Ytimjccfpobhpeaa
open Go.RowKit Go.Proofs.YtimjccfpobhpeaaW.PrintWords Go.Proofs.Ytimjccfpobhpeaa.PF Go.Proofs.Ytimjccfpobhpeaa.Union
open Go.ChangeMaps (setBlock)
set_option maxRecDepth 100000
abbrev keyI : KeyEnc Try.prog 3 Int := intKey Try.prog 3 .i64 Try.underlying3
abbrev keyB : KeyEnc Try.prog 4 Bool := boolKey Try.prog 4 Try.underlying4
theorem map_new {P : Program} {kt : TypeId} {κ ν : Type} [DecidableEq κ] (E : KeyEnc P kt κ) (ev : ν → Value) (w : World) : MapAt E ev (w.alloc (.map #[] 0)) w.heap.size ([] : List (κ × ν)) := MapAt.made w
theorem out_set (c : Nat → Int) {n : Nat} (i : Nat) (h : i < n) : ((List.range i).map c ++ List.replicate (n - i) 0).set i (c i) = (List.range (i + 1)).map c ++ List.replicate (n - (i + 1)) 0 := by
  rw [show n - i = (n - (i + 1)) + 1 by omega, List.replicate_succ, List.set_append_right _ _ (by simp), List.range_succ, List.map_append, List.append_assoc]
  simp
def But.over {w : World} {G H : Nat → Prop} (x : But w G) (y : But x.val H) (h : ∀ k, H k → k < w.heap.size → G k) : But w G :=
  ⟨y.val, y.os.trans x.os, y.tape.trans x.tape, y.output.trans x.output, Nat.le_trans x.size y.size, fun k hk hG => (y.block k (Nat.lt_of_lt_of_le hk x.size) (fun e => hG (h k e hk))).trans (x.block k hk hG)⟩
theorem i64_w0 (n : Int) : IntKind.i64.wrap n = Go.RowKit.wrap64 n := by unfold Go.RowKit.wrap64; exact IntKind.wrap_i64 n
theorem shl_pow (n : Nat) (h : n ≤ 6) : shl .i64 1 (n : Int) = ((2 ^ n : Nat) : Int) := by
  match n, h with
  | 0, _ => rfl
  | 1, _ => rfl
  | 2, _ => rfl
  | 3, _ => rfl
  | 4, _ => rfl
  | 5, _ => rfl
  | 6, _ => rfl
  | n + 7, h => omega
theorem bitB_eq (tab : Int) {k : Nat} (h : k ≤ 64) : (bits BinOp.and IntKind.u64 (tab / 2 ^ k) 1 == 1) = bitB tab k := by
  have e : shr .u64 tab (k : Int) = tab / 2 ^ k := by
    show tab / 2 ^ min (k : Int).toNat _ = _
    rw [Int.toNat_natCast, Nat.min_eq_left (by exact h)]
  unfold bitB
  rw [e]
  by_cases h2 : bits BinOp.and IntKind.u64 (tab / 2 ^ k) 1 = 1
  · rw [decide_eq_true h2]
    exact beq_iff_eq.2 h2
  · rw [decide_eq_false h2]
    exact beq_eq_false_iff_ne.2 h2
set_option maxHeartbeats 16000000 in
theorem heads_walk (A0 A1 A2 A3 A4 : Option Addr) (n0 n1 n2 n4 c0 c1 c2 c3 c4 : Nat) (l0 : List ByteArray) (l2 : List S82) (l3 : List S80) (w : World) (list : List S29) (rows : List (List Load)) (er : Int)
    (h3 : Kd.C k80 w A3 l3.length l3) (hll : list.length * 8 ≤ 281474976710656) (hfit : 2 + l0.length + l2.length + l3.length ≤ 1000000000)
    (hin : ∀ f ∈ list, 0 ≤ f.f0 ∧ f.f0 < rows.length)
    (hgt : ∀ f ∈ list, ∀ x, rows[f.f0.toNat]? = some [x] → x.f0 = 0 → 0 ≤ x.f1 ∧ x.f1 < l3.length ∧ 0 ≤ x.f2 ∧ ∀ g, l3[x.f1.toNat]? = some g → g.f2.length ≤ 6 ∧ (anyZero g.f1 x.f2 f.f2 (2 ^ g.f2.length) || anyOne g.f1 x.f2 f.f2 (2 ^ g.f2.length)) = true)
    (up : ∀ i k, leadR rows l0 l2 l3 list i = some k → i < k)
    (HL : ∀ W, Below w.heap.size w W → Calls Try.prog 17 #[.agg #[.slice A0 n0 c0, .slice A1 n1 c1, .slice A2 n2 c2, .slice A3 l3.length c3, .slice A4 n4 c4]] W fun e w' => ∃ v, e = .returned v ∧ Kd.R k29 29 w' W.heap.size (fun _ => True) v list ∧ Below W.heap.size W w')
    (HM : ∀ W, Below w.heap.size w W → Calls Try.prog 27 #[.agg #[.slice A0 n0 c0, .slice A1 n1 c1, .slice A2 n2 c2, .slice A3 l3.length c3, .slice A4 n4 c4]] W fun e w' => ∃ v, e = .returned (.tuple #[v, .int .i64 er]) ∧ Kd.S (Kd.slice 77 kLoad) 75 w' W.heap.size (fun _ => True) v rows ∧ Below W.heap.size W w')
    (HI : ∀ W, Below w.heap.size w W → Calls Try.prog 32 #[.agg #[.slice A0 n0 c0, .slice A1 n1 c1, .slice A2 n2 c2, .slice A3 l3.length c3, .slice A4 n4 c4]] W fun e w' => e = .returned (.int .i64 (2 + (l0.length : Int) + l2.length)) ∧ Below W.heap.size W w')
    (HX : ∀ t : S29, ∀ A c W, Kd.C k29 W A list.length list → list.length ≤ c → Calls Try.prog 44 #[.slice A list.length c, .agg #[.int .i64 t.f0, .int .i64 t.f1, .bool t.f2]] W fun e w' => e = .returned (.int .i64 (idxOr list t)) ∧ Below W.heap.size W w') :
    Calls Try.prog 19 #[.agg #[.slice A0 n0 c0, .slice A1 n1 c1, .slice A2 n2 c2, .slice A3 l3.length c3, .slice A4 n4 c4]] w fun e w' => ∃ v, e = .returned v ∧
      Kd.R (Kd.int .i64) 3 w' w.heap.size (fun _ => True) v (clsL (leadR rows l0 l2 l3 list) list.length list.length) ∧ Below w.heap.size w w' := by
  have hu := Try.underlying27
  have huF := Try.underlying29
  have huL := Try.underlying77
  have huG := Try.underlying80
  have huI := Try.underlying25
  have hmm := @run_makeMap Try.prog
  have hz : ∀ W, (zeroValue 3).run Try.prog W = .ok (.int .i64 0) W := fun W => by kernel_rfl
  have hzb : ∀ W, (zeroValue 4).run Try.prog W = .ok (.bool false) W := fun W => by kernel_rfl
  obtain ⟨wN, hwN⟩ : ∃ wN, w.alloc (.cells #[.slice A0 n0 c0, .slice A1 n1 c1, .slice A2 n2 c2, .slice A3 l3.length c3, .slice A4 n4 c4] 27) = wN := ⟨_, rfl⟩
  have hW0 : Below w.heap.size w wN := hwN ▸ (Below.refl _ _).alloc (Nat.le_refl _) _
  have hNs : w.heap.size + 1 = wN.heap.size := by rw [← hwN]; simp
  have hNl : w.heap.size < wN.heap.size := by omega
  have bel : ∀ x : Under wN, Below w.heap.size w x.val := fun x => hW0.trans (x.ok.mono (by omega))
  have cN : ∀ j, wN.cell? ⟨w.heap.size, j, none⟩ = (#[Value.slice A0 n0 c0, .slice A1 n1 c1, .slice A2 n2 c2, .slice A3 l3.length c3, .slice A4 n4 c4])[j]? := fun j => by
    rw [← hwN]
    exact cell_of_row _ _ j _ _ _ (heap_alloc_new w _)
  have cN0 := (cN 0).trans rfl
  have cN1 := (cN 1).trans rfl
  have cN2 := (cN 2).trans rfl
  have cN3 := (cN 3).trans rfl
  have cN4 := (cN 4).trans rfl
  simp at cN0 cN1 cN2 cN3 cN4
  clear cN
  go_enter Try.func19, Try.ntmps19
  go_wp2_with (first
    | (go_at_call 17; refine (HL _ hW0).mono ?_; rintro e w1 ⟨vL, rfl, hR1, hB1⟩; obtain ⟨x1, rfl⟩ : ∃ x : Under wN, w1 = x.val := ⟨⟨w1, hB1⟩, rfl⟩; clear hB1; obtain ⟨AL, cL, rfl, hcL, hL1⟩ := Kd.R_reads hR1)
    | (go_at_call 27; refine (HM _ (bel x1)).mono ?_; rintro e w2 ⟨vR, rfl, hR2, hB2⟩; obtain ⟨x2, rfl⟩ : ∃ x : Under x1.val, w2 = x.val := ⟨⟨w2, hB2⟩, rfl⟩; clear hB2; obtain ⟨AR, cR, rfl, _, hR2⟩ := Kd.S_reads hR2))
  clear hR1
  obtain ⟨y, hy⟩ : ∃ y, x2.val.alloc (.map #[] 0) = y := ⟨_, rfl⟩
  have hys : y.heap.size = x2.val.heap.size + 1 := by rw [← hy]; simp
  have hyb : ∀ k, k < x2.val.heap.size → y.heap[k]? = x2.val.heap[k]? := fun k hk => by rw [← hy]; exact Below.heap_alloc _ _ k hk
  have hyM : MapAt keyI (Value.int .i64) y x2.val.heap.size (leadM (leadR rows l0 l2 l3 list) 0) := by rw [← hy]; exact map_new keyI (Value.int .i64) x2.val
  have hyW : Below w.heap.size w y := by rw [← hy]; exact ((bel x1).trans (x2.ok.mono ((bel x1).size))).alloc (Nat.le_trans (bel x1).size x2.size) _
  have hy1 : Below x1.val.heap.size x1.val y := by rw [← hy]; exact x2.ok.alloc x2.size _
  have hx1 := x1.size
  have hx2 := x2.size
  have rd2 : ∀ {z : World} {b o : Nat} {v : Value}, (∃ x : But y (fun k => k = x2.val.heap.size), z = x.val) → x2.val.cell? ⟨b, o, none⟩ = some v → b < x2.val.heap.size → z.cell? ⟨b, o, none⟩ = some v := by
    rintro z b o v ⟨x, rfl⟩ hc hb
    exact (x.cell b o (by omega) (by omega)).trans ((World.cell?_of_block (a := ⟨b, o, none⟩) (hyb b hb)).trans hc)
  have rd1 : ∀ {b o : Nat} {v : Value}, x1.val.cell? ⟨b, o, none⟩ = some v → b < x1.val.heap.size → x2.val.cell? ⟨b, o, none⟩ = some v := fun hc hb => (x2.cell _ _ hb).trans hc
  have rd0 : ∀ {b o : Nat} {v : Value}, wN.cell? ⟨b, o, none⟩ = some v → b < wN.heap.size → x2.val.cell? ⟨b, o, none⟩ = some v := fun hc hb => rd1 ((x1.cell _ _ hb).trans hc) (by omega)
  have hmL := (kd_len hL1).2
  generalize hbm : x2.val.heap.size = bm at *
  go_loopg [7, 8, 9, 10, 11, 12, 13, 14, 33] list.length (fun d _ _ _ _ _ _ _ _ t wr => ∃ (i : Nat) (z : But y (fun k => k = bm)), t = .int .i64 i ∧ wr = z.val ∧ Aside (i + d = list.length) ∧ MapAt keyI (Value.int .i64) z.val bm (leadM (leadR rows l0 l2 l3 list) i))
  case atStart => exact ⟨0, But.refl _ _, rfl, hy, by show 0 + list.length = list.length; omega, hyM⟩
  case round =>
    clear hyM
    obtain ⟨i, z, rfl, rfl, hi, hM⟩ := hrel
    have hzs := z.size
    by_cases hlt : i < list.length
    · obtain ⟨f, hf⟩ := get_ex hlt
      obtain ⟨b, ob, rfl, hb, hk0, hk1, hk2⟩ := kd_faultC hL1 hf
      obtain ⟨gO, rfl⟩ : ∃ m, gk = m + 1 := ⟨gk - 1, by have := hi.out; omega⟩
      obtain ⟨hf0, hf1⟩ := hin f (List.mem_of_getElem? hf)
      obtain ⟨fn, hfn⟩ : ∃ fn : Nat, f.f0 = (fn : Int) := ⟨f.f0.toNat, by omega⟩
      obtain ⟨row, hrow⟩ := get_ex (xs := rows) (i := fn) (by omega)
      obtain ⟨b2, o2, A2r, c2r, rfl, hb2, hcr, hCl⟩ := kd_rows hR2 hrow
      rw [hfn] at hk0
      have q0 := rd2 ⟨z, rfl⟩ (rd1 hk0 hb) (by omega)
      have q1 := rd2 ⟨z, rfl⟩ (rd1 hk1 hb) (by omega)
      have q2 := rd2 ⟨z, rfl⟩ (rd1 hk2 hb) (by omega)
      have q3 := rd2 ⟨z, rfl⟩ hcr (by omega)
      have hbz : b < z.val.heap.size := by omega
      have hbn : b ≠ z.val.heap.size := by omega
      have hb2z : b2 < z.val.heap.size := by omega
      have hb2n : b2 ≠ z.val.heap.size := by omega
      have hb2l : fn < rows.length := by omega
      have hml := (kd_len hCl).2
      have hih := Lib.hid hi.out
      clear hi hk0 hk1 hk2 hcr hf0 hf1
      by_cases h1 : row.length = 1
      · obtain ⟨x, rfl⟩ : ∃ x, row = [x] := List.length_eq_one_iff.1 h1
        obtain ⟨b4, o4, rfl, hb4, hx0, hx1', hx2'⟩ := kd_load hCl (i := 0) rfl
        simp only [Nat.zero_mul, Nat.add_zero] at hx0 hx1' hx2'
        have q4 := rd2 ⟨z, rfl⟩ hx0 (by omega)
        have q5 := rd2 ⟨z, rfl⟩ hx1' (by omega)
        have q6 := rd2 ⟨z, rfl⟩ hx2' (by omega)
        have hb4z : b4 < z.val.heap.size := by omega
        have hb4n : b4 ≠ z.val.heap.size := by omega
        have hle := lead_one (l0 := l0) (l2 := l2) (l3 := l3) hf hfn hrow
        have hgx := hgt f (List.mem_of_getElem? hf) x (by rw [hfn, Int.toNat_natCast]; exact hrow)
        clear hx0 hx1' hx2' hml h1 hCl hf hfn hrow
        by_cases hk : x.f0 = 0
        · obtain ⟨hg0, hg1, hp0, hgg⟩ := hgx hk
          obtain ⟨xn, hxn⟩ : ∃ xn : Nat, x.f1 = (xn : Int) := ⟨x.f1.toNat, by omega⟩
          rw [hxn, Int.toNat_natCast] at hgg
          rw [hxn] at q5 hg1
          obtain ⟨gt, hgt'⟩ := get_ex (xs := l3) (i := xn) (by omega)
          obtain ⟨hg6, hsome⟩ := hgg gt hgt'
          obtain ⟨b5, o5, A5, c5, rfl, hb5, hg0', hg1', hg2', hle5, hC5⟩ := kd_gateC h3 hgt'
          have hta : targetAt l0 l2 l3 f.f2 x = if 0 ≤ fixV gt.f1 x.f2 f.f2 (2 ^ gt.f2.length) then some ⟨2 + (l0.length : Int) + l2.length + xn, -1, fixV gt.f1 x.f2 f.f2 (2 ^ gt.f2.length) == 1⟩ else none := by
            unfold targetAt
            rw [if_pos hk, hxn, Int.toNat_natCast, hgt', Option.bind_some]
          rw [hta] at hle
          have hzW : Is w z.val := z.is (Is.of hyW) (fun k hk => by omega)
          have zW : ∀ {b o : Nat} {v : Value}, w.cell? ⟨b, o, none⟩ = some v → b < w.heap.size → z.val.cell? ⟨b, o, none⟩ = some v := fun hc hb => (hzW.below.cell (p := ⟨_, _, none⟩) hb).trans hc
          have qg0 := zW hg0' hb5
          have qg1 := zW hg1' hb5
          have qg2 := zW hg2' hb5
          have qn0 := rd2 ⟨z, rfl⟩ (rd0 cN0 hNl) (by omega)
          have qn1 := rd2 ⟨z, rfl⟩ (rd0 cN1 hNl) (by omega)
          have qn2 := rd2 ⟨z, rfl⟩ (rd0 cN2 hNl) (by omega)
          have qn3 := rd2 ⟨z, rfl⟩ (rd0 cN3 hNl) (by omega)
          have qn4 := rd2 ⟨z, rfl⟩ (rd0 cN4 hNl) (by omega)
          have hnz : w.heap.size < z.val.heap.size := by omega
          have hnn : w.heap.size ≠ z.val.heap.size := by omega
          have hb5z : b5 < z.val.heap.size := by omega
          have hb5n : b5 ≠ z.val.heap.size := by omega
          have hkh := Lib.hid hk
          rw [hk] at q4
          clear hgx hk hg0 hg0' hg1' hg2' hgt' hta hC5 hle5 hxn hgg
          go_wp2
          refine wp_region_splitT (fun w' => ∃ x : Under (z.val.alloc (.cells #[.int .i64 fn, .int .i64 f.f1, .bool f.f2] 29)), w' = x.val) [true, true, true, true, true, true, true, true, false, false] (by kernel_rfl) (by kernel_rfl) (by decide) ⟨(Under.refl _).drew, rfl⟩ (fun _ _ d _ _ h => by cases d <;> exact h) ?_
          simp only [pickB, dropB]
          repeat (go_big_quiet_step (fail))
          refine wpQuiet_nil ?_
          refine wpListT_step (fun Q' hQ' => ?_)
          go_wp2_with fail
          refine ⟨⟨((Under.refl _).drew).alloc _, rfl⟩, ?_⟩
          refine wpListT_last (fun Q' hQ' => ?_)
          have hN64 : 2 ^ gt.f2.length ≤ 64 := by
            have : 2 ^ gt.f2.length ≤ 2 ^ 6 := Nat.pow_le_pow_right (by decide) hg6
            omega
          have hji4 := shl_pow gt.f2.length hg6
          obtain ⟨N, hN⟩ : ∃ N : Nat, 2 ^ gt.f2.length = N := ⟨_, rfl⟩
          rw [hN] at hN64 hji4 hle hsome
          have hji4_ : (IntKind.i64.wrap (1 * 2 ^ min (gt.f2.length : Int).toNat 64)) = (N : Int) := hji4
          have hji4z := shl_small hji4
          have hji4p : (IntKind.i64.wrap (1 * 2 ^ min gt.f2.length 64)) = (N : Int) := hji4_
          have hji4q : (gt.f2.length : Int) ≤ 64 → (IntKind.i64.wrap (1 * 2 ^ gt.f2.length)) = (N : Int) := hji4z
          have hji4r : (IntKind.i64.wrap (2 ^ min gt.f2.length 64)) = (N : Int) := by have h_ := hji4p; rw [Int.one_mul] at h_; exact h_
          have hji4s : (gt.f2.length : Int) ≤ 64 → (IntKind.i64.wrap (2 ^ gt.f2.length)) = (N : Int) := fun hle_ => by have h_ := hji4q hle_; rw [Int.one_mul] at h_; exact h_
          have hji4y : (wrap64 (1 * 2 ^ min (gt.f2.length : Int).toNat 64)) = (N : Int) := (i64_w0 _).symm.trans hji4_
          have hji4x : (gt.f2.length : Int) ≤ 64 → (wrap64 (1 * 2 ^ (gt.f2.length : Int).toNat)) = (N : Int) := fun h_ => (i64_w0 _).symm.trans (hji4z h_)
          have hN6i : (gt.f2.length : Int) ≤ 64 := by omega
          clear hN
          go_wp2_with fail
          clear hji4 hji4_ hji4z hji4p hji4q hji4r hji4s hji4y hji4x hN6i
          obtain ⟨bs, hbs⟩ : ∃ bs, z.val.heap.size + 1 + 1 = bs := ⟨_, rfl⟩
          obtain ⟨zC, hzC⟩ : ∃ zC, (((z.val.alloc (.cells #[.int .i64 fn, .int .i64 f.f1, .bool f.f2] 29)).alloc (.cells #[.int .i64 gt.f0, .int .u64 gt.f1, .slice A5 gt.f2.length c5] 80)).alloc (.map #[] 0)).drew = zC := ⟨_, rfl⟩
          rw [hzC, hbs]
          have hCs : zC.heap.size = z.val.heap.size + 3 := by rw [← hzC]; simp
          have hCo : ∀ k, k < z.val.heap.size → zC.heap[k]? = z.val.heap[k]? := fun k hk => by
            rw [← hzC]
            exact (Below.heap_alloc _ _ k (Nat.lt_of_lt_of_le hk (by simp; omega))).trans ((Below.heap_alloc _ _ k (Nat.lt_of_lt_of_le hk (by simp))).trans (Below.heap_alloc _ _ k hk))
          have hCF : zC.heap[z.val.heap.size]? = some (.cells #[.int .i64 fn, .int .i64 f.f1, .bool f.f2] 29 (0, 0)) := by
            rw [← hzC]
            exact (Below.heap_alloc _ _ _ (by simp; omega)).trans ((Below.heap_alloc _ _ _ (by simp)).trans (heap_alloc_new _ _))
          have hCG : zC.heap[z.val.heap.size + 1]? = some (.cells #[.int .i64 gt.f0, .int .u64 gt.f1, .slice A5 gt.f2.length c5] 80 (0, 0)) := by
            rw [← hzC]
            refine (Below.heap_alloc _ _ _ (by simp)).trans ?_
            have := heap_alloc_new (z.val.alloc (.cells #[.int .i64 fn, .int .i64 f.f1, .bool f.f2] 29)) (.cells #[.int .i64 gt.f0, .int .u64 gt.f1, .slice A5 gt.f2.length c5] 80)
            simpa using this
          have hCM : MapAt keyB Value.bool zC bs (seenM gt.f1 x.f2 f.f2 0) := by
            have h := map_new keyB Value.bool ((z.val.alloc (.cells #[.int .i64 fn, .int .i64 f.f1, .bool f.f2] 29)).alloc (.cells #[.int .i64 gt.f0, .int .u64 gt.f1, .slice A5 gt.f2.length c5] 80))
            rw [← hzC, ← hbs]
            have e : ((z.val.alloc (.cells #[.int .i64 fn, .int .i64 f.f1, .bool f.f2] 29)).alloc (.cells #[.int .i64 gt.f0, .int .u64 gt.f1, .slice A5 gt.f2.length c5] 80)).heap.size = z.val.heap.size + 1 + 1 := by simp
            rw [e] at h
            exact h
          have hCos : zC.os = z.val.os ∧ zC.tape = z.val.tape ∧ zC.output = z.val.output := by
            have h : Is z.val zC := by rw [← hzC]; exact (((Is.refl _).alloc _).alloc _).alloc _ |>.drew
            exact ⟨h.below.os, h.below.tape, h.below.output⟩
          clear hzC
          obtain ⟨bf, hbf⟩ : ∃ bf, z.val.heap.size = bf := ⟨_, rfl⟩
          obtain ⟨bg, hbg⟩ : ∃ bg, bf + 1 = bg := ⟨_, rfl⟩
          rw [hbf] at hbs hCs hCF hCG ⊢
          rw [hbg] at hbs hCG ⊢
          have rdC : ∀ {Z : World} {b o : Nat} {v : Value}, (∃ q : But zC (fun k => k = bs), Z = q.val) → zC.cell? ⟨b, o, none⟩ = some v → b < bs → Z.cell? ⟨b, o, none⟩ = some v := by
            rintro Z b o v ⟨q, rfl⟩ hc hb
            exact (q.cell b o (by omega) (by omega)).trans hc
          have cFo : zC.cell? ⟨bf, 2, none⟩ = some (.bool f.f2) := (cell_of_row _ _ 2 _ _ _ hCF).trans rfl
          have cGt : zC.cell? ⟨bg, 1, none⟩ = some (.int .u64 gt.f1) := (cell_of_row _ _ 1 _ _ _ hCG).trans rfl
          have cXp : zC.cell? ⟨b4, o4 + 2, none⟩ = some (.int .i64 x.f2) := (World.cell?_of_block (a := ⟨b4, o4 + 2, none⟩) (hCo b4 hb4z)).trans q6
          have hMh := Lib.hid hM
          have hleh := Lib.hid hle
          have hsomeh := Lib.hid hsome
          clear hM hle hsome hCF hCG
          go_loopg [12, 66] N (fun d _ t wr => ∃ (k : Nat) (q : But zC (fun k => k = bs)), t = .int .i64 k ∧ wr = q.val ∧ Aside (k + d = N) ∧ MapAt keyB Value.bool q.val bs (seenM gt.f1 x.f2 f.f2 k))
          case atStart => exact ⟨0, But.refl _ _, rfl, rfl, by show 0 + N = N; omega, hCM⟩
          case round =>
            clear hCM
            obtain ⟨k, q, rfl, rfl, hkd, hMq⟩ := hrel
            have hqs := q.size
            by_cases hkl : k < N
            · obtain ⟨gI, rfl⟩ : ∃ m, gk = m + 1 := ⟨gk - 1, by have := hkd.out; omega⟩
              have r1 := rdC ⟨q, rfl⟩ cFo (by omega)
              have r2 := rdC ⟨q, rfl⟩ cGt (by omega)
              have r3 := rdC ⟨q, rfl⟩ cXp (by omega)
              have s1 : bf < q.val.heap.size := by omega
              have s2 : bg < q.val.heap.size := by omega
              have s3 : b4 < q.val.heap.size := by omega
              have hkdh := Lib.hid hkd.out
              clear hkd
              have hup0 : ∀ (v : Under q.val) (bb : Bool), ∃ o, (Instr.mapUpdate 102 (.map (some bs)) (.bool bb) (.bool true)).run Try.prog v.val = .ok () (setBlock v.val bs o) ∧ MapAt keyB Value.bool (setBlock v.val bs o) bs (mput (seenM gt.f1 x.f2 f.f2 k) bb true) := fun v bb => run_mapStore (hMq.is ⟨v, rfl⟩) Try.underlying102 trivial true
              obtain ⟨ob, hob⟩ : ∃ ob : Under q.val → Bool → Obj, ∀ v bb, (Instr.mapUpdate 102 (.map (some bs)) (.bool bb) (.bool true)).run Try.prog v.val = .ok () (setBlock v.val bs (ob v bb)) ∧ MapAt keyB Value.bool (setBlock v.val bs (ob v bb)) bs (mput (seenM gt.f1 x.f2 f.f2 k) bb true) := ⟨fun v bb => Classical.choose (hup0 v bb), fun v bb => Classical.choose_spec (hup0 v bb)⟩
              have hup := fun v bb => (hob v bb).1
              have hobh := Lib.hid (fun v bb => (hob v bb).2)
              have hMqh := Lib.hid hMq
              clear hup0 hob hMq
              have hk64 : k ≤ 64 := by omega
              cases hs : selB x.f2 f.f2 k with
              | true =>
                have qs : ((bits BinOp.and IntKind.i64 ((k : Int) / 2 ^ min x.f2.toNat 64) 1 == 1) == f.f2) = true := hs
                have hsh := Lib.hid hs
                clear hs
                go_wp2
                refine wp_region_under (by kernel_rfl) (by kernel_rfl) ?_
                repeat (go_big_quiet_step (fail))
                refine wpQuiet_nil ?_
                rintro _ ⟨v1, rfl⟩
                have s1 := v1.lt bf s1
                have s2 := v1.lt bg s2
                go_wp2
                go_roundg gI
                case measure => have := hkdh.out; omega
                case rel =>
                  refine ⟨k + 1, (q.under v1).set bs rfl _, by go_num, rfl, by show k + 1 + gI = N; have := hkdh.out; omega, ?_⟩
                  rw [seenM, hsh.out, if_pos rfl, ← bitB_eq gt.f1 hk64]
                  exact hobh.out v1 _
              | false =>
                have qs : ((bits BinOp.and IntKind.i64 ((k : Int) / 2 ^ min x.f2.toNat 64) 1 == 1) == f.f2) = false := hs
                have hsh := Lib.hid hs
                clear hs
                go_wp2
                refine wp_region_under (by kernel_rfl) (by kernel_rfl) ?_
                repeat (go_big_quiet_step (fail))
                refine wpQuiet_nil ?_
                rintro _ ⟨v1, rfl⟩
                go_wp2
                go_roundg gI
                case measure => have := hkdh.out; omega
                case rel =>
                  refine ⟨k + 1, q.under v1, by go_num, rfl, by show k + 1 + gI = N; have := hkdh.out; omega, ?_⟩
                  rw [seenM, hsh.out, if_neg Bool.false_ne_true]
                  exact hMqh.out.is ⟨v1, rfl⟩
            · have hkN : k = N := by have := hkd.out; omega
              have hMq2 := hMq
              rw [hkN] at hMq2
              have hzx : Is x1.val z.val := z.is (Is.of hy1) (fun k hk => by omega)
              have hqx : Is x1.val q.val := (q.is (w0 := x1.val) (Is.of (by
                refine ⟨hCos.1.trans hzx.below.os, hCos.2.1.trans hzx.below.tape, hCos.2.2.trans hzx.below.output, by have := hzx.below.size; omega, fun k hk => ?_⟩
                exact (hCo k (by have := hzx.below.size; omega)).trans (hzx.below.block k hk))) (fun k hk => by omega))
              have hqW : Is w q.val := (Is.of (bel x1)).trans hqx
              have rdN : ∀ {j : Nat} {v : Value}, z.val.cell? ⟨w.heap.size, j, none⟩ = some v → q.val.cell? ⟨w.heap.size, j, none⟩ = some v := fun h => rdC ⟨q, rfl⟩ ((World.cell?_of_block (a := ⟨w.heap.size, _, none⟩) (hCo _ hnz)).trans h) (by omega)
              have r0 := rdN qn0
              have r1 := rdN qn1
              have r2 := rdN qn2
              have r3 := rdN qn3
              have r4 := rdN qn4
              have r5 : q.val.cell? ⟨b4, o4 + 1, none⟩ = some (.int .i64 xn) := rdC ⟨q, rfl⟩ ((World.cell?_of_block (a := ⟨b4, o4 + 1, none⟩) (hCo b4 hb4z)).trans q5) (by omega)
              have s0 : w.heap.size < q.val.heap.size := by omega
              have s3 : b4 < q.val.heap.size := by omega
              have hlk : ∀ u : Under q.val, (Instr.lookup 102 (.map (some bs)) (.bool true) false).run Try.prog u.val = .ok (.bool (anyOne gt.f1 x.f2 f.f2 N)) u.val := by
                intro u
                have h := run_mapLookup (hMq2.is ⟨u, rfl⟩) Try.underlying102 (hzb _) (k := true) trivial
                rw [seenM_get] at h
                refine h.trans ?_
                show Result.ok (((if anyOne gt.f1 x.f2 f.f2 N = true then some true else none).map Value.bool).getD (.bool false)) u.val = _
                cases anyOne gt.f1 x.f2 f.f2 N <;> rfl
              have hlkh := Lib.hid hlk
              have hbsh := Lib.hid (show bg = bf + 1 ∧ bs = bf + 2 ∧ z.val.heap.size = bf ∧ zC.heap.size = bf + 3 by omega)
              clear hkN hkd hMq hlk hbs hCs qn0 qn1 qn2 qn3 qn4 qg0 qg1 qg2 q4 q5 q6 cFo cGt cXp
              go_upto_region 17 with (fail)
              go_cut [13] (fun s wc => ∃ (gq : Nat) (u : Under q.val), s = .pointer (some ⟨gq, 0, none⟩) ∧ wc = u.val ∧ u.val.heap[gq]? = some (.cells #[.int .i64 (2 + (l0.length : Int) + l2.length + xn), .int .i64 (-1), .bool (anyOne gt.f1 x.f2 f.f2 N)] 29 (0, 0)))
              case first =>
                refine wp_region_splitL (fun w' => ∃ u : Under q.val, w' = u.val) [false, false, false, false, false, false, false, false, false, false, false, false] [true, false, true, true, true, true, false, true, true, false, false, false] [] 5 #[true, false, true, true, true, true, false, true, true, false, false, false] (by kernel_rfl) (by kernel_rfl) (by decide) ⟨(Under.refl _).drew, rfl⟩ (fun _ _ d _ _ h => by cases d <;> exact h) ?_
                simp only [pickB]
                refine wpQuiet_nil ?_
                have hlk := hlkh.out
                repeat (go_big_quiet_step (fail))
                refine wpQuiet_nil ?_
                clear hlk
                refine anyL_two (i := 1) (j := 10) #[true, true, true, true, true, true, false, true, true, false, false, false] #[true, false, true, true, true, true, false, true, true, false, true, false] (by kernel_rfl) rfl rfl (by decide) (by decide) (fun Q' hQ' => ?_) (fun Q' hQ' => ?_)
                · go_wp2_with (go_at_call 32; refine (HI _ (hqW.drew).below).mono ?_; rintro e w6 ⟨rfl, hB6⟩; obtain ⟨x6, rfl⟩ : ∃ x : Under q.val.drew, w6 = x.val := ⟨⟨w6, hB6⟩, rfl⟩; clear hB6)
                  refine ⟨(by first | exact .inr ⟨(Under.refl _).drew.trans x6, rfl⟩ | exact ⟨(Under.refl _).drew.trans x6, rfl⟩), ?_⟩
                  refine anyL_take (i := 6) #[true, true, true, true, true, true, true, true, true, false, false, false] (by kernel_rfl) rfl (by decide) ⟨((Under.refl q.val).drew.trans x6), rfl⟩ (fun _ _ d _ _ h => by cases d <;> exact h) ?_
                  repeat (go_big_quiet_step (fail))
                  refine wpQuiet_nil ?_
                  refine anyL_take (i := 9) #[true, true, true, true, true, true, true, true, true, true, false, false] (by kernel_rfl) rfl (by decide) ⟨((Under.refl q.val).drew.trans x6), rfl⟩ (fun _ _ d _ _ h => by cases d <;> exact h) ?_
                  repeat (go_big_quiet_step (fail))
                  refine wpQuiet_nil ?_
                  refine anyL_one (i := 10) #[true, true, true, true, true, true, true, true, true, true, true, false] (by kernel_rfl) rfl (by decide) (fun Q' hQ' => ?_)
                  go_wp2_with fail
                  refine ⟨(by first | exact .inr ⟨(((Under.refl q.val).drew.trans x6)).alloc _, rfl⟩ | exact ⟨(((Under.refl q.val).drew.trans x6)).alloc _, rfl⟩), ?_⟩
                  refine anyL_one (i := 11) #[true, true, true, true, true, true, true, true, true, true, true, true] (by kernel_rfl) rfl (by decide) (fun Q' hQ' => ?_)
                  go_wp2
                  have hI2 : Is q.val (x6.val.alloc (.cells #[.int .i64 (2 + (l0.length : Int) + l2.length + xn), .int .i64 (-1), .bool (anyOne gt.f1 x.f2 f.f2 N)] 29)) := ⟨((Under.refl q.val).drew.trans x6).alloc _, rfl⟩
                  obtain ⟨u, hu⟩ := hI2
                  have hcell : u.val.heap[x6.val.heap.size]? = some (.cells #[.int .i64 (2 + (l0.length : Int) + l2.length + xn), .int .i64 (-1), .bool (anyOne gt.f1 x.f2 f.f2 N)] 29 (0, 0)) := by
                    rw [← hu]
                    exact heap_alloc_new _ _
                  refine ⟨.inr ⟨u, hu⟩, ?_⟩
                  refine anyL_end (by kernel_rfl) ?_
                  rw [hu]
                  go_wp2
                  go_meet
                  case rel => exact ⟨x6.val.heap.size, u, rfl, rfl, hcell⟩
                · go_wp2_with fail
                  refine ⟨(by first | exact .inr ⟨(Under.refl _).drew.alloc _, rfl⟩ | exact ⟨(Under.refl _).drew.alloc _, rfl⟩), ?_⟩
                  refine anyL_one (i := 1) #[true, true, true, true, true, true, false, true, true, false, true, false] (by kernel_rfl) rfl (by decide) (fun Q' hQ' => ?_)
                  go_wp2_with (go_at_call 32; refine (HI _ ((hqW.alloc _).drew).below).mono ?_; rintro e w6 ⟨rfl, hB6⟩; obtain ⟨x6, rfl⟩ : ∃ x : Under (q.val.alloc (.cells #[.int .i64 0, .int .i64 0, .bool false] 29)).drew, w6 = x.val := ⟨⟨w6, hB6⟩, rfl⟩; clear hB6)
                  refine ⟨(by first | exact .inr ⟨(((Under.refl q.val).alloc _).drew.trans x6), rfl⟩ | exact ⟨(((Under.refl q.val).alloc _).drew.trans x6), rfl⟩), ?_⟩
                  have hgm : x6.val.heap[q.val.heap.size]? = some (.cells #[.int .i64 0, .int .i64 0, .bool false] 29 (0, 0)) := (x6.ok.block _ (by simp)).trans (heap_alloc_new _ _)
                  refine anyL_take (i := 6) #[true, true, true, true, true, true, true, true, true, false, true, false] (by kernel_rfl) rfl (by decide) ⟨(((Under.refl q.val).alloc _).drew.trans x6), rfl⟩ (fun _ _ d _ _ h => by cases d <;> exact h) ?_
                  repeat (go_big_quiet_step (fail))
                  refine wpQuiet_nil ?_
                  refine anyL_take (i := 9) #[true, true, true, true, true, true, true, true, true, true, true, false] (by kernel_rfl) rfl (by decide) ⟨(((Under.refl q.val).alloc _).drew.trans x6), rfl⟩ (fun _ _ d _ _ h => by cases d <;> exact h) ?_
                  repeat (go_big_quiet_step (fail))
                  refine wpQuiet_nil ?_
                  refine anyL_one (i := 11) #[true, true, true, true, true, true, true, true, true, true, true, true] (by kernel_rfl) rfl (by decide) (fun Q' hQ' => ?_)
                  have m0 := (cell_of_row x6.val q.val.heap.size 0 _ _ _ hgm).trans rfl
                  have m1 := (cell_of_row x6.val q.val.heap.size 1 _ _ _ hgm).trans rfl
                  have m2 := (cell_of_row x6.val q.val.heap.size 2 _ _ _ hgm).trans rfl
                  simp at m0 m1 m2
                  have hgl : q.val.heap.size < x6.val.heap.size := (Array.getElem?_eq_some_iff.1 hgm).1
                  have hgmh := Lib.hid hgm
                  clear hgm
                  go_wp2
                  have hI2 : Is q.val (((x6.val.setCell ⟨q.val.heap.size, 0, none⟩ (.int .i64 (2 + (l0.length : Int) + l2.length + xn))).setCell ⟨q.val.heap.size, 1, none⟩ (.int .i64 (-1))).setCell ⟨q.val.heap.size, 2, none⟩ (.bool (anyOne gt.f1 x.f2 f.f2 N))) := (((Is.of (((Under.refl q.val).alloc _).drew.trans x6).ok).setCell (Nat.le_refl _) _).setCell (Nat.le_refl _) _).setCell (Nat.le_refl _) _
                  obtain ⟨u, hu⟩ := hI2
                  have hcell : u.val.heap[q.val.heap.size]? = some (.cells #[.int .i64 (2 + (l0.length : Int) + l2.length + xn), .int .i64 (-1), .bool (anyOne gt.f1 x.f2 f.f2 N)] 29 (0, 0)) := by
                    rw [← hu]
                    exact blk_set (blk_set (blk_set hgmh.out 0 _) 1 _) 2 _
                  refine ⟨.inr ⟨u, hu⟩, ?_⟩
                  refine anyL_end (by kernel_rfl) ?_
                  rw [hu]
                  go_wp2
                  go_meet
                  case rel => exact ⟨q.val.heap.size, u, rfl, rfl, hcell⟩
              case rest =>
                obtain ⟨gq, u, rfl, rfl, hcell⟩ := hcut
                obtain ⟨tf, htf⟩ : ∃ tf, (⟨2 + (l0.length : Int) + l2.length + xn, -1, anyOne gt.f1 x.f2 f.f2 N⟩ : S29) = tf := ⟨_, rfl⟩
                have u0 := (cell_of_row _ _ 0 _ _ _ hcell).trans rfl
                have u1 := (cell_of_row _ _ 1 _ _ _ hcell).trans rfl
                have u2 := (cell_of_row _ _ 2 _ _ _ hcell).trans rfl
                simp at u0 u1 u2
                have ugl := (Array.getElem?_eq_some_iff.1 hcell).1
                have hux : Is x1.val u.val := hqx.step u
                have hX := HX tf _ cL u.val (kd_is hL1 hux) hcL
                rw [← htf] at hX
                have hXh := Lib.hid hX
                obtain ⟨hb1', hb2', hb3', hb4'⟩ := hbsh.out
                have hMz := ((hMh.out.step (w1 := zC) (hCo bm (by omega))).step (q.block bm (by omega) (by omega)))
                have hMzh := Lib.hid hMz
                have hMqh := Lib.hid hMq2
                have hzq : ∀ x7 : Under u.val, ∃ zq : But y (fun k => k = bm), zq.val = x7.val := fun x7 => ⟨(((z.over (H := fun _ => False) ⟨zC, hCos.1, hCos.2.1, hCos.2.2, by omega, fun k hk _ => hCo k hk⟩ (fun _ h _ => h.elim)).over q (fun k hk hl => by omega)).under u).under x7, rfl⟩
                clear hX hMz hMq2 hcell hb1' hb2' hb3' hb4'
                rcases fix_cases hsomeh.out with ⟨hl2, hno⟩ | ⟨hl1, hyes, hone⟩
                · have hlnh := Lib.hid (show leadR rows l0 l2 l3 list i = none by have := hleh.out; rw [if_neg hno] at this; exact this)
                  clear hno
                  have hlen : ∀ (x7 : Under u.val) ty, (Builtin.len_ #[102] ty #[.map (some bs)]).run Try.prog x7.val = .ok (.int .i64 2) x7.val := fun x7 ty => by
                    have h := run_mapLen ((hMqh.out.is ⟨u, rfl⟩).is ⟨x7, rfl⟩) Try.underlying102 ty
                    rw [hl2] at h
                    exact h
                  clear hl2
                  go_wp2_with (go_at_call 44; refine hXh.out.mono ?_; rintro e w7 ⟨rfl, hB7⟩; obtain ⟨x7, rfl⟩ : ∃ x : Under u.val, w7 = x.val := ⟨⟨w7, hB7⟩, rfl⟩; clear hB7)
                  go_roundg gO
                  case measure => have := hih.out; omega
                  case rel =>
                    obtain ⟨z7, hz7⟩ := hzq x7
                    refine ⟨i + 1, z7, by go_num, hz7.symm, by show i + 1 + gO = list.length; have := hih.out; omega, ?_⟩
                    rw [leadM_none _ hlnh.out, hz7]
                    exact (hMzh.out.is ⟨u, rfl⟩).is ⟨x7, rfl⟩
                · have hle2 := hleh.out
                  rw [if_pos hyes, Option.bind_some, hone, htf] at hle2
                  clear hyes hone
                  have hlen : ∀ (x7 : Under u.val) ty, (Builtin.len_ #[102] ty #[.map (some bs)]).run Try.prog x7.val = .ok (.int .i64 1) x7.val := fun x7 ty => by
                    have h := run_mapLen ((hMqh.out.is ⟨u, rfl⟩).is ⟨x7, rfl⟩) Try.underlying102 ty
                    rw [hl1] at h
                    exact h
                  clear hl1
                  cases hfi : list.findIdx? (eqF tf) with
                  | none =>
                    have hlnh := Lib.hid (show leadR rows l0 l2 l3 list i = none by rw [hle2, hfi])
                    have hio : idxOr list tf = -1 := by unfold idxOr; rw [hfi]
                    have hX1 := hXh.out
                    rw [← htf] at hio; rw [hio] at hX1
                    clear hXh
                    have hXh := Lib.hid hX1
                    clear hX1
                    clear hle2 hfi hio
                    go_wp2_with (go_at_call 44; refine hXh.out.mono ?_; rintro e w7 ⟨rfl, hB7⟩; obtain ⟨x7, rfl⟩ : ∃ x : Under u.val, w7 = x.val := ⟨⟨w7, hB7⟩, rfl⟩; clear hB7)
                    go_roundg gO
                    case measure => have := hih.out; omega
                    case rel =>
                      obtain ⟨z7, hz7⟩ := hzq x7
                      refine ⟨i + 1, z7, by go_num, hz7.symm, by show i + 1 + gO = list.length; have := hih.out; omega, ?_⟩
                      rw [leadM_none _ hlnh.out, hz7]
                      exact (hMzh.out.is ⟨u, rfl⟩).is ⟨x7, rfl⟩
                  | some j =>
                    have hlnh := Lib.hid (show leadR rows l0 l2 l3 list i = some j by rw [hle2, hfi])
                    have hio : idxOr list tf = (j : Int) := by unfold idxOr; rw [hfi]
                    have hX1 := hXh.out
                    rw [← htf] at hio; rw [hio] at hX1
                    clear hXh
                    have hXh := Lib.hid hX1
                    clear hX1
                    have hjl : j < list.length := (List.findIdx?_eq_some_iff_getElem.1 hfi).1
                    have hjb := Lib.hid (show (j : Int) ≤ 9223372036854775807 by omega)
                    have hiok : keyI.ok (i : Int) := InK.mk64 (by show (_ : Int) ≤ (i : Int) ∧ (i : Int) ≤ _; omega)
                    have hup0 : ∀ (x7 : Under u.val), ∃ o, (Instr.mapUpdate 101 (.map (some bm)) (.int .i64 i) (.int .i64 j)).run Try.prog x7.val = .ok () (setBlock x7.val bm o) ∧ MapAt keyI (Value.int .i64) (setBlock x7.val bm o) bm (mput (leadM (leadR rows l0 l2 l3 list) i) (i : Int) (j : Int)) := fun x7 => run_mapStore ((hMzh.out.is ⟨u, rfl⟩).is ⟨x7, rfl⟩) Try.underlying101 hiok (j : Int)
                    obtain ⟨o7, ho7⟩ := Classical.skolem.1 hup0
                    have hup := fun x7 => (ho7 x7).1
                    have ho7h := Lib.hid (fun x7 => (ho7 x7).2)
                    clear hle2 hfi hio hup0 ho7 hiok hjl
                    go_wp2_with (go_at_call 44; refine hXh.out.mono ?_; rintro e w7 ⟨rfl, hB7⟩; obtain ⟨x7, rfl⟩ : ∃ x : Under u.val, w7 = x.val := ⟨⟨w7, hB7⟩, rfl⟩; clear hB7)
                    go_roundg gO
                    case measure => have := hih.out; omega
                    case rel =>
                      obtain ⟨z7, hz7⟩ := hzq x7
                      refine ⟨i + 1, z7.set bm rfl (o7 x7), by go_num, by rw [← hz7]; rfl, by show i + 1 + gO = list.length; have := hih.out; omega, ?_⟩
                      rw [leadM_some _ hlnh.out]
                      show MapAt keyI (Value.int .i64) (setBlock z7.val bm (o7 x7)) bm _
                      rw [hz7]
                      exact ho7h.out x7
        · have hw : (x.f0 == 0) = false := by rw [beq_eq_false_iff_ne]; exact hk
          have hln : leadR rows l0 l2 l3 list i = none := by rw [hle]; unfold targetAt; rw [if_neg hk]; rfl
          have hlnh := Lib.hid hln
          have hMh := Lib.hid hM
          clear hln hle hM hgx hk
          go_wp2
          go_roundg gO
          case measure => have := hih.out; omega
          case rel =>
            refine ⟨i + 1, z.alloc _, by go_num, rfl, by show i + 1 + gO = list.length; have := hih.out; omega, ?_⟩
            rw [leadM_none _ hlnh.out]
            exact hMh.out.is ((Is.refl _).alloc _)
      · have hw : ((row.length : Int) == 1) = false := by rw [beq_eq_false_iff_ne]; omega
        have hlnh := Lib.hid (lead_not (l0 := l0) (l2 := l2) (l3 := l3) hf hfn hrow h1)
        have hMh := Lib.hid hM
        clear hM h1 hf hfn hrow
        go_wp2
        go_roundg gO
        case measure => have := hih.out; omega
        case rel =>
          refine ⟨i + 1, z.alloc _, by go_num, rfl, by show i + 1 + gO = list.length; have := hih.out; omega, ?_⟩
          rw [leadM_none _ hlnh.out]
          exact hMh.out.is ((Is.refl _).alloc _)
    · obtain rfl : i = list.length := by have := hi.out; omega
      have hzW : Is w z.val := z.is (Is.of hyW) (fun k hk => by omega)
      have hMh := Lib.hid hM
      clear hi hM
      go_wp2_with ((with_reducible refine gate_dst (N := 115) rfl ?_); refine Kd.R_make (Kd.int .i64) (w0 := w) w.heap.size 3 rfl (N := 115) rfl 25 (.tmp 114) (.tmp 114) rfl (list.length : Int) rfl rfl Try.underlying25 (.int .i64 0) 8 (by kernel_rfl) rfl (by exact Nat.succ_pos _) (by decide) 0 (ok := fun _ => True) (okp := fun _ => False) rfl (fun _ h => h.elim) trivial (by omega) (by simp; omega) (hzW.alloc _).below (hzW.alloc _).below.size ?_; intro v3 w3 hR3 hB3 hg3 hf3; obtain ⟨gv, cv, rfl, hgv⟩ := made_form hR3 hf3; rw [Int.toNat_natCast] at hR3; simp only [List.length_replicate, Int.toNat_natCast])
      obtain ⟨bh, hbh⟩ : ∃ bh, z.val.heap.size = bh := ⟨_, rfl⟩
      have e3 := hg3.size
      have e3' : bh < w3.heap.size := by simp at e3; omega
      have egv : bh < gv := by simp at hgv; omega
      have lgv : gv < w3.heap.size := Kd.R_lt hR3 gv (by simp [Value.ownBlock])
      have ebm : bm < bh := by omega
      have hML : MapAt keyI (Value.int .i64) w3 bm (leadM (leadR rows l0 l2 l3 list) list.length) := (hMh.out.is ((Is.refl _).alloc (.map #[] 0))).step (hg3.block _ (by simp; omega) (by simp))
      have hMH : MapAt keyI (Value.int .i64) w3 bh (headM (root (leadR rows l0 l2 l3 list) list.length) 0) := by
        rw [← hbh]
        exact (map_new keyI (Value.int .i64) z.val).step (hg3.block _ (by simp) (by simp))
      rw [List.length_replicate] at hR3
      rw [hbh]
      have lt' : ∀ i k, leadR rows l0 l2 l3 list i = some k → k < list.length := by
        intro i k h
        unfold leadR at h
        obtain ⟨f, _, h⟩ := Option.bind_eq_some_iff.1 h
        obtain ⟨t, _, h⟩ := Option.bind_eq_some_iff.1 h
        exact (List.findIdx?_eq_some_iff_getElem.1 h).1
      have hW3 := hB3
      have huph := Lib.hid up
      have hlth := Lib.hid lt'
      have hRh0 := Lib.hid hR3
      clear hMh hf3 hB3 hg3 hgv hR3 hzs e3 up lt' hbh
      obtain ⟨lead, hlead⟩ : ∃ lead, leadR rows l0 l2 l3 list = lead := ⟨_, rfl⟩
      rw [hlead] at hML hMH huph hlth
      have hleadh := Lib.hid hlead
      have hMHh := Lib.hid hMH
      have hMLh := Lib.hid hML
      clear hMH hML hlead
      go_loopg [17, 18, 19, 20, 21, 22, 118] list.length (fun d _ _ _ _ _ _ t wr => ∃ (i : Nat) (z : But w3 (fun k => k = bh ∨ k = gv)), t = .int .i64 i ∧ wr = z.val ∧ Aside (i + d = list.length) ∧ MapAt keyI (Value.int .i64) z.val bh (headM (root lead list.length) i) ∧
        Kd.R (Kd.int .i64) 3 z.val w.heap.size (fun _ => True) (.slice (some ⟨gv, 0, none⟩) list.length cv) ((List.range i).map (fun j => ((cls lead list.length j : Nat) : Int)) ++ List.replicate (list.length - i) 0))
      case atStart => exact ⟨0, But.refl _ _, rfl, rfl, by show 0 + list.length = list.length; omega, hMHh.out, hRh0.out⟩
      case round =>
        clear hMHh hRh0
        obtain ⟨i, z, rfl, rfl, hi, hM, hR⟩ := hrel
        have hzs := z.size
        by_cases hlt : i < list.length
        · obtain ⟨gO, rfl⟩ : ∃ m, gk = m + 1 := ⟨gk - 1, by have := hi.out; omega⟩
          have hih := Lib.hid hi.out
          have hMh := Lib.hid hM
          have hRh := Lib.hid hR
          have hLz := Lib.hid (hMLh.out.step (z.block bm (by omega) (by omega)))
          clear hi hM hR
          go_wp2
          go_loopg [18, 19, 20] (list.length - i) (fun d t _ _ wr => ∃ (k : Nat), t = .int .i64 k ∧ wr = z.val ∧ Aside (k + d = list.length ∧ k < list.length ∧ root lead list.length k = root lead list.length i))
          case atStart => exact ⟨i, rfl, rfl, by omega, hlt, rfl⟩
          case round =>
            obtain ⟨k, rfl, rfl, hk⟩ := hrel
            obtain ⟨hk1, hk2, hk3⟩ := hk.out
            have hk3h := Lib.hid hk3
            have hkok : keyI.ok (k : Int) := InK.mk64 (by show (_ : Int) ≤ (k : Int) ∧ (k : Int) ≤ _; omega)
            have hlk0 := run_mapLookupOk hLz.out Try.underlying101 (hz _) hkok
            rw [leadM_get, if_pos hk2] at hlk0
            clear hk hk3
            cases hl : lead k with
            | some k2 =>
              have hk2' := huph.out k k2 hl
              have hk3' := hlth.out k k2 hl
              have hroot := Lib.hid (root_lead huph.out hl list.length hk2)
              rw [hl] at hlk0
              have hlk : (Instr.lookup 101 (.map (some bm)) (.int .i64 k) true).run Try.prog z.val = .ok (.tuple #[.int .i64 (k2 : Int), .bool true]) z.val := hlk0
              clear hlk0 hl hkok
              go_wp2
              go_roundg (list.length - k2)
              case measure => omega
              case rel => exact ⟨k2, rfl, rfl, by omega, hk3', by rw [← hroot.out]; exact hk3h.out⟩
            | none =>
              have hrk := root_none hl list.length
              rw [hl] at hlk0
              have hlk : (Instr.lookup 101 (.map (some bm)) (.int .i64 k) true).run Try.prog z.val = .ok (.tuple #[.int .i64 0, .bool false]) z.val := hlk0
              rw [hrk] at hk3h
              have hrih := hk3h
              clear hlk0 hl hrk hk3h
              have hcl := headM_cls (lead := lead) huph.out hlt
              rw [← hrih.out] at hcl
              obtain ⟨c, hc⟩ : ∃ c : Int, ((cls lead list.length i : Nat) : Int) = c := ⟨_, rfl⟩
              rw [hc] at hcl
              have hch := Lib.hid hc
              by_cases hp : (mget (headM (root lead list.length) i) (k : Int)).isSome = true
              · have hh : headM (root lead list.length) (i + 1) = headM (root lead list.length) i := by
                  rw [headM, ← hrih.out, if_pos hp]
                rw [hh] at hcl
                have hlk1 := run_mapLookupOk hMh.out Try.underlying101 (hz _) hkok
                have hlk2 := run_mapLookup hMh.out Try.underlying101 (hz _) hkok
                rw [hcl] at hlk1 hlk2
                have hlk1 : (Instr.lookup 101 (.map (some bh)) (.int .i64 k) true).run Try.prog z.val = .ok (.tuple #[.int .i64 c, .bool true]) z.val := hlk1
                have hlk2 : (Instr.lookup 101 (.map (some bh)) (.int .i64 k) false).run Try.prog z.val = .ok (.int .i64 c) z.val := hlk2
                have hcell := Kd.R_celln (0 : Int) hRh.out (i : Int) (by omega) (by omega)
                rw [Int.toNat_natCast] at hcell
                have hcell1 := hcell.1
                have hcell2 := hcell.2
                have hPh := Lib.hid (Kd.R_putg hRh.out (i : Int) c)
                rw [Int.toNat_natCast] at hPh
                have hhh := Lib.hid hh
                clear hcl hp hc hcell hh
                go_wp2
                go_roundg gO
                case measure => have := hih.out; omega
                case rel =>
                  refine ⟨i + 1, z.grown hPh.out.2 (fun j hj => by injection hj with hj; exact .inr hj.symm), by go_num, rfl, by show i + 1 + gO = list.length; have := hih.out; omega, ?_, ?_⟩
                  · rw [hhh.out]
                    exact hMh.out.step (Below.heap_setCell _ ⟨gv, i, none⟩ _ bh (by show bh ≠ gv; omega))
                  · have h1 := hPh.out.1
                    have hset := out_set (fun j => ((cls lead list.length j : Nat) : Int)) i hlt
                    rw [show ((cls lead list.length i : Nat) : Int) = c from hch.out] at hset
                    rw [hset] at h1
                    exact h1
              · have hh : headM (root lead list.length) (i + 1) = mput (headM (root lead list.length) i) (k : Int) (i : Int) := by
                  rw [headM, ← hrih.out, if_neg hp]
                have hno : mget (headM (root lead list.length) i) (k : Int) = none := by
                  cases h : mget (headM (root lead list.length) i) (k : Int) with
                  | none => rfl
                  | some v => rw [h] at hp; exact absurd rfl hp
                have hlk1 := run_mapLookupOk hMh.out Try.underlying101 (hz _) hkok
                rw [hno] at hlk1
                have hlk1 : (Instr.lookup 101 (.map (some bh)) (.int .i64 k) true).run Try.prog z.val = .ok (.tuple #[.int .i64 0, .bool false]) z.val := hlk1
                obtain ⟨o7, hup0, hM7⟩ := run_mapStore hMh.out Try.underlying101 hkok (i : Int)
                rw [← hh] at hM7
                have hup : (Instr.mapUpdate 101 (.map (some bh)) (.int .i64 k) (.int .i64 i)).run Try.prog z.val = .ok () (setBlock z.val bh o7) := hup0
                have hlk2 := run_mapLookup hM7 Try.underlying101 (hz _) hkok
                rw [hcl] at hlk2
                have hlk2 : (Instr.lookup 101 (.map (some bh)) (.int .i64 k) false).run Try.prog (setBlock z.val bh o7) = .ok (.int .i64 c) (setBlock z.val bh o7) := hlk2
                have hR7 : Kd.R (Kd.int .i64) 3 (setBlock z.val bh o7) w.heap.size (fun _ => True) (.slice (some ⟨gv, 0, none⟩) list.length cv) ((List.range i).map (fun j => ((cls lead list.length j : Nat) : Int)) ++ List.replicate (list.length - i) 0) := R_but ((But.refl z.val (fun k => k = bh)).set bh rfl o7) hRh.out (fun k hk => by simp only [Value.ownBlock, Option.some.injEq] at hk; omega)
                have hcell := Kd.R_celln (0 : Int) hR7 (i : Int) (by omega) (by omega)
                rw [Int.toNat_natCast] at hcell
                have hcell1 := hcell.1
                have hcell2 := hcell.2
                have hPh := Lib.hid (Kd.R_putg hR7 (i : Int) c)
                rw [Int.toNat_natCast] at hPh
                have hM7h := Lib.hid hM7
                clear hcl hp hc hcell hh hno hup0 hM7 hR7
                go_wp2
                go_roundg gO
                case measure => have := hih.out; omega
                case rel =>
                  refine ⟨i + 1, (z.set bh (.inl rfl) o7).grown hPh.out.2 (fun j hj => by injection hj with hj; exact .inr hj.symm), by go_num, rfl, by show i + 1 + gO = list.length; have := hih.out; omega, ?_, ?_⟩
                  · exact hM7h.out.step (Below.heap_setCell _ ⟨gv, i, none⟩ _ bh (by show bh ≠ gv; omega))
                  · have h1 := hPh.out.1
                    have hset := out_set (fun j => ((cls lead list.length j : Nat) : Int)) i hlt
                    rw [show ((cls lead list.length i : Nat) : Int) = c from hch.out] at hset
                    rw [hset] at h1
                    exact h1
        · obtain rfl : i = list.length := by have := hi.out; omega
          rw [Nat.sub_self, List.replicate_zero, List.append_nil] at hR
          have hRh := Lib.hid hR
          clear hi hM hR
          go_wp2
          go_ret
          exact ⟨_, rfl, by rw [hleadh.out]; exact hRh.out, (z.is (Is.of hW3) (fun k hk => by omega)).below⟩
end Go.Proofs.Ytimjccfpobhpeaa
namespace Go.Proofs.Ytimjccfpobhpeaa.PF
open Go.RowKit Go.Proofs.YtimjccfpobhpeaaW.PrintWords Go.Proofs.YtimjccfpobhpeaaW.PrintLast Go.Proofs.YtimjccfpobhpeaaW.PrintMore
set_option linter.unusedVariables false
set_option linter.unusedSimpArgs false
def headAt (l3 : List S80) (one : Bool) : Option (List S77) → Bool
  | some [x] => if x.f0 = 0 then decide (0 ≤ x.f1) && decide (0 ≤ x.f2) && (match l3[x.f1.toNat]? with
    | some g => decide (g.f2.length ≤ 6) && (anyZero g.f1 x.f2 one (2 ^ g.f2.length) || anyOne g.f1 x.f2 one (2 ^ g.f2.length))
    | none => false) else true
  | _ => true
theorem headAt_one {l3 : List S80} {one : Bool} {x : S77} (h : headAt l3 one (some [x]) = true) (h0 : x.f0 = 0) : 0 ≤ x.f1 ∧ 0 ≤ x.f2 ∧ ∃ g, l3[x.f1.toNat]? = some g ∧ g.f2.length ≤ 6 ∧ (anyZero g.f1 x.f2 one (2 ^ g.f2.length) || anyOne g.f1 x.f2 one (2 ^ g.f2.length)) = true := by
  have h : (if x.f0 = 0 then decide (0 ≤ x.f1) && decide (0 ≤ x.f2) && (match l3[x.f1.toNat]? with
    | some g => decide (g.f2.length ≤ 6) && (anyZero g.f1 x.f2 one (2 ^ g.f2.length) || anyOne g.f1 x.f2 one (2 ^ g.f2.length))
    | none => false) else true) = true := h
  rw [if_pos h0, Bool.and_eq_true, Bool.and_eq_true, decide_eq_true_eq, decide_eq_true_eq] at h
  refine ⟨h.1.1, h.1.2, ?_⟩
  have h2 := h.2
  cases hg : l3[x.f1.toNat]? with
  | none => rw [hg] at h2; cases h2
  | some g =>
    rw [hg] at h2
    simp only [Bool.and_eq_true, decide_eq_true_eq] at h2
    exact ⟨g, rfl, h2.1, h2.2⟩
def headsOk (l0 : List ByteArray) (l2 : List S82) (l3 : List S80) (rows : List (List S77)) (list : List S29) : Bool :=
  decide (list.length * 8 ≤ 281474976710656) && decide (2 + l0.length + l2.length + l3.length ≤ 1000000000) && (list.all fun f => decide (0 ≤ f.f0) && decide (f.f0 < rows.length) && headAt l3 f.f2 rows[f.f0.toNat]?) && (List.range list.length).all fun i => match leadR rows l0 l2 l3 list i with
    | some k => decide (i < k)
    | none => true
theorem headsOk_of {l0 : List ByteArray} {l2 : List S82} {l3 : List S80} {rows : List (List S77)} {list : List S29} (h : headsOk l0 l2 l3 rows list = true) :
    list.length * 8 ≤ 281474976710656 ∧ 2 + l0.length + l2.length + l3.length ≤ 1000000000 ∧ (∀ f ∈ list, (0 ≤ f.f0 ∧ f.f0 < rows.length) ∧ headAt l3 f.f2 rows[f.f0.toNat]? = true) ∧ ∀ i k, leadR rows l0 l2 l3 list i = some k → i < k := by
  unfold headsOk at h
  simp only [Bool.and_eq_true, decide_eq_true_eq, List.all_eq_true] at h
  refine ⟨h.1.1.1, h.1.1.2, h.1.2, fun i k hk => ?_⟩
  rcases Nat.lt_or_ge i list.length with hi | hi
  · have h1 := h.2 i (List.mem_range.2 hi)
    rw [hk] at h1
    exact of_decide_eq_true h1
  · unfold leadR at hk
    rw [List.getElem?_eq_none hi] at hk
    cases hk
theorem index_l0 (l : List S29) (hl : l.length ≤ 1000000000000) (t : S29) : ∀ (d i : Nat), i + d = l.length → (∀ j x, j < i → l[j]? = some x → eqF t x = false) → ∀ k, d + 1 < k → fault_Fault_44.l0 k l l.length i t.f0 t.f1 t.f2 = some (idxOr l t)
  | 0, i, h, hn, k, hk => by
    obtain ⟨m, rfl⟩ : ∃ m, k = m + 1 := ⟨k - 1, by omega⟩
    rw [fault_Fault_44.l0, if_neg (by omega)]
    have : l.findIdx? (eqF t) = none := by
      rw [List.findIdx?_eq_none_iff]
      intro x hx
      obtain ⟨j, hj⟩ := List.getElem?_of_mem hx
      exact hn j x (by have := (List.getElem?_eq_some_iff.1 hj).1; omega) hj
    unfold idxOr
    rw [this]
  | d + 1, i, h, hn, k, hk => by
    obtain ⟨m, rfl⟩ : ∃ m, k = m + 1 := ⟨k - 1, by omega⟩
    have hi : i < l.length := by omega
    have hx : l[i]? = some l[i] := List.getElem?_eq_getElem hi
    have e : rd_T29 l (i : Int) = l[i] := by simp [rd_T29, hx]
    have hc : (t.f0 == l[i].f0 && (t.f1 == l[i].f1 && t.f2 == l[i].f2)) = eqF t l[i] := by
      unfold eqF
      rw [Bool.and_assoc]
      congr 1
    rw [fault_Fault_44.l0, if_pos (by omega), if_pos (by omega), if_pos (by omega), e, hc]
    by_cases he : eqF t l[i] = true
    · rw [if_pos he]
      have : l.findIdx? (eqF t) = some i := List.findIdx?_eq_some_iff_getElem.2 ⟨hi, he, fun j hj => by rw [hn j _ hj (List.getElem?_eq_getElem (by omega))]; exact Bool.false_ne_true⟩
      unfold idxOr
      rw [this]
    · rw [if_neg he, show wrap64 ((i : Int) + 1) = ((i + 1 : Nat) : Int) by unfold wrap64; omega]
      refine index_l0 l hl t d (i + 1) (by omega) (fun j x hj hjx => ?_) m (by omega)
      by_cases hji : j < i
      · exact hn j x hji hjx
      · obtain rfl : j = i := by omega
        rw [hx] at hjx
        injection hjx with hjx
        rw [← hjx]
        exact Bool.eq_false_iff.2 he
theorem index_f (l : List S29) (hl : l.length ≤ 1000000000000) (t : S29) (k : Nat) (hk : l.length + 1 < k) : fault_Fault_44.f k l t.f0 t.f1 t.f2 = some (idxOr l t) := index_l0 l hl t l.length 0 (by omega) (fun j x hj => absurd hj (Nat.not_lt_zero j)) k hk
def maskref2_Heads.f (k : Nat) (l0_0 : List ByteArray) (l0_1 : List ByteArray) (l0_2 : List (S82)) (l0_3 : List (S80)) (l0_4 : List Int) : Option (List Int) := (maskref2_Faults.f k l0_0 l0_1 l0_2 l0_3 l0_4).bind fun list => (netlist_Loads.f k l0_0 l0_1 l0_2 l0_3 l0_4).bind fun q => if list.length + 1 < k ∧ list.length ≤ 1000000000000 ∧ headsOk l0_0 l0_2 l0_3 q.1 list = true then some (Union.clsL (leadR q.1 l0_0 l0_2 l0_3 list) list.length list.length) else none
set_option maxHeartbeats 2000000 in
theorem maskref2_Heads.calls (k : Nat) (A0_0 : Option Addr) (c0_0 : Nat) (l0_0 : List ByteArray) (A0_1 : Option Addr) (c0_1 : Nat) (l0_1 : List ByteArray) (A0_2 : Option Addr) (c0_2 : Nat) (l0_2 : List (S82)) (A0_3 : Option Addr) (c0_3 : Nat) (l0_3 : List (S80)) (A0_4 : Option Addr) (c0_4 : Nat) (l0_4 : List Int) (r : List Int) (w : World) (hr0_0 : Kd.C Kd.string w A0_0 l0_0.length l0_0) (hc0_0 : l0_0.length ≤ c0_0) (hr0_1 : Kd.C Kd.string w A0_1 l0_1.length l0_1) (hc0_1 : l0_1.length ≤ c0_1) (hr0_2 : Kd.C k82 w A0_2 l0_2.length l0_2) (hc0_2 : l0_2.length ≤ c0_2) (hr0_3 : Kd.C k80 w A0_3 l0_3.length l0_3) (hc0_3 : l0_3.length ≤ c0_3) (hr0_4 : Kd.C (Kd.int .i64) w A0_4 l0_4.length l0_4) (hc0_4 : l0_4.length ≤ c0_4) (h : maskref2_Heads.f k l0_0 l0_1 l0_2 l0_3 l0_4 = some r) :
    Calls Try.prog 19 #[.agg #[.slice A0_0 l0_0.length c0_0, .slice A0_1 l0_1.length c0_1, .slice A0_2 l0_2.length c0_2, .slice A0_3 l0_3.length c0_3, .slice A0_4 l0_4.length c0_4]] w fun e w' => ∃ v0_ : Value, e = .returned (v0_) ∧ Kd.R (Kd.int .i64) 3 w' w.heap.size (fun _ => True) v0_ r ∧ Below w.heap.size w w' := by
  unfold maskref2_Heads.f at h
  obtain ⟨list, hL, h2⟩ := Option.bind_eq_some_iff.1 h
  obtain ⟨⟨rows, e1⟩, hM, h3⟩ := Option.bind_eq_some_iff.1 h2
  by_cases hc : list.length + 1 < k ∧ list.length ≤ 1000000000000 ∧ headsOk l0_0 l0_2 l0_3 rows list = true
  · rw [if_pos hc] at h3
    obtain rfl := Option.some.inj h3
    obtain ⟨hk, hl, hok⟩ := hc
    obtain ⟨c1, c2, c3, c4⟩ := headsOk_of hok
    refine heads_walk A0_0 A0_1 A0_2 A0_3 A0_4 l0_0.length l0_1.length l0_2.length l0_4.length c0_0 c0_1 c0_2 c0_3 c0_4 l0_0 l0_2 l0_3 w list rows e1 hr0_3 c1 c2 (fun f hf => (c3 f hf).1) ?_ c4 ?_ ?_ ?_ ?_
    · intro f hf x hx hx0
      have h1 := (c3 f hf).2
      rw [hx] at h1
      obtain ⟨d1, d2, g, hg, d3, d4⟩ := headAt_one h1 hx0
      have := (List.getElem?_eq_some_iff.1 hg).1
      refine ⟨d1, by omega, d2, fun g' hg' => ?_⟩
      rw [hg] at hg'
      injection hg' with hg'
      subst hg'
      exact ⟨d3, d4⟩
    · exact fun W hW => maskref2_Faults.calls k A0_0 c0_0 l0_0 A0_1 c0_1 l0_1 A0_2 c0_2 l0_2 A0_3 c0_3 l0_3 A0_4 c0_4 l0_4 list W (Kd.C_below hr0_0 hW) hc0_0 (Kd.C_below hr0_1 hW) hc0_1 (Kd.C_below hr0_2 hW) hc0_2 (Kd.C_below hr0_3 hW) hc0_3 (Kd.C_below hr0_4 hW) hc0_4 hL
    · exact fun W hW => netlist_Loads.calls k A0_0 c0_0 l0_0 A0_1 c0_1 l0_1 A0_2 c0_2 l0_2 A0_3 c0_3 l0_3 A0_4 c0_4 l0_4 rows e1 W (Kd.C_below hr0_0 hW) hc0_0 (Kd.C_below hr0_1 hW) hc0_1 (Kd.C_below hr0_2 hW) hc0_2 (Kd.C_below hr0_3 hW) hc0_3 (Kd.C_below hr0_4 hW) hc0_4 hM
    · exact fun W hW => netlist_First.calls A0_0 c0_0 l0_0 A0_1 c0_1 l0_1 A0_2 c0_2 l0_2 A0_3 c0_3 l0_3 A0_4 c0_4 l0_4 _ W (Kd.C_below hr0_0 hW) hc0_0 (Kd.C_below hr0_1 hW) hc0_1 (Kd.C_below hr0_2 hW) hc0_2 (Kd.C_below hr0_3 hW) hc0_3 (Kd.C_below hr0_4 hW) hc0_4 (first_of c2)
    · exact fun t A c W hC hle => fault_Fault_44.calls k A c list t.f0 t.f1 t.f2 _ W hC hle (index_f list hl t k hk)
  · rw [if_neg hc] at h3
    cases h3
end Go.Proofs.Ytimjccfpobhpeaa.PF
