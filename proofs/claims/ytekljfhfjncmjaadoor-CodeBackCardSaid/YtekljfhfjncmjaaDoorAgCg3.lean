/- What the functions of instructions and their texts compute, and the laws of that. -/
import Derived.Test.YtekljfhfjncmjaaDoorAgCg10
namespace AG
open Go Go.Proofs.YtekljfhfjncmjaaDoor
set_option maxRecDepth 100000
set_option maxHeartbeats 4000000



theorem logOk_nil : logOk [] = true := rfl
def iC (x : Int) : List AV := [.int .i64 x]
theorem NS.elem {m : Mem} {v : AV} {l : List Int} (hv : RS iC 1 m v l) {i : Int} {x : Int} (h0 : 0 ≤ i) (hx : l[i.toNat]? = some x) : ∃ b o c ow, (∀ s, elemR 1 v (.int .i64 i) s = some (.ptr b o, s)) ∧ m.get b = some (.cells c ow) ∧ cellsAt c o 1 = some [.int .i64 x] := by
  have hlt := (List.getElem?_eq_some_iff.1 hx).1
  rcases hv with ⟨rfl, rfl⟩ | ⟨b, o, cap, e, rfl, h⟩
  · simp at hlt
  · obtain ⟨c, ow, h1, h2⟩ := h _ _ hx
    refine ⟨b, o + i.toNat * 1, c, ow, fun s => ?_, h1, h2⟩
    rw [elemR_slice, if_pos (by omega)]
/-- What an instruction takes and gives. -/
def effI (op a b c : Int) (l : List Int) : AV :=
  if codeOk op a b c then (if op = 17 then (if (l.length : Int) ≤ a then .tup [.int .i64 0, .int .i64 0, .bool false] else .tup [.int .i64 (l[a.toNat]?.getD 0), .int .i64 (kx 5 op.toNat), .bool true]) else .tup [.int .i64 (kx 4 op.toNat), .int .i64 (kx 5 op.toNat), .bool true])
  else .tup [.int .i64 0, .int .i64 0, .bool false]
theorem codeOk_call {a b c : Int} (h : codeOk 17 a b c = true) : 0 ≤ a := by
  unfold codeOk at h
  simp only [Bool.and_eq_true] at h
  have h3 := h.2.2.1
  have : kx 1 (17 : Int).toNat = 1 := by decide +kernel
  rw [this] at h3
  unfold fitsI at h3
  simp only [if_false, if_true, Bool.and_eq_true, decide_eq_true_eq, show ¬ (1 : Int) = 0 by decide] at h3
  exact h3.1
theorem eff_ex (N : Nat) (hN : 5 ≤ N) (op a b c : Int) (m : Mem) (hT : Tab m) (v : AV) (l : List Int) (hv : RS iC 1 m v l) : run A N 14 [insA op a b c, v] m = some (effI op a b c l, m) := by
  obtain ⟨n, rfl⟩ : ∃ n, N = n + 1 := ⟨N - 1, by omega⟩
  rw [run_14]
  obtain ⟨p1, p2, p3, p4⟩ := hv.plain
  have p5 := hv.lenR
  have hc := code_call n (by omega) op a b c m hT
  unfold fnEv a14 insA effI
  cases hk : codeOk op a b c
  · rw [hk] at hc
    simp only [Bool.false_eq_true, if_false] at hc
    simp only [codeEv, opsEv, oneEv, guardEv, opE_mov, opE_box, opE_loadk, opE_bin, opE_call, St.opd, look_set, look_cons, St.put, St.new, St.read, lookL_nil, lookL_cons, setL_nil, cellsAt_cons, argsT, resEv, bin_ine, in_agg, in_loc, List.contains_cons, List.contains_nil, loc_int, loc_bool, loc_agg, cells_agg, callWith, keepL, List.map, List.length, List.take, List.drop, List.any, List.take_succ_cons, Option.map_some, Nat.reduceEqDiff, Int.reduceEq, Nat.reduceAdd, Nat.reduceLeDiff, Nat.reduceLT, if_true, if_false, Bool.or_false, Bool.not_false, beq_self_eq_true, Bool.false_eq_true, Nat.succ_ne_self, decide_false, keepT_setT, keepT_lit, hc, p1]
  · rw [hk] at hc
    simp only [if_true] at hc
    obtain ⟨h1, h2⟩ := codeOk_op hk
    obtain ⟨s, hs⟩ := kind_ex op h1 h2
    have hb : 0 ≤ op ∧ op < ((25 : Nat) : Int) := by omega
    by_cases h17 : op = 17
    · subst h17
      have ha := codeOk_call hk
      have hs' : cellsAt kinds (0 + 17 * 6) 6 = some [.str s, .int .i64 (kx 1 17), .int .i64 (kx 2 17), .int .i64 (kx 3 17), .int .i64 (kx 4 17), .int .i64 (kx 5 17)] := hs
      have hb' : (0 : Int) ≤ 17 ∧ (17 : Int) < ((25 : Nat) : Int) := by omega
      have ht : (17 : Int).toNat = 17 := rfl
      by_cases hl : (l.length : Int) ≤ a
      · simp only [codeEv, opsEv, oneEv, guardEv, opE_mov, opE_alloc, opE_box, opE_load1, opE_loadk, opE_store, opE_bin, opE_faddr, opE_iaddrL, opE_call, opE_lenL, elemR_slice, St.opd, look_set, look_cons, St.put, St.new, St.read, St.write, lookL_nil, lookL_cons, setL_nil, setL_cons, cellsAt_cons, splice, argsT, resEv, bin_ige, bin_ieq, bin_ine, in_int, in_agg, in_loc, List.contains_cons, List.contains_nil, one_int, loc_int, loc_bool, one_str, loc_agg, cells_agg, callWith, keepL, List.append_nil, List.map, List.length, List.take, List.drop, List.all, List.any, List.nil_append, List.take_succ_cons, List.drop_succ_cons, Option.map_some, Nat.reduceEqDiff, Nat.reduceAdd, Nat.reduceLeDiff, Nat.reduceLT, Nat.reduceMul, if_true, if_false, Bool.and_true, Bool.or_true, Bool.or_false, Bool.true_or, Bool.not_true, Bool.not_false, List.isEmpty_cons, beq_self_eq_true, Bool.false_eq_true, Nat.succ_ne_self, decide_true, keepT_setT, keepT_lit, hc, p1, p5, a14_R1, hT.k, hT.t, hb', and_self, ht, hs', hl]
      · obtain ⟨x, hx⟩ : ∃ x, l[a.toNat]? = some x := ⟨l[a.toNat]'(by omega), by simp⟩
        have hd : l[a.toNat]?.getD 0 = x := by simp [hx]
        obtain ⟨B, O, C, ow, e1, e2, e3⟩ := NS.elem hv ha hx
        simp only [codeEv, opsEv, oneEv, guardEv, opE_mov, opE_alloc, opE_box, opE_load1, opE_loadk, opE_store, opE_bin, opE_faddr, opE_iaddrL, opE_call, opE_lenL, elemR_slice, St.opd, look_set, look_cons, St.put, St.new, St.read, St.write, lookL_nil, lookL_cons, setL_nil, setL_cons, cellsAt_cons, splice, argsT, resEv, bin_ige, bin_ieq, bin_ine, in_int, in_agg, in_loc, List.contains_cons, List.contains_nil, one_int, loc_int, loc_bool, one_str, loc_agg, cells_agg, callWith, keepL, careEv, dOneEv, dOpsEv, accOf, accEv, Option.toList_some, List.append_nil, List.map, List.length, List.take, List.drop, List.all, List.any, List.nil_append, List.take_succ_cons, List.drop_succ_cons, Option.map_some, Nat.reduceEqDiff, Nat.reduceAdd, Nat.reduceLeDiff, Nat.reduceLT, Nat.reduceMul, if_true, if_false, Bool.and_true, Bool.and_false, Bool.or_true, Bool.or_false, Bool.true_or, Bool.not_true, Bool.not_false, List.isEmpty_cons, beq_self_eq_true, Bool.false_eq_true, Nat.succ_ne_self, decide_true, decide_false, keepT_setT, keepT_lit, hc, p1, p5, a14_R1, hT.k, hT.t, hb', and_self, ht, hs', hl, e1, e2, e3, hd, logOk_nil]
    · simp only [codeEv, opsEv, oneEv, guardEv, opE_mov, opE_alloc, opE_box, opE_load1, opE_loadk, opE_store, opE_bin, opE_faddr, opE_iaddrL, opE_call, opE_lenL, elemR_slice, St.opd, look_set, look_cons, St.put, St.new, St.read, St.write, lookL_nil, lookL_cons, setL_nil, setL_cons, cellsAt_cons, splice, argsT, resEv, bin_ige, bin_ieq, bin_ine, in_int, in_agg, in_loc, List.contains_cons, List.contains_nil, one_int, loc_int, loc_bool, one_str, loc_agg, cells_agg, callWith, keepL, careEv, dOneEv, dOpsEv, accOf, accEv, Option.toList_some, List.append_nil, List.map, List.length, List.take, List.drop, List.all, List.any, List.nil_append, List.take_succ_cons, List.drop_succ_cons, Option.map_some, Nat.reduceEqDiff, Nat.reduceAdd, Nat.reduceLeDiff, Nat.reduceLT, if_true, if_false, Bool.and_true, Bool.and_false, Bool.or_true, Bool.or_false, Bool.true_or, Bool.not_true, Bool.not_false, List.isEmpty_cons, beq_self_eq_true, Bool.false_eq_true, Nat.succ_ne_self, decide_true, decide_false, keepT_setT, keepT_lit, hc, p1, p5, a14_R1, hT.k, hT.t, hb, and_self, hs, h17, logOk_nil]

end AG
