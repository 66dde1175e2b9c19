/- What the functions of masks and sets compute, and the laws of that. -/
import Derived.Test.YtenhcejelicjfaaDoorAgMc2
namespace AG
open Go Go.Proofs.YtenhcejelicjfaaDoor
set_option maxRecDepth 100000
set_option maxHeartbeats 4000000


/-- Who comes: the bits of those that are in the set and above both. -/
def thoseF (set : BitVec 32) (lv ac : Int) : List V → Nat → BitVec 32 → BitVec 32
  | [], _, acc => acc
  | x :: r, k, acc => thoseF set lv ac r (k + 1) (if hasI set x.line && (decide (lv < x.prio) && decide (ac < x.prio)) then acc ||| 1#32 <<< k else acc)
def those (set : BitVec 32) (lv ac : Int) (l : List V) : BitVec 32 := if checkV l = 0 then thoseF set lv ac l 0 0#32 else 0#32

theorem those_loop (v : AV) (m : Mem) (l : List V) (hl : l.length ≤ 1000000) (hv : VS m v l) (set : BitVec 32) (lv ac : Int) :
    ∀ (r : List V) (i : Nat) (acc : BitVec 32) (N : Nat) (T : List (Nat × AV)) (L : List (Nat × List AV)) (q : _), l.drop i = r → r.length + 2 ≤ N → codeEv (run A N) (ev A N).2 a53_L1 ⟨44, T, L, m⟩ = q →
      keepT [0, 1, 2, 9, 15, 16, 17] [] T = [(0, U set), (1, .int .i64 lv), (2, .int .i64 ac), (9, U acc), (15, v), (16, .int .i64 l.length), (17, .int .i64 (i : Int))] →
      ∃ T' L', q = some (.exit 0, ⟨44, T', L', m⟩) ∧ keepT [9] [] T' = [(9, U (thoseF set lv ac r i acc))]
  | [], i, acc, N, T, L, q, hd, hN, hq, hk => by
    subst hq
    have hi : ¬ ((i : Int) < (l.length : Int)) := by
      have := List.drop_eq_nil_iff.1 hd
      omega
    rw [a53_L1_step]
    unfold a53_B1 thoseF
    exact ⟨_, _, (by simp only [codeEv, opsEv, oneEv, guardEv, opE_bin, St.opd, look_set, look_cons, St.put, bin_ilt, keepL, Option.map_some, Nat.reduceEqDiff, Nat.reduceLT, if_true, if_false, Bool.false_eq_true, Nat.succ_ne_self, decide_false, hk, hi]; rfl), (by simp only [keepT, List.map, look_set, look_cons, in_U, Nat.reduceEqDiff, if_true, if_false])⟩
  | x :: r, i, acc, N, T, L, q, hd, hN, hq, hk => by
    subst hq
    obtain ⟨hg, hi, hd'⟩ := drop_cons_get hd
    rw [List.length_cons] at hN
    obtain ⟨n, rfl⟩ : ∃ n, N = n + 1 := ⟨N - 1, by omega⟩
    have hv0 := hv
    rcases hv0 with ⟨rfl, h0⟩ | ⟨b, o, cap, ee, rfl, hm⟩
    · rw [h0] at hg; cases hg
    obtain ⟨c, own, hc, hc3⟩ := hm i x hg
    have hi' := idx_ok hg
    have hadd := add_i i (by omega)
    have hs := has_spec (n + 1) (by omega) set x.line m
    have hsh := bin_shl 1#32 .i64 (i : Int) (by omega)
    rw [Int.toNat_natCast] at hsh
    have ih := fun acc T L q => those_loop _ m l hl hv set lv ac r (i + 1) acc n T L q hd' (by omega)
    rw [a53_L1_step]
    unfold a53_B1 thoseF
    by_cases c1 : hasI set x.line = true
    · by_cases c2 : lv < x.prio
      · by_cases c3 : ac < x.prio
        · simp only [codeEv, opsEv, oneEv, guardEv, opE_mov, opE_pick, opE_alloc, opE_load1, opE_loadk, opE_store, opE_bin, opE_faddr, opE_iaddrL, opE_call, elemR_slice, St.opd, look_set, look_cons, St.put, St.new, St.read, St.write, lookL, setL, cellsAt_cons, splice, bin_or, bin_ilt, bin_igt, in_int, in_U, in_slice, in_loc, List.contains_cons, List.contains_nil, one_int, loc_int, cells_agg, loc_U, callWith, keepL, List.append_nil, List.map, List.length, List.take, List.drop, List.all, List.any, List.nil_append, List.take_succ_cons, List.drop_succ_cons, Option.map_some, Nat.reduceEqDiff, Nat.reduceAdd, Nat.reduceLeDiff, Nat.reduceLT, if_true, if_false, Bool.and_true, Bool.or_false, Bool.not_false, List.isEmpty_cons, beq_self_eq_true, Bool.false_eq_true, Nat.succ_ne_self, decide_true, u_1, keepT_setT, hk, hi', and_self, Int.toNat_natCast, hc, hc3, hs, V.c_eq, c1, c2, c3, hsh, hadd, again_of]
          exact ih _ _ _ _ rfl (by simp only [keepT, List.map, look_set, look_cons, in_int, in_U, in_slice, Nat.reduceEqDiff, if_true, if_false])
        · simp only [codeEv, opsEv, oneEv, guardEv, opE_mov, opE_pick, opE_alloc, opE_load1, opE_loadk, opE_store, opE_bin, opE_faddr, opE_iaddrL, opE_call, elemR_slice, St.opd, look_set, look_cons, St.put, St.new, St.read, St.write, lookL, setL, cellsAt_cons, splice, bin_ilt, bin_igt, in_int, in_U, in_slice, in_loc, List.contains_cons, List.contains_nil, one_int, loc_int, cells_agg, loc_U, callWith, keepL, List.append_nil, List.map, List.length, List.take, List.drop, List.all, List.any, List.nil_append, List.take_succ_cons, List.drop_succ_cons, Option.map_some, Nat.reduceEqDiff, Nat.reduceAdd, Nat.reduceLeDiff, Nat.reduceLT, if_true, if_false, Bool.and_true, Bool.and_false, Bool.or_false, Bool.not_false, List.isEmpty_cons, beq_self_eq_true, Bool.false_eq_true, Nat.succ_ne_self, decide_true, decide_false, u_1, keepT_setT, hk, hi', and_self, Int.toNat_natCast, hc, hc3, hs, V.c_eq, c1, c2, c3, hadd, again_of]
          exact ih _ _ _ _ rfl (by simp only [keepT, List.map, look_set, look_cons, in_int, in_U, in_slice, Nat.reduceEqDiff, if_true, if_false])
      · simp only [codeEv, opsEv, oneEv, guardEv, opE_mov, opE_pick, opE_alloc, opE_load1, opE_loadk, opE_store, opE_bin, opE_faddr, opE_iaddrL, opE_call, elemR_slice, St.opd, look_set, look_cons, St.put, St.new, St.read, St.write, lookL, setL, cellsAt_cons, splice, bin_ilt, bin_igt, in_int, in_U, in_slice, in_loc, List.contains_cons, List.contains_nil, one_int, loc_int, cells_agg, loc_U, callWith, keepL, List.append_nil, List.map, List.length, List.take, List.drop, List.all, List.any, List.nil_append, List.take_succ_cons, List.drop_succ_cons, Option.map_some, Nat.reduceEqDiff, Nat.reduceAdd, Nat.reduceLeDiff, Nat.reduceLT, if_true, if_false, Bool.and_true, Bool.false_and, Bool.and_false, Bool.or_false, Bool.not_false, List.isEmpty_cons, beq_self_eq_true, Bool.false_eq_true, Nat.succ_ne_self, decide_true, decide_false, beq_ft, u_1, keepT_setT, hk, hi', and_self, Int.toNat_natCast, hc, hc3, hs, V.c_eq, c1, c2, hadd, again_of]
        exact ih _ _ _ _ rfl (by simp only [keepT, List.map, look_set, look_cons, in_int, in_U, in_slice, Nat.reduceEqDiff, if_true, if_false])
    · simp only [codeEv, opsEv, oneEv, guardEv, opE_mov, opE_pick, opE_alloc, opE_load1, opE_loadk, opE_store, opE_bin, opE_faddr, opE_iaddrL, opE_call, elemR_slice, St.opd, look_set, look_cons, St.put, St.new, St.read, St.write, lookL, setL, cellsAt_cons, splice, bin_ilt, in_int, in_U, in_slice, in_loc, List.contains_cons, List.contains_nil, one_int, loc_int, cells_agg, loc_U, callWith, keepL, List.append_nil, List.map, List.length, List.take, List.drop, List.all, List.any, List.nil_append, List.take_succ_cons, List.drop_succ_cons, Option.map_some, Nat.reduceEqDiff, Nat.reduceAdd, Nat.reduceLeDiff, Nat.reduceLT, if_true, if_false, Bool.and_true, Bool.false_and, Bool.or_false, Bool.not_false, List.isEmpty_cons, beq_self_eq_true, Bool.false_eq_true, Nat.succ_ne_self, decide_true, beq_ft, u_1, keepT_setT, hk, hi', and_self, Int.toNat_natCast, hc, hc3, hs, V.c_eq, c1, hadd, again_of]
      exact ih _ _ _ _ rfl (by simp only [keepT, List.map, look_set, look_cons, in_int, in_U, in_slice, Nat.reduceEqDiff, if_true, if_false])

theorem those_spec (N : Nat) (hN : 60 ≤ N) (m : Mem) (v : AV) (l : List V) (hv : VS m v l) (hl : l.length ≤ 1000000) (set : BitVec 32) (lv ac : Int) : run A N 53 [U set, .int .i64 lv, .int .i64 ac, v] m = some (U (those set lv ac l), m) := by
  obtain ⟨n, rfl⟩ : ∃ n, N = n + 1 := ⟨N - 1, by omega⟩
  rw [run_53]
  unfold fnEv a53 those
  obtain ⟨p1, p2, p3, p4⟩ := hv.plain
  have hln := hv.lenR
  have ck := check_v n (by omega) m v l hv hl
  by_cases hc : checkV l = 0
  · have h32 := (checkV_law hc).2.2
    have hc' := eq_true hc
    simp only [codeEv, opsEv, oneEv, guardEv, opE_mov, opE_bin, opE_call, opE_lenL, St.opd, look_set, look_cons, St.put, argsT, resEv, bin_ine, in_int, in_U, callWith, keepL, List.map, List.length, List.any, Option.map_some, Nat.reduceEqDiff, Nat.reduceAdd, Nat.reduceLT, if_true, if_false, Bool.or_false, Bool.not_true, Bool.false_eq_true, Nat.succ_ne_self, decide_true, u_0, keepT_setT, keepT_lit, p1, p2, hln, ck, hc']
    generalize hq : codeEv (run A n) (ev A n).2 a53_L1 _ = q
    obtain ⟨T', L', rfl, h1⟩ := those_loop v m l hl hv set lv ac l 0 0#32 n _ _ q rfl (by omega) hq (by simp only [keepT, List.map, look_set, look_cons, in_int, in_U, Nat.reduceEqDiff, if_true, if_false, p1, Int.ofNat_zero])
    simp only [look_set, look_cons, loc_U, Nat.reduceEqDiff, Nat.reduceLT, if_true, if_false, Bool.false_eq_true, Nat.succ_ne_self, h1]
  · simp only [codeEv, opsEv, oneEv, guardEv, opE_mov, opE_bin, opE_call, St.opd, look_set, look_cons, St.put, argsT, resEv, bin_ine, in_int, in_U, loc_U, callWith, keepL, List.map, List.length, List.any, Option.map_some, Nat.reduceEqDiff, Nat.reduceAdd, Nat.reduceLT, if_true, if_false, Bool.or_false, Bool.not_false, Bool.false_eq_true, Nat.succ_ne_self, decide_false, u_0, keepT_setT, keepT_lit, p1, p2, ck, hc]

theorem come_spec (N : Nat) (hN : 70 ≤ N) (m : Mem) (v : AV) (l : List V) (hv : VS m v l) (hl : l.length ≤ 1000000) (a : Mk) (ac : Int) : run A N 39 [a.av, .int .i64 ac, v] m = some (U (if a.ok then those a.may a.fr ac l else 0#32), m) := by
  obtain ⟨n, rfl⟩ : ∃ n, N = n + 2 := ⟨N - 2, by omega⟩
  rw [run_39]
  obtain ⟨p1, p2, p3, p4⟩ := hv.plain
  have ck := check_mk n a m
  have th := those_spec (n + 1) (by omega) m v l hv hl a.may a.fr ac
  simp only [av_cells] at ck ⊢
  unfold fnEv a39
  by_cases h : a.ok = true
  · simp only [h, if_true] at ck
    simp only [codeEv, opsEv, oneEv, guardEv, opE_mov, opE_box, opE_load1, opE_loadk, opE_bin, opE_faddr, opE_call, St.opd, look_set, look_cons, St.put, St.new, St.read, lookL, setL, cellsAt_cons, argsT, resEv, bin_ine, in_int, in_agg, in_loc, List.contains_cons, List.contains_nil, loc_int, loc_agg, cells_agg, loc_U, callWith, keepL, List.map, List.length, List.take, List.drop, List.any, List.take_succ_cons, Option.map_some, Nat.reduceEqDiff, Nat.reduceAdd, Nat.reduceLeDiff, Nat.reduceLT, if_true, if_false, Bool.or_false, Bool.not_true, beq_self_eq_true, Bool.false_eq_true, Nat.succ_ne_self, decide_true, u_0, keepT_setT, keepT_lit, p1, p2, ck, th, h]
  · simp only [h] at ck
    simp only [codeEv, opsEv, oneEv, guardEv, opE_mov, opE_box, opE_loadk, opE_bin, opE_call, St.opd, look_set, look_cons, St.put, St.new, St.read, lookL, setL, cellsAt_cons, argsT, resEv, bin_ine, in_int, in_agg, in_loc, List.contains_cons, List.contains_nil, loc_agg, cells_agg, loc_U, callWith, keepL, List.map, List.length, List.take, List.drop, List.any, List.take_succ_cons, Option.map_some, Nat.reduceEqDiff, Nat.reduceAdd, Nat.reduceLeDiff, Nat.reduceLT, if_true, if_false, Bool.or_false, Bool.not_false, beq_self_eq_true, Bool.false_eq_true, Nat.succ_ne_self, decide_false, u_0, keepT_setT, keepT_lit, p1, ck, h, eq20]
theorem sure_spec (N : Nat) (hN : 70 ≤ N) (m : Mem) (v : AV) (l : List V) (hv : VS m v l) (hl : l.length ≤ 1000000) (a : Mk) (ac : Int) : run A N 41 [a.av, .int .i64 ac, v] m = some (U (if a.ok then those a.must a.to ac l else 0#32), m) := by
  obtain ⟨n, rfl⟩ : ∃ n, N = n + 2 := ⟨N - 2, by omega⟩
  rw [run_41]
  obtain ⟨p1, p2, p3, p4⟩ := hv.plain
  have ck := check_mk n a m
  have th := those_spec (n + 1) (by omega) m v l hv hl a.must a.to ac
  simp only [av_cells] at ck ⊢
  unfold fnEv a41
  by_cases h : a.ok = true
  · simp only [h, if_true] at ck
    simp only [codeEv, opsEv, oneEv, guardEv, opE_mov, opE_box, opE_load1, opE_loadk, opE_bin, opE_faddr, opE_call, St.opd, look_set, look_cons, St.put, St.new, St.read, lookL, setL, cellsAt_cons, argsT, resEv, bin_ine, in_int, in_agg, in_loc, List.contains_cons, List.contains_nil, loc_int, loc_agg, cells_agg, loc_U, callWith, keepL, List.map, List.length, List.take, List.drop, List.any, List.take_succ_cons, Option.map_some, Nat.reduceEqDiff, Nat.reduceAdd, Nat.reduceLeDiff, Nat.reduceLT, if_true, if_false, Bool.or_false, Bool.not_true, beq_self_eq_true, Bool.false_eq_true, Nat.succ_ne_self, decide_true, u_0, keepT_setT, keepT_lit, p1, p2, ck, th, h]
  · simp only [h] at ck
    simp only [codeEv, opsEv, oneEv, guardEv, opE_mov, opE_box, opE_loadk, opE_bin, opE_call, St.opd, look_set, look_cons, St.put, St.new, St.read, lookL, setL, cellsAt_cons, argsT, resEv, bin_ine, in_int, in_agg, in_loc, List.contains_cons, List.contains_nil, loc_agg, cells_agg, loc_U, callWith, keepL, List.map, List.length, List.take, List.drop, List.any, List.take_succ_cons, Option.map_some, Nat.reduceEqDiff, Nat.reduceAdd, Nat.reduceLeDiff, Nat.reduceLT, if_true, if_false, Bool.or_false, Bool.not_false, beq_self_eq_true, Bool.false_eq_true, Nat.succ_ne_self, decide_false, u_0, keepT_setT, keepT_lit, p1, ck, h, eq20]

def Mk.has (a : Mk) (s : BitVec 32) (lv : Int) : Bool := a.ok && (decide (a.must &&& ~~~s = 0#32) && (decide (s &&& ~~~a.may = 0#32) && (decide (a.fr ≤ lv) && decide (lv ≤ a.to))))
theorem mhas_spec (N : Nat) (hN : 5 ≤ N) (m : Mem) (a : Mk) (s : BitVec 32) (lv : Int) : run A N 34 [a.av, U s, .int .i64 lv] m = some (.bool (a.has s lv), m) := by
  obtain ⟨n, rfl⟩ : ∃ n, N = n + 2 := ⟨N - 2, by omega⟩
  rw [run_34]
  have ck := check_mk n a m
  simp only [av_cells] at ck ⊢
  unfold fnEv a34 Mk.has
  by_cases h : a.ok = true
  · simp only [h, if_true] at ck
    by_cases c1 : a.must &&& ~~~s = 0#32
    · have c1 := eq_true c1
      by_cases c2 : s &&& ~~~a.may = 0#32
      · have c2 := eq_true c2
        by_cases c3 : a.fr ≤ lv
        · by_cases c4 : lv ≤ a.to
          · simp only [codeEv, opsEv, oneEv, guardEv, opE_mov, opE_pick, opE_box, opE_load1, opE_loadk, opE_bin, opE_faddr, opE_call, St.opd, look_set, look_cons, St.put, St.new, St.read, lookL, setL, cellsAt_cons, argsT, resEv, bin_andNot, bin_ueq, bin_ile, bin_ige, bin_ieq, in_int, in_U, in_agg, in_loc, List.contains_cons, List.contains_nil, loc_bool, loc_agg, cells_agg, callWith, keepL, List.map, List.length, List.take, List.drop, List.any, List.take_succ_cons, Option.map_some, Nat.reduceEqDiff, Nat.reduceAdd, Nat.reduceLeDiff, Nat.reduceLT, if_true, if_false, Bool.and_true, Bool.or_false, beq_self_eq_true, Bool.false_eq_true, Nat.succ_ne_self, decide_true, u_0, keepT_setT, keepT_lit, ck, h, c1, c2, c3, c4]
          · simp only [codeEv, opsEv, oneEv, guardEv, opE_mov, opE_pick, opE_box, opE_load1, opE_loadk, opE_bin, opE_faddr, opE_call, St.opd, look_set, look_cons, St.put, St.new, St.read, lookL, setL, cellsAt_cons, argsT, resEv, bin_andNot, bin_ueq, bin_ile, bin_ige, bin_ieq, in_int, in_U, in_agg, in_loc, List.contains_cons, List.contains_nil, loc_bool, loc_agg, cells_agg, callWith, keepL, List.map, List.length, List.take, List.drop, List.any, List.take_succ_cons, Option.map_some, Nat.reduceEqDiff, Nat.reduceAdd, Nat.reduceLeDiff, Nat.reduceLT, if_true, if_false, Bool.and_false, Bool.or_false, beq_self_eq_true, Bool.false_eq_true, Nat.succ_ne_self, decide_true, decide_false, u_0, keepT_setT, keepT_lit, ck, h, c1, c2, c3, c4]
        · simp only [codeEv, opsEv, oneEv, guardEv, opE_mov, opE_pick, opE_box, opE_load1, opE_loadk, opE_bin, opE_faddr, opE_call, St.opd, look_set, look_cons, St.put, St.new, St.read, lookL, setL, cellsAt_cons, argsT, resEv, bin_andNot, bin_ueq, bin_ige, bin_ieq, in_int, in_U, in_agg, in_loc, List.contains_cons, List.contains_nil, loc_bool, loc_agg, cells_agg, callWith, keepL, List.map, List.length, List.take, List.drop, List.any, List.take_succ_cons, Option.map_some, Nat.reduceEqDiff, Nat.reduceAdd, Nat.reduceLeDiff, Nat.reduceLT, if_true, if_false, Bool.false_and, Bool.and_false, Bool.or_false, beq_self_eq_true, Bool.false_eq_true, Nat.succ_ne_self, decide_true, decide_false, beq_ft, u_0, keepT_setT, keepT_lit, ck, h, c1, c2, c3]
      · simp only [codeEv, opsEv, oneEv, guardEv, opE_mov, opE_pick, opE_box, opE_load1, opE_loadk, opE_bin, opE_faddr, opE_call, St.opd, look_set, look_cons, St.put, St.new, St.read, lookL, setL, cellsAt_cons, argsT, resEv, bin_andNot, bin_ueq, bin_ieq, in_int, in_U, in_agg, in_loc, List.contains_cons, List.contains_nil, loc_bool, loc_agg, cells_agg, callWith, keepL, List.map, List.length, List.take, List.drop, List.any, List.take_succ_cons, Option.map_some, Nat.reduceEqDiff, Nat.reduceAdd, Nat.reduceLeDiff, Nat.reduceLT, if_true, if_false, Bool.false_and, Bool.and_false, Bool.or_false, beq_self_eq_true, Bool.false_eq_true, Nat.succ_ne_self, decide_true, decide_false, beq_ft, u_0, keepT_setT, keepT_lit, ck, h, c1, c2]
    · simp only [codeEv, opsEv, oneEv, guardEv, opE_mov, opE_pick, opE_box, opE_load1, opE_loadk, opE_bin, opE_faddr, opE_call, St.opd, look_set, look_cons, St.put, St.new, St.read, lookL, setL, cellsAt_cons, argsT, resEv, bin_andNot, bin_ueq, bin_ieq, in_int, in_U, in_agg, in_loc, List.contains_cons, List.contains_nil, loc_bool, loc_agg, cells_agg, callWith, keepL, List.map, List.length, List.take, List.drop, List.any, List.take_succ_cons, Option.map_some, Nat.reduceEqDiff, Nat.reduceAdd, Nat.reduceLeDiff, Nat.reduceLT, if_true, if_false, Bool.false_and, Bool.and_false, Bool.or_false, beq_self_eq_true, Bool.false_eq_true, Nat.succ_ne_self, decide_true, decide_false, beq_ft, u_0, keepT_setT, keepT_lit, ck, h, c1]
  · simp only [h] at ck
    simp only [codeEv, opsEv, oneEv, guardEv, opE_mov, opE_pick, opE_box, opE_loadk, opE_bin, opE_call, St.opd, look_set, look_cons, St.put, St.new, St.read, lookL, setL, cellsAt_cons, argsT, resEv, bin_ieq, in_int, in_U, in_agg, in_loc, List.contains_cons, List.contains_nil, loc_bool, loc_agg, cells_agg, callWith, keepL, List.map, List.length, List.take, List.drop, List.any, List.take_succ_cons, Option.map_some, Nat.reduceEqDiff, Nat.reduceAdd, Nat.reduceLeDiff, Nat.reduceLT, if_true, if_false, Bool.false_and, Bool.or_false, beq_self_eq_true, Bool.false_eq_true, Nat.succ_ne_self, decide_false, beq_ft, keepT_setT, keepT_lit, ck, h, eq20]

theorem thoseF_bit (set : BitVec 32) (lv ac : Int) : ∀ (r : List V) (k : Nat) (acc : BitVec 32) (i : Nat), i < 32 → ((thoseF set lv ac r k acc).getLsbD i = true ↔ acc.getLsbD i = true ∨ ∃ j x, r[j]? = some x ∧ i = k + j ∧ hasI set x.line = true ∧ lv < x.prio ∧ ac < x.prio)
  | [], k, acc, i, _ => by simp [thoseF]
  | x :: r, k, acc, i, hi => by
    unfold thoseF
    rw [thoseF_bit set lv ac r (k + 1) _ i hi]
    have key : ((if hasI set x.line && (decide (lv < x.prio) && decide (ac < x.prio)) then acc ||| 1#32 <<< k else acc).getLsbD i = true) ↔ (acc.getLsbD i = true ∨ (i = k ∧ hasI set x.line = true ∧ lv < x.prio ∧ ac < x.prio)) := by
      by_cases c : (hasI set x.line && (decide (lv < x.prio) && decide (ac < x.prio))) = true
      · rw [if_pos c, BitVec.getLsbD_or, BitVec.getLsbD_shiftLeft, BitVec.getLsbD_one]
        simp only [Bool.and_eq_true, decide_eq_true_eq] at c
        simp only [Bool.or_eq_true, Bool.and_eq_true, decide_eq_true_eq, Bool.not_eq_true', decide_eq_false_iff_not]
        constructor
        · rintro (h | h)
          · exact .inl h
          · exact .inr ⟨by omega, c.1, c.2.1, c.2.2⟩
        · rintro (h | h)
          · exact .inl h
          · exact .inr ⟨⟨hi, by omega⟩, by omega, by omega⟩
      · rw [if_neg c]
        simp only [Bool.and_eq_true, decide_eq_true_eq] at c
        constructor
        · exact fun h => .inl h
        · rintro (h | h)
          · exact h
          · exact absurd ⟨h.2.1, h.2.2.1, h.2.2.2⟩ c
    rw [key]
    constructor
    · rintro ((h | h) | ⟨j, y, hj, he, hp⟩)
      · exact .inl h
      · exact .inr ⟨0, x, rfl, h.1, h.2⟩
      · exact .inr ⟨j + 1, y, by rw [List.getElem?_cons_succ]; exact hj, by omega, hp⟩
    · rintro (h | ⟨j, y, hj, he, hp⟩)
      · exact .inl (.inl h)
      · cases j with
        | zero =>
          simp only [List.getElem?_cons_zero, Option.some.injEq] at hj
          subst hj
          exact .inl (.inr ⟨by omega, hp⟩)
        | succ j =>
          simp only [List.getElem?_cons_succ] at hj
          exact .inr ⟨j, y, hj, by omega, hp⟩
theorem those_bit {l : List V} (hc : checkV l = 0) (set : BitVec 32) (lv ac : Int) (i : Nat) (hi : i < 32) : (those set lv ac l).getLsbD i = true ↔ ∃ x, l[i]? = some x ∧ hasI set x.line = true ∧ lv < x.prio ∧ ac < x.prio := by
  unfold those
  rw [if_pos hc, thoseF_bit set lv ac l 0 0#32 i hi]
  constructor
  · rintro (h | ⟨j, x, hj, he, hp⟩)
    · simp at h
    · rw [Nat.zero_add] at he; subst he; exact ⟨x, hj, hp⟩
  · rintro ⟨x, hx, hp⟩
    exact .inr ⟨i, x, hx, by omega, hp⟩
def uC (x : BitVec 32) : List AV := [U x]
theorem uC_eq (x : BitVec 32) : uC x = [U x] := rfl
abbrev US := RS uC 1
theorem get_u {m : Mem} {b o : Nat} {l : List (BitVec 32)} (hm : ∀ (i : Nat) (x : BitVec 32), l[i]? = some x → ∃ cs own, m.get b = some (.cells cs own) ∧ cellsAt cs (o + i * 1) 1 = some (uC x)) {i : Nat} {x : BitVec 32} (hx : l[i]? = some x) :
    ∃ cs own, m.get b = some (.cells cs own) ∧ cellsAt cs (o + i) 1 = some [U x] := by
  obtain ⟨c, own, h1, h2⟩ := hm i x hx
  rw [Nat.mul_one] at h2
  exact ⟨c, own, h1, h2⟩

theorem flat_u (l : List (BitVec 32)) : l.flatMap uC = l.map U := by
  induction l with
  | nil => rfl
  | cons x l ih => rw [List.flatMap_cons, ih]; rfl
theorem RS.elems {m : Mem} {v : AV} {l : List (BitVec 32)} (hv : US m v l) (sn : Nat) (t : List (Nat × AV)) (ll : List (Nat × List AV)) : v.elems ⟨sn, t, ll, m⟩ 1 = some (l.length, l.flatMap uC) := by
  rcases hv with ⟨rfl, rfl⟩ | ⟨b, o, cap, e, rfl, hm⟩
  · rfl
  · by_cases h0 : l.length = 0
    · have : l = [] := List.length_eq_zero_iff.1 h0
      subst this; rfl
    · obtain ⟨x0, hx0⟩ : ∃ x, l[0]? = some x := ⟨l[0]'(by omega), List.getElem?_eq_getElem _⟩
      obtain ⟨c, own, h1, _⟩ := get_u hm hx0
      have cell : ∀ i x, l[i]? = some x → c[o + i]? = some (U x) := by
        intro i x hx
        obtain ⟨c', own', h3, h4⟩ := get_u hm hx
        rw [h1] at h3
        simp only [Option.some.injEq, ABlk.cells.injEq] at h3
        obtain ⟨rfl, rfl⟩ := h3
        unfold cellsAt at h4
        split at h4
        · simp only [Option.some.injEq] at h4
          have := congrArg (fun y => y[0]?) h4
          simpa [List.getElem?_take] using this
        · cases h4
      have hlast : o + (l.length - 1) < c.length := by
        have hx := List.getElem?_eq_getElem (l := l) (i := l.length - 1) (by omega)
        exact (List.getElem?_eq_some_iff.1 (cell _ _ hx)).1
      have hc : cellsAt c o (l.length * 1) = some (l.flatMap uC) := by
        unfold cellsAt
        rw [Nat.mul_one, if_pos (by omega), flat_u]
        congr 1
        apply List.ext_getElem?
        intro i
        rw [List.getElem?_take, List.getElem?_map, List.getElem?_drop]
        by_cases hi : i < l.length
        · rw [if_pos hi, List.getElem?_eq_getElem hi, cell i _ (List.getElem?_eq_getElem hi)]; rfl
        · rw [if_neg hi, List.getElem?_eq_none (by omega)]; rfl
      simp only [AV.elems, h1, hc]
      rw [if_neg h0]

theorem zu0 : zerosEv [U 0#32] 0 = [] := rfl
theorem le24 : (0 ≤ 2 ^ 24) = True := by simp
theorem words_spec (N : Nat) (hN : 1 ≤ N) (m : Mem) (v : AV) (l : List (BitVec 32)) (hv : US m v l) (hl : l.length ≤ 40) (hmn : m.n + 2 ≤ 2 ^ depth) :
    ∃ v' m', run A N 44 [v] m = some (v', m') ∧ Ext m m' ∧ m'.n ≤ m.n + 2 ∧ US m' v' l := by
  obtain ⟨n, rfl⟩ : ∃ n, N = n + 1 := ⟨N - 1, by omega⟩
  rw [run_44]
  obtain ⟨p1, p2, p3, p4⟩ := hv.plain
  have hf := not_full (m := m) (by omega)
  have x1 : Ext m (m.push (.cells [] true)) := (Ext.refl m).push _ (by omega)
  have hf1 := not_full (m := m.push (.cells [] true)) (by rw [push_n]; omega)
  have g1 : (m.push (.cells [] true)).get m.n = some (.cells [] true) := Mem.get_push_new _
  have hel := (hv.ext x1).elems
  have hone : (l.flatMap uC).all AV.one = true := by
    rw [flat_u, List.all_map, List.all_eq_true]; intro x _; rfl
  have app : ∃ v' m', (∀ sn t ll, appEv ⟨sn, t, ll, m.push (.cells [] true)⟩ 1 4 (.slice m.n 0 0 (some 0) 1) v = some (v', ⟨sn, t, ll, m'⟩)) ∧ Ext m m' ∧ m'.n ≤ m.n + 2 ∧ US m' v' l := by
    by_cases h0 : l.length = 0
    · have : l = [] := List.length_eq_zero_iff.1 h0
      subst this
      refine ⟨.slice m.n 0 0 (some 0) 1, (m.push (.cells [] true)).set m.n (.cells [] true), fun sn t ll => ?_, x1.set _ _ (by rw [push_n]; omega) (Nat.le_refl _) (by rw [push_n]; omega), (by rw [set_n, push_n]; omega), .inr ⟨m.n, 0, some 0, 1, rfl, fun i x hx => by cases hx⟩⟩
      simp only [appEv, hel, hone, hf1, g1]
      rfl
    · refine ⟨.slice (m.n + 1) 0 l.length none 1, (m.push (.cells [] true)).push (.cells (l.flatMap uC) true), fun sn t ll => ?_, x1.push _ (by rw [push_n]; omega), (by rw [push_n, push_n]; omega), .inr ⟨m.n + 1, 0, none, 1, rfl, fun i x hx => ⟨_, _, Mem.get_push_new _, flat_cells uC 1 (fun _ => rfl) hx⟩⟩⟩
      simp only [appEv, hel, hone, hf1, g1]
      have c0 : cellsAt ([] : List AV) 0 (0 * 1) = some [] := rfl
      have m1 : l.length ≤ maxLen := Nat.le_trans (show l.length ≤ 1000 by omega) (by decide)
      rw [if_pos trivial, if_neg (by decide), if_neg (by omega), c0]
      simp only [List.nil_append, Nat.zero_add]
      rw [if_pos ⟨by omega, m1⟩]
      rfl
  obtain ⟨v', m', ap, y1, y2, y3⟩ := app
  obtain ⟨q1, q2, q3, q4⟩ := y3.plain
  unfold fnEv a44
  exact ⟨v', m', (by simp only [codeEv, opsEv, oneEv, guardEv, opE_mov, opE_mkslc, opE_app, St.opd, look_set, look_cons, St.put, argsT, resEv, fillEv, keepL, List.map, List.length, Nat.reduceEqDiff, Nat.reduceAdd, Nat.reduceLT, if_true, if_false, Bool.false_eq_true, Nat.succ_ne_self, u_0, keepT_setT, keepT_lit, Nat.zero_mul, zu0, le24, hf, p1, ap, q2]), y1, y2, y3⟩

/-- One round of the closure: what may come to one of the set. -/
def stepF (was : BitVec 32) : List (BitVec 32) → Nat → BitVec 32 → BitVec 32
  | [], _, acc => acc
  | x :: r, k, acc => stepF was r (k + 1) (if was.getLsbD k then acc ||| x else acc)
def stepB (l : List (BitVec 32)) (s : BitVec 32) : BitVec 32 := stepF s (l.take 32) 0 s
def closeN (l : List (BitVec 32)) : Nat → BitVec 32 → BitVec 32
  | 0, s => s
  | d + 1, s => if stepB l s = s then s else closeN l d (stepB l s)

theorem bit_and' (s : BitVec 32) (k : Nat) : decide (s >>> k &&& 1#32 = 1#32) = s.getLsbD k := bit_and s k

theorem close_in (v : AV) (m : Mem) (l : List (BitVec 32)) (hl : l.length ≤ 40) (hv : US m v l) (was : BitVec 32) :
    ∀ (r : List (BitVec 32)) (k : Nat) (acc : BitVec 32) (N : Nat) (T : List (Nat × AV)) (L : List (Nat × List AV)) (q : _), (l.take 32).drop k = r → r.length + 1 ≤ N → codeEv (run A N) (ev A N).2 a43_L1 ⟨30, T, L, m⟩ = q →
      keepT [0, 1, 5, 10, 11] [] T = [(0, U acc), (1, v), (5, U was), (10, .int .i64 ((l.take 32).length : Int)), (11, .int .i64 (k : Int))] →
      ∃ T' L', q = some (.exit 2, ⟨30, T', L', m⟩) ∧ keepT [0, 1, 5] [] T' = [(0, U (stepF was r k acc)), (1, v), (5, U was)]
  | [], k, acc, N, T, L, q, hd, hN, hq, hk => by
    subst hq
    obtain ⟨p1, p2, p3, p4⟩ := hv.plain
    have hi : ¬ ((k : Int) < ((l.take 32).length : Int)) := by
      have := List.drop_eq_nil_iff.1 hd
      omega
    rw [a43_L1_step]
    unfold a43_B1 stepF
    exact ⟨_, _, (by simp only [codeEv, opsEv, oneEv, guardEv, opE_bin, St.opd, look_set, look_cons, St.put, bin_ilt, keepL, Option.map_some, Nat.reduceEqDiff, Nat.reduceLT, if_true, if_false, Bool.false_eq_true, Nat.succ_ne_self, decide_false, hk, hi]; rfl), (by simp only [keepT, List.map, look_set, look_cons, in_U, Nat.reduceEqDiff, if_true, if_false, p1])⟩
  | x :: r, k, acc, N, T, L, q, hd, hN, hq, hk => by
    subst hq
    obtain ⟨hg, hi, hd'⟩ := drop_cons_get hd
    obtain ⟨n, rfl⟩ : ∃ n, N = n + 1 := ⟨N - 1, by simp only [List.length_cons] at hN; omega⟩
    have hi1 : (k : Int) < ((l.take 32).length : Int) := by omega
    have hlt : k < 32 := by rw [List.length_take] at hi; omega
    have hg' : l[k]? = some x := by rw [List.getElem?_take, if_pos hlt] at hg; exact hg
    have hi' := idx_any hg'
    have hadd := add_i k (by omega)
    have hsh := bin_shr was .i64 (k : Int) (by omega)
    rw [Int.toNat_natCast] at hsh
    have hv0 := hv
    rcases hv0 with ⟨rfl, h0⟩ | ⟨b, o, cap, e, rfl, hm⟩
    · rw [h0] at hg'; cases hg'
    obtain ⟨c, own, hc, hc3⟩ := get_u hm hg'
    rw [a43_L1_step]
    unfold a43_B1 stepF
    by_cases c1 : was.getLsbD k = true
    · simp only [codeEv, opsEv, oneEv, guardEv, opE_mov, opE_load1, opE_bin, opE_iaddrL, elemR_slice, St.opd, look_set, look_cons, St.put, St.read, bin_and, bin_or, bin_ueq, bin_ilt, in_int, in_U, in_slice, keepL, List.map, Option.map_some, Nat.reduceEqDiff, Nat.reduceLT, if_true, if_false, Nat.succ_ne_self, decide_true, u_1, keepT_setT, hk, hi1, hi', and_self, Int.toNat_natCast, Nat.mul_one, hsh, bit_and', c1, hc, hc3, hadd, again_of]
      exact close_in _ m l hl hv was r (k + 1) (acc ||| x) n _ _ _ hd' (by simp only [List.length_cons] at hN; omega) rfl (by simp only [keepT, List.map, look_set, look_cons, in_int, in_U, in_slice, Nat.reduceEqDiff, if_true, if_false])
    · simp only [codeEv, opsEv, oneEv, guardEv, opE_mov, opE_load1, opE_bin, opE_iaddrL, elemR_slice, St.opd, look_set, look_cons, St.put, St.read, bin_and, bin_ueq, bin_ilt, in_int, in_U, in_slice, keepL, List.map, Option.map_some, Nat.reduceEqDiff, Nat.reduceLT, if_true, if_false, Bool.false_eq_true, Nat.succ_ne_self, decide_true, u_1, keepT_setT, hk, hi1, hsh, bit_and', c1, hadd, again_of]
      exact close_in _ m l hl hv was r (k + 1) acc n _ _ _ hd' (by simp only [List.length_cons] at hN; omega) rfl (by simp only [keepT, List.map, look_set, look_cons, in_int, in_U, in_slice, Nat.reduceEqDiff, if_true, if_false])

theorem close_out (v : AV) (m : Mem) (l : List (BitVec 32)) (hl : l.length ≤ 40) (hv : US m v l) :
    ∀ (d : Nat) (s : BitVec 32) (N : Nat) (T : List (Nat × AV)) (L : List (Nat × List AV)) (q : _), stepB l (closeN l d s) = closeN l d s → d + 45 ≤ N → codeEv (run A N) (ev A N).2 a43_L2 ⟨30, T, L, m⟩ = q → keepT [0, 1] [] T = [(0, U s), (1, v)] →
      ∃ T' L', q = some (.ret, ⟨30, T', L', m⟩) ∧ look T' 4 = U (closeN l d s) := by
  intro d s N T L q hfix hN hq hk
  subst hq
  obtain ⟨p1, p2, p3, p4⟩ := hv.plain
  have hln := hv.lenR
  have hmin := min_i (l.length : Int) 32
  have hmin' : min (l.length : Int) 32 = ((l.take 32).length : Int) := by rw [List.length_take]; omega
  rw [hmin'] at hmin
  have inner := fun T L q hq hk => close_in v m l hl hv s (l.take 32) 0 s N T L q rfl (by rw [List.length_take]; omega) hq hk
  rw [a43_L2_step]
  unfold a43_B2
  simp only [codeEv, opsEv, oneEv, guardEv, opE_mov, opE_bin, opE_lenL, opE_min, St.opd, look_set, look_cons, St.put, in_U, loc_int, keepL, List.map, List.any, Option.map_some, Nat.reduceEqDiff, Nat.reduceLT, if_true, if_false, Bool.or_false, Bool.false_eq_true, Nat.succ_ne_self, keepT_setT, hk, p1, hln, hmin]
  generalize hq : codeEv (run A N) (ev A N).2 a43_L1 _ = q
  obtain ⟨T2, L2, rfl, hk2⟩ := inner _ _ q hq (by simp only [keepT, List.map, look_set, look_cons, in_int, in_U, Nat.reduceEqDiff, if_true, if_false, p1, Int.ofNat_zero])
  have hst : stepF s (l.take 32) 0 s = stepB l s := rfl
  rw [hst] at hk2
  match d with
  | 0 =>
    have c : stepB l s = s := hfix
    simp only [look_set, look_cons, bin_ueq, in_U, List.map, Option.map_some, Nat.reduceEqDiff, Nat.reduceLT, if_true, if_false, Nat.succ_ne_self, decide_true, keepT_setT, hk2, c]
    exact ⟨_, _, rfl, (by simp only [look_set, look_cons, Nat.reduceEqDiff, if_true, if_false, closeN])⟩
  | d + 1 =>
    by_cases c : stepB l s = s
    · have cn : closeN l (d + 1) s = s := by rw [closeN, if_pos c]
      rw [cn]
      simp only [look_set, look_cons, bin_ueq, in_U, List.map, Option.map_some, Nat.reduceEqDiff, Nat.reduceLT, if_true, if_false, Nat.succ_ne_self, decide_true, keepT_setT, hk2, c]
      exact ⟨_, _, rfl, (by simp only [look_set, look_cons, Nat.reduceEqDiff, if_true, if_false])⟩
    · have cn : closeN l (d + 1) s = closeN l d (stepB l s) := by rw [closeN, if_neg c]
      rw [cn] at hfix ⊢
      obtain ⟨n, rfl⟩ : ∃ n, N = n + 1 := ⟨N - 1, by omega⟩
      simp only [look_set, look_cons, bin_ueq, in_U, List.map, Option.map_some, Nat.reduceEqDiff, Nat.reduceLT, if_true, if_false, Bool.false_eq_true, Nat.succ_ne_self, decide_false, keepT_setT, hk2, c, again_of]
      exact close_out v m l hl hv d (stepB l s) n _ _ _ hfix (by omega) rfl (by simp only [keepT, List.map, look_set, look_cons, in_U, Nat.reduceEqDiff, if_true, if_false, p1])

def SubU (a b : BitVec 32) : Prop := ∀ i, a.getLsbD i = true → b.getLsbD i = true
theorem SubU.refl (a : BitVec 32) : SubU a a := fun _ h => h
theorem SubU.trans {a b c : BitVec 32} (h : SubU a b) (k : SubU b c) : SubU a c := fun i hi => k i (h i hi)
theorem SubU.antisymm {a b : BitVec 32} (h : SubU a b) (k : SubU b a) : a = b := by
  apply BitVec.eq_of_getLsbD_eq
  intro i hi
  rw [Bool.eq_iff_iff]
  exact ⟨h i, k i⟩
theorem SubU.or_l (a b : BitVec 32) : SubU a (a ||| b) := fun i h => by rw [BitVec.getLsbD_or, h]; rfl
theorem SubU.or_r (a b : BitVec 32) : SubU b (a ||| b) := fun i h => by rw [BitVec.getLsbD_or, h, Bool.or_true]
theorem SubU.or {a b c : BitVec 32} (h : SubU a c) (k : SubU b c) : SubU (a ||| b) c := fun i hi => by
  rw [BitVec.getLsbD_or, Bool.or_eq_true] at hi
  exact hi.elim (h i) (k i)
theorem stepF_acc (was : BitVec 32) : ∀ (r : List (BitVec 32)) (k : Nat) (acc : BitVec 32), SubU acc (stepF was r k acc)
  | [], _, acc => SubU.refl acc
  | x :: r, k, acc => by
    unfold stepF
    refine SubU.trans ?_ (stepF_acc was r (k + 1) _)
    split
    · exact SubU.or_l _ _
    · exact SubU.refl _
def cnt (s : BitVec 32) : Nat := (List.range 32).countP fun i => s.getLsbD i
theorem countP_lt {p q : Nat → Bool} (hpq : ∀ i, p i = true → q i = true) : ∀ (l : List Nat), (∃ i ∈ l, q i = true ∧ p i = false) → l.countP p < l.countP q
  | [], ⟨i, hi, _⟩ => by cases hi
  | a :: l, ⟨i, hi, h1, h2⟩ => by
    have hle : l.countP p ≤ l.countP q := List.countP_mono_left fun x _ => hpq x
    rw [List.countP_cons, List.countP_cons]
    rcases List.mem_cons.1 hi with rfl | hi
    · rw [h1, h2]; simp; omega
    · have := countP_lt hpq l ⟨i, hi, h1, h2⟩
      cases hp : p a
      · simp; split <;> omega
      · rw [hpq a hp]; simp; exact this
theorem cnt_lt {s t : BitVec 32} (h : SubU s t) (hne : t ≠ s) : cnt s < cnt t := by
  refine countP_lt h _ ?_
  apply Classical.byContradiction
  intro hn
  apply hne
  refine SubU.antisymm (fun i hi => ?_) h
  cases hs : s.getLsbD i
  · exfalso
    refine hn ⟨i, List.mem_range.2 ?_, hi, hs⟩
    rcases Nat.lt_or_ge i 32 with h1 | h1
    · exact h1
    · rw [BitVec.getLsbD_of_ge t i h1] at hi; cases hi
  · rfl
theorem cnt_le (s : BitVec 32) : cnt s ≤ 32 := by
  have := List.countP_le_length (p := fun i => s.getLsbD i) (l := List.range 32)
  rw [List.length_range] at this
  exact this
theorem close_fix (l : List (BitVec 32)) : ∀ (d : Nat) (s : BitVec 32), 32 - cnt s ≤ d → stepB l (closeN l d s) = closeN l d s
  | 0, s, h => by
    unfold closeN
    apply Classical.byContradiction
    intro hne
    have := cnt_lt (stepF_acc s (l.take 32) 0 s) hne
    have := cnt_le (stepF s (l.take 32) 0 s)
    omega
  | d + 1, s, h => by
    unfold closeN
    split
    · assumption
    · rename_i hne
      have := cnt_lt (stepF_acc s (l.take 32) 0 s) hne
      exact close_fix l d _ (by unfold stepB; omega)

theorem close_spec (N : Nat) (hN : 100 ≤ N) (m : Mem) (v : AV) (l : List (BitVec 32)) (hv : US m v l) (hl : l.length ≤ 40) (s : BitVec 32) : run A N 43 [U s, v] m = some (U (closeN l 32 s), m) := by
  obtain ⟨n, rfl⟩ : ∃ n, N = n + 1 := ⟨N - 1, by omega⟩
  rw [run_43]
  unfold fnEv a43
  obtain ⟨p1, p2, p3, p4⟩ := hv.plain
  simp only [codeEv, opsEv, oneEv, guardEv, opE_mov, St.opd, look_cons, St.put, argsT, resEv, in_U, keepL, List.map, List.length, Nat.reduceEqDiff, Nat.reduceAdd, Nat.reduceLT, if_true, if_false, Nat.succ_ne_self, u_0, keepT_lit, p1]
  generalize hq : codeEv (run A n) (ev A n).2 a43_L2 _ = q
  obtain ⟨T', L', rfl, h4⟩ := close_out v m l hl hv 32 s n _ _ q (close_fix l 32 s (by omega)) (by omega) hq (by simp only [keepT, List.map, look_set, look_cons, in_U, Nat.reduceEqDiff, if_true, if_false, p1])
  simp only [loc_U, if_false, Bool.false_eq_true, h4]


end AG
