/- What the functions of masks and sets compute, and the laws of that. -/
import Derived.Test.YtenhcejelicjfaaAgMt2
namespace AG
open Go Go.Proofs.Ytenhcejelicjfaa
set_option maxRecDepth 100000
set_option maxHeartbeats 4000000



/-- Who comes: the bits of those that are in the set and above both. -/
def thoseF (set : BitVec 32) (lv ac : Int) : List V → Nat → BitVec 32 → BitVec 32
  | [], _, acc => acc
  | x :: r, k, acc => thoseF set lv ac r (k + 1) (if hasI set x.line && (decide (lv < x.prio) && decide (ac < x.prio)) then acc ||| 1#32 <<< k else acc)
def those (set : BitVec 32) (lv ac : Int) (l : List V) : BitVec 32 := if checkV l = 0 then thoseF set lv ac l 0 0#32 else 0#32

theorem those_loop (v : AV) (m : Mem) (l : List V) (hl : l.length ≤ 1000000) (hv : VS m v l) (set : BitVec 32) (lv ac : Int) :
    ∀ (r : List V) (i : Nat) (acc : BitVec 32) (N : Nat) (T : List (Nat × AV)) (L : List (Nat × List AV)) (q : _), l.drop i = r → r.length + 2 ≤ N → codeEv (run A N) (ev A N).2 a18_L1 ⟨44, T, L, m⟩ = q →
      keepT [0, 1, 2, 9, 15, 16, 17] [] T = [(0, U set), (1, .int .i64 lv), (2, .int .i64 ac), (9, U acc), (15, v), (16, .int .i64 l.length), (17, .int .i64 (i : Int))] →
      ∃ T' L', q = some (.exit 0, ⟨44, T', L', m⟩) ∧ keepT [9] [] T' = [(9, U (thoseF set lv ac r i acc))]
  | [], i, acc, N, T, L, q, hd, hN, hq, hk => by
    subst hq
    have hi : ¬ ((i : Int) < (l.length : Int)) := by
      have := List.drop_eq_nil_iff.1 hd
      omega
    rw [a18_L1_step]
    unfold a18_B1 thoseF
    exact ⟨_, _, (by simp only [codeEv, opsEv, oneEv, guardEv, opE_bin, St.opd, look_set, look_cons, St.put, bin_ilt, keepL, Option.map_some, Nat.reduceEqDiff, Nat.reduceLT, if_true, if_false, Bool.false_eq_true, Nat.succ_ne_self, decide_false, hk, hi]; rfl), (by simp only [keepT, List.map, look_set, look_cons, in_U, Nat.reduceEqDiff, if_true, if_false])⟩
  | x :: r, i, acc, N, T, L, q, hd, hN, hq, hk => by
    subst hq
    obtain ⟨hg, hi, hd'⟩ := drop_cons_get hd
    rw [List.length_cons] at hN
    obtain ⟨n, rfl⟩ : ∃ n, N = n + 1 := ⟨N - 1, by omega⟩
    have hv0 := hv
    rcases hv0 with ⟨rfl, h0⟩ | ⟨b, o, cap, ee, rfl, hm⟩
    · rw [h0] at hg; cases hg
    obtain ⟨c, own, hc, hc3⟩ := hm i x hg
    have hi' := idx_ok hg
    have hadd := add_i i (by omega)
    have hs := has_spec (n + 1) (by omega) set x.line m
    have hsh := bin_shl 1#32 .i64 (i : Int) (by omega)
    rw [Int.toNat_natCast] at hsh
    have ih := fun acc T L q => those_loop _ m l hl hv set lv ac r (i + 1) acc n T L q hd' (by omega)
    rw [a18_L1_step]
    unfold a18_B1 thoseF
    by_cases c1 : hasI set x.line = true
    · by_cases c2 : lv < x.prio
      · by_cases c3 : ac < x.prio
        · simp only [codeEv, opsEv, oneEv, guardEv, opE_mov, opE_pick, opE_alloc, opE_load1, opE_loadk, opE_store, opE_bin, opE_faddr, opE_iaddrL, opE_call, elemR_slice, St.opd, look_set, look_cons, St.put, St.new, St.read, St.write, lookL, setL, cellsAt_cons, splice, bin_or, bin_ilt, bin_igt, in_int, in_U, in_slice, in_loc, List.contains_cons, List.contains_nil, one_int, loc_int, cells_agg, loc_U, callWith, keepL, List.append_nil, List.map, List.length, List.take, List.drop, List.all, List.any, List.nil_append, List.take_succ_cons, List.drop_succ_cons, Option.map_some, Nat.reduceEqDiff, Nat.reduceAdd, Nat.reduceLeDiff, Nat.reduceLT, if_true, if_false, Bool.and_true, Bool.or_false, Bool.not_false, List.isEmpty_cons, beq_self_eq_true, Bool.false_eq_true, Nat.succ_ne_self, decide_true, u_1, keepT_setT, hk, hi', and_self, Int.toNat_natCast, hc, hc3, hs, V.c_eq, c1, c2, c3, hsh, hadd, again_of]
          exact ih _ _ _ _ rfl (by simp only [keepT, List.map, look_set, look_cons, in_int, in_U, in_slice, Nat.reduceEqDiff, if_true, if_false])
        · simp only [codeEv, opsEv, oneEv, guardEv, opE_mov, opE_pick, opE_alloc, opE_load1, opE_loadk, opE_store, opE_bin, opE_faddr, opE_iaddrL, opE_call, elemR_slice, St.opd, look_set, look_cons, St.put, St.new, St.read, St.write, lookL, setL, cellsAt_cons, splice, bin_ilt, bin_igt, in_int, in_U, in_slice, in_loc, List.contains_cons, List.contains_nil, one_int, loc_int, cells_agg, loc_U, callWith, keepL, List.append_nil, List.map, List.length, List.take, List.drop, List.all, List.any, List.nil_append, List.take_succ_cons, List.drop_succ_cons, Option.map_some, Nat.reduceEqDiff, Nat.reduceAdd, Nat.reduceLeDiff, Nat.reduceLT, if_true, if_false, Bool.and_true, Bool.and_false, Bool.or_false, Bool.not_false, List.isEmpty_cons, beq_self_eq_true, Bool.false_eq_true, Nat.succ_ne_self, decide_true, decide_false, u_1, keepT_setT, hk, hi', and_self, Int.toNat_natCast, hc, hc3, hs, V.c_eq, c1, c2, c3, hadd, again_of]
          exact ih _ _ _ _ rfl (by simp only [keepT, List.map, look_set, look_cons, in_int, in_U, in_slice, Nat.reduceEqDiff, if_true, if_false])
      · simp only [codeEv, opsEv, oneEv, guardEv, opE_mov, opE_pick, opE_alloc, opE_load1, opE_loadk, opE_store, opE_bin, opE_faddr, opE_iaddrL, opE_call, elemR_slice, St.opd, look_set, look_cons, St.put, St.new, St.read, St.write, lookL, setL, cellsAt_cons, splice, bin_ilt, bin_igt, in_int, in_U, in_slice, in_loc, List.contains_cons, List.contains_nil, one_int, loc_int, cells_agg, loc_U, callWith, keepL, List.append_nil, List.map, List.length, List.take, List.drop, List.all, List.any, List.nil_append, List.take_succ_cons, List.drop_succ_cons, Option.map_some, Nat.reduceEqDiff, Nat.reduceAdd, Nat.reduceLeDiff, Nat.reduceLT, if_true, if_false, Bool.and_true, Bool.false_and, Bool.and_false, Bool.or_false, Bool.not_false, List.isEmpty_cons, beq_self_eq_true, Bool.false_eq_true, Nat.succ_ne_self, decide_true, decide_false, beq_ft, u_1, keepT_setT, hk, hi', and_self, Int.toNat_natCast, hc, hc3, hs, V.c_eq, c1, c2, hadd, again_of]
        exact ih _ _ _ _ rfl (by simp only [keepT, List.map, look_set, look_cons, in_int, in_U, in_slice, Nat.reduceEqDiff, if_true, if_false])
    · simp only [codeEv, opsEv, oneEv, guardEv, opE_mov, opE_pick, opE_alloc, opE_load1, opE_loadk, opE_store, opE_bin, opE_faddr, opE_iaddrL, opE_call, elemR_slice, St.opd, look_set, look_cons, St.put, St.new, St.read, St.write, lookL, setL, cellsAt_cons, splice, bin_ilt, in_int, in_U, in_slice, in_loc, List.contains_cons, List.contains_nil, one_int, loc_int, cells_agg, loc_U, callWith, keepL, List.append_nil, List.map, List.length, List.take, List.drop, List.all, List.any, List.nil_append, List.take_succ_cons, List.drop_succ_cons, Option.map_some, Nat.reduceEqDiff, Nat.reduceAdd, Nat.reduceLeDiff, Nat.reduceLT, if_true, if_false, Bool.and_true, Bool.false_and, Bool.or_false, Bool.not_false, List.isEmpty_cons, beq_self_eq_true, Bool.false_eq_true, Nat.succ_ne_self, decide_true, beq_ft, u_1, keepT_setT, hk, hi', and_self, Int.toNat_natCast, hc, hc3, hs, V.c_eq, c1, hadd, again_of]
      exact ih _ _ _ _ rfl (by simp only [keepT, List.map, look_set, look_cons, in_int, in_U, in_slice, Nat.reduceEqDiff, if_true, if_false])

theorem those_spec (N : Nat) (hN : 60 ≤ N) (m : Mem) (v : AV) (l : List V) (hv : VS m v l) (hl : l.length ≤ 1000000) (set : BitVec 32) (lv ac : Int) : run A N 18 [U set, .int .i64 lv, .int .i64 ac, v] m = some (U (those set lv ac l), m) := by
  obtain ⟨n, rfl⟩ : ∃ n, N = n + 1 := ⟨N - 1, by omega⟩
  rw [run_18]
  unfold fnEv a18 those
  obtain ⟨p1, p2, p3, p4⟩ := hv.plain
  have hln := hv.lenR
  have ck := check_v n (by omega) m v l hv hl
  by_cases hc : checkV l = 0
  · have h32 := (checkV_law hc).2.2
    have hc' := eq_true hc
    simp only [codeEv, opsEv, oneEv, guardEv, opE_mov, opE_bin, opE_call, opE_lenL, St.opd, look_set, look_cons, St.put, argsT, resEv, bin_ine, in_int, in_U, callWith, keepL, List.map, List.length, List.any, Option.map_some, Nat.reduceEqDiff, Nat.reduceAdd, Nat.reduceLT, if_true, if_false, Bool.or_false, Bool.not_true, Bool.false_eq_true, Nat.succ_ne_self, decide_true, u_0, keepT_setT, keepT_lit, p1, p2, hln, ck, hc']
    generalize hq : codeEv (run A n) (ev A n).2 a18_L1 _ = q
    obtain ⟨T', L', rfl, h1⟩ := those_loop v m l hl hv set lv ac l 0 0#32 n _ _ q rfl (by omega) hq (by simp only [keepT, List.map, look_set, look_cons, in_int, in_U, Nat.reduceEqDiff, if_true, if_false, p1, Int.ofNat_zero])
    simp only [look_set, look_cons, loc_U, Nat.reduceEqDiff, Nat.reduceLT, if_true, if_false, Bool.false_eq_true, Nat.succ_ne_self, h1]
  · simp only [codeEv, opsEv, oneEv, guardEv, opE_mov, opE_bin, opE_call, St.opd, look_set, look_cons, St.put, argsT, resEv, bin_ine, in_int, in_U, loc_U, callWith, keepL, List.map, List.length, List.any, Option.map_some, Nat.reduceEqDiff, Nat.reduceAdd, Nat.reduceLT, if_true, if_false, Bool.or_false, Bool.not_false, Bool.false_eq_true, Nat.succ_ne_self, decide_false, u_0, keepT_setT, keepT_lit, p1, p2, ck, hc]

theorem come_spec (N : Nat) (hN : 70 ≤ N) (m : Mem) (v : AV) (l : List V) (hv : VS m v l) (hl : l.length ≤ 1000000) (a : Mk) (ac : Int) : run A N 11 [a.av, .int .i64 ac, v] m = some (U (if a.ok then those a.may a.fr ac l else 0#32), m) := by
  obtain ⟨n, rfl⟩ : ∃ n, N = n + 2 := ⟨N - 2, by omega⟩
  rw [run_11]
  obtain ⟨p1, p2, p3, p4⟩ := hv.plain
  have ck := check_mk n a m
  have th := those_spec (n + 1) (by omega) m v l hv hl a.may a.fr ac
  simp only [av_cells] at ck ⊢
  unfold fnEv a11
  by_cases h : a.ok = true
  · simp only [h, if_true] at ck
    simp only [codeEv, opsEv, oneEv, guardEv, opE_mov, opE_box, opE_load1, opE_loadk, opE_bin, opE_faddr, opE_call, St.opd, look_set, look_cons, St.put, St.new, St.read, lookL, setL, cellsAt_cons, argsT, resEv, bin_ine, in_int, in_agg, in_loc, List.contains_cons, List.contains_nil, loc_int, loc_agg, cells_agg, loc_U, callWith, keepL, List.map, List.length, List.take, List.drop, List.any, List.take_succ_cons, Option.map_some, Nat.reduceEqDiff, Nat.reduceAdd, Nat.reduceLeDiff, Nat.reduceLT, if_true, if_false, Bool.or_false, Bool.not_true, beq_self_eq_true, Bool.false_eq_true, Nat.succ_ne_self, decide_true, u_0, keepT_setT, keepT_lit, p1, p2, ck, th, h]
  · simp only [h] at ck
    simp only [codeEv, opsEv, oneEv, guardEv, opE_mov, opE_box, opE_loadk, opE_bin, opE_call, St.opd, look_set, look_cons, St.put, St.new, St.read, lookL, setL, cellsAt_cons, argsT, resEv, bin_ine, in_int, in_agg, in_loc, List.contains_cons, List.contains_nil, loc_agg, cells_agg, loc_U, callWith, keepL, List.map, List.length, List.take, List.drop, List.any, List.take_succ_cons, Option.map_some, Nat.reduceEqDiff, Nat.reduceAdd, Nat.reduceLeDiff, Nat.reduceLT, if_true, if_false, Bool.or_false, Bool.not_false, beq_self_eq_true, Bool.false_eq_true, Nat.succ_ne_self, decide_false, u_0, keepT_setT, keepT_lit, p1, ck, h, eq20]
theorem sure_spec (N : Nat) (hN : 70 ≤ N) (m : Mem) (v : AV) (l : List V) (hv : VS m v l) (hl : l.length ≤ 1000000) (a : Mk) (ac : Int) : run A N 12 [a.av, .int .i64 ac, v] m = some (U (if a.ok then those a.must a.to ac l else 0#32), m) := by
  obtain ⟨n, rfl⟩ : ∃ n, N = n + 2 := ⟨N - 2, by omega⟩
  rw [run_12]
  obtain ⟨p1, p2, p3, p4⟩ := hv.plain
  have ck := check_mk n a m
  have th := those_spec (n + 1) (by omega) m v l hv hl a.must a.to ac
  simp only [av_cells] at ck ⊢
  unfold fnEv a12
  by_cases h : a.ok = true
  · simp only [h, if_true] at ck
    simp only [codeEv, opsEv, oneEv, guardEv, opE_mov, opE_box, opE_load1, opE_loadk, opE_bin, opE_faddr, opE_call, St.opd, look_set, look_cons, St.put, St.new, St.read, lookL, setL, cellsAt_cons, argsT, resEv, bin_ine, in_int, in_agg, in_loc, List.contains_cons, List.contains_nil, loc_int, loc_agg, cells_agg, loc_U, callWith, keepL, List.map, List.length, List.take, List.drop, List.any, List.take_succ_cons, Option.map_some, Nat.reduceEqDiff, Nat.reduceAdd, Nat.reduceLeDiff, Nat.reduceLT, if_true, if_false, Bool.or_false, Bool.not_true, beq_self_eq_true, Bool.false_eq_true, Nat.succ_ne_self, decide_true, u_0, keepT_setT, keepT_lit, p1, p2, ck, th, h]
  · simp only [h] at ck
    simp only [codeEv, opsEv, oneEv, guardEv, opE_mov, opE_box, opE_loadk, opE_bin, opE_call, St.opd, look_set, look_cons, St.put, St.new, St.read, lookL, setL, cellsAt_cons, argsT, resEv, bin_ine, in_int, in_agg, in_loc, List.contains_cons, List.contains_nil, loc_agg, cells_agg, loc_U, callWith, keepL, List.map, List.length, List.take, List.drop, List.any, List.take_succ_cons, Option.map_some, Nat.reduceEqDiff, Nat.reduceAdd, Nat.reduceLeDiff, Nat.reduceLT, if_true, if_false, Bool.or_false, Bool.not_false, beq_self_eq_true, Bool.false_eq_true, Nat.succ_ne_self, decide_false, u_0, keepT_setT, keepT_lit, p1, ck, h, eq20]

def Mk.has (a : Mk) (s : BitVec 32) (lv : Int) : Bool := a.ok && (decide (a.must &&& ~~~s = 0#32) && (decide (s &&& ~~~a.may = 0#32) && (decide (a.fr ≤ lv) && decide (lv ≤ a.to))))
theorem mhas_spec (N : Nat) (hN : 5 ≤ N) (m : Mem) (a : Mk) (s : BitVec 32) (lv : Int) : run A N 13 [a.av, U s, .int .i64 lv] m = some (.bool (a.has s lv), m) := by
  obtain ⟨n, rfl⟩ : ∃ n, N = n + 2 := ⟨N - 2, by omega⟩
  rw [run_13]
  have ck := check_mk n a m
  simp only [av_cells] at ck ⊢
  unfold fnEv a13 Mk.has
  by_cases h : a.ok = true
  · simp only [h, if_true] at ck
    by_cases c1 : a.must &&& ~~~s = 0#32
    · have c1 := eq_true c1
      by_cases c2 : s &&& ~~~a.may = 0#32
      · have c2 := eq_true c2
        by_cases c3 : a.fr ≤ lv
        · by_cases c4 : lv ≤ a.to
          · simp only [codeEv, opsEv, oneEv, guardEv, opE_mov, opE_pick, opE_box, opE_load1, opE_loadk, opE_bin, opE_faddr, opE_call, St.opd, look_set, look_cons, St.put, St.new, St.read, lookL, setL, cellsAt_cons, argsT, resEv, bin_andNot, bin_ueq, bin_ile, bin_ige, bin_ieq, in_int, in_U, in_agg, in_loc, List.contains_cons, List.contains_nil, loc_bool, loc_agg, cells_agg, callWith, keepL, List.map, List.length, List.take, List.drop, List.any, List.take_succ_cons, Option.map_some, Nat.reduceEqDiff, Nat.reduceAdd, Nat.reduceLeDiff, Nat.reduceLT, if_true, if_false, Bool.and_true, Bool.or_false, beq_self_eq_true, Bool.false_eq_true, Nat.succ_ne_self, decide_true, u_0, keepT_setT, keepT_lit, ck, h, c1, c2, c3, c4]
          · simp only [codeEv, opsEv, oneEv, guardEv, opE_mov, opE_pick, opE_box, opE_load1, opE_loadk, opE_bin, opE_faddr, opE_call, St.opd, look_set, look_cons, St.put, St.new, St.read, lookL, setL, cellsAt_cons, argsT, resEv, bin_andNot, bin_ueq, bin_ile, bin_ige, bin_ieq, in_int, in_U, in_agg, in_loc, List.contains_cons, List.contains_nil, loc_bool, loc_agg, cells_agg, callWith, keepL, List.map, List.length, List.take, List.drop, List.any, List.take_succ_cons, Option.map_some, Nat.reduceEqDiff, Nat.reduceAdd, Nat.reduceLeDiff, Nat.reduceLT, if_true, if_false, Bool.and_false, Bool.or_false, beq_self_eq_true, Bool.false_eq_true, Nat.succ_ne_self, decide_true, decide_false, u_0, keepT_setT, keepT_lit, ck, h, c1, c2, c3, c4]
        · simp only [codeEv, opsEv, oneEv, guardEv, opE_mov, opE_pick, opE_box, opE_load1, opE_loadk, opE_bin, opE_faddr, opE_call, St.opd, look_set, look_cons, St.put, St.new, St.read, lookL, setL, cellsAt_cons, argsT, resEv, bin_andNot, bin_ueq, bin_ige, bin_ieq, in_int, in_U, in_agg, in_loc, List.contains_cons, List.contains_nil, loc_bool, loc_agg, cells_agg, callWith, keepL, List.map, List.length, List.take, List.drop, List.any, List.take_succ_cons, Option.map_some, Nat.reduceEqDiff, Nat.reduceAdd, Nat.reduceLeDiff, Nat.reduceLT, if_true, if_false, Bool.false_and, Bool.and_false, Bool.or_false, beq_self_eq_true, Bool.false_eq_true, Nat.succ_ne_self, decide_true, decide_false, beq_ft, u_0, keepT_setT, keepT_lit, ck, h, c1, c2, c3]
      · simp only [codeEv, opsEv, oneEv, guardEv, opE_mov, opE_pick, opE_box, opE_load1, opE_loadk, opE_bin, opE_faddr, opE_call, St.opd, look_set, look_cons, St.put, St.new, St.read, lookL, setL, cellsAt_cons, argsT, resEv, bin_andNot, bin_ueq, bin_ieq, in_int, in_U, in_agg, in_loc, List.contains_cons, List.contains_nil, loc_bool, loc_agg, cells_agg, callWith, keepL, List.map, List.length, List.take, List.drop, List.any, List.take_succ_cons, Option.map_some, Nat.reduceEqDiff, Nat.reduceAdd, Nat.reduceLeDiff, Nat.reduceLT, if_true, if_false, Bool.false_and, Bool.and_false, Bool.or_false, beq_self_eq_true, Bool.false_eq_true, Nat.succ_ne_self, decide_true, decide_false, beq_ft, u_0, keepT_setT, keepT_lit, ck, h, c1, c2]
    · simp only [codeEv, opsEv, oneEv, guardEv, opE_mov, opE_pick, opE_box, opE_load1, opE_loadk, opE_bin, opE_faddr, opE_call, St.opd, look_set, look_cons, St.put, St.new, St.read, lookL, setL, cellsAt_cons, argsT, resEv, bin_andNot, bin_ueq, bin_ieq, in_int, in_U, in_agg, in_loc, List.contains_cons, List.contains_nil, loc_bool, loc_agg, cells_agg, callWith, keepL, List.map, List.length, List.take, List.drop, List.any, List.take_succ_cons, Option.map_some, Nat.reduceEqDiff, Nat.reduceAdd, Nat.reduceLeDiff, Nat.reduceLT, if_true, if_false, Bool.false_and, Bool.and_false, Bool.or_false, beq_self_eq_true, Bool.false_eq_true, Nat.succ_ne_self, decide_true, decide_false, beq_ft, u_0, keepT_setT, keepT_lit, ck, h, c1]
  · simp only [h] at ck
    simp only [codeEv, opsEv, oneEv, guardEv, opE_mov, opE_pick, opE_box, opE_loadk, opE_bin, opE_call, St.opd, look_set, look_cons, St.put, St.new, St.read, lookL, setL, cellsAt_cons, argsT, resEv, bin_ieq, in_int, in_U, in_agg, in_loc, List.contains_cons, List.contains_nil, loc_bool, loc_agg, cells_agg, callWith, keepL, List.map, List.length, List.take, List.drop, List.any, List.take_succ_cons, Option.map_some, Nat.reduceEqDiff, Nat.reduceAdd, Nat.reduceLeDiff, Nat.reduceLT, if_true, if_false, Bool.false_and, Bool.or_false, beq_self_eq_true, Bool.false_eq_true, Nat.succ_ne_self, decide_false, beq_ft, keepT_setT, keepT_lit, ck, h, eq20]

def pickI (n m : Int) : Int := if m < 1 then 0 else if n.tmod m < 0 then n.tmod m + m else n.tmod m
theorem pickI_range (n m : Int) (h : 1 ≤ m) : 0 ≤ pickI n m ∧ pickI n m < m := by
  unfold pickI
  have h1 := Int.tmod_lt_of_pos n (show 0 < m by omega)
  have h2 : -m < n.tmod m := by
    have := Int.tmod_lt_of_pos (-n) (show 0 < m by omega)
    rw [Int.neg_tmod] at this
    omega
  rw [if_neg (by omega)]
  split <;> omega
theorem bin_irem (x y : Int) (h : y ≠ 0) : binEv .rem (.int .i64 x) (.int .i64 y) = some (.int .i64 (x.tmod y)) := by
  simp only [binEv, if_true, intBin]
  rw [if_neg h]
theorem pick_spec (N : Nat) (hN : 1 ≤ N) (x y : Int) (h1 : 1 ≤ y) (h2 : y ≤ 1000) (m : Mem) : run A N 10 [.int .i64 x, .int .i64 y] m = some (.int .i64 (pickI x y), m) := by
  obtain ⟨n, rfl⟩ : ∃ n, N = n + 1 := ⟨N - 1, by omega⟩
  rw [run_10]
  have h0 : ¬ y < 1 := by omega
  have hr := bin_irem x y (by omega)
  have a1 := Int.tmod_lt_of_pos x (show 0 < y by omega)
  have a2 : -y < x.tmod y := by
    have := Int.tmod_lt_of_pos (-x) (show 0 < y by omega)
    rw [Int.neg_tmod] at this
    omega
  have ha := add_ok (x.tmod y) y (by omega) (by omega)
  unfold fnEv a10 pickI
  by_cases c : x.tmod y < 0
  · simp only [codeEv, opsEv, oneEv, guardEv, opE_mov, opE_bin, St.opd, look_set, look_cons, St.put, argsT, resEv, bin_ilt, in_int, loc_int, keepL, List.map, List.length, Option.map_some, Nat.reduceEqDiff, Nat.reduceAdd, Nat.reduceLT, if_true, if_false, Bool.false_eq_true, Nat.succ_ne_self, decide_true, decide_false, keepT_setT, keepT_lit, h0, hr, c, ha]
  · simp only [codeEv, opsEv, oneEv, guardEv, opE_mov, opE_bin, St.opd, look_set, look_cons, St.put, argsT, resEv, bin_ilt, in_int, loc_int, keepL, List.map, List.length, Option.map_some, Nat.reduceEqDiff, Nat.reduceAdd, Nat.reduceLT, if_true, if_false, Bool.false_eq_true, Nat.succ_ne_self, decide_false, keepT_setT, keepT_lit, h0, hr, c]

/-! What they are. -/
theorem thoseF_bit (set : BitVec 32) (lv ac : Int) : ∀ (r : List V) (k : Nat) (acc : BitVec 32) (i : Nat), i < 32 → ((thoseF set lv ac r k acc).getLsbD i = true ↔ acc.getLsbD i = true ∨ ∃ j x, r[j]? = some x ∧ i = k + j ∧ hasI set x.line = true ∧ lv < x.prio ∧ ac < x.prio)
  | [], k, acc, i, _ => by simp [thoseF]
  | x :: r, k, acc, i, hi => by
    unfold thoseF
    rw [thoseF_bit set lv ac r (k + 1) _ i hi]
    have key : ((if hasI set x.line && (decide (lv < x.prio) && decide (ac < x.prio)) then acc ||| 1#32 <<< k else acc).getLsbD i = true) ↔ (acc.getLsbD i = true ∨ (i = k ∧ hasI set x.line = true ∧ lv < x.prio ∧ ac < x.prio)) := by
      by_cases c : (hasI set x.line && (decide (lv < x.prio) && decide (ac < x.prio))) = true
      · rw [if_pos c, BitVec.getLsbD_or, BitVec.getLsbD_shiftLeft, BitVec.getLsbD_one]
        simp only [Bool.and_eq_true, decide_eq_true_eq] at c
        simp only [Bool.or_eq_true, Bool.and_eq_true, decide_eq_true_eq, Bool.not_eq_true', decide_eq_false_iff_not]
        constructor
        · rintro (h | h)
          · exact .inl h
          · exact .inr ⟨by omega, c.1, c.2.1, c.2.2⟩
        · rintro (h | h)
          · exact .inl h
          · exact .inr ⟨⟨hi, by omega⟩, by omega, by omega⟩
      · rw [if_neg c]
        simp only [Bool.and_eq_true, decide_eq_true_eq] at c
        constructor
        · exact fun h => .inl h
        · rintro (h | h)
          · exact h
          · exact absurd ⟨h.2.1, h.2.2.1, h.2.2.2⟩ c
    rw [key]
    constructor
    · rintro ((h | h) | ⟨j, y, hj, he, hp⟩)
      · exact .inl h
      · exact .inr ⟨0, x, rfl, h.1, h.2⟩
      · exact .inr ⟨j + 1, y, by rw [List.getElem?_cons_succ]; exact hj, by omega, hp⟩
    · rintro (h | ⟨j, y, hj, he, hp⟩)
      · exact .inl (.inl h)
      · cases j with
        | zero =>
          simp only [List.getElem?_cons_zero, Option.some.injEq] at hj
          subst hj
          exact .inl (.inr ⟨by omega, hp⟩)
        | succ j =>
          simp only [List.getElem?_cons_succ] at hj
          exact .inr ⟨j, y, hj, by omega, hp⟩
theorem those_bit {l : List V} (hc : checkV l = 0) (set : BitVec 32) (lv ac : Int) (i : Nat) (hi : i < 32) : (those set lv ac l).getLsbD i = true ↔ ∃ x, l[i]? = some x ∧ hasI set x.line = true ∧ lv < x.prio ∧ ac < x.prio := by
  unfold those
  rw [if_pos hc, thoseF_bit set lv ac l 0 0#32 i hi]
  constructor
  · rintro (h | ⟨j, x, hj, he, hp⟩)
    · simp at h
    · rw [Nat.zero_add] at he; subst he; exact ⟨x, hj, hp⟩
  · rintro ⟨x, hx, hp⟩
    exact .inr ⟨i, x, hx, by omega, hp⟩
theorem hasI_sub {a b : BitVec 32} (h : Sub a b) {k : Int} (hk : hasI a k = true) : hasI b k = true := by
  unfold hasI at *
  simp only [Bool.and_eq_true, decide_eq_true_eq] at *
  exact ⟨hk.1, hk.2.1, h _ (by omega) hk.2.2⟩
/-- A greater set, lower levels: no fewer come. -/
theorem those_sub {l : List V} (hc : checkV l = 0) {s s' : BitVec 32} (hs : Sub s s') {lv lv' ac ac' : Int} (h1 : lv' ≤ lv) (h2 : ac' ≤ ac) : those s lv ac l &&& ~~~ those s' lv' ac' l = 0#32 := by
  rw [sub_iff]
  intro i hi h
  rw [those_bit hc _ _ _ i hi] at *
  obtain ⟨x, hx, a, b, c⟩ := h
  exact ⟨x, hx, hasI_sub hs a, by omega, by omega⟩

end AG
