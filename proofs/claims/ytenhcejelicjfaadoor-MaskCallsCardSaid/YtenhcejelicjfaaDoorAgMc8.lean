/- What the functions of masks and sets compute, and the laws of that. -/
import Derived.Test.YtenhcejelicjfaaDoorAgMc7
namespace AG
open Go Go.Proofs.YtenhcejelicjfaaDoor
set_option maxRecDepth 100000
set_option maxHeartbeats 4000000



theorem of_loop (v : AV) (m : Mem) (l : List V) (hcv : checkV l = 0) (hv : VS m v l) (set : BitVec 32) (lv ac : Int) :
    ∀ (r : List V) (i : Nat) (acc : BitVec 32) (N : Nat) (T : List (Nat × AV)) (L : List (Nat × List AV)) (q : _), l.drop i = r → r.length + 2 ≤ N → codeEv (run A N) (ev A N).2 a54_L1 ⟨54, T, L, m⟩ = q → keepT [0, 1, 2, 3, 9, 10] [] T = [(0, U set), (1, .int .i64 lv), (2, .int .i64 ac), (3, v), (9, U acc), (10, .int .i64 (i : Int))] →
      ∃ T' L', q = some (.exit 0, ⟨54, T', L', m⟩) ∧ keepT [9] [] T' = [(9, U (thoseF set lv ac r i acc))]
  | [], i, acc, N, T, L, q, hd, hN, hq, hk => by
    subst hq
    have hi : ¬ ((i : Int) < (l.length : Int)) := by
      have := List.drop_eq_nil_iff.1 hd
      omega
    have hln := hv.lenR
    rw [a54_L1_step]
    unfold a54_B1 thoseF
    exact ⟨_, _, (by simp only [codeEv, opsEv, oneEv, guardEv, opE_mov, opE_bin, opE_lenL, St.opd, look_set, look_cons, St.put, bin_ilt, keepL, Option.map_some, Nat.reduceEqDiff, Nat.reduceLT, if_true, if_false, Bool.false_eq_true, Nat.succ_ne_self, decide_false, hk, hln, hi]; rfl), (by simp only [keepT, List.map, look_set, look_cons, in_U, Nat.reduceEqDiff, if_true, if_false])⟩
  | x :: r, i, acc, N, T, L, q, hd, hN, hq, hk => by
    subst hq
    obtain ⟨hg, hi, hd'⟩ := drop_cons_get hd
    rw [List.length_cons] at hN
    obtain ⟨n, rfl⟩ : ∃ n, N = n + 1 := ⟨N - 1, by omega⟩
    obtain ⟨hok, hpw, h32⟩ := checkV_law hcv
    have ho := okV_law (hok x (List.mem_of_getElem? hg))
    have hv0 := hv
    rcases hv0 with ⟨rfl, h0⟩ | ⟨b, o, cap, ee, rfl, hm⟩
    · rw [h0] at hg; cases hg
    obtain ⟨c, own, hc, hc3⟩ := hm i x hg
    obtain ⟨gp, gl, _⟩ := cells_fld hc3
    have hi' := idx_ok hg
    have hadd := add_i i (by omega)
    have w := u64_small x.line ho.1 (by omega)
    have wi := u64_small (i : Int) (by omega) (by omega)
    have hsh := bin_shr set .u64 x.line ho.1
    have hsi := bin_shl 1#32 .u64 (i : Int) (by omega)
    rw [Int.toNat_natCast] at hsi
    have hbit : set.getLsbD x.line.toNat = hasI set x.line := by
      unfold hasI
      rw [decide_eq_true ho.1, decide_eq_true (show x.line < 32 by omega)]
      simp
    have ih := fun acc T L q => of_loop _ m l hcv hv set lv ac r (i + 1) acc n T L q hd' (by omega)
    rw [a54_L1_step]
    unfold a54_B1 thoseF
    by_cases c1 : hasI set x.line = true
    · by_cases c2 : lv < x.prio
      · by_cases c3 : ac < x.prio
        · simp only [codeEv, opsEv, oneEv, guardEv, opE_mov, opE_pick, opE_load1, opE_bin, opE_conv, opE_faddr, opE_iaddrL, opE_lenL, lenR_slice, elemR_slice, St.opd, look_set, look_cons, St.put, St.read, bin_and, bin_or, bin_ueq, bin_ilt, bin_igt, in_int, in_U, in_slice, keepL, List.map, Option.map_some, Nat.reduceEqDiff, Nat.reduceLT, if_true, if_false, Bool.and_true, beq_self_eq_true, Nat.succ_ne_self, decide_true, u_1, keepT_setT, hk, hi', and_self, Int.toNat_natCast, hc, gl, gp, w, hsh, bit_and, hbit, c1, c2, c3, wi, hsi, hadd, again_of]
          exact ih _ _ _ _ rfl (by simp only [keepT, List.map, look_set, look_cons, in_int, in_U, in_slice, Nat.reduceEqDiff, if_true, if_false])
        · simp only [codeEv, opsEv, oneEv, guardEv, opE_mov, opE_pick, opE_load1, opE_bin, opE_conv, opE_faddr, opE_iaddrL, opE_lenL, lenR_slice, elemR_slice, St.opd, look_set, look_cons, St.put, St.read, bin_and, bin_ueq, bin_ilt, bin_igt, in_int, in_U, in_slice, keepL, List.map, Option.map_some, Nat.reduceEqDiff, Nat.reduceLT, if_true, if_false, Bool.and_false, beq_self_eq_true, Bool.false_eq_true, Nat.succ_ne_self, decide_true, decide_false, u_1, keepT_setT, hk, hi', and_self, Int.toNat_natCast, hc, gl, gp, w, hsh, bit_and, hbit, c1, c2, c3, hadd, again_of]
          exact ih _ _ _ _ rfl (by simp only [keepT, List.map, look_set, look_cons, in_int, in_U, in_slice, Nat.reduceEqDiff, if_true, if_false])
      · simp only [codeEv, opsEv, oneEv, guardEv, opE_mov, opE_pick, opE_load1, opE_bin, opE_conv, opE_faddr, opE_iaddrL, opE_lenL, lenR_slice, elemR_slice, St.opd, look_set, look_cons, St.put, St.read, bin_and, bin_ueq, bin_ilt, bin_igt, in_int, in_U, in_slice, keepL, List.map, Option.map_some, Nat.reduceEqDiff, Nat.reduceLT, if_true, if_false, Bool.false_and, Bool.and_false, beq_self_eq_true, Bool.false_eq_true, Nat.succ_ne_self, decide_true, decide_false, beq_ft, u_1, keepT_setT, hk, hi', and_self, Int.toNat_natCast, hc, gl, gp, w, hsh, bit_and, hbit, c1, c2, hadd, again_of]
        exact ih _ _ _ _ rfl (by simp only [keepT, List.map, look_set, look_cons, in_int, in_U, in_slice, Nat.reduceEqDiff, if_true, if_false])
    · simp only [codeEv, opsEv, oneEv, guardEv, opE_mov, opE_pick, opE_load1, opE_bin, opE_conv, opE_faddr, opE_iaddrL, opE_lenL, lenR_slice, elemR_slice, St.opd, look_set, look_cons, St.put, St.read, bin_and, bin_ueq, bin_ilt, in_int, in_U, in_slice, keepL, List.map, Option.map_some, Nat.reduceEqDiff, Nat.reduceLT, if_true, if_false, Bool.false_and, Bool.false_eq_true, Nat.succ_ne_self, decide_true, beq_ft, u_1, keepT_setT, hk, hi', and_self, Int.toNat_natCast, hc, gl, w, hsh, bit_and, hbit, c1, hadd, again_of]
      exact ih _ _ _ _ rfl (by simp only [keepT, List.map, look_set, look_cons, in_int, in_U, in_slice, Nat.reduceEqDiff, if_true, if_false])

theorem rthose_spec (N : Nat) (hN : 120 ≤ N) (m : Mem) (v : AV) (l : List V) (hv : VS m v l) (set : BitVec 32) (lv ac : Int) : run A N 54 [U set, .int .i64 lv, .int .i64 ac, v] m = some (U (those set lv ac l), m) := by
  obtain ⟨n, rfl⟩ : ∃ n, N = n + 1 := ⟨N - 1, by omega⟩
  rw [run_54]
  unfold fnEv a54 those
  obtain ⟨p1, p2, p3, p4⟩ := hv.plain
  have ck := rcheck_spec n (by omega) m v l hv
  by_cases hc : checkV l = 0
  · have h32 := (checkV_law hc).2.2
    have hc' := eq_true hc
    simp only [codeEv, opsEv, oneEv, guardEv, opE_mov, opE_bin, opE_call, St.opd, look_set, look_cons, St.put, argsT, resEv, bin_ine, in_int, in_U, callWith, keepL, List.map, List.length, List.any, Option.map_some, Nat.reduceEqDiff, Nat.reduceAdd, Nat.reduceLT, if_true, if_false, Bool.or_false, Bool.not_true, Bool.false_eq_true, Nat.succ_ne_self, decide_true, u_0, keepT_setT, keepT_lit, p1, p2, ck, hc']
    generalize hq : codeEv (run A n) (ev A n).2 a54_L1 _ = q
    obtain ⟨T', L', rfl, h1⟩ := of_loop v m l hc hv set lv ac l 0 0#32 n _ _ q rfl (by omega) hq (by simp only [keepT, List.map, look_set, look_cons, in_int, in_U, Nat.reduceEqDiff, if_true, if_false, p1, Int.ofNat_zero])
    simp only [look_set, look_cons, loc_U, Nat.reduceEqDiff, Nat.reduceLT, if_true, if_false, Bool.false_eq_true, Nat.succ_ne_self, h1]
  · simp only [codeEv, opsEv, oneEv, guardEv, opE_mov, opE_bin, opE_call, St.opd, look_set, look_cons, St.put, argsT, resEv, bin_ine, in_int, in_U, loc_U, callWith, keepL, List.map, List.length, List.any, Option.map_some, Nat.reduceEqDiff, Nat.reduceAdd, Nat.reduceLT, if_true, if_false, Bool.or_false, Bool.not_false, Bool.false_eq_true, Nat.succ_ne_self, decide_false, u_0, keepT_setT, keepT_lit, p1, p2, ck, hc]

theorem rcome_spec (N : Nat) (hN : 130 ≤ N) (m : Mem) (v : AV) (l : List V) (hv : VS m v l) (a : Mk) (ac : Int) : run A N 40 [a.av, .int .i64 ac, v] m = some (U (if a.ok then those a.may a.fr ac l else 0#32), m) := by
  obtain ⟨n, rfl⟩ : ∃ n, N = n + 2 := ⟨N - 2, by omega⟩
  rw [run_40]
  obtain ⟨p1, p2, p3, p4⟩ := hv.plain
  have ck := rcheck_mk n a m
  have th := rthose_spec (n + 1) (by omega) m v l hv a.may a.fr ac
  simp only [av_cells] at ck ⊢
  unfold fnEv a40
  by_cases h : a.ok = true
  · simp only [h, if_true] at ck
    simp only [codeEv, opsEv, oneEv, guardEv, opE_mov, opE_box, opE_load1, opE_loadk, opE_bin, opE_faddr, opE_call, St.opd, look_set, look_cons, St.put, St.new, St.read, lookL, setL, cellsAt_cons, argsT, resEv, bin_ine, in_int, in_agg, in_loc, List.contains_cons, List.contains_nil, loc_int, loc_agg, cells_agg, loc_U, callWith, keepL, List.map, List.length, List.take, List.drop, List.any, List.take_succ_cons, Option.map_some, Nat.reduceEqDiff, Nat.reduceAdd, Nat.reduceLeDiff, Nat.reduceLT, if_true, if_false, Bool.or_false, Bool.not_true, beq_self_eq_true, Bool.false_eq_true, Nat.succ_ne_self, decide_true, u_0, keepT_setT, keepT_lit, p1, p2, ck, th, h]
  · simp only [h] at ck
    simp only [codeEv, opsEv, oneEv, guardEv, opE_mov, opE_box, opE_loadk, opE_bin, opE_call, St.opd, look_set, look_cons, St.put, St.new, St.read, lookL, setL, cellsAt_cons, argsT, resEv, bin_ine, in_int, in_agg, in_loc, List.contains_cons, List.contains_nil, loc_agg, cells_agg, loc_U, callWith, keepL, List.map, List.length, List.take, List.drop, List.any, List.take_succ_cons, Option.map_some, Nat.reduceEqDiff, Nat.reduceAdd, Nat.reduceLeDiff, Nat.reduceLT, if_true, if_false, Bool.or_false, Bool.not_false, beq_self_eq_true, Bool.false_eq_true, Nat.succ_ne_self, decide_false, u_0, keepT_setT, keepT_lit, p1, ck, h, eq20]

theorem rsure_spec (N : Nat) (hN : 130 ≤ N) (m : Mem) (v : AV) (l : List V) (hv : VS m v l) (a : Mk) (ac : Int) : run A N 42 [a.av, .int .i64 ac, v] m = some (U (if a.ok then those a.must a.to ac l else 0#32), m) := by
  obtain ⟨n, rfl⟩ : ∃ n, N = n + 2 := ⟨N - 2, by omega⟩
  rw [run_42]
  obtain ⟨p1, p2, p3, p4⟩ := hv.plain
  have ck := rcheck_mk n a m
  have th := rthose_spec (n + 1) (by omega) m v l hv a.must a.to ac
  simp only [av_cells] at ck ⊢
  unfold fnEv a42
  by_cases h : a.ok = true
  · simp only [h, if_true] at ck
    simp only [codeEv, opsEv, oneEv, guardEv, opE_mov, opE_box, opE_load1, opE_loadk, opE_bin, opE_faddr, opE_call, St.opd, look_set, look_cons, St.put, St.new, St.read, lookL, setL, cellsAt_cons, argsT, resEv, bin_ine, in_int, in_agg, in_loc, List.contains_cons, List.contains_nil, loc_int, loc_agg, cells_agg, loc_U, callWith, keepL, List.map, List.length, List.take, List.drop, List.any, List.take_succ_cons, Option.map_some, Nat.reduceEqDiff, Nat.reduceAdd, Nat.reduceLeDiff, Nat.reduceLT, if_true, if_false, Bool.or_false, Bool.not_true, beq_self_eq_true, Bool.false_eq_true, Nat.succ_ne_self, decide_true, u_0, keepT_setT, keepT_lit, p1, p2, ck, th, h]
  · simp only [h] at ck
    simp only [codeEv, opsEv, oneEv, guardEv, opE_mov, opE_box, opE_loadk, opE_bin, opE_call, St.opd, look_set, look_cons, St.put, St.new, St.read, lookL, setL, cellsAt_cons, argsT, resEv, bin_ine, in_int, in_agg, in_loc, List.contains_cons, List.contains_nil, loc_agg, cells_agg, loc_U, callWith, keepL, List.map, List.length, List.take, List.drop, List.any, List.take_succ_cons, Option.map_some, Nat.reduceEqDiff, Nat.reduceAdd, Nat.reduceLeDiff, Nat.reduceLT, if_true, if_false, Bool.or_false, Bool.not_false, beq_self_eq_true, Bool.false_eq_true, Nat.succ_ne_self, decide_false, u_0, keepT_setT, keepT_lit, p1, ck, h, eq20]

end AG
