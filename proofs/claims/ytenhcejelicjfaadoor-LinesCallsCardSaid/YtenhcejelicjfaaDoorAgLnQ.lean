/- What the functions of sets and vectors compute, and the laws of that. -/
import Derived.Test.YtenhcejelicjfaaDoorAgLnP
namespace AG
open Go Go.Proofs.YtenhcejelicjfaaDoor
set_option maxRecDepth 100000
set_option maxHeartbeats 4000000



theorem rtake_loop (v : AV) (m : Mem) (l : List V) (hcv : checkV l = 0) (hv : VS m v l) (P E : BitVec 32) (lv ac : Int) :
    ∀ (r : List V) (i : Nat) (best : Option (Nat × V)) (N : Nat) (T : List (Nat × AV)) (L : List (Nat × List AV)) (q : _), l.drop i = r → r.length + 95 ≤ N → (∀ k w, best = some (k, w) → l[k]? = some w) →
      codeEv (run A N) (ev A N).2 a20_L1 ⟨91, T, L, m⟩ = q → keepT [0, 1, 2, 3, 4, 12, 13] [] T = [(0, U P), (1, U E), (2, .int .i64 lv), (3, .int .i64 ac), (4, v), (12, .int .i64 (bI best)), (13, .int .i64 (i : Int))] →
      ∃ T' L', q = some (.exit 0, ⟨91, T', L', m⟩) ∧ keepT [12] [] T' = [(12, .int .i64 (bI (takeL (elig P E lv ac) r i best)))]
  | [], i, best, N, T, L, q, hd, hN, hb, hq, hk => by
    subst hq
    have hi : ¬ ((i : Int) < (l.length : Int)) := by
      have := List.drop_eq_nil_iff.1 hd
      omega
    have hln := hv.lenR
    rw [a20_L1_step]
    unfold a20_B1 takeL
    exact ⟨_, _, (by simp only [codeEv, opsEv, oneEv, guardEv, opE_mov, opE_pick, opE_bin, opE_lenL, St.opd, look_set, look_cons, St.put, bin_ilt, keepL, Option.map_some, Nat.reduceEqDiff, Nat.reduceLT, if_true, if_false, Bool.false_eq_true, Nat.succ_ne_self, decide_false, beq_ft, hk, hln, hi]; rfl), (by simp only [keepT, List.map, look_set, look_cons, in_int, Nat.reduceEqDiff, if_true, if_false])⟩
  | x :: r, i, best, N, T, L, q, hd, hN, hb, hq, hk => by
    subst hq
    obtain ⟨hg, hi, hd'⟩ := drop_cons_get hd
    rw [List.length_cons] at hN
    obtain ⟨n, rfl⟩ : ∃ n, N = n + 1 := ⟨N - 1, by omega⟩
    have h32 := (checkV_law hcv).2.2
    have ck := rcheck_spec (n + 1) (by omega) m v l hv
    rw [hcv] at ck
    have hc0 := eq_true (rfl : (0 : Int) = 0)
    have hsP := rhas_spec (n + 1) (by omega) P x.line m
    have hsE := rhas_spec (n + 1) (by omega) E x.line m
    have lg : logOk [] = true := rfl
    have hv0 := hv
    rcases hv0 with ⟨rfl, h0⟩ | ⟨b, o, cap, ee, rfl, hm⟩
    · rw [h0] at hg; cases hg
    obtain ⟨c, own, hc, hc3⟩ := hm i x hg
    have hi' := idx_ok hg
    have hadd := add_i i (by omega)
    have ih := fun best T L q => rtake_loop _ m l hcv hv P E lv ac r (i + 1) best n T L q hd' (by omega)
    rw [a20_L1_step]
    unfold a20_B1 takeL
    by_cases c1 : ¬ hasI P x.line = true
    · have ce : elig P E lv ac x = false := by rw [← soI_elig]; simp [soI, c1]
      simp only [codeEv, opsEv, oneEv, guardEv, opE_mov, opE_pick, opE_alloc, opE_load1, opE_loadk, opE_store, opE_bin, opE_un, opE_faddr, opE_iaddrL, opE_call, opE_lenL, lenR_slice, elemR_slice, St.opd, look_set, look_cons, St.put, St.new, St.read, St.write, lookL, setL, cellsAt_cons, splice, bin_ilt, bin_ieq, in_int, in_U, in_slice, in_loc, List.contains_cons, List.contains_nil, one_int, loc_int, loc_slice, cells_agg, loc_U, unEv, callWith, keepL, List.append_nil, List.map, List.length, List.take, List.drop, List.all, List.any, List.nil_append, List.take_succ_cons, List.drop_succ_cons, Option.map_some, Nat.reduceEqDiff, Nat.reduceAdd, Nat.reduceLeDiff, Nat.reduceLT, if_true, if_false, Bool.and_true, Bool.false_and, Bool.or_false, Bool.not_false, List.isEmpty_cons, beq_self_eq_true, Bool.false_eq_true, Nat.succ_ne_self, decide_true, beq_tf, keepT_setT, hk, hi', and_self, ck, hc, hc3, hsP, V.c_eq, Int.toNat_natCast, hadd, again_of, c1, ce]
      exact ih best _ _ _ hb rfl (by simp only [keepT, List.map, look_set, look_cons, in_int, in_U, in_slice, Nat.reduceEqDiff, if_true, if_false])
    have c1 : hasI P x.line = true := Decidable.of_not_not c1
    by_cases c2 : ¬ hasI E x.line = true
    · have ce : elig P E lv ac x = false := by rw [← soI_elig]; simp [soI, c2]
      simp only [codeEv, opsEv, oneEv, guardEv, opE_mov, opE_pick, opE_alloc, opE_load1, opE_loadk, opE_store, opE_bin, opE_un, opE_faddr, opE_iaddrL, opE_call, opE_lenL, lenR_slice, elemR_slice, St.opd, look_set, look_cons, St.put, St.new, St.read, St.write, lookL, setL, cellsAt_cons, splice, bin_ilt, bin_ieq, in_int, in_U, in_slice, in_loc, List.contains_cons, List.contains_nil, one_int, loc_int, loc_slice, cells_agg, loc_U, unEv, callWith, keepL, List.append_nil, List.map, List.length, List.take, List.drop, List.all, List.any, List.nil_append, List.take_succ_cons, List.drop_succ_cons, Option.map_some, Nat.reduceEqDiff, Nat.reduceAdd, Nat.reduceLeDiff, Nat.reduceLT, if_true, if_false, Bool.and_true, Bool.false_and, Bool.or_false, Bool.not_true, Bool.not_false, List.isEmpty_cons, beq_self_eq_true, Bool.false_eq_true, Nat.succ_ne_self, decide_true, beq_tf, keepT_setT, hk, hi', and_self, ck, hc, hc3, hsP, hsE, V.c_eq, Int.toNat_natCast, hadd, again_of, c1, c2, ce]
      exact ih best _ _ _ hb rfl (by simp only [keepT, List.map, look_set, look_cons, in_int, in_U, in_slice, Nat.reduceEqDiff, if_true, if_false])
    have c2 : hasI E x.line = true := Decidable.of_not_not c2
    by_cases c3 : x.prio ≤ lv
    · have c3' : ¬ lv < x.prio := by omega
      have ce : elig P E lv ac x = false := by rw [← soI_elig]; simp [soI, c3']
      simp only [codeEv, opsEv, oneEv, guardEv, opE_mov, opE_pick, opE_alloc, opE_load1, opE_loadk, opE_store, opE_bin, opE_un, opE_faddr, opE_iaddrL, opE_call, opE_lenL, lenR_slice, elemR_slice, St.opd, look_set, look_cons, St.put, St.new, St.read, St.write, lookL, setL, cellsAt_cons, splice, bin_ilt, bin_ile, bin_ieq, in_int, in_U, in_slice, in_loc, List.contains_cons, List.contains_nil, one_int, loc_int, loc_slice, cells_agg, loc_U, unEv, callWith, keepL, List.append_nil, List.map, List.length, List.take, List.drop, List.all, List.any, List.nil_append, List.take_succ_cons, List.drop_succ_cons, Option.map_some, Nat.reduceEqDiff, Nat.reduceAdd, Nat.reduceLeDiff, Nat.reduceLT, if_true, if_false, Bool.and_true, Bool.false_and, Bool.or_false, Bool.not_true, Bool.not_false, List.isEmpty_cons, beq_self_eq_true, Bool.false_eq_true, Nat.succ_ne_self, decide_true, beq_tf, keepT_setT, hk, hi', and_self, ck, hc, hc3, hsP, hsE, V.c_eq, Int.toNat_natCast, hadd, again_of, c1, c2, c3, ce]
      exact ih best _ _ _ hb rfl (by simp only [keepT, List.map, look_set, look_cons, in_int, in_U, in_slice, Nat.reduceEqDiff, if_true, if_false])
    by_cases c4 : x.prio ≤ ac
    · have c4' : ¬ ac < x.prio := by omega
      have ce : elig P E lv ac x = false := by rw [← soI_elig]; simp [soI, c4']
      simp only [codeEv, opsEv, oneEv, guardEv, opE_mov, opE_pick, opE_alloc, opE_load1, opE_loadk, opE_store, opE_bin, opE_un, opE_faddr, opE_iaddrL, opE_call, opE_lenL, lenR_slice, elemR_slice, St.opd, look_set, look_cons, St.put, St.new, St.read, St.write, lookL, setL, cellsAt_cons, splice, bin_ilt, bin_ile, bin_ieq, in_int, in_U, in_slice, in_loc, List.contains_cons, List.contains_nil, one_int, loc_int, loc_slice, cells_agg, loc_U, unEv, callWith, keepL, List.append_nil, List.map, List.length, List.take, List.drop, List.all, List.any, List.nil_append, List.take_succ_cons, List.drop_succ_cons, Option.map_some, Nat.reduceEqDiff, Nat.reduceAdd, Nat.reduceLeDiff, Nat.reduceLT, if_true, if_false, Bool.and_true, Bool.false_and, Bool.or_false, Bool.not_true, Bool.not_false, List.isEmpty_cons, beq_self_eq_true, Bool.false_eq_true, Nat.succ_ne_self, decide_true, decide_false, keepT_setT, hk, hi', and_self, ck, hc, hc3, hsP, hsE, V.c_eq, Int.toNat_natCast, hadd, again_of, c1, c2, c3, c4, ce]
      exact ih best _ _ _ hb rfl (by simp only [keepT, List.map, look_set, look_cons, in_int, in_U, in_slice, Nat.reduceEqDiff, if_true, if_false])
    have ce : elig P E lv ac x = true := by rw [elig_iff]; exact ⟨c1, c2, by omega, by omega⟩
    have nb : ∀ k w, (some (i, x) : Option (Nat × V)) = some (k, w) → l[k]? = some w := fun k w h => by cases h; exact hg
    cases best with
    | none =>
      simp only [bI] at hk
      simp only [codeEv, opsEv, oneEv, guardEv, opE_mov, opE_pick, opE_alloc, opE_load1, opE_loadk, opE_store, opE_bin, opE_un, opE_faddr, opE_iaddrL, opE_call, opE_lenL, lenR_slice, elemR_slice, St.opd, look_set, look_cons, St.put, St.new, St.read, St.write, lookL, setL, cellsAt_cons, splice, bin_ilt, bin_ile, bin_ieq, in_int, in_U, in_slice, in_loc, List.contains_cons, List.contains_nil, one_int, loc_int, loc_slice, cells_agg, loc_U, unEv, callWith, keepL, careEv, dOneEv, dOpsEv, accOf, accEv, List.append_nil, List.map, List.length, List.take, List.drop, List.all, List.any, List.nil_append, List.take_succ_cons, List.drop_succ_cons, Option.map_some, Nat.reduceEqDiff, Int.reduceLT, Nat.reduceAdd, Nat.reduceLeDiff, Nat.reduceLT, if_true, if_false, Bool.and_true, Bool.and_false, Bool.or_false, Bool.not_true, Bool.not_false, List.isEmpty_cons, beq_self_eq_true, Bool.false_eq_true, Nat.succ_ne_self, decide_true, decide_false, beq_tf, keepT_setT, lg, hk, hi', and_self, ck, hc, hc3, hsP, hsE, V.c_eq, Int.toNat_natCast, hadd, again_of, c1, c2, c3, c4, ce, better]
      exact ih (some (i, x)) _ _ _ nb rfl (by simp only [keepT, List.map, look_set, look_cons, in_int, in_U, in_slice, Nat.reduceEqDiff, if_true, if_false, bI])
    | some kw =>
      obtain ⟨kk, w⟩ := kw
      have hw := hb kk w rfl
      obtain ⟨c', own', g1, g2, g3⟩ := get_vecs hm hg hw
      rw [hc] at g1
      simp only [Option.some.injEq, ABlk.cells.injEq] at g1
      obtain ⟨rfl, rfl⟩ := g1
      obtain ⟨gp, gl, _⟩ := cells_fld g3
      have hk1 := idx_ok hw
      have hk2 : ¬ ((kk : Int) < 0) := by omega
      simp only [bI] at hk
      by_cases q1 : w.prio < x.prio
      · have cb : better (some (kk, w)) x = true := by simp [better, gt, q1]
        simp only [codeEv, opsEv, oneEv, guardEv, opE_mov, opE_pick, opE_alloc, opE_load1, opE_loadk, opE_store, opE_bin, opE_un, opE_faddr, opE_iaddrL, opE_call, opE_lenL, lenR_slice, elemR_slice, St.opd, look_set, look_cons, St.put, St.new, St.read, St.write, lookL, setL, cellsAt_cons, splice, bin_ilt, bin_ile, bin_ieq, in_int, in_U, in_slice, in_loc, List.contains_cons, List.contains_nil, one_int, loc_int, loc_slice, cells_agg, loc_U, unEv, callWith, keepL, careEv, dOneEv, dOpsEv, accOf, accEv, Option.toList_some, List.append_nil, List.map, List.length, List.take, List.drop, List.all, List.any, List.nil_append, List.take_succ_cons, List.drop_succ_cons, Option.map_some, Nat.reduceEqDiff, Nat.reduceAdd, Nat.reduceLeDiff, Nat.reduceLT, if_true, if_false, Bool.and_true, Bool.and_false, Bool.or_false, Bool.not_true, Bool.not_false, List.isEmpty_cons, beq_self_eq_true, Bool.false_eq_true, Nat.succ_ne_self, decide_true, decide_false, beq_tf, keepT_setT, lg, hk, hi', and_self, ck, hc, hc3, hsP, hsE, V.c_eq, Int.toNat_natCast, hadd, again_of, c1, c2, c3, c4, ce, cb, hk1, hk2, gp, q1]
        exact ih (some (i, x)) _ _ _ nb rfl (by simp only [keepT, List.map, look_set, look_cons, in_int, in_U, in_slice, Nat.reduceEqDiff, if_true, if_false, bI])
      · by_cases q2 : w.prio = x.prio
        · by_cases q3 : x.line < w.line
          · have cb : better (some (kk, w)) x = true := by simp [better, gt, q2, q3]
            have q2 := eq_true q2
            simp only [codeEv, opsEv, oneEv, guardEv, opE_mov, opE_pick, opE_alloc, opE_load1, opE_loadk, opE_store, opE_bin, opE_un, opE_faddr, opE_iaddrL, opE_call, opE_lenL, lenR_slice, elemR_slice, St.opd, look_set, look_cons, St.put, St.new, St.read, St.write, lookL, setL, cellsAt_cons, splice, bin_ilt, bin_ile, bin_igt, bin_ieq, in_int, in_U, in_slice, in_loc, List.contains_cons, List.contains_nil, one_int, loc_int, loc_slice, cells_agg, loc_U, unEv, callWith, keepL, careEv, dOneEv, dOpsEv, accOf, accEv, Option.toList_some, List.append_nil, List.map, List.length, List.take, List.drop, List.all, List.any, List.nil_append, List.take_succ_cons, List.drop_succ_cons, Option.map_some, Nat.reduceEqDiff, Nat.reduceAdd, Nat.reduceLeDiff, Nat.reduceLT, if_true, if_false, Bool.and_true, Bool.and_false, Bool.or_false, Bool.not_true, Bool.not_false, List.isEmpty_cons, beq_self_eq_true, Bool.false_eq_true, Nat.succ_ne_self, decide_true, decide_false, keepT_setT, lg, hk, hi', and_self, ck, hc, hc3, hsP, hsE, V.c_eq, Int.toNat_natCast, hadd, again_of, c1, c2, c3, c4, ce, cb, hk1, hk2, gp, gl, q1, q2, q3]
            exact ih (some (i, x)) _ _ _ nb rfl (by simp only [keepT, List.map, look_set, look_cons, in_int, in_U, in_slice, Nat.reduceEqDiff, if_true, if_false, bI])
          · have cb : better (some (kk, w)) x = false := by simp [better, gt, q2, q3]
            have q2 := eq_true q2
            simp only [codeEv, opsEv, oneEv, guardEv, opE_mov, opE_pick, opE_alloc, opE_load1, opE_loadk, opE_store, opE_bin, opE_un, opE_faddr, opE_iaddrL, opE_call, opE_lenL, lenR_slice, elemR_slice, St.opd, look_set, look_cons, St.put, St.new, St.read, St.write, lookL, setL, cellsAt_cons, splice, bin_ilt, bin_ile, bin_igt, bin_ieq, in_int, in_U, in_slice, in_loc, List.contains_cons, List.contains_nil, one_int, loc_int, loc_slice, cells_agg, loc_U, unEv, callWith, keepL, careEv, dOneEv, dOpsEv, accOf, accEv, Option.toList_some, List.append_nil, List.map, List.length, List.take, List.drop, List.all, List.any, List.nil_append, List.take_succ_cons, List.drop_succ_cons, Option.map_some, Nat.reduceEqDiff, Nat.reduceAdd, Nat.reduceLeDiff, Nat.reduceLT, if_true, if_false, Bool.and_true, Bool.and_false, Bool.or_false, Bool.not_true, Bool.not_false, List.isEmpty_cons, beq_self_eq_true, Bool.false_eq_true, Nat.succ_ne_self, decide_true, decide_false, keepT_setT, lg, hk, hi', and_self, ck, hc, hc3, hsP, hsE, V.c_eq, Int.toNat_natCast, hadd, again_of, c1, c2, c3, c4, ce, cb, hk1, hk2, gp, gl, q1, q2, q3]
            exact ih (some (kk, w)) _ _ _ hb rfl (by simp only [keepT, List.map, look_set, look_cons, in_int, in_U, in_slice, Nat.reduceEqDiff, if_true, if_false, bI])
        · have q2' : ¬ x.prio = w.prio := fun h => q2 h.symm
          have cb : better (some (kk, w)) x = false := by simp [better, gt, q1, q2']
          simp only [codeEv, opsEv, oneEv, guardEv, opE_mov, opE_pick, opE_alloc, opE_load1, opE_loadk, opE_store, opE_bin, opE_un, opE_faddr, opE_iaddrL, opE_call, opE_lenL, lenR_slice, elemR_slice, St.opd, look_set, look_cons, St.put, St.new, St.read, St.write, lookL, setL, cellsAt_cons, splice, bin_ilt, bin_ile, bin_ieq, in_int, in_U, in_slice, in_loc, List.contains_cons, List.contains_nil, one_int, loc_int, loc_slice, cells_agg, loc_U, unEv, callWith, keepL, careEv, dOneEv, dOpsEv, accOf, accEv, Option.toList_some, List.append_nil, List.map, List.length, List.take, List.drop, List.all, List.any, List.nil_append, List.take_succ_cons, List.drop_succ_cons, Option.map_some, Nat.reduceEqDiff, Nat.reduceAdd, Nat.reduceLeDiff, Nat.reduceLT, if_true, if_false, Bool.and_true, Bool.and_false, Bool.or_false, Bool.not_true, Bool.not_false, List.isEmpty_cons, beq_self_eq_true, Bool.false_eq_true, Nat.succ_ne_self, decide_true, decide_false, beq_ft, keepT_setT, lg, hk, hi', and_self, ck, hc, hc3, hsP, hsE, V.c_eq, Int.toNat_natCast, hadd, again_of, c1, c2, c3, c4, ce, cb, hk1, hk2, gp, q1, q2]
          exact ih (some (kk, w)) _ _ _ hb rfl (by simp only [keepT, List.map, look_set, look_cons, in_int, in_U, in_slice, Nat.reduceEqDiff, if_true, if_false, bI])

theorem rtake_spec (N : Nat) (hN : 200 ≤ N) (P E : BitVec 32) (lv ac : Int) (m : Mem) (v : AV) (l : List V) (hv : VS m v l) : run A N 20 [U P, U E, .int .i64 lv, .int .i64 ac, v] m = some (takeAV (takeR P E lv ac l), m) := by
  obtain ⟨n, rfl⟩ : ∃ n, N = n + 1 := ⟨N - 1, by omega⟩
  rw [run_20]
  unfold fnEv a20 takeR
  obtain ⟨p1, p2, p3, p4⟩ := hv.plain
  have hln := hv.lenR
  by_cases hc : checkV l = 0
  · have h32 := (checkV_law hc).2.2
    simp only [codeEv, opsEv, oneEv, guardEv, opE_mov, opE_bin, opE_max, St.opd, look_set, look_cons, St.put, argsT, resEv, in_int, in_U, loc_int, keepL, List.map, List.length, List.any, Nat.reduceEqDiff, Nat.reduceAdd, Nat.reduceLT, if_true, if_false, Bool.or_false, Bool.false_or, Nat.succ_ne_self, keepT_setT, keepT_lit, p1, hc]
    generalize hq : codeEv (run A n) (ev A n).2 a20_L1 _ = q
    obtain ⟨T', L', rfl, h1⟩ := rtake_loop v m l hc hv P E lv ac l 0 none n _ _ q rfl (by omega) (fun k w h => by cases h) hq (by simp only [keepT, List.map, look_set, look_cons, in_int, in_U, Nat.reduceEqDiff, if_true, if_false, p1, Int.ofNat_zero, bI])
    simp only [look_set, look_cons, bin_ige, loc_int, loc_bool, Option.map_some, Nat.reduceEqDiff, Nat.reduceLT, if_true, if_false, Bool.or_false, Bool.false_eq_true, Nat.succ_ne_self, h1, max_i, takeAV]
  · have ck := rcheck_spec n (by omega) m v l hv
    have hl0 : (0 : Int) < (l.length : Int) := by
      rcases l with _ | ⟨x, r⟩
      · exact absurd rfl hc
      · simp only [List.length_cons]; omega
    simp only [codeEv, opsEv, oneEv, guardEv, opE_mov, opE_pick, opE_bin, opE_call, opE_lenL, opE_max, St.opd, look_set, look_cons, St.put, argsT, resEv, bin_ilt, bin_ige, bin_ieq, in_int, in_U, loc_int, loc_bool, callWith, keepL, List.map, List.length, List.any, Option.map_some, Nat.reduceEqDiff, Nat.reduceAdd, Nat.reduceLT, if_true, if_false, Bool.or_false, beq_self_eq_true, Bool.false_eq_true, Nat.succ_ne_self, decide_true, decide_false, keepT_setT, keepT_lit, p1, p2, hc, a20_L1_step, a20_B1, hln, hl0, ck, max_i, takeAV, bI, show ¬ ((0 : Int) ≤ -1) by omega]

end AG
