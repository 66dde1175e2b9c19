/- What the functions of masks and sets compute, and the laws of that. -/
import Derived.Test.YtenhcejelicjfaaDoorAgMc10
namespace AG
open Go Go.Proofs.YtenhcejelicjfaaDoor
set_option maxRecDepth 100000
set_option maxHeartbeats 4000000



theorem Tab.ext {m m' : Mem} (h : Tab m) (k : Ext m m') : Tab m' :=
  ⟨(k.2 1 (Mem.get_lt h.k)).trans h.k, (k.2 2 (Mem.get_lt h.s)).trans h.s, (k.2 3 (Mem.get_lt h.t)).trans h.t⟩
theorem a10_R1_ok (v : AV) (l : List V) (m : Mem) (hv : VS m v l) (w : AV) (u : List (BitVec 32)) (hw : US m w u) (a b : Mk) (op x y z : Int) (set : BitVec 32) (lv : Int) (N : Nat) (hN : 300 ≤ N) (again : AC → St → Option (Ex × St)) (T : List (Nat × AV)) (q : _) (hq : codeEv (run A N) again a10_R1 ⟨105, T, [(7, [U a.may, U a.must, .int .i64 a.fr, .int .i64 a.to]), (8, [U b.may, U b.must, .int .i64 b.fr, .int .i64 b.to]), (9, [.int .i64 op, .int .i64 x, .int .i64 y, .int .i64 z])], m⟩ = q) (hk : keepT [3, 4, 5, 6, 7, 8, 9] [7, 8, 9] T = [(3, U set), (4, .int .i64 lv), (5, v), (6, w), (7, .loc 7 0), (8, .loc 8 0), (9, .loc 9 0)]) :
    ∃ T', q = some (.norm, ⟨105, T', [(7, [U a.may, U a.must, .int .i64 a.fr, .int .i64 a.to]), (8, [U b.may, U b.must, .int .i64 b.fr, .int .i64 b.to]), (9, [.int .i64 op, .int .i64 x, .int .i64 y, .int .i64 z])], m⟩) ∧ keepT [3, 4, 5, 6, 7, 8, 9] [7, 8, 9] T' = [(3, U set), (4, .int .i64 lv), (5, v), (6, w), (7, .loc 7 0), (8, .loc 8 0), (9, .loc 9 0)] ∧ look T' 24 = .bool (decide (40 < l.length) || decide (40 < u.length)) := by
  subst hq
  obtain ⟨p1, p2, p3, p4⟩ := hv.plain
  obtain ⟨q1, q2, q3, q4⟩ := hw.plain
  have hLL : keepL [(7, [U a.may, U a.must, .int .i64 a.fr, .int .i64 a.to]), (8, [U b.may, U b.must, .int .i64 b.fr, .int .i64 b.to]), (9, [.int .i64 op, .int .i64 x, .int .i64 y, .int .i64 z])] [7, 8, 9] = [(7, [U a.may, U a.must, .int .i64 a.fr, .int .i64 a.to]), (8, [U b.may, U b.must, .int .i64 b.fr, .int .i64 b.to]), (9, [.int .i64 op, .int .i64 x, .int .i64 y, .int .i64 z])] := rfl
  have hln := hv.lenR
  have hlu := hw.lenR
  unfold a10_R1
  rw [codeEv_keep, hk, hLL]
  by_cases h : 40 < l.length
  · have h' : (40 : Int) < (l.length : Int) := by omega
    exact ⟨_, (by simp only [codeEv, opsEv, oneEv, guardEv, opE_mov, opE_pick, opE_bin, opE_lenL, St.opd, look_set, look_cons, St.put, bin_igt, Option.map_some, Nat.reduceEqDiff, Nat.reduceLT, if_true, if_false, Nat.succ_ne_self, decide_true, beq_tf, hln, h']; rfl), (by simp only [keepT, List.map, look_set, look_cons, in_int, in_U, in_loc, Nat.reduceEqDiff, if_true, if_false, List.contains_cons, List.contains_nil, Nat.reduceBEq, beq_self_eq_true, Bool.or_true, Bool.or_false, p1, q1]), (by simp only [look_set, look_cons, Nat.reduceEqDiff, if_true, if_false, Bool.true_or, h, decide_true, Bool.true_or])⟩
  · have h' : ¬ (40 : Int) < (l.length : Int) := by omega
    by_cases g : 40 < u.length
    · have g' : (40 : Int) < (u.length : Int) := by omega
      exact ⟨_, (by simp only [codeEv, opsEv, oneEv, guardEv, opE_mov, opE_pick, opE_bin, opE_lenL, St.opd, look_set, look_cons, St.put, bin_igt, Option.map_some, Nat.reduceEqDiff, Nat.reduceLT, if_true, if_false, beq_self_eq_true, Bool.false_eq_true, Nat.succ_ne_self, decide_true, decide_false, hln, hlu, h', g']; rfl), (by simp only [keepT, List.map, look_set, look_cons, in_int, in_U, in_loc, Nat.reduceEqDiff, if_true, if_false, List.contains_cons, List.contains_nil, Nat.reduceBEq, beq_self_eq_true, Bool.or_true, Bool.or_false, p1, q1]), (by simp only [look_set, look_cons, Nat.reduceEqDiff, if_true, if_false, Bool.or_true, h, g, decide_true, decide_false])⟩
    · have g' : ¬ (40 : Int) < (u.length : Int) := by omega
      exact ⟨_, (by simp only [codeEv, opsEv, oneEv, guardEv, opE_mov, opE_pick, opE_bin, opE_lenL, St.opd, look_set, look_cons, St.put, bin_igt, Option.map_some, Nat.reduceEqDiff, Nat.reduceLT, if_true, if_false, beq_self_eq_true, Bool.false_eq_true, Nat.succ_ne_self, decide_false, hln, hlu, h', g']; rfl), (by simp only [keepT, List.map, look_set, look_cons, in_int, in_U, in_loc, Nat.reduceEqDiff, if_true, if_false, List.contains_cons, List.contains_nil, Nat.reduceBEq, beq_self_eq_true, Bool.or_true, Bool.or_false, p1, q1]), (by simp only [look_set, look_cons, Nat.reduceEqDiff, if_true, if_false, Bool.or_false, h, g, decide_false])⟩

theorem a10_R2_ok (v : AV) (l : List V) (m : Mem) (hv : VS m v l) (w : AV) (u : List (BitVec 32)) (hw : US m w u) (a b : Mk) (op x y z : Int) (set : BitVec 32) (lv : Int) (hT : Tab m) (hl : l.length ≤ 40) (hu : u.length ≤ 40) (hmn : m.n + 20 ≤ 2 ^ depth) (N : Nat) (hN : 300 ≤ N) (again : AC → St → Option (Ex × St)) (T : List (Nat × AV)) (q : _) (hq : codeEv (run A N) again a10_R2 ⟨105, T, [(7, [U a.may, U a.must, .int .i64 a.fr, .int .i64 a.to]), (8, [U b.may, U b.must, .int .i64 b.fr, .int .i64 b.to]), (9, [.int .i64 op, .int .i64 x, .int .i64 y, .int .i64 z])], m⟩ = q) (hk : keepT [3, 4, 5, 6, 7, 8, 9] [7, 8, 9] T = [(3, U set), (4, .int .i64 lv), (5, v), (6, w), (7, .loc 7 0), (8, .loc 8 0), (9, .loc 9 0)]) :
    ∃ T' m', q = some (.norm, ⟨105, T', [(7, [U a.may, U a.must, .int .i64 a.fr, .int .i64 a.to]), (8, [U b.may, U b.must, .int .i64 b.fr, .int .i64 b.to]), (9, [.int .i64 op, .int .i64 x, .int .i64 y, .int .i64 z])], m'⟩) ∧ look T' 14 = .bool true := by
  subst hq
  obtain ⟨p1, p2, p3, p4⟩ := hv.plain
  obtain ⟨q1, q2, q3, q4⟩ := hw.plain
  have hLL : keepL [(7, [U a.may, U a.must, .int .i64 a.fr, .int .i64 a.to]), (8, [U b.may, U b.must, .int .i64 b.fr, .int .i64 b.to]), (9, [.int .i64 op, .int .i64 x, .int .i64 y, .int .i64 z])] [7, 8, 9] = [(7, [U a.may, U a.must, .int .i64 a.fr, .int .i64 a.to]), (8, [U b.may, U b.must, .int .i64 b.fr, .int .i64 b.to]), (9, [.int .i64 op, .int .i64 x, .int .i64 y, .int .i64 z])] := rfl
  have lg : logOk [] = true := rfl
  obtain ⟨n, rfl⟩ : ∃ n, N = n + 5 := ⟨N - 5, by omega⟩
  have c1 := check_mk (n + 4) a m
  have c2 := rcheck_mk (n + 4) a m
  have c3 := mhas_spec (n + 5) (by omega) m a set lv
  have c4 := rhas_spec (n + 5) (by omega) m a set lv
  have c5 := within_mk (n + 2) a b m
  have c6 := rwithin_mk (n + 2) a b m
  have c7 := join_mk (n + 3) a b m
  have c8 := rjoin_mk (n + 3) a b m
  have e1 := eq_mk (a.join b) (a.join b)
  have c9 := do_mk n op x y z _ a m (code_ex n op x y z m hT)
  obtain ⟨m1, c10, x1, n1⟩ := rdo_mk (n + 5) (by omega) op x y z a m (by omega)
  have hv1 := hv.ext x1
  have hw1 := hw.ext x1
  have e2 := eq_mk (a.doI (if codeOk op x y z then 0 else 2) op x) (a.doI (if codeOk op x y z then 0 else 2) op x)
  generalize a.doI (if codeOk op x y z then 0 else 2) op x = d at *
  generalize a.join b = j at *
  have d1 := come_spec (n + 5) (by omega) m1 v l hv1 (by omega) a lv
  have d2 := rcome_spec (n + 5) (by omega) m1 v l hv1 a lv
  have d3 := sure_spec (n + 5) (by omega) m1 v l hv1 (by omega) a lv
  have d4 := rsure_spec (n + 5) (by omega) m1 v l hv1 a lv
  generalize (if a.ok then those a.may a.fr lv l else 0#32) = come at *
  generalize (if a.ok then those a.must a.to lv l else 0#32) = sure at *
  obtain ⟨w2, m2, f1, x2, n2, hw2⟩ := words_spec (n + 5) (by omega) m1 w u hw1 hu (by omega)
  obtain ⟨r1, r2, r3, r4⟩ := hw2.plain
  have f2 := close_spec (n + 5) (by omega) m2 w2 u hw2 hu set
  have f3 := rclose_spec (n + 5) (by omega) m2 w u (hw1.ext x2) hu set
  have g1 := first_spec (n + 4) m2
  have g2 := rfirst_spec (n + 4) m2
  have e3 : eqEv (.agg [(0, 0), (1, 0), (2, 0), (3, 0)]) (mkA 0#32 0#32 0 0) (mkA 0#32 0#32 0 0) = some true := by
    have := eq_mk ⟨0#32, 0#32, 0, 0⟩ ⟨0#32, 0#32, 0, 0⟩
    simpa [Mk.av] using this
  unfold mkA at g1 g2 e3
  unfold insA at c9 c10
  simp only [av_cells, decide_true] at c1 c2 c3 c4 c5 c6 c7 c8 c9 c10 e1 e2 d1 d2 d3 d4
  generalize (if a.ok = true then (0 : Int) else 2) = ck at *
  generalize a.has set lv = hs at *
  generalize a.within b = wi at *
  generalize closeN u 32 set = cl at *
  have t0 : ∀ k : Int, (k = k) = True := fun k => eq_self k
  have t1 : ∀ k : BitVec 32, (k = k) = True := fun k => eq_self k
  have bt : ∀ c : Bool, (c == c) = true := fun c => by cases c <;> rfl
  have beq : ∀ c : Bool, eqEv .bool (.bool c) (.bool c) = some true := fun c => by cases c <;> rfl
  unfold a10_R2
  rw [codeEv_keep, hk, hLL]
  exact ⟨_, m2, (by simp only [codeEv, guardEv, opE_mov, opE_pick, opE_loadk, opE_bin, opE_eq, opE_call, St.opd, look_set, look_cons, St.put, St.read, lookL, cellsAt_cons, bin_ueq, bin_ieq, loc_int, loc_agg, loc_U, callWith, careEv, dOneEv, dOpsEv, accOf, accEv, Option.toList_some, List.append_nil, List.map, List.length, List.take, List.drop, List.any, List.take_succ_cons, Option.map_some, Nat.reduceEqDiff, Nat.reduceAdd, Nat.reduceLeDiff, Nat.reduceLT, if_true, if_false, Bool.and_false, Bool.or_false, Bool.not_true, beq_self_eq_true, Bool.false_eq_true, Nat.succ_ne_self, decide_true, lg, beq, c1, c2, c3, c4, c5, c6, c7, c8, c9, c10, e1, e2, e3, d1, d2, d3, d4, f1, f2, f3, g1, g2, p2, q2, r2]; rfl), (by simp only [look_set, look_cons, Nat.reduceEqDiff, if_true, if_false])⟩

theorem mcalls_run (n : Nat) (hn : 300 ≤ n) (a b : Mk) (op x y z : Int) (set : BitVec 32) (lv : Int) (m0 m : Mem) (hl0 : run A n 29 [] m0 = some (.bool true, m)) (hT : Tab m) (v : AV) (l : List V) (hv : VS m v l) (w : AV) (u : List (BitVec 32)) (hw : US m w u) (hmn : m.n + 20 ≤ 2 ^ depth) :
    ∃ m', run A (n + 1) 10 [a.av, b.av, insA op x y z, U set, .int .i64 lv, v, w] m0 = some (.bool true, m') := by
  rw [run_10]
  obtain ⟨p1, p2, p3, p4⟩ := hv.plain
  obtain ⟨q1, q2, q3, q4⟩ := hw.plain
  unfold insA
  simp only [av_cells]
  unfold fnEv a10
  simp only [codeEv, opsEv, oneEv, guardEv, opE_mov, opE_box, opE_un, opE_call, St.opd, look_set, look_cons, St.put, St.new, lookL, setL, argsT, resEv, in_int, in_U, in_agg, in_loc, List.contains_cons, List.contains_nil, cells_agg, unEv, callWith, keepL, List.map, List.length, List.any, Option.map_some, Nat.reduceEqDiff, Nat.reduceAdd, Nat.reduceLT, if_true, if_false, Bool.or_true, Bool.or_false, Bool.true_or, Bool.not_true, beq_self_eq_true, Bool.false_eq_true, Nat.succ_ne_self, keepT_setT, keepT_lit, p1, q1, hl0]
  generalize hq : codeEv (run A n) (ev A n).2 a10_R1 _ = q
  obtain ⟨T1, rfl, hk1, h24⟩ := a10_R1_ok v l m hv w u hw a b op x y z set lv n hn _ _ q hq (by simp only [keepT, List.map, look_set, look_cons, in_int, in_U, in_loc, Nat.reduceEqDiff, if_true, if_false, List.contains_cons, List.contains_nil, Nat.reduceBEq, beq_self_eq_true, Bool.or_true, Bool.or_false, p1, q1])
  simp only [Nat.reduceLT, if_true, h24]
  by_cases h4 : 40 < l.length
  · exact ⟨m, by simp only [look_set, loc_bool, if_true, if_false, Bool.true_or, Bool.false_eq_true, decide_true, h4]⟩
  by_cases h5 : 40 < u.length
  · exact ⟨m, by simp only [look_set, loc_bool, if_true, if_false, Bool.or_true, Bool.false_eq_true, decide_true, decide_false, h4, h5]⟩
  simp only [if_false, Bool.or_false, Bool.false_eq_true, decide_false, h4, h5]
  generalize hq : codeEv (run A n) (ev A n).2 a10_R2 _ = q
  obtain ⟨T2, m2, rfl, h14⟩ := a10_R2_ok v l m hv w u hw a b op x y z set lv hT (by omega) (by omega) hmn n hn _ _ q hq hk1
  exact ⟨m2, by simp only [loc_bool, if_false, Bool.false_eq_true, h14]⟩

end AG
