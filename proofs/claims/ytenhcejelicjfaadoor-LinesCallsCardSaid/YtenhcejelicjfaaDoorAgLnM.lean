/- What the functions of sets and vectors compute, and the laws of that. -/
import Derived.Test.YtenhcejelicjfaaDoorAgLnL
namespace AG
open Go Go.Proofs.YtenhcejelicjfaaDoor
set_option maxRecDepth 100000
set_option maxHeartbeats 4000000



theorem a5_R1_ok (v : AV) (l : List V) (m : Mem) (hv : VS m v l) (P E : BitVec 32) (lv ac : Int) (N : Nat) (hN : 34 ≤ N) (again : AC → St → Option (Ex × St)) (T : List (Nat × AV)) (L : List (Nat × List AV)) (q : _) (hq : codeEv (run A N) again a5_R1 ⟨155, T, L, m⟩ = q) (hk : keepT [0, 1, 2, 3, 4] [] T = [(0, U P), (1, U E), (2, .int .i64 lv), (3, .int .i64 ac), (4, v)]) :
    ∃ T', q = some (.norm, ⟨155, T', [], m⟩) ∧ keepT [0, 1, 2, 3, 4] [] T' = [(0, U P), (1, U E), (2, .int .i64 lv), (3, .int .i64 ac), (4, v)] ∧ look T' 32 = .bool (decide (40 < l.length) || !decide (checkV l = 0)) := by
  subst hq
  obtain ⟨p1, p2, p3, p4⟩ := hv.plain
  have ck := fun h => check_v N hN m v l hv h
  have hln := hv.lenR
  unfold a5_R1
  rw [codeEv_keep, hk, keepL_nil]
  by_cases h : 40 < l.length
  · have h' : (40 : Int) < (l.length : Int) := by omega
    exact ⟨_, (by simp only [codeEv, opsEv, oneEv, guardEv, opE_mov, opE_pick, opE_bin, opE_lenL, St.opd, look_set, look_cons, St.put, bin_igt, Option.map_some, Nat.reduceEqDiff, Nat.reduceLT, if_true, if_false, Nat.succ_ne_self, decide_true, beq_tf, hln, h']; rfl), (by simp only [keepT, List.map, look_set, look_cons, in_int, in_U, Nat.reduceEqDiff, if_true, if_false, p1]), (by simp only [look_set, look_cons, Nat.reduceEqDiff, if_true, if_false, h, decide_true, Bool.true_or])⟩
  · have h' : ¬ (40 : Int) < (l.length : Int) := by omega
    have ck := ck (by omega)
    by_cases hc : checkV l = 0
    · have hc := eq_true hc
      exact ⟨_, (by simp only [codeEv, opsEv, oneEv, guardEv, opE_mov, opE_pick, opE_bin, opE_call, opE_lenL, St.opd, look_set, look_cons, St.put, bin_igt, bin_ine, callWith, List.map, List.any, Option.map_some, Nat.reduceEqDiff, Nat.reduceLT, if_true, if_false, Bool.or_false, Bool.not_true, beq_self_eq_true, Bool.false_eq_true, Nat.succ_ne_self, decide_true, decide_false, p2, hln, h', ck, hc]; rfl), (by simp only [keepT, List.map, look_set, look_cons, in_int, in_U, Nat.reduceEqDiff, if_true, if_false, p1]), (by simp only [look_set, look_cons, Nat.reduceEqDiff, if_true, if_false, h, hc, decide_false, decide_true, Bool.false_or, Bool.not_true])⟩
    · have hc := eq_false hc
      exact ⟨_, (by simp only [codeEv, opsEv, oneEv, guardEv, opE_mov, opE_pick, opE_bin, opE_call, opE_lenL, St.opd, look_set, look_cons, St.put, bin_igt, bin_ine, callWith, List.map, List.any, Option.map_some, Nat.reduceEqDiff, Nat.reduceLT, if_true, if_false, Bool.or_false, Bool.not_false, beq_self_eq_true, Bool.false_eq_true, Nat.succ_ne_self, decide_false, p2, hln, h', ck, hc]; rfl), (by simp only [keepT, List.map, look_set, look_cons, in_int, in_U, Nat.reduceEqDiff, if_true, if_false, p1]), (by simp only [look_set, look_cons, Nat.reduceEqDiff, if_true, if_false, h, hc, decide_false, Bool.false_or, Bool.not_false])⟩

theorem a5_R3_ok (v : AV) (l : List V) (m : Mem) (hv : VS m v l) (P E : BitVec 32) (lv ac : Int) (v11 : AV) (l11 : List V) (hv11 : VS m v11 l11) (hl11 : l11.length ≤ 1000000) (hl : l.length ≤ 1000000) (N : Nat) (hN : 40 ≤ N) (hmn : m.n + 2 ≤ 2 ^ depth) (again : AC → St → Option (Ex × St)) (T : List (Nat × AV)) (L : List (Nat × List AV)) (q : _) (hq : codeEv (run A N) again a5_R3 ⟨155, T, L, m⟩ = q) (hk : keepT [0, 1, 2, 3, 4, 11] [] T = [(0, U P), (1, U E), (2, .int .i64 lv), (3, .int .i64 ac), (4, v), (11, v11)]) :
    ∃ T' m', q = some (.norm, ⟨155, T', [], m'⟩) ∧ Ext m m' ∧ m'.n ≤ m.n + 2 ∧ keepT [0, 1, 2, 3, 4, 11, 13, 14] [] T' = [(0, U P), (1, U E), (2, .int .i64 lv), (3, .int .i64 ac), (4, v), (11, v11), (13, .int .i64 (max 0 (bI (takeR P E lv ac l)))), (14, .bool (decide (0 ≤ bI (takeR P E lv ac l))))] := by
  subst hq
  obtain ⟨p1, p2, p3, p4⟩ := hv.plain
  obtain ⟨q1, q2, q3, q4⟩ := hv11.plain
  obtain ⟨m', tk, x1, x2⟩ := take_spec N hN P E lv ac m v l hv hl hmn
  unfold takeAV at tk
  unfold a5_R3
  rw [codeEv_keep, hk, keepL_nil]
  exact ⟨_, m', (by simp only [codeEv, opsEv, oneEv, guardEv, opE_mov, opE_ext, opE_call, St.opd, look_set, look_cons, St.put, loc_int, loc_U, callWith, List.map, List.any, List.getElem?_cons_succ, List.getElem?_cons_zero, Option.map_some, Nat.reduceEqDiff, Nat.reduceLT, if_true, if_false, Bool.or_false, Bool.false_eq_true, Nat.succ_ne_self, tk, p2]; rfl), x1, x2, (by simp only [keepT, List.map, look_set, look_cons, in_int, in_U, in_bool, Nat.reduceEqDiff, if_true, if_false, p1, q1])⟩

theorem a5_R4_ok (v : AV) (l : List V) (m : Mem) (hv : VS m v l) (P E : BitVec 32) (lv ac : Int) (v11 : AV) (l11 : List V) (hv11 : VS m v11 l11) (hl11 : l11.length ≤ 1000000) (k : Int) (is : Bool) (N : Nat) (hN : 40 ≤ N) (hmn : m.n + 2 ≤ 2 ^ depth) (again : AC → St → Option (Ex × St)) (T : List (Nat × AV)) (L : List (Nat × List AV)) (q : _) (hq : codeEv (run A N) again a5_R4 ⟨155, T, L, m⟩ = q) (hk : keepT [0, 1, 2, 3, 4, 11, 13, 14] [] T = [(0, U P), (1, U E), (2, .int .i64 lv), (3, .int .i64 ac), (4, v), (11, v11), (13, .int .i64 k), (14, .bool is)]) :
    ∃ T' m', q = some (.norm, ⟨155, T', [], m'⟩) ∧ Ext m m' ∧ m'.n ≤ m.n + 2 ∧ keepT [0, 1, 2, 3, 4, 11, 13, 14, 15, 16] [] T' = [(0, U P), (1, U E), (2, .int .i64 lv), (3, .int .i64 ac), (4, v), (11, v11), (13, .int .i64 k), (14, .bool is), (15, .int .i64 (max 0 (bI (takeR P E lv ac l11)))), (16, .bool (decide (0 ≤ bI (takeR P E lv ac l11))))] := by
  subst hq
  obtain ⟨p1, p2, p3, p4⟩ := hv.plain
  obtain ⟨q1, q2, q3, q4⟩ := hv11.plain
  obtain ⟨m', tk, x1, x2⟩ := take_spec N hN P E lv ac m v11 l11 hv11 hl11 hmn
  unfold takeAV at tk
  unfold a5_R4
  rw [codeEv_keep, hk, keepL_nil]
  exact ⟨_, m', (by simp only [codeEv, opsEv, oneEv, guardEv, opE_mov, opE_ext, opE_call, St.opd, look_set, look_cons, St.put, loc_int, loc_U, callWith, List.map, List.any, List.getElem?_cons_succ, List.getElem?_cons_zero, Option.map_some, Nat.reduceEqDiff, Nat.reduceLT, if_true, if_false, Bool.or_false, Bool.false_eq_true, Nat.succ_ne_self, tk, q2]; rfl), x1, x2, (by simp only [keepT, List.map, look_set, look_cons, in_int, in_U, in_bool, Nat.reduceEqDiff, if_true, if_false, p1, q1])⟩

theorem a5_R5_ok (v : AV) (l : List V) (m : Mem) (hv : VS m v l) (P E : BitVec 32) (lv ac : Int) (v11 : AV) (l11 : List V) (hv11 : VS m v11 l11) (hl11 : l11.length ≤ 1000000) (k k2 : Int) (is : Bool) (hc : checkV l11 = 0) (N : Nat) (hN : 34 ≤ N) (again : AC → St → Option (Ex × St)) (T : List (Nat × AV)) (L : List (Nat × List AV)) (q : _) (hq : codeEv (run A N) again a5_R5 ⟨155, T, L, m⟩ = q) (hk : keepT [0, 1, 2, 3, 4, 11, 13, 14, 15, 16] [] T = [(0, U P), (1, U E), (2, .int .i64 lv), (3, .int .i64 ac), (4, v), (11, v11), (13, .int .i64 k), (14, .bool is), (15, .int .i64 k2), (16, .bool is)]) :
    ∃ T', q = some (.norm, ⟨155, T', [], m⟩) ∧ keepT [0, 1, 2, 3, 4, 11, 13, 14, 15] [] T' = [(0, U P), (1, U E), (2, .int .i64 lv), (3, .int .i64 ac), (4, v), (11, v11), (13, .int .i64 k), (14, .bool is), (15, .int .i64 k2)] ∧ look T' 72 = .bool false := by
  subst hq
  obtain ⟨p1, p2, p3, p4⟩ := hv.plain
  obtain ⟨q1, q2, q3, q4⟩ := hv11.plain
  have ck := check_v N hN m v11 l11 hv11 hl11
  rw [hc] at ck
  unfold a5_R5
  rw [codeEv_keep, hk, keepL_nil]
  cases is
  · exact ⟨_, (by simp only [codeEv, opsEv, oneEv, guardEv, opE_mov, opE_pick, opE_bin, opE_eq, opE_call, St.opd, look_set, look_cons, St.put, bin_ine, callWith, List.map, List.any, Option.map_some, Nat.reduceEqDiff, Nat.reduceLT, if_true, if_false, Bool.or_false, Bool.not_true, beq_self_eq_true, Bool.false_eq_true, Nat.succ_ne_self, decide_true, ck, q2, eqEv]; rfl), (by simp only [keepT, List.map, look_set, look_cons, in_int, in_U, in_bool, Nat.reduceEqDiff, if_true, if_false, p1, q1]), (by simp only [look_set, look_cons, Nat.reduceEqDiff, if_true, if_false])⟩
  · exact ⟨_, (by simp only [codeEv, opsEv, oneEv, guardEv, opE_mov, opE_pick, opE_bin, opE_eq, opE_call, St.opd, look_set, look_cons, St.put, bin_ine, callWith, List.map, List.any, Option.map_some, Nat.reduceEqDiff, Nat.reduceLT, if_true, if_false, Bool.or_false, Bool.not_true, beq_self_eq_true, Bool.false_eq_true, Nat.succ_ne_self, decide_true, ck, q2, eqEv]; rfl), (by simp only [keepT, List.map, look_set, look_cons, in_int, in_U, in_bool, Nat.reduceEqDiff, if_true, if_false, p1, q1]), (by simp only [look_set, look_cons, Nat.reduceEqDiff, if_true, if_false])⟩

theorem of_one (N : Nat) (hN : 10 ≤ N) (m : Mem) (b : Nat) (y : Int) (h1 : 0 ≤ y) (h2 : y ≤ 31) (hb : m.get b = some (.cells [.int .i64 y] true)) : run A N 16 [.slice b 0 1 (some 1) 1] m = some (.tup [U (1#32 <<< y.toNat), .int .i64 0], m) := by
  have h := of_spec N m (.slice b 0 1 (some 1) 1) [y] (.inr ⟨b, 0, some 1, 1, rfl, fun i x hx => by
    cases i with
    | zero => cases hx; exact ⟨_, _, hb, rfl⟩
    | succ i => simp at hx⟩) (by simp) (by simp only [List.length_cons, List.length_nil]; omega)
  have e : ofL 0#32 [y] = (1#32 <<< y.toNat, 0) := by
    unfold ofL
    rw [if_neg (by omega), if_neg (by omega)]
    unfold ofL
    congr 1
    simp
  rw [e] at h
  exact h

theorem a5_R6_ok (v : AV) (l : List V) (m : Mem) (hv : VS m v l) (P E : BitVec 32) (lv ac : Int) (v11 : AV) (l11 : List V) (hv11 : VS m v11 l11) (hl11 : l11.length ≤ 1000000) (kk : Nat) (w : V) (hw : l[kk]? = some w) (h1 : 0 ≤ w.line) (h2 : w.line ≤ 31) (k2 : Int) (N : Nat) (hN : 40 ≤ N) (hmn : m.n + 2 ≤ 2 ^ depth) (again : AC → St → Option (Ex × St)) (T : List (Nat × AV)) (L : List (Nat × List AV)) (q : _) (hq : codeEv (run A N) again a5_R6 ⟨155, T, L, m⟩ = q) (hk : keepT [0, 1, 2, 3, 4, 11, 13, 15] [] T = [(0, U P), (1, U E), (2, .int .i64 lv), (3, .int .i64 ac), (4, v), (11, v11), (13, .int .i64 (kk : Int)), (15, .int .i64 k2)]) :
    ∃ T' m', q = some (.norm, ⟨155, T', [], m'⟩) ∧ Ext m m' ∧ m'.n ≤ m.n + 1 ∧ keepT [0, 1, 2, 3, 4, 11, 13, 15, 17, 18] [] T' = [(0, U P), (1, U E), (2, .int .i64 lv), (3, .int .i64 ac), (4, v), (11, v11), (13, .int .i64 (kk : Int)), (15, .int .i64 k2), (17, U (1#32 <<< w.line.toNat)), (18, .int .i64 0)] := by
  subst hq
  obtain ⟨q1, q2, q3, q4⟩ := hv11.plain
  have hi := idx_ok hw
  have hf := not_full (m := m) (by omega)
  have o1 := of_one N (by omega) (m.push (.cells [.int .i64 w.line] true)) m.n w.line h1 h2 (Mem.get_push_new _)
  have x1 : Ext m (m.push (.cells [.int .i64 w.line] true)) := (Ext.refl m).push _ (by omega)
  rcases hv with ⟨rfl, rfl⟩ | ⟨b, o, cap, e, rfl, hm⟩
  · cases hw
  obtain ⟨c, own, g1, g2⟩ := hm kk w hw
  obtain ⟨_, g3, _⟩ := cells_fld g2
  unfold a5_R6
  rw [codeEv_keep, hk, keepL_nil]
  exact ⟨_, _, (by simp only [codeEv, opsEv, oneEv, guardEv, opE_mov, opE_mkslc, opE_load1, opE_faddr, opE_iaddrL, opE_ext, opE_call, elemR_slice, St.opd, look_set, look_cons, St.put, St.read, splice, cells_int, loc_slice, fillEv, callWith, List.append_nil, List.map, List.length, List.take, List.drop, List.any, List.nil_append, List.drop_succ_cons, List.getElem?_cons_succ, List.getElem?_cons_zero, Option.map_some, Nat.reduceEqDiff, Nat.reduceAdd, Nat.reduceLeDiff, Nat.reduceLT, Nat.reduceMul, if_true, if_false, Bool.or_false, Bool.false_eq_true, Nat.succ_ne_self, hi, and_self, Int.toNat_natCast, g1, g3, z1, p24, hf, o1]; rfl), x1, (by rw [push_n]; omega), (by simp only [keepT, List.map, look_set, look_cons, in_int, in_U, in_slice, Nat.reduceEqDiff, if_true, if_false, q1])⟩

theorem a5_R7_ok (v : AV) (l : List V) (m : Mem) (hv : VS m v l) (P E : BitVec 32) (lv ac : Int) (v11 : AV) (l11 : List V) (hv11 : VS m v11 l11) (hl11 : l11.length ≤ 1000000) (hl : l.length ≤ 32) (kk : Nat) (w : V) (hw : l[kk]? = some w) (hfn : findL w.line l 0 = some kk) (k2 : Int) (one : BitVec 32) (N : Nat) (hN : 40 ≤ N) (again : AC → St → Option (Ex × St)) (T : List (Nat × AV)) (L : List (Nat × List AV)) (q : _) (hq : codeEv (run A N) again a5_R7 ⟨155, T, L, m⟩ = q) (hk : keepT [0, 1, 2, 3, 4, 11, 13, 15, 17, 18] [] T = [(0, U P), (1, U E), (2, .int .i64 lv), (3, .int .i64 ac), (4, v), (11, v11), (13, .int .i64 (kk : Int)), (15, .int .i64 k2), (17, U one), (18, .int .i64 0)]) :
    ∃ T', q = some (.norm, ⟨155, T', [], m⟩) ∧ keepT [0, 1, 2, 3, 4, 11, 13, 15, 17, 18, 19, 20] [] T' = [(0, U P), (1, U E), (2, .int .i64 lv), (3, .int .i64 ac), (4, v), (11, v11), (13, .int .i64 (kk : Int)), (15, .int .i64 k2), (17, U one), (18, .int .i64 0), (19, .int .i64 (kk : Int)), (20, .bool true)] := by
  subst hq
  obtain ⟨q1, q2, q3, q4⟩ := hv11.plain
  have hi := idx_ok hw
  have fs := find_spec N m v l hv (by omega) (by omega) w.line
  rw [hfn] at fs
  unfold findAV at fs
  rcases hv with ⟨rfl, rfl⟩ | ⟨b, o, cap, e, rfl, hm⟩
  · cases hw
  obtain ⟨c, own, g1, g2⟩ := hm kk w hw
  obtain ⟨_, g3, _⟩ := cells_fld g2
  unfold a5_R7
  rw [codeEv_keep, hk, keepL_nil]
  exact ⟨_, (by simp only [codeEv, opsEv, oneEv, guardEv, opE_mov, opE_load1, opE_faddr, opE_iaddrL, opE_ext, opE_call, elemR_slice, St.opd, look_set, look_cons, St.put, St.read, loc_int, loc_slice, callWith, List.map, List.any, List.getElem?_cons_succ, List.getElem?_cons_zero, Option.map_some, Nat.reduceEqDiff, Nat.reduceLT, if_true, if_false, Bool.or_false, Bool.false_eq_true, Nat.succ_ne_self, hi, and_self, Int.toNat_natCast, g1, g3, fs]; rfl), (by simp only [keepT, List.map, look_set, look_cons, in_int, in_U, in_bool, in_slice, Nat.reduceEqDiff, if_true, if_false, q1])⟩

theorem a5_R8_ok (v : AV) (l : List V) (m : Mem) (hv : VS m v l) (P E : BitVec 32) (lv ac : Int) (v11 : AV) (l11 : List V) (hv11 : VS m v11 l11) (hl11 : l11.length ≤ 1000000) (hl : l.length ≤ 1000000) (k k2 : Int) (one : BitVec 32) (N : Nat) (hN : 40 ≤ N) (hmn : m.n + 2 ≤ 2 ^ depth) (again : AC → St → Option (Ex × St)) (T : List (Nat × AV)) (L : List (Nat × List AV)) (q : _) (hq : codeEv (run A N) again a5_R8 ⟨155, T, L, m⟩ = q) (hk : keepT [0, 1, 2, 3, 4, 11, 13, 15, 17, 18, 19, 20] [] T = [(0, U P), (1, U E), (2, .int .i64 lv), (3, .int .i64 ac), (4, v), (11, v11), (13, .int .i64 k), (15, .int .i64 k2), (17, U one), (18, .int .i64 0), (19, .int .i64 k), (20, .bool true)]) :
    ∃ T' m', q = some (.norm, ⟨155, T', [], m'⟩) ∧ Ext m m' ∧ m'.n ≤ m.n + 2 ∧ keepT [4, 11, 13, 15, 18, 19, 20, 21, 22] [] T' = [(4, v), (11, v11), (13, .int .i64 k), (15, .int .i64 k2), (18, .int .i64 0), (19, .int .i64 k), (20, .bool true), (21, .int .i64 (max 0 (bI (takeR (P &&& ~~~one) E lv ac l)))), (22, .bool (decide (0 ≤ bI (takeR (P &&& ~~~one) E lv ac l))))] := by
  subst hq
  obtain ⟨p1, p2, p3, p4⟩ := hv.plain
  obtain ⟨q1, q2, q3, q4⟩ := hv11.plain
  obtain ⟨m', tk, x1, x2⟩ := take_spec N hN (P &&& ~~~one) E lv ac m v l hv hl hmn
  unfold takeAV at tk
  unfold a5_R8
  rw [codeEv_keep, hk, keepL_nil]
  exact ⟨_, m', (by simp only [codeEv, opsEv, oneEv, guardEv, opE_mov, opE_bin, opE_ext, opE_call, St.opd, look_set, look_cons, St.put, bin_andNot, loc_int, loc_U, callWith, List.map, List.any, List.getElem?_cons_succ, List.getElem?_cons_zero, Option.map_some, Nat.reduceEqDiff, Nat.reduceLT, if_true, if_false, Bool.or_false, Bool.false_eq_true, Nat.succ_ne_self, tk, p2, bin_andNot]; rfl), x1, x2, (by simp only [keepT, List.map, look_set, look_cons, in_int, in_bool, Nat.reduceEqDiff, if_true, if_false, p1, q1])⟩

theorem eq_V (w : V) : eqEv (.agg [(0, 0), (1, 0), (2, 0)]) (.agg w.c) (.agg w.c) = some true := by
  simp [eqEv, V.c, leavesEq, leafEq]
theorem a5_R9_ok (v : AV) (l : List V) (m : Mem) (hv : VS m v l) (P E : BitVec 32) (lv ac : Int) (v11 : AV) (l11 : List V) (hv11 : VS m v11 l11) (hl11 : l11.length ≤ 1000000) (kk k2 : Nat) (w : V) (hw : l[kk]? = some w) (hw2 : l11[k2]? = some w) (k3 : Int) (is3 : Bool) (h3 : is3 = true → ∃ (j : Nat) (x : V), k3 = j ∧ l[j]? = some x ∧ j ≠ kk ∧ x.prio ≤ w.prio) (N : Nat) (again : AC → St → Option (Ex × St)) (T : List (Nat × AV)) (L : List (Nat × List AV)) (q : _) (hq : codeEv (run A N) again a5_R9 ⟨155, T, L, m⟩ = q) (hk : keepT [4, 11, 13, 15, 18, 19, 20, 21, 22] [] T = [(4, v), (11, v11), (13, .int .i64 (kk : Int)), (15, .int .i64 (k2 : Int)), (18, .int .i64 0), (19, .int .i64 (kk : Int)), (20, .bool true), (21, .int .i64 k3), (22, .bool is3)]) :
    ∃ T', q = some (.norm, ⟨155, T', [], m⟩) ∧ look T' 10 = .bool true := by
  subst hq
  have lg : logOk [] = true := rfl
  have hi := idx_ok hw
  have hi2 := idx_ok hw2
  rcases hv with ⟨rfl, rfl⟩ | ⟨b, o, cap, e, rfl, hm⟩
  · cases hw
  rcases hv11 with ⟨rfl, rfl⟩ | ⟨b', o', cap', e', rfl, hm'⟩
  · cases hw2
  obtain ⟨c, own, g1, g2⟩ := hm kk w hw
  obtain ⟨c', own', g1', g2'⟩ := hm' k2 w hw2
  obtain ⟨gp, _, _⟩ := cells_fld g2
  have ee := eq_V w
  unfold a5_R9
  rw [codeEv_keep, hk, keepL_nil]
  cases is3
  · exact ⟨_, (by simp only [codeEv, guardEv, opE_mov, opE_pick, opE_loadk, opE_bin, opE_eq, opE_un, opE_iaddrL, elemR_slice, St.opd, look_set, look_cons, St.put, St.read, bin_ieq, unEv, careEv, dOneEv, dOpsEv, accOf, accEv, Option.toList_some, List.append_nil, Option.map_some, Nat.reduceEqDiff, Nat.reduceLT, if_true, if_false, Bool.and_true, Bool.and_false, Bool.not_true, Bool.not_false, beq_self_eq_true, Bool.false_eq_true, Nat.succ_ne_self, decide_true, beq_tf, lg, hi, hi2, and_self, Int.toNat_natCast, g1, g2, g1', g2', ee]; rfl), (by simp only [look_set, look_cons, Nat.reduceEqDiff, if_true, if_false])⟩
  · obtain ⟨j, x, rfl, hx, hne, hp⟩ := h3 rfl
    have hj := idx_ok hx
    obtain ⟨c2, own2, g3, g4⟩ := hm j x hx
    rw [g1] at g3
    simp only [Option.some.injEq, ABlk.cells.injEq] at g3
    obtain ⟨rfl, rfl⟩ := g3
    obtain ⟨gp2, _, _⟩ := cells_fld g4
    have hne' : ¬ ((j : Int) = (kk : Int)) := by omega
    exact ⟨_, (by simp only [codeEv, guardEv, opE_mov, opE_pick, opE_load1, opE_loadk, opE_bin, opE_eq, opE_un, opE_faddr, opE_iaddrL, elemR_slice, St.opd, look_set, look_cons, St.put, St.read, bin_ile, bin_ieq, bin_ine, unEv, careEv, dOneEv, dOpsEv, accOf, accEv, Option.toList_some, List.append_nil, Option.map_some, Nat.reduceEqDiff, Nat.reduceLT, if_true, if_false, Bool.and_true, Bool.and_false, Bool.not_true, Bool.not_false, beq_self_eq_true, Bool.false_eq_true, Nat.succ_ne_self, decide_true, decide_false, lg, hi, hi2, hj, and_self, Int.toNat_natCast, g1, g2, g1', g2', ee, gp, gp2, hne', hp]; rfl), (by simp only [look_set, look_cons, Nat.reduceEqDiff, if_true, if_false])⟩

end AG
