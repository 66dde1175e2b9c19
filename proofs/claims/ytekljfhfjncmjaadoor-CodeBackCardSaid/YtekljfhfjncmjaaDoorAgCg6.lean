/- What the functions of instructions and their texts compute, and the laws of that. -/
import Derived.Test.YtekljfhfjncmjaaDoorAgCg5
namespace AG
open Go Go.Proofs.YtekljfhfjncmjaaDoor
set_option maxRecDepth 100000
set_option maxHeartbeats 4000000



theorem n3 : ((3 : Nat) : Int) = 3 := rfl
theorem wr1 : IntKind.i64.wrap (0 + 1) = 1 := by decide
theorem wr2 : IntKind.i64.wrap (1 + 1) = 2 := by decide
theorem wr3 : IntKind.i64.wrap (2 + 1) = 3 := by decide
theorem hz1 : zerosEv [AV.str ⟨#[]⟩] 1 = [AV.str ⟨#[]⟩] := rfl
theorem hz2 (x y : AV) : [x].take 0 ++ [y] ++ [x].drop (0 + 1) = [y] := rfl
theorem opE_idxA (call : Caller) (n sz : Nat) (agg : Bool) (x i : Opd) (s : St) : opEv call (.idxA n sz agg x i) s = match s.opd x, s.opd i with
    | .agg l, .int _ i => if 0 ≤ i ∧ i < n then (if agg then (if i.toNat * sz + sz ≤ l.length then some (.agg ((l.drop (i.toNat * sz)).take sz), s) else none) else (l[i.toNat * sz]?).map fun v => (v, s)) else none
    | _, _ => none := rfl
/-- The numbers of the instruction, with what they are. -/
def G6 (k1 a k2 b k3 c : Int) : AV := .agg [.int .i64 k1, .int .i64 a, .int .i64 k2, .int .i64 b, .int .i64 k3, .int .i64 c]

theorem b13_0_0 (N : Nat) (again : AC → St → Option (Ex × St)) (k1 a k2 b k3 c : Int) (n0 : Nat) (m : Mem) (v : AV) (ps : List ByteArray) (T : List (Nat × AV)) (L : List (Nat × List AV)) (hps : PS n0 m v ps) (hk : keepT [4, 33, 34] [] T = [(4, v), (33, G6 k1 a k2 b k3 c), (34, .int .i64 0)]) (hw : k1 = 0) :
    ∃ T' L', codeEv (run A N) again a13_B1 ⟨66, T, L, m⟩ = some (.norm, ⟨66, T', L', m⟩) ∧ keepT [4, 33, 34] [] T' = [(4, v), (33, G6 k1 a k2 b k3 c), (34, .int .i64 1)] := by
  obtain ⟨p1, p2⟩ := hps.plain
  subst hw
  unfold a13_B1
  exact ⟨_, _, by simp only [codeEv, opsEv, oneEv, guardEv, opE_mov, opE_alloc, opE_load1, opE_store, opE_bin, opE_faddr, St.opd, look_set, look_nil, look_cons, St.put, St.new, St.read, St.write, lookL_nil, lookL_cons, setL_nil, setL_cons, cellsAt_cons, splice, bin_ilt, bin_ieq, in_int, in_agg, in_loc, List.contains_cons, List.contains_nil, one_int, cells_agg, keepL, List.append_nil, List.map, List.length, List.take, List.drop, List.all, List.nil_append, List.take_succ_cons, List.drop_succ_cons, List.drop_zero, List.getElem?_cons_zero, Option.map_some, Nat.reduceEqDiff, Int.reduceEq, Int.reduceLT, Int.reduceLE, Nat.reduceAdd, Nat.reduceLeDiff, Nat.reduceLT, if_true, if_false, Bool.and_true, Bool.or_false, Bool.not_false, List.isEmpty_cons, beq_self_eq_true, Bool.false_eq_true, Nat.succ_ne_self, decide_true, decide_false, keepT_setT, List.take_succ_cons, and_self, Int.toNat_zero, n3, Nat.zero_mul, hk, G6, opE_idxA, p1]; rfl, by simp only [keepT, List.map, look_set, look_cons, in_int, in_agg, Nat.reduceEqDiff, if_true, if_false, wr1, G6, p1]⟩

theorem b13_1_0 (N : Nat) (again : AC → St → Option (Ex × St)) (k1 a k2 b k3 c : Int) (n0 : Nat) (m : Mem) (v : AV) (ps : List ByteArray) (T : List (Nat × AV)) (L : List (Nat × List AV)) (hps : PS n0 m v ps) (hk : keepT [4, 33, 34] [] T = [(4, v), (33, G6 k1 a k2 b k3 c), (34, .int .i64 1)]) (hw : k2 = 0) :
    ∃ T' L', codeEv (run A N) again a13_B1 ⟨66, T, L, m⟩ = some (.norm, ⟨66, T', L', m⟩) ∧ keepT [4, 33, 34] [] T' = [(4, v), (33, G6 k1 a k2 b k3 c), (34, .int .i64 2)] := by
  obtain ⟨p1, p2⟩ := hps.plain
  subst hw
  unfold a13_B1
  exact ⟨_, _, by simp only [codeEv, opsEv, oneEv, guardEv, opE_mov, opE_alloc, opE_load1, opE_store, opE_bin, opE_faddr, St.opd, look_set, look_nil, look_cons, St.put, St.new, St.read, St.write, lookL_nil, lookL_cons, setL_nil, setL_cons, cellsAt_cons, splice, bin_ilt, bin_ieq, in_int, in_agg, in_loc, List.contains_cons, List.contains_nil, one_int, cells_agg, keepL, List.append_nil, List.map, List.length, List.take, List.drop, List.all, List.nil_append, List.take_succ_cons, List.drop_succ_cons, List.getElem?_cons_succ, List.getElem?_cons_zero, Option.map_some, Nat.reduceEqDiff, Int.reduceEq, Int.reduceLT, Int.reduceLE, Nat.reduceAdd, Nat.reduceLeDiff, Nat.reduceLT, if_true, if_false, Bool.and_true, Bool.or_false, Bool.not_false, List.isEmpty_cons, beq_self_eq_true, Bool.false_eq_true, Nat.succ_ne_self, decide_true, decide_false, keepT_setT, List.take_succ_cons, Int.reduceToNat, and_self, n3, Nat.one_mul, hk, G6, opE_idxA, p1]; rfl, by simp only [keepT, List.map, look_set, look_cons, in_int, in_agg, Nat.reduceEqDiff, if_true, if_false, wr2, G6, p1]⟩

theorem b13_2_0 (N : Nat) (again : AC → St → Option (Ex × St)) (k1 a k2 b k3 c : Int) (n0 : Nat) (m : Mem) (v : AV) (ps : List ByteArray) (T : List (Nat × AV)) (L : List (Nat × List AV)) (hps : PS n0 m v ps) (hk : keepT [4, 33, 34] [] T = [(4, v), (33, G6 k1 a k2 b k3 c), (34, .int .i64 2)]) (hw : k3 = 0) :
    ∃ T' L', codeEv (run A N) again a13_B1 ⟨66, T, L, m⟩ = some (.norm, ⟨66, T', L', m⟩) ∧ keepT [4, 33, 34] [] T' = [(4, v), (33, G6 k1 a k2 b k3 c), (34, .int .i64 3)] := by
  obtain ⟨p1, p2⟩ := hps.plain
  subst hw
  unfold a13_B1
  exact ⟨_, _, by simp only [codeEv, opsEv, oneEv, guardEv, opE_mov, opE_alloc, opE_load1, opE_store, opE_bin, opE_faddr, St.opd, look_set, look_nil, look_cons, St.put, St.new, St.read, St.write, lookL_nil, lookL_cons, setL_nil, setL_cons, cellsAt_cons, splice, bin_ilt, bin_ieq, in_int, in_agg, in_loc, List.contains_cons, List.contains_nil, one_int, cells_agg, keepL, List.append_nil, List.map, List.length, List.take, List.drop, List.all, List.nil_append, List.take_succ_cons, List.drop_succ_cons, List.getElem?_cons_succ, List.getElem?_cons_zero, Option.map_some, Nat.reduceEqDiff, Int.reduceEq, Int.reduceLT, Int.reduceLE, Nat.reduceAdd, Nat.reduceLeDiff, Nat.reduceLT, Nat.reduceMul, if_true, if_false, Bool.and_true, Bool.or_false, Bool.not_false, List.isEmpty_cons, beq_self_eq_true, Bool.false_eq_true, Nat.succ_ne_self, decide_true, decide_false, keepT_setT, List.take_succ_cons, Int.reduceToNat, and_self, n3, hk, G6, opE_idxA, p1]; rfl, by simp only [keepT, List.map, look_set, look_cons, in_int, in_agg, Nat.reduceEqDiff, if_true, if_false, wr3, G6, p1]⟩

theorem b13_0_7 (N : Nat) (hN : 2 ≤ N) (again : AC → St → Option (Ex × St)) (k1 a k2 b k3 c : Int) (n0 : Nat) (m : Mem) (v : AV) (ps : List ByteArray) (T : List (Nat × AV)) (L : List (Nat × List AV)) (hps : PS n0 m v ps) (hT : Tab2 m) (hn : n0 ≤ m.n) (hmn : m.n + 2 ≤ 2 ^ depth) (hl : ps.length ≤ 1000) (hk : keepT [4, 33, 34] [] T = [(4, v), (33, G6 k1 a k2 b k3 c), (34, .int .i64 0)]) (hw : k1 = 7) (hr : 1 ≤ a ∧ a ≤ 19) :
    ∃ T' L' m' v', codeEv (run A N) again a13_B1 ⟨66, T, L, m⟩ = some (.norm, ⟨66, T', L', m'⟩) ∧ keepT [4, 33, 34] [] T' = [(4, v'), (33, G6 k1 a k2 b k3 c), (34, .int .i64 1)] ∧ PS n0 m' v' (ps ++ [signB a.toNat]) ∧ m'.n = m.n + 2 ∧ (∀ i, i < n0 → m'.get i = m.get i) := by
  obtain ⟨p1, p2⟩ := hps.plain
  obtain ⟨v', m', ha, h2, h3, h4⟩ := app_ps hps (signB a.toNat) hn hmn hl
  obtain ⟨q1, q2⟩ := h2.plain
  have hf : m.full = false := not_full (by omega)
  obtain ⟨n', rfl⟩ : ∃ n', N = n' + 2 := ⟨N - 2, by omega⟩
  have hc := sign_at n' a m hT.t hr
  subst hw
  refine ⟨_, _, m', v', by
    unfold a13_B1 a13_R3
    simp only [codeEv, opsEv, oneEv, guardEv, opE_mov, opE_alloc, opE_mkslc, opE_load1, opE_store, opE_bin, opE_faddr, opE_call, opE_app, St.opd, look_set, look_nil, look_cons, St.put, St.new, St.read, St.write, lookL_nil, lookL_cons, setL_nil, setL_cons, cellsAt_cons, splice, bin_ilt, bin_ieq, in_int, in_agg, in_loc, List.contains_cons, List.contains_nil, one_int, loc_int, cells_str, cells_agg, fillEv, callWith, keepL, List.append_nil, List.map, List.length, List.take, List.drop, List.all, List.any, List.nil_append, List.take_succ_cons, List.drop_succ_cons, List.drop_zero, List.getElem?_cons_zero, Option.map_some, Nat.reduceEqDiff, Int.reduceEq, Int.reduceLT, Int.reduceLE, Nat.reduceAdd, Nat.reduceLeDiff, Nat.reduceLT, if_true, if_false, Bool.and_true, Bool.or_false, Bool.not_false, List.isEmpty_cons, beq_self_eq_true, Bool.false_eq_true, Nat.succ_ne_self, decide_true, decide_false, keepT_setT, Nat.reducePow, hz1, List.take_succ_cons, and_self, Int.toNat_zero, n3, Nat.zero_mul, Nat.one_mul, hk, G6, opE_idxA, p1, hc, hf, ha, q1]
    rfl, by simp only [keepT, List.map, look_set, look_cons, in_int, in_agg, Nat.reduceEqDiff, if_true, if_false, wr1, G6, q1], h2, h3, h4⟩

theorem b13_0_8 (N : Nat) (hN : 2 ≤ N) (again : AC → St → Option (Ex × St)) (k1 a k2 b k3 c : Int) (n0 : Nat) (m : Mem) (v : AV) (ps : List ByteArray) (T : List (Nat × AV)) (L : List (Nat × List AV)) (hps : PS n0 m v ps) (_hT : Tab2 m) (hn : n0 ≤ m.n) (hmn : m.n + 2 ≤ 2 ^ depth) (hl : ps.length ≤ 1000) (hk : keepT [4, 33, 34] [] T = [(4, v), (33, G6 k1 a k2 b k3 c), (34, .int .i64 0)]) (hw : k1 = 8) (hr : a = 1 ∨ a = 2 ∨ a = 3) :
    ∃ T' L' m' v', codeEv (run A N) again a13_B1 ⟨66, T, L, m⟩ = some (.norm, ⟨66, T', L', m'⟩) ∧ keepT [4, 33, 34] [] T' = [(4, v'), (33, G6 k1 a k2 b k3 c), (34, .int .i64 1)] ∧ PS n0 m' v' (ps ++ [unB a.toNat]) ∧ m'.n = m.n + 2 ∧ (∀ i, i < n0 → m'.get i = m.get i) := by
  obtain ⟨p1, p2⟩ := hps.plain
  obtain ⟨v', m', ha, h2, h3, h4⟩ := app_ps hps (unB a.toNat) hn hmn hl
  obtain ⟨q1, q2⟩ := h2.plain
  have hf : m.full = false := not_full (by omega)
  obtain ⟨n', rfl⟩ : ∃ n', N = n' + 2 := ⟨N - 2, by omega⟩
  have hc := un_at (n' + 1) a m hr
  subst hw
  refine ⟨_, _, m', v', by
    unfold a13_B1 a13_R4
    simp only [codeEv, opsEv, oneEv, guardEv, opE_mov, opE_alloc, opE_mkslc, opE_load1, opE_store, opE_bin, opE_faddr, opE_call, opE_app, St.opd, look_set, look_nil, look_cons, St.put, St.new, St.read, St.write, lookL_nil, lookL_cons, setL_nil, setL_cons, cellsAt_cons, splice, bin_ilt, bin_ieq, in_int, in_agg, in_loc, List.contains_cons, List.contains_nil, one_int, loc_int, cells_str, cells_agg, fillEv, callWith, keepL, List.append_nil, List.map, List.length, List.take, List.drop, List.all, List.any, List.nil_append, List.take_succ_cons, List.drop_succ_cons, List.drop_zero, List.getElem?_cons_zero, Option.map_some, Nat.reduceEqDiff, Int.reduceEq, Int.reduceLT, Int.reduceLE, Nat.reduceAdd, Nat.reduceLeDiff, Nat.reduceLT, if_true, if_false, Bool.and_true, Bool.or_false, Bool.not_false, List.isEmpty_cons, beq_self_eq_true, Bool.false_eq_true, Nat.succ_ne_self, decide_true, decide_false, keepT_setT, Nat.reducePow, hz1, List.take_succ_cons, and_self, Int.toNat_zero, n3, Nat.zero_mul, Nat.one_mul, hk, G6, opE_idxA, p1, hc, hf, ha, q1]
    rfl, by simp only [keepT, List.map, look_set, look_cons, in_int, in_agg, Nat.reduceEqDiff, if_true, if_false, wr1, G6, q1], h2, h3, h4⟩

theorem b13_0_i (N : Nat) (hN : 2 ≤ N) (again : AC → St → Option (Ex × St)) (k1 a k2 b k3 c : Int) (n0 : Nat) (m : Mem) (v : AV) (ps : List ByteArray) (T : List (Nat × AV)) (L : List (Nat × List AV)) (hps : PS n0 m v ps) (hT : Tab2 m) (hn : n0 ≤ m.n) (hmn : m.n + 2 ≤ 2 ^ depth) (hl : ps.length ≤ 1000) (hk : keepT [4, 33, 34] [] T = [(4, v), (33, G6 k1 a k2 b k3 c), (34, .int .i64 0)]) (hw0 : ¬ k1 = 0) (hw7 : ¬ k1 = 7) (hw8 : ¬ k1 = 8) (hr : 0 ≤ a ∧ a ≤ 4294967295) :
    ∃ T' L' m' v', codeEv (run A N) again a13_B1 ⟨66, T, L, m⟩ = some (.norm, ⟨66, T', L', m'⟩) ∧ keepT [4, 33, 34] [] T' = [(4, v'), (33, G6 k1 a k2 b k3 c), (34, .int .i64 1)] ∧ PS n0 m' v' (ps ++ [itoaB a.toNat]) ∧ m'.n = m.n + 2 ∧ (∀ i, i < n0 → m'.get i = m.get i) := by
  obtain ⟨p1, p2⟩ := hps.plain
  obtain ⟨v', m', ha, h2, h3, h4⟩ := app_ps hps (itoaB a.toNat) hn hmn hl
  obtain ⟨q1, q2⟩ := h2.plain
  have hf : m.full = false := not_full (by omega)
  obtain ⟨n', rfl⟩ : ∃ n', N = n' + 2 := ⟨N - 2, by omega⟩
  have hc := itoa_at (n' + 1) a m hT hr
  refine ⟨_, _, m', v', by
    unfold a13_B1 a13_R5
    simp only [codeEv, opsEv, oneEv, guardEv, opE_mov, opE_alloc, opE_mkslc, opE_load1, opE_store, opE_bin, opE_faddr, opE_call, opE_app, St.opd, look_set, look_nil, look_cons, St.put, St.new, St.read, St.write, lookL_nil, lookL_cons, setL_nil, setL_cons, cellsAt_cons, splice, bin_ilt, bin_ieq, in_int, in_agg, in_loc, List.contains_cons, List.contains_nil, one_int, loc_int, cells_str, cells_agg, fillEv, callWith, keepL, List.append_nil, List.map, List.length, List.take, List.drop, List.all, List.any, List.nil_append, List.take_succ_cons, List.drop_succ_cons, List.drop_zero, List.getElem?_cons_zero, Option.map_some, Nat.reduceEqDiff, Int.reduceLT, Int.reduceLE, Nat.reduceAdd, Nat.reduceLeDiff, Nat.reduceLT, if_true, if_false, Bool.and_true, Bool.or_false, Bool.not_false, List.isEmpty_cons, beq_self_eq_true, Bool.false_eq_true, Nat.succ_ne_self, decide_true, decide_false, keepT_setT, Nat.reducePow, hz1, List.take_succ_cons, and_self, Int.toNat_zero, n3, Nat.zero_mul, Nat.one_mul, hk, G6, opE_idxA, p1, hc, hf, ha, q1, hw0, hw7, hw8]
    rfl, by simp only [keepT, List.map, look_set, look_cons, in_int, in_agg, Nat.reduceEqDiff, if_true, if_false, wr1, G6, q1], h2, h3, h4⟩

theorem b13_1_7 (N : Nat) (hN : 2 ≤ N) (again : AC → St → Option (Ex × St)) (k1 a k2 b k3 c : Int) (n0 : Nat) (m : Mem) (v : AV) (ps : List ByteArray) (T : List (Nat × AV)) (L : List (Nat × List AV)) (hps : PS n0 m v ps) (hT : Tab2 m) (hn : n0 ≤ m.n) (hmn : m.n + 2 ≤ 2 ^ depth) (hl : ps.length ≤ 1000) (hk : keepT [4, 33, 34] [] T = [(4, v), (33, G6 k1 a k2 b k3 c), (34, .int .i64 1)]) (hw : k2 = 7) (hr : 1 ≤ b ∧ b ≤ 19) :
    ∃ T' L' m' v', codeEv (run A N) again a13_B1 ⟨66, T, L, m⟩ = some (.norm, ⟨66, T', L', m'⟩) ∧ keepT [4, 33, 34] [] T' = [(4, v'), (33, G6 k1 a k2 b k3 c), (34, .int .i64 2)] ∧ PS n0 m' v' (ps ++ [signB b.toNat]) ∧ m'.n = m.n + 2 ∧ (∀ i, i < n0 → m'.get i = m.get i) := by
  obtain ⟨p1, p2⟩ := hps.plain
  obtain ⟨v', m', ha, h2, h3, h4⟩ := app_ps hps (signB b.toNat) hn hmn hl
  obtain ⟨q1, q2⟩ := h2.plain
  have hf : m.full = false := not_full (by omega)
  obtain ⟨n', rfl⟩ : ∃ n', N = n' + 2 := ⟨N - 2, by omega⟩
  have hc := sign_at n' b m hT.t hr
  subst hw
  refine ⟨_, _, m', v', by
    unfold a13_B1 a13_R3
    simp only [codeEv, opsEv, oneEv, guardEv, opE_mov, opE_alloc, opE_mkslc, opE_load1, opE_store, opE_bin, opE_faddr, opE_call, opE_app, St.opd, look_set, look_nil, look_cons, St.put, St.new, St.read, St.write, lookL_nil, lookL_cons, setL_nil, setL_cons, cellsAt_cons, splice, bin_ilt, bin_ieq, in_int, in_agg, in_loc, List.contains_cons, List.contains_nil, one_int, loc_int, cells_str, cells_agg, fillEv, callWith, keepL, List.append_nil, List.map, List.length, List.take, List.drop, List.all, List.any, List.nil_append, List.take_succ_cons, List.drop_succ_cons, List.getElem?_cons_succ, List.getElem?_cons_zero, Option.map_some, Nat.reduceEqDiff, Int.reduceEq, Int.reduceLT, Int.reduceLE, Nat.reduceAdd, Nat.reduceLeDiff, Nat.reduceLT, if_true, if_false, Bool.and_true, Bool.or_false, Bool.not_false, List.isEmpty_cons, beq_self_eq_true, Bool.false_eq_true, Nat.succ_ne_self, decide_true, decide_false, keepT_setT, Nat.reducePow, hz1, List.take_succ_cons, Int.reduceToNat, and_self, n3, Nat.zero_mul, Nat.one_mul, hk, G6, opE_idxA, p1, hc, hf, ha, q1]
    rfl, by simp only [keepT, List.map, look_set, look_cons, in_int, in_agg, Nat.reduceEqDiff, if_true, if_false, wr2, G6, q1], h2, h3, h4⟩

theorem b13_1_8 (N : Nat) (hN : 2 ≤ N) (again : AC → St → Option (Ex × St)) (k1 a k2 b k3 c : Int) (n0 : Nat) (m : Mem) (v : AV) (ps : List ByteArray) (T : List (Nat × AV)) (L : List (Nat × List AV)) (hps : PS n0 m v ps) (_hT : Tab2 m) (hn : n0 ≤ m.n) (hmn : m.n + 2 ≤ 2 ^ depth) (hl : ps.length ≤ 1000) (hk : keepT [4, 33, 34] [] T = [(4, v), (33, G6 k1 a k2 b k3 c), (34, .int .i64 1)]) (hw : k2 = 8) (hr : b = 1 ∨ b = 2 ∨ b = 3) :
    ∃ T' L' m' v', codeEv (run A N) again a13_B1 ⟨66, T, L, m⟩ = some (.norm, ⟨66, T', L', m'⟩) ∧ keepT [4, 33, 34] [] T' = [(4, v'), (33, G6 k1 a k2 b k3 c), (34, .int .i64 2)] ∧ PS n0 m' v' (ps ++ [unB b.toNat]) ∧ m'.n = m.n + 2 ∧ (∀ i, i < n0 → m'.get i = m.get i) := by
  obtain ⟨p1, p2⟩ := hps.plain
  obtain ⟨v', m', ha, h2, h3, h4⟩ := app_ps hps (unB b.toNat) hn hmn hl
  obtain ⟨q1, q2⟩ := h2.plain
  have hf : m.full = false := not_full (by omega)
  obtain ⟨n', rfl⟩ : ∃ n', N = n' + 2 := ⟨N - 2, by omega⟩
  have hc := un_at (n' + 1) b m hr
  subst hw
  refine ⟨_, _, m', v', by
    unfold a13_B1 a13_R4
    simp only [codeEv, opsEv, oneEv, guardEv, opE_mov, opE_alloc, opE_mkslc, opE_load1, opE_store, opE_bin, opE_faddr, opE_call, opE_app, St.opd, look_set, look_nil, look_cons, St.put, St.new, St.read, St.write, lookL_nil, lookL_cons, setL_nil, setL_cons, cellsAt_cons, splice, bin_ilt, bin_ieq, in_int, in_agg, in_loc, List.contains_cons, List.contains_nil, one_int, loc_int, cells_str, cells_agg, fillEv, callWith, keepL, List.append_nil, List.map, List.length, List.take, List.drop, List.all, List.any, List.nil_append, List.take_succ_cons, List.drop_succ_cons, List.getElem?_cons_succ, List.getElem?_cons_zero, Option.map_some, Nat.reduceEqDiff, Int.reduceEq, Int.reduceLT, Int.reduceLE, Nat.reduceAdd, Nat.reduceLeDiff, Nat.reduceLT, if_true, if_false, Bool.and_true, Bool.or_false, Bool.not_false, List.isEmpty_cons, beq_self_eq_true, Bool.false_eq_true, Nat.succ_ne_self, decide_true, decide_false, keepT_setT, Nat.reducePow, hz1, List.take_succ_cons, Int.reduceToNat, and_self, n3, Nat.zero_mul, Nat.one_mul, hk, G6, opE_idxA, p1, hc, hf, ha, q1]
    rfl, by simp only [keepT, List.map, look_set, look_cons, in_int, in_agg, Nat.reduceEqDiff, if_true, if_false, wr2, G6, q1], h2, h3, h4⟩

theorem b13_1_i (N : Nat) (hN : 2 ≤ N) (again : AC → St → Option (Ex × St)) (k1 a k2 b k3 c : Int) (n0 : Nat) (m : Mem) (v : AV) (ps : List ByteArray) (T : List (Nat × AV)) (L : List (Nat × List AV)) (hps : PS n0 m v ps) (hT : Tab2 m) (hn : n0 ≤ m.n) (hmn : m.n + 2 ≤ 2 ^ depth) (hl : ps.length ≤ 1000) (hk : keepT [4, 33, 34] [] T = [(4, v), (33, G6 k1 a k2 b k3 c), (34, .int .i64 1)]) (hw0 : ¬ k2 = 0) (hw7 : ¬ k2 = 7) (hw8 : ¬ k2 = 8) (hr : 0 ≤ b ∧ b ≤ 4294967295) :
    ∃ T' L' m' v', codeEv (run A N) again a13_B1 ⟨66, T, L, m⟩ = some (.norm, ⟨66, T', L', m'⟩) ∧ keepT [4, 33, 34] [] T' = [(4, v'), (33, G6 k1 a k2 b k3 c), (34, .int .i64 2)] ∧ PS n0 m' v' (ps ++ [itoaB b.toNat]) ∧ m'.n = m.n + 2 ∧ (∀ i, i < n0 → m'.get i = m.get i) := by
  obtain ⟨p1, p2⟩ := hps.plain
  obtain ⟨v', m', ha, h2, h3, h4⟩ := app_ps hps (itoaB b.toNat) hn hmn hl
  obtain ⟨q1, q2⟩ := h2.plain
  have hf : m.full = false := not_full (by omega)
  obtain ⟨n', rfl⟩ : ∃ n', N = n' + 2 := ⟨N - 2, by omega⟩
  have hc := itoa_at (n' + 1) b m hT hr
  refine ⟨_, _, m', v', by
    unfold a13_B1 a13_R5
    simp only [codeEv, opsEv, oneEv, guardEv, opE_mov, opE_alloc, opE_mkslc, opE_load1, opE_store, opE_bin, opE_faddr, opE_call, opE_app, St.opd, look_set, look_nil, look_cons, St.put, St.new, St.read, St.write, lookL_nil, lookL_cons, setL_nil, setL_cons, cellsAt_cons, splice, bin_ilt, bin_ieq, in_int, in_agg, in_loc, List.contains_cons, List.contains_nil, one_int, loc_int, cells_str, cells_agg, fillEv, callWith, keepL, List.append_nil, List.map, List.length, List.take, List.drop, List.all, List.any, List.nil_append, List.take_succ_cons, List.drop_succ_cons, List.getElem?_cons_succ, List.getElem?_cons_zero, Option.map_some, Nat.reduceEqDiff, Int.reduceLT, Int.reduceLE, Nat.reduceAdd, Nat.reduceLeDiff, Nat.reduceLT, if_true, if_false, Bool.and_true, Bool.or_false, Bool.not_false, List.isEmpty_cons, beq_self_eq_true, Bool.false_eq_true, Nat.succ_ne_self, decide_true, decide_false, keepT_setT, Nat.reducePow, hz1, List.take_succ_cons, Int.reduceToNat, and_self, n3, Nat.zero_mul, Nat.one_mul, hk, G6, opE_idxA, p1, hc, hf, ha, q1, hw0, hw7, hw8]
    rfl, by simp only [keepT, List.map, look_set, look_cons, in_int, in_agg, Nat.reduceEqDiff, if_true, if_false, wr2, G6, q1], h2, h3, h4⟩

theorem b13_2_7 (N : Nat) (hN : 2 ≤ N) (again : AC → St → Option (Ex × St)) (k1 a k2 b k3 c : Int) (n0 : Nat) (m : Mem) (v : AV) (ps : List ByteArray) (T : List (Nat × AV)) (L : List (Nat × List AV)) (hps : PS n0 m v ps) (hT : Tab2 m) (hn : n0 ≤ m.n) (hmn : m.n + 2 ≤ 2 ^ depth) (hl : ps.length ≤ 1000) (hk : keepT [4, 33, 34] [] T = [(4, v), (33, G6 k1 a k2 b k3 c), (34, .int .i64 2)]) (hw : k3 = 7) (hr : 1 ≤ c ∧ c ≤ 19) :
    ∃ T' L' m' v', codeEv (run A N) again a13_B1 ⟨66, T, L, m⟩ = some (.norm, ⟨66, T', L', m'⟩) ∧ keepT [4, 33, 34] [] T' = [(4, v'), (33, G6 k1 a k2 b k3 c), (34, .int .i64 3)] ∧ PS n0 m' v' (ps ++ [signB c.toNat]) ∧ m'.n = m.n + 2 ∧ (∀ i, i < n0 → m'.get i = m.get i) := by
  obtain ⟨p1, p2⟩ := hps.plain
  obtain ⟨v', m', ha, h2, h3, h4⟩ := app_ps hps (signB c.toNat) hn hmn hl
  obtain ⟨q1, q2⟩ := h2.plain
  have hf : m.full = false := not_full (by omega)
  obtain ⟨n', rfl⟩ : ∃ n', N = n' + 2 := ⟨N - 2, by omega⟩
  have hc := sign_at n' c m hT.t hr
  subst hw
  refine ⟨_, _, m', v', by
    unfold a13_B1 a13_R3
    simp only [codeEv, opsEv, oneEv, guardEv, opE_mov, opE_alloc, opE_mkslc, opE_load1, opE_store, opE_bin, opE_faddr, opE_call, opE_app, St.opd, look_set, look_nil, look_cons, St.put, St.new, St.read, St.write, lookL_nil, lookL_cons, setL_nil, setL_cons, cellsAt_cons, splice, bin_ilt, bin_ieq, in_int, in_agg, in_loc, List.contains_cons, List.contains_nil, one_int, loc_int, cells_str, cells_agg, fillEv, callWith, keepL, List.append_nil, List.map, List.length, List.take, List.drop, List.all, List.any, List.nil_append, List.take_succ_cons, List.drop_succ_cons, List.getElem?_cons_succ, List.getElem?_cons_zero, Option.map_some, Nat.reduceEqDiff, Int.reduceEq, Int.reduceLT, Int.reduceLE, Nat.reduceAdd, Nat.reduceLeDiff, Nat.reduceLT, Nat.reduceMul, if_true, if_false, Bool.and_true, Bool.or_false, Bool.not_false, List.isEmpty_cons, beq_self_eq_true, Bool.false_eq_true, Nat.succ_ne_self, decide_true, decide_false, keepT_setT, Nat.reducePow, hz1, List.take_succ_cons, Int.reduceToNat, and_self, n3, Nat.zero_mul, Nat.one_mul, hk, G6, opE_idxA, p1, hc, hf, ha, q1]
    rfl, by simp only [keepT, List.map, look_set, look_cons, in_int, in_agg, Nat.reduceEqDiff, if_true, if_false, wr3, G6, q1], h2, h3, h4⟩

theorem b13_2_8 (N : Nat) (hN : 2 ≤ N) (again : AC → St → Option (Ex × St)) (k1 a k2 b k3 c : Int) (n0 : Nat) (m : Mem) (v : AV) (ps : List ByteArray) (T : List (Nat × AV)) (L : List (Nat × List AV)) (hps : PS n0 m v ps) (_hT : Tab2 m) (hn : n0 ≤ m.n) (hmn : m.n + 2 ≤ 2 ^ depth) (hl : ps.length ≤ 1000) (hk : keepT [4, 33, 34] [] T = [(4, v), (33, G6 k1 a k2 b k3 c), (34, .int .i64 2)]) (hw : k3 = 8) (hr : c = 1 ∨ c = 2 ∨ c = 3) :
    ∃ T' L' m' v', codeEv (run A N) again a13_B1 ⟨66, T, L, m⟩ = some (.norm, ⟨66, T', L', m'⟩) ∧ keepT [4, 33, 34] [] T' = [(4, v'), (33, G6 k1 a k2 b k3 c), (34, .int .i64 3)] ∧ PS n0 m' v' (ps ++ [unB c.toNat]) ∧ m'.n = m.n + 2 ∧ (∀ i, i < n0 → m'.get i = m.get i) := by
  obtain ⟨p1, p2⟩ := hps.plain
  obtain ⟨v', m', ha, h2, h3, h4⟩ := app_ps hps (unB c.toNat) hn hmn hl
  obtain ⟨q1, q2⟩ := h2.plain
  have hf : m.full = false := not_full (by omega)
  obtain ⟨n', rfl⟩ : ∃ n', N = n' + 2 := ⟨N - 2, by omega⟩
  have hc := un_at (n' + 1) c m hr
  subst hw
  refine ⟨_, _, m', v', by
    unfold a13_B1 a13_R4
    simp only [codeEv, opsEv, oneEv, guardEv, opE_mov, opE_alloc, opE_mkslc, opE_load1, opE_store, opE_bin, opE_faddr, opE_call, opE_app, St.opd, look_set, look_nil, look_cons, St.put, St.new, St.read, St.write, lookL_nil, lookL_cons, setL_nil, setL_cons, cellsAt_cons, splice, bin_ilt, bin_ieq, in_int, in_agg, in_loc, List.contains_cons, List.contains_nil, one_int, loc_int, cells_str, cells_agg, fillEv, callWith, keepL, List.append_nil, List.map, List.length, List.take, List.drop, List.all, List.any, List.nil_append, List.take_succ_cons, List.drop_succ_cons, List.getElem?_cons_succ, List.getElem?_cons_zero, Option.map_some, Nat.reduceEqDiff, Int.reduceEq, Int.reduceLT, Int.reduceLE, Nat.reduceAdd, Nat.reduceLeDiff, Nat.reduceLT, Nat.reduceMul, if_true, if_false, Bool.and_true, Bool.or_false, Bool.not_false, List.isEmpty_cons, beq_self_eq_true, Bool.false_eq_true, Nat.succ_ne_self, decide_true, decide_false, keepT_setT, Nat.reducePow, hz1, List.take_succ_cons, Int.reduceToNat, and_self, n3, Nat.zero_mul, Nat.one_mul, hk, G6, opE_idxA, p1, hc, hf, ha, q1]
    rfl, by simp only [keepT, List.map, look_set, look_cons, in_int, in_agg, Nat.reduceEqDiff, if_true, if_false, wr3, G6, q1], h2, h3, h4⟩

theorem b13_2_i (N : Nat) (hN : 2 ≤ N) (again : AC → St → Option (Ex × St)) (k1 a k2 b k3 c : Int) (n0 : Nat) (m : Mem) (v : AV) (ps : List ByteArray) (T : List (Nat × AV)) (L : List (Nat × List AV)) (hps : PS n0 m v ps) (hT : Tab2 m) (hn : n0 ≤ m.n) (hmn : m.n + 2 ≤ 2 ^ depth) (hl : ps.length ≤ 1000) (hk : keepT [4, 33, 34] [] T = [(4, v), (33, G6 k1 a k2 b k3 c), (34, .int .i64 2)]) (hw0 : ¬ k3 = 0) (hw7 : ¬ k3 = 7) (hw8 : ¬ k3 = 8) (hr : 0 ≤ c ∧ c ≤ 4294967295) :
    ∃ T' L' m' v', codeEv (run A N) again a13_B1 ⟨66, T, L, m⟩ = some (.norm, ⟨66, T', L', m'⟩) ∧ keepT [4, 33, 34] [] T' = [(4, v'), (33, G6 k1 a k2 b k3 c), (34, .int .i64 3)] ∧ PS n0 m' v' (ps ++ [itoaB c.toNat]) ∧ m'.n = m.n + 2 ∧ (∀ i, i < n0 → m'.get i = m.get i) := by
  obtain ⟨p1, p2⟩ := hps.plain
  obtain ⟨v', m', ha, h2, h3, h4⟩ := app_ps hps (itoaB c.toNat) hn hmn hl
  obtain ⟨q1, q2⟩ := h2.plain
  have hf : m.full = false := not_full (by omega)
  obtain ⟨n', rfl⟩ : ∃ n', N = n' + 2 := ⟨N - 2, by omega⟩
  have hc := itoa_at (n' + 1) c m hT hr
  refine ⟨_, _, m', v', by
    unfold a13_B1 a13_R5
    simp only [codeEv, opsEv, oneEv, guardEv, opE_mov, opE_alloc, opE_mkslc, opE_load1, opE_store, opE_bin, opE_faddr, opE_call, opE_app, St.opd, look_set, look_nil, look_cons, St.put, St.new, St.read, St.write, lookL_nil, lookL_cons, setL_nil, setL_cons, cellsAt_cons, splice, bin_ilt, bin_ieq, in_int, in_agg, in_loc, List.contains_cons, List.contains_nil, one_int, loc_int, cells_str, cells_agg, fillEv, callWith, keepL, List.append_nil, List.map, List.length, List.take, List.drop, List.all, List.any, List.nil_append, List.take_succ_cons, List.drop_succ_cons, List.getElem?_cons_succ, List.getElem?_cons_zero, Option.map_some, Nat.reduceEqDiff, Int.reduceLT, Int.reduceLE, Nat.reduceAdd, Nat.reduceLeDiff, Nat.reduceLT, Nat.reduceMul, if_true, if_false, Bool.and_true, Bool.or_false, Bool.not_false, List.isEmpty_cons, beq_self_eq_true, Bool.false_eq_true, Nat.succ_ne_self, decide_true, decide_false, keepT_setT, Nat.reducePow, hz1, List.take_succ_cons, Int.reduceToNat, and_self, n3, Nat.zero_mul, Nat.one_mul, hk, G6, opE_idxA, p1, hc, hf, ha, q1, hw0, hw7, hw8]
    rfl, by simp only [keepT, List.map, look_set, look_cons, in_int, in_agg, Nat.reduceEqDiff, if_true, if_false, wr3, G6, q1], h2, h3, h4⟩

end AG
