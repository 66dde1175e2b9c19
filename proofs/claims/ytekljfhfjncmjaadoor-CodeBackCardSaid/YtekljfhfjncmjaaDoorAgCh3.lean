/- What the functions of instructions and their texts compute, and the laws of that. -/
import Derived.Test.YtekljfhfjncmjaaDoorAgCh2
namespace AG
open Go Go.Proofs.YtekljfhfjncmjaaDoor
set_option maxRecDepth 100000
set_option maxHeartbeats 4000000
theorem in_iface (ls : List Nat) (t : Nat) (v : AV) : AV.locIn ls (.iface t v) = true := rfl
theorem in_nili (ls : List Nat) : AV.locIn ls .nili = true := rfl
theorem loc_iface (t : Nat) (v : AV) : AV.isLoc (.iface t v) = false := rfl
theorem loc_nili : AV.isLoc .nili = false := rfl
theorem one_iface (t : Nat) (v : AV) : AV.one (.iface t v) = true := rfl
theorem one_nili : AV.one .nili = true := rfl
theorem cells_iface (t : Nat) (v : AV) : AV.cells? (.iface t v) = some [.iface t v] := rfl
theorem cells_nili : AV.cells? .nili = some [.nili] := rfl
theorem nil_ne1 (t : Nat) (v : AV) : eqEv (.nilI true) (.iface t v) .nili = some false := rfl
theorem nil_ne2 : eqEv (.nilI true) .nili .nili = some true := rfl
def iaR (n sz : Nat) (x i : AV) (s : St) : Option (AV × St) := match x, i with
    | .ptr b o, .int _ i => if 0 ≤ i ∧ i < n then some (.ptr b (o + i.toNat * sz), s) else none
    | .loc t o, .int _ i => if 0 ≤ i ∧ i < n then some (.loc t (o + i.toNat * sz), s) else none
    | _, _ => none
theorem opE_iaddrA (call : Caller) (n sz : Nat) (x i : Opd) (s : St) : opEv call (.iaddrA n sz x i) s = iaR n sz (s.opd x) (s.opd i) s := rfl
theorem iaR_ptr (n sz b o : Nat) (k : IntKind) (i : Int) (s : St) : iaR n sz (.ptr b o) (.int k i) s = if 0 ≤ i ∧ i < n then some (.ptr b (o + i.toNat * sz), s) else none := rfl
theorem iaR_loc (n sz b o : Nat) (k : IntKind) (i : Int) (s : St) : iaR n sz (.loc b o) (.int k i) s = if 0 ≤ i ∧ i < n then some (.loc b (o + i.toNat * sz), s) else none := rfl
def nilR (x : AV) (s : St) : Option (AV × St) := match x with
    | .unk | .nilp | .nili | .nilf => none
    | v => some (v, s)
theorem opE_nilck (call : Caller) (x : Opd) (s : St) : opEv call (.nilck x) s = nilR (s.opd x) s := rfl
theorem nilR_ptr (b o : Nat) (s : St) : nilR (.ptr b o) s = some (.ptr b o, s) := rfl
theorem nilR_loc (b o : Nat) (s : St) : nilR (.loc b o) s = some (.loc b o, s) := rfl
theorem d77 : decide ((7 : Int) = 7) = true := rfl
theorem d88 : decide ((8 : Int) = 8) = true := rfl
theorem d87 : decide ((8 : Int) = 7) = false := rfl
theorem ad0 : binEv .add (.int .i64 0) (.int .i64 1) = some (.int .i64 1) := rfl
theorem ad1 : binEv .add (.int .i64 1) (.int .i64 1) = some (.int .i64 2) := rfl
theorem ad2 : binEv .add (.int .i64 2) (.int .i64 1) = some (.int .i64 3) := rfl
theorem i7 (x : Int) : binEv .eql (.int .i64 x) (.int .i64 7) = some (.bool (decide (x = 7))) := rfl
theorem i8 (x : Int) : binEv .eql (.int .i64 x) (.int .i64 8) = some (.bool (decide (x = 8))) := rfl

theorem b15_end (N : Nat) (again : AC → St → Option (Ex × St)) (s : ByteArray) (b B nw : Nat) (k1 k2 k3 : Int) (_wc : List AV) (m : Mem) (cs : List AV) (T : List (Nat × AV)) (L : List (Nat × List AV)) (hL : lookL L 2 = some cs) (hL8 : lookL L 8 = some [.ptr B 1, .ptr B 2, .ptr B 3]) (hk : keepT [0, 2, 4, 5, 8, 60, 61] [2, 8] T = [(0, .str s), (2, .loc 2 0), (4, .slice b 0 nw (some nw) 1), (5, .ptr B 0), (8, .loc 8 0), (60, .agg [.int .i64 k1, .int .i64 k2, .int .i64 k3]), (61, .int .i64 3)]) :
    ∃ T' L', codeEv (run A N) again a15_B1 ⟨119, T, L, m⟩ = some (.exit 2, ⟨119, T', L', m⟩) ∧ lookL L' 2 = some cs ∧ keepT [0, 2, 5] [2] T' = [(0, .str s), (2, .loc 2 0), (5, .ptr B 0)] := by
  unfold a15_B1
  exact ⟨_, _, by simp only [codeEv, opsEv, oneEv, guardEv, opE_bin, St.opd, look_set, look_nil, look_cons, St.put, bin_ilt, keepL, Option.map_some, Nat.reduceEqDiff, Int.reduceLT, Nat.reduceLT, if_true, if_false, Bool.false_eq_true, decide_false, hk, hL, hL8]; rfl, by simp only [lookL_cons, Nat.reduceEqDiff, if_true, if_false], by simp only [keepT, List.map, look_set, look_cons, in_str, in_ptr, in_loc, Nat.reduceEqDiff, if_true, if_false, List.contains_cons, List.contains_nil, beq_self_eq_true, Bool.or_false]⟩

theorem b15_few0 (N : Nat) (again : AC → St → Option (Ex × St)) (s : ByteArray) (b B nw : Nat) (k1 k2 k3 : Int) (_wc : List AV) (m : Mem) (cs : List AV) (T : List (Nat × AV)) (L : List (Nat × List AV)) (hL : lookL L 2 = some cs) (hL8 : lookL L 8 = some [.ptr B 1, .ptr B 2, .ptr B 3]) (hk : keepT [0, 2, 4, 5, 8, 60, 61] [2, 8] T = [(0, .str s), (2, .loc 2 0), (4, .slice b 0 nw (some nw) 1), (5, .ptr B 0), (8, .loc 8 0), (60, .agg [.int .i64 k1, .int .i64 k2, .int .i64 k3]), (61, .int .i64 0)]) (hn : nw ≤ 1) :
    ∃ T' L', codeEv (run A N) again a15_B1 ⟨119, T, L, m⟩ = some (.exit 2, ⟨119, T', L', m⟩) ∧ lookL L' 2 = some cs ∧ keepT [0, 2, 5] [2] T' = [(0, .str s), (2, .loc 2 0), (5, .ptr B 0)] := by
  have h' : ((1 : Int) ≥ (nw : Int)) := by omega
  unfold a15_B1
  exact ⟨_, _, by simp only [codeEv, opsEv, oneEv, guardEv, opE_mov, opE_bin, opE_lenL, lenR_slice, St.opd, look_set, look_nil, look_cons, St.put, lookL_nil, lookL_cons, bin_ilt, bin_ige, in_int, in_str, in_ptr, in_slice, in_agg, in_loc, List.contains_cons, List.contains_nil, keepL, List.map, List.length, List.take, List.take_succ_cons, List.drop_zero, List.getElem?_cons_zero, Option.map_some, Nat.reduceEqDiff, Int.reduceLT, Int.reduceLE, Nat.reduceAdd, Nat.reduceLeDiff, Nat.reduceLT, if_true, if_false, Bool.or_true, Bool.or_false, Bool.true_or, beq_self_eq_true, Bool.false_eq_true, Nat.succ_ne_self, decide_true, keepT_setT, List.take_succ_cons, and_self, Int.toNat_zero, n3, Nat.zero_mul, opE_idxA, ad0, hk, hL, hL8, h']; rfl, by simp only [lookL_cons, Nat.reduceEqDiff, if_true, if_false], by simp only [keepT, List.map, look_set, look_cons, in_str, in_ptr, in_loc, Nat.reduceEqDiff, if_true, if_false, List.contains_cons, List.contains_nil, beq_self_eq_true, Bool.or_false]⟩
theorem b15_sign0 (N : Nat) (again : AC → St → Option (Ex × St)) (s : ByteArray) (b B nw : Nat) (k1 k2 k3 : Int) (wc : List AV) (m : Mem) (cs : List AV) (T : List (Nat × AV)) (L : List (Nat × List AV)) (hL : lookL L 2 = some cs) (hL8 : lookL L 8 = some [.ptr B 1, .ptr B 2, .ptr B 3]) (hk : keepT [0, 2, 4, 5, 8, 60, 61] [2, 8] T = [(0, .str s), (2, .loc 2 0), (4, .slice b 0 nw (some nw) 1), (5, .ptr B 0), (8, .loc 8 0), (60, .agg [.int .i64 k1, .int .i64 k2, .int .i64 k3]), (61, .int .i64 0)]) (o x1 x2 x3 : AV) (hB : m.get B = some (.cells [o, x1, x2, x3] true)) (_h13 : 13 ≤ B) (hb : m.get b = some (.cells wc true)) (w : ByteArray) (hw : cellsAt wc (0 + 1 * 1) 1 = some [.str w]) (hnw : 1 < nw) (hT : Tab m) (hN : 31 ≤ N) (v : AV) (hv : v = .int .i64 (findI signF w 20 1 : Int)) (hkk : k1 = 7) :
    ∃ T' L', codeEv (run A N) again a15_B1 ⟨119, T, L, m⟩ = some (.norm, ⟨119, T', L', m.set B (.cells [o, v, x2, x3] true)⟩) ∧ lookL L' 2 = some cs ∧ lookL L' 8 = some [.ptr B 1, .ptr B 2, .ptr B 3] ∧ keepT [0, 2, 4, 5, 8, 60, 61] [2, 8] T' = [(0, .str s), (2, .loc 2 0), (4, .slice b 0 nw (some nw) 1), (5, .ptr B 0), (8, .loc 8 0), (60, .agg [.int .i64 k1, .int .i64 k2, .int .i64 k3]), (61, .int .i64 1)] := by
  subst hv
  have h' : ¬ ((1 : Int) ≥ (nw : Int)) := by omega
  have h'' : (1 : Int) < (nw : Int) := by omega
  have hf := find_sign w m hT (N - 1) (by omega)
  rw [show N - 1 + 1 = N by omega] at hf
  subst hkk
  unfold a15_B1 a15_R5
  exact ⟨_, _, by simp only [codeEv, opsEv, oneEv, guardEv, opE_mov, opE_load1, opE_store, opE_bin, opE_eq, opE_iaddrL, opE_call, opE_lenL, lenR_slice, elemR_slice, St.opd, look_set, look_nil, look_cons, St.put, St.read, St.write, lookL_nil, lookL_cons, cellsAt_cons, splice, bin_ilt, bin_ige, bin_ieq, in_int, in_str, in_ptr, in_slice, in_agg, in_loc, List.contains_cons, List.contains_nil, one_int, cells_int, loc_str, loc_fn, callWith, keepL, careEv, dOneEv, dOpsEv, accOf, accEv, Option.toList_some, List.append_nil, List.map, List.length, List.take, List.drop, List.all, List.any, List.cons_append, List.nil_append, List.take_succ_cons, List.drop_succ_cons, List.drop_zero, List.getElem?_cons_zero, Option.map_some, Nat.reduceEqDiff, Int.reduceEq, Int.reduceLT, Int.reduceLE, Nat.reduceAdd, Nat.reduceLeDiff, Nat.reduceLT, if_true, if_false, Bool.and_true, Bool.and_false, Bool.or_true, Bool.or_false, Bool.true_or, Bool.not_true, Bool.not_false, List.isEmpty_cons, beq_self_eq_true, Bool.false_eq_true, Nat.succ_ne_self, decide_true, decide_false, keepT_setT, List.take_succ_cons, Int.reduceToNat, and_self, Int.toNat_zero, n3, Nat.zero_mul, Nat.one_mul, AOp.kd, kd_rm, kd_sm, opE_idxA, opE_iaddrA, iaR_loc, opE_nilck, nilR_ptr, ad0, hk, hL, hL8, h', h'', hb, hB, hw, hf]; rfl, by simp only [lookL_cons, Nat.reduceEqDiff, if_true, if_false], by simp only [lookL_cons, Nat.reduceEqDiff, if_true, if_false], by simp only [keepT, List.map, look_set, look_cons, in_int, in_str, in_ptr, in_slice, in_agg, in_loc, Nat.reduceEqDiff, if_true, if_false, wr1, List.contains_cons, List.contains_nil, beq_self_eq_true, Bool.or_false, Bool.true_or, Bool.or_true]⟩

theorem b15_un0 (N : Nat) (again : AC → St → Option (Ex × St)) (s : ByteArray) (b B nw : Nat) (k1 k2 k3 : Int) (wc : List AV) (m : Mem) (cs : List AV) (T : List (Nat × AV)) (L : List (Nat × List AV)) (hL : lookL L 2 = some cs) (hL8 : lookL L 8 = some [.ptr B 1, .ptr B 2, .ptr B 3]) (hk : keepT [0, 2, 4, 5, 8, 60, 61] [2, 8] T = [(0, .str s), (2, .loc 2 0), (4, .slice b 0 nw (some nw) 1), (5, .ptr B 0), (8, .loc 8 0), (60, .agg [.int .i64 k1, .int .i64 k2, .int .i64 k3]), (61, .int .i64 0)]) (o x1 x2 x3 : AV) (hB : m.get B = some (.cells [o, x1, x2, x3] true)) (_h13 : 13 ≤ B) (hb : m.get b = some (.cells wc true)) (w : ByteArray) (hw : cellsAt wc (0 + 1 * 1) 1 = some [.str w]) (hnw : 1 < nw) (_hT : Tab m) (hN : 31 ≤ N) (v : AV) (hv : v = .int .i64 (findI unB w 4 1 : Int)) (hkk : k1 = 8) :
    ∃ T' L', codeEv (run A N) again a15_B1 ⟨119, T, L, m⟩ = some (.norm, ⟨119, T', L', m.set B (.cells [o, v, x2, x3] true)⟩) ∧ lookL L' 2 = some cs ∧ lookL L' 8 = some [.ptr B 1, .ptr B 2, .ptr B 3] ∧ keepT [0, 2, 4, 5, 8, 60, 61] [2, 8] T' = [(0, .str s), (2, .loc 2 0), (4, .slice b 0 nw (some nw) 1), (5, .ptr B 0), (8, .loc 8 0), (60, .agg [.int .i64 k1, .int .i64 k2, .int .i64 k3]), (61, .int .i64 1)] := by
  subst hv
  have h' : ¬ ((1 : Int) ≥ (nw : Int)) := by omega
  have h'' : (1 : Int) < (nw : Int) := by omega
  have hf := find_un w m (N - 1) (by omega)
  rw [show N - 1 + 1 = N by omega] at hf
  subst hkk
  unfold a15_B1 a15_R6
  exact ⟨_, _, by simp only [codeEv, opsEv, oneEv, guardEv, opE_mov, opE_load1, opE_store, opE_bin, opE_eq, opE_iaddrL, opE_call, opE_lenL, lenR_slice, elemR_slice, St.opd, look_set, look_nil, look_cons, St.put, St.read, St.write, lookL_nil, lookL_cons, cellsAt_cons, splice, bin_ilt, bin_ige, bin_ieq, in_int, in_str, in_ptr, in_slice, in_agg, in_loc, List.contains_cons, List.contains_nil, one_int, cells_int, loc_str, loc_fn, callWith, keepL, careEv, dOneEv, dOpsEv, accOf, accEv, Option.toList_some, List.append_nil, List.map, List.length, List.take, List.drop, List.all, List.any, List.cons_append, List.nil_append, List.take_succ_cons, List.drop_succ_cons, List.drop_zero, List.getElem?_cons_zero, Option.map_some, Nat.reduceEqDiff, Int.reduceEq, Int.reduceLT, Int.reduceLE, Nat.reduceAdd, Nat.reduceLeDiff, Nat.reduceLT, if_true, if_false, Bool.and_true, Bool.and_false, Bool.or_true, Bool.or_false, Bool.true_or, Bool.not_true, Bool.not_false, List.isEmpty_cons, beq_self_eq_true, Bool.false_eq_true, Nat.succ_ne_self, decide_true, decide_false, keepT_setT, List.take_succ_cons, Int.reduceToNat, and_self, Int.toNat_zero, n3, Nat.zero_mul, Nat.one_mul, AOp.kd, kd_rm, kd_sm, opE_idxA, opE_iaddrA, iaR_loc, opE_nilck, nilR_ptr, ad0, hk, hL, hL8, h', h'', hb, hB, hw, hf]; rfl, by simp only [lookL_cons, Nat.reduceEqDiff, if_true, if_false], by simp only [lookL_cons, Nat.reduceEqDiff, if_true, if_false], by simp only [keepT, List.map, look_set, look_cons, in_int, in_str, in_ptr, in_slice, in_agg, in_loc, Nat.reduceEqDiff, if_true, if_false, wr1, List.contains_cons, List.contains_nil, beq_self_eq_true, Bool.or_false, Bool.true_or, Bool.or_true]⟩
theorem b15_num0 (N : Nat) (again : AC → St → Option (Ex × St)) (s : ByteArray) (b B nw : Nat) (k1 k2 k3 : Int) (wc : List AV) (m : Mem) (cs : List AV) (T : List (Nat × AV)) (L : List (Nat × List AV)) (hL : lookL L 2 = some cs) (hL8 : lookL L 8 = some [.ptr B 1, .ptr B 2, .ptr B 3]) (hk : keepT [0, 2, 4, 5, 8, 60, 61] [2, 8] T = [(0, .str s), (2, .loc 2 0), (4, .slice b 0 nw (some nw) 1), (5, .ptr B 0), (8, .loc 8 0), (60, .agg [.int .i64 k1, .int .i64 k2, .int .i64 k3]), (61, .int .i64 0)]) (o x1 x2 x3 : AV) (hB : m.get B = some (.cells [o, x1, x2, x3] true)) (_h13 : 13 ≤ B) (hb : m.get b = some (.cells wc true)) (w : ByteArray) (hw : cellsAt wc (0 + 1 * 1) 1 = some [.str w]) (hnw : 1 < nw) (x : Int) (hf : run A N 42 [.str w] m = some (.tup [.int .i64 x, .nili], m)) (v : AV) (hv : v = .int .i64 x) (hk7 : ¬ k1 = 7) (hk8 : ¬ k1 = 8) :
    ∃ T' L', codeEv (run A N) again a15_B1 ⟨119, T, L, m⟩ = some (.norm, ⟨119, T', L', m.set B (.cells [o, v, x2, x3] true)⟩) ∧ lookL L' 2 = some cs ∧ lookL L' 8 = some [.ptr B 1, .ptr B 2, .ptr B 3] ∧ keepT [0, 2, 4, 5, 8, 60, 61] [2, 8] T' = [(0, .str s), (2, .loc 2 0), (4, .slice b 0 nw (some nw) 1), (5, .ptr B 0), (8, .loc 8 0), (60, .agg [.int .i64 k1, .int .i64 k2, .int .i64 k3]), (61, .int .i64 1)] := by
  subst hv
  have h' : ¬ ((1 : Int) ≥ (nw : Int)) := by omega
  have h'' : (1 : Int) < (nw : Int) := by omega
  unfold a15_B1 a15_R7
  exact ⟨_, _, by simp only [codeEv, opsEv, oneEv, guardEv, opE_mov, opE_load1, opE_store, opE_bin, opE_eq, opE_iaddrL, opE_ext, opE_call, opE_lenL, lenR_slice, elemR_slice, St.opd, look_set, look_nil, look_cons, St.put, St.read, St.write, lookL_nil, lookL_cons, cellsAt_cons, splice, bin_ilt, bin_ige, bin_ieq, in_int, in_str, in_ptr, in_slice, in_agg, in_loc, List.contains_cons, List.contains_nil, one_int, cells_int, loc_str, callWith, keepL, List.map, List.length, List.take, List.drop, List.all, List.any, List.cons_append, List.nil_append, List.take_succ_cons, List.drop_succ_cons, List.drop_zero, List.getElem?_cons_succ, List.getElem?_cons_zero, Option.map_some, Nat.reduceEqDiff, Int.reduceLT, Int.reduceLE, Nat.reduceAdd, Nat.reduceLeDiff, Nat.reduceLT, if_true, if_false, Bool.and_true, Bool.or_true, Bool.or_false, Bool.true_or, Bool.not_true, Bool.not_false, List.isEmpty_cons, beq_self_eq_true, Bool.false_eq_true, Nat.succ_ne_self, decide_true, decide_false, keepT_setT, List.take_succ_cons, Int.reduceToNat, and_self, Int.toNat_zero, n3, Nat.zero_mul, Nat.one_mul, in_nili, nil_ne2, opE_idxA, opE_iaddrA, iaR_loc, opE_nilck, nilR_ptr, ad0, hk, hL, hL8, h', h'', hb, hB, hw, hf, hk7, hk8]; rfl, by simp only [lookL_cons, Nat.reduceEqDiff, if_true, if_false], by simp only [lookL_cons, Nat.reduceEqDiff, if_true, if_false], by simp only [keepT, List.map, look_set, look_cons, in_int, in_str, in_ptr, in_slice, in_agg, in_loc, Nat.reduceEqDiff, if_true, if_false, List.contains_cons, List.contains_nil, beq_self_eq_true, Bool.or_false, Bool.true_or, Bool.or_true]⟩
theorem b15_bad0 (N : Nat) (again : AC → St → Option (Ex × St)) (s : ByteArray) (b B nw : Nat) (k1 k2 k3 : Int) (wc : List AV) (m : Mem) (cs : List AV) (T : List (Nat × AV)) (L : List (Nat × List AV)) (hL : lookL L 2 = some cs) (hL8 : lookL L 8 = some [.ptr B 1, .ptr B 2, .ptr B 3]) (hk : keepT [0, 2, 4, 5, 8, 60, 61] [2, 8] T = [(0, .str s), (2, .loc 2 0), (4, .slice b 0 nw (some nw) 1), (5, .ptr B 0), (8, .loc 8 0), (60, .agg [.int .i64 k1, .int .i64 k2, .int .i64 k3]), (61, .int .i64 0)]) (o x1 x2 x3 : AV) (_hB : m.get B = some (.cells [o, x1, x2, x3] true)) (_h13 : 13 ≤ B) (hb : m.get b = some (.cells wc true)) (w : ByteArray) (hw : cellsAt wc (0 + 1 * 1) 1 = some [.str w]) (hnw : 1 < nw) (x : Int) (t : Nat) (hcs : cs.length = 4) (hf : run A N 42 [.str w] m = some (.tup [.int .i64 x, .iface t .unk], m)) (hk7 : ¬ k1 = 7) (hk8 : ¬ k1 = 8) :
    ∃ T' L', codeEv (run A N) again a15_B1 ⟨119, T, L, m⟩ = some (.ret, ⟨119, T', L', m⟩) ∧ lookL L' 2 = some [.int .i64 0, .int .i64 0, .int .i64 0, .int .i64 0] ∧ (look T' 2 = .loc 2 0 ∧ look T' 3 = .int .i64 11) := by
  match cs, hcs with
  | [c1, c2, c3, c4], _ =>
  have h' : ¬ ((1 : Int) ≥ (nw : Int)) := by omega
  have h'' : (1 : Int) < (nw : Int) := by omega
  unfold a15_B1 a15_R7
  exact ⟨_, _, by simp only [codeEv, opsEv, oneEv, guardEv, opE_mov, opE_load1, opE_store, opE_bin, opE_eq, opE_iaddrL, opE_ext, opE_call, opE_lenL, lenR_slice, elemR_slice, St.opd, look_set, look_nil, look_cons, St.put, St.read, St.write, lookL_nil, lookL_cons, splice, bin_ilt, bin_ige, bin_ieq, in_int, in_str, in_ptr, in_slice, in_agg, in_loc, List.contains_cons, List.contains_nil, loc_str, callWith, keepL, List.map, List.length, List.take, List.any, List.take_succ_cons, List.drop_zero, List.getElem?_cons_succ, List.getElem?_cons_zero, Option.map_some, Nat.reduceEqDiff, Int.reduceLT, Int.reduceLE, Nat.reduceAdd, Nat.reduceLeDiff, Nat.reduceLT, if_true, if_false, Bool.or_true, Bool.or_false, Bool.true_or, Bool.not_false, beq_self_eq_true, Bool.false_eq_true, Nat.succ_ne_self, decide_true, decide_false, keepT_setT, List.take_succ_cons, Int.reduceToNat, and_self, Int.toNat_zero, n3, Nat.zero_mul, Nat.one_mul, in_iface, nil_ne1, opE_idxA, opE_iaddrA, opE_nilck, ad0, hk, hL, hL8, h', h'', hb, hw, hf, hk7, hk8]; rfl, by simp only [lookL_cons, setL_cons, if_true]; rfl, by simp only [look_cons, look_set, Nat.reduceEqDiff, if_true, if_false], by simp only [look_cons, look_set, Nat.reduceEqDiff, if_true, if_false]⟩

theorem b15_few1 (N : Nat) (again : AC → St → Option (Ex × St)) (s : ByteArray) (b B nw : Nat) (k1 k2 k3 : Int) (_wc : List AV) (m : Mem) (cs : List AV) (T : List (Nat × AV)) (L : List (Nat × List AV)) (hL : lookL L 2 = some cs) (hL8 : lookL L 8 = some [.ptr B 1, .ptr B 2, .ptr B 3]) (hk : keepT [0, 2, 4, 5, 8, 60, 61] [2, 8] T = [(0, .str s), (2, .loc 2 0), (4, .slice b 0 nw (some nw) 1), (5, .ptr B 0), (8, .loc 8 0), (60, .agg [.int .i64 k1, .int .i64 k2, .int .i64 k3]), (61, .int .i64 1)]) (hn : nw ≤ 2) :
    ∃ T' L', codeEv (run A N) again a15_B1 ⟨119, T, L, m⟩ = some (.exit 2, ⟨119, T', L', m⟩) ∧ lookL L' 2 = some cs ∧ keepT [0, 2, 5] [2] T' = [(0, .str s), (2, .loc 2 0), (5, .ptr B 0)] := by
  have h' : ((2 : Int) ≥ (nw : Int)) := by omega
  unfold a15_B1
  exact ⟨_, _, by simp only [codeEv, opsEv, oneEv, guardEv, opE_mov, opE_bin, opE_lenL, lenR_slice, St.opd, look_set, look_nil, look_cons, St.put, lookL_nil, lookL_cons, bin_ilt, bin_ige, in_int, in_str, in_ptr, in_slice, in_agg, in_loc, List.contains_cons, List.contains_nil, keepL, List.map, List.length, List.take, List.drop, List.take_succ_cons, List.drop_succ_cons, List.getElem?_cons_succ, List.getElem?_cons_zero, Option.map_some, Nat.reduceEqDiff, Int.reduceLT, Int.reduceLE, Nat.reduceAdd, Nat.reduceLeDiff, Nat.reduceLT, if_true, if_false, Bool.or_true, Bool.or_false, Bool.true_or, beq_self_eq_true, Bool.false_eq_true, Nat.succ_ne_self, decide_true, keepT_setT, List.take_succ_cons, Int.reduceToNat, and_self, n3, Nat.one_mul, opE_idxA, ad1, hk, hL, hL8, h']; rfl, by simp only [lookL_cons, Nat.reduceEqDiff, if_true, if_false], by simp only [keepT, List.map, look_set, look_cons, in_str, in_ptr, in_loc, Nat.reduceEqDiff, if_true, if_false, List.contains_cons, List.contains_nil, beq_self_eq_true, Bool.or_false]⟩
theorem b15_sign1 (N : Nat) (again : AC → St → Option (Ex × St)) (s : ByteArray) (b B nw : Nat) (k1 k2 k3 : Int) (wc : List AV) (m : Mem) (cs : List AV) (T : List (Nat × AV)) (L : List (Nat × List AV)) (hL : lookL L 2 = some cs) (hL8 : lookL L 8 = some [.ptr B 1, .ptr B 2, .ptr B 3]) (hk : keepT [0, 2, 4, 5, 8, 60, 61] [2, 8] T = [(0, .str s), (2, .loc 2 0), (4, .slice b 0 nw (some nw) 1), (5, .ptr B 0), (8, .loc 8 0), (60, .agg [.int .i64 k1, .int .i64 k2, .int .i64 k3]), (61, .int .i64 1)]) (o x1 x2 x3 : AV) (hB : m.get B = some (.cells [o, x1, x2, x3] true)) (_h13 : 13 ≤ B) (hb : m.get b = some (.cells wc true)) (w : ByteArray) (hw : cellsAt wc (0 + 2 * 1) 1 = some [.str w]) (hnw : 2 < nw) (hT : Tab m) (hN : 31 ≤ N) (v : AV) (hv : v = .int .i64 (findI signF w 20 1 : Int)) (hkk : k2 = 7) :
    ∃ T' L', codeEv (run A N) again a15_B1 ⟨119, T, L, m⟩ = some (.norm, ⟨119, T', L', m.set B (.cells [o, x1, v, x3] true)⟩) ∧ lookL L' 2 = some cs ∧ lookL L' 8 = some [.ptr B 1, .ptr B 2, .ptr B 3] ∧ keepT [0, 2, 4, 5, 8, 60, 61] [2, 8] T' = [(0, .str s), (2, .loc 2 0), (4, .slice b 0 nw (some nw) 1), (5, .ptr B 0), (8, .loc 8 0), (60, .agg [.int .i64 k1, .int .i64 k2, .int .i64 k3]), (61, .int .i64 2)] := by
  subst hv
  have h' : ¬ ((2 : Int) ≥ (nw : Int)) := by omega
  have h'' : (2 : Int) < (nw : Int) := by omega
  have hf := find_sign w m hT (N - 1) (by omega)
  rw [show N - 1 + 1 = N by omega] at hf
  subst hkk
  unfold a15_B1 a15_R5
  exact ⟨_, _, by simp only [codeEv, opsEv, oneEv, guardEv, opE_mov, opE_load1, opE_store, opE_bin, opE_eq, opE_iaddrL, opE_call, opE_lenL, lenR_slice, elemR_slice, St.opd, look_set, look_nil, look_cons, St.put, St.read, St.write, lookL_nil, lookL_cons, cellsAt_cons, splice, bin_ilt, bin_ige, bin_ieq, in_int, in_str, in_ptr, in_slice, in_agg, in_loc, List.contains_cons, List.contains_nil, one_int, cells_int, loc_str, loc_fn, callWith, keepL, careEv, dOneEv, dOpsEv, accOf, accEv, Option.toList_some, List.append_nil, List.map, List.length, List.take, List.drop, List.all, List.any, List.cons_append, List.nil_append, List.take_succ_cons, List.drop_succ_cons, List.getElem?_cons_succ, List.getElem?_cons_zero, Option.map_some, Nat.reduceEqDiff, Int.reduceEq, Int.reduceLT, Int.reduceLE, Nat.reduceAdd, Nat.reduceLeDiff, Nat.reduceLT, Nat.reduceMul, if_true, if_false, Bool.and_true, Bool.and_false, Bool.or_true, Bool.or_false, Bool.true_or, Bool.not_true, Bool.not_false, List.isEmpty_cons, beq_self_eq_true, Bool.false_eq_true, Nat.succ_ne_self, decide_true, decide_false, keepT_setT, List.take_succ_cons, Int.reduceToNat, and_self, n3, Nat.one_mul, AOp.kd, kd_rm, kd_sm, opE_idxA, opE_iaddrA, iaR_loc, opE_nilck, nilR_ptr, ad1, hk, hL, hL8, h', h'', hb, hB, hw, hf]; rfl, by simp only [lookL_cons, Nat.reduceEqDiff, if_true, if_false], by simp only [lookL_cons, Nat.reduceEqDiff, if_true, if_false], by simp only [keepT, List.map, look_set, look_cons, in_int, in_str, in_ptr, in_slice, in_agg, in_loc, Nat.reduceEqDiff, if_true, if_false, wr2, List.contains_cons, List.contains_nil, beq_self_eq_true, Bool.or_false, Bool.true_or, Bool.or_true]⟩

theorem b15_un1 (N : Nat) (again : AC → St → Option (Ex × St)) (s : ByteArray) (b B nw : Nat) (k1 k2 k3 : Int) (wc : List AV) (m : Mem) (cs : List AV) (T : List (Nat × AV)) (L : List (Nat × List AV)) (hL : lookL L 2 = some cs) (hL8 : lookL L 8 = some [.ptr B 1, .ptr B 2, .ptr B 3]) (hk : keepT [0, 2, 4, 5, 8, 60, 61] [2, 8] T = [(0, .str s), (2, .loc 2 0), (4, .slice b 0 nw (some nw) 1), (5, .ptr B 0), (8, .loc 8 0), (60, .agg [.int .i64 k1, .int .i64 k2, .int .i64 k3]), (61, .int .i64 1)]) (o x1 x2 x3 : AV) (hB : m.get B = some (.cells [o, x1, x2, x3] true)) (_h13 : 13 ≤ B) (hb : m.get b = some (.cells wc true)) (w : ByteArray) (hw : cellsAt wc (0 + 2 * 1) 1 = some [.str w]) (hnw : 2 < nw) (_hT : Tab m) (hN : 31 ≤ N) (v : AV) (hv : v = .int .i64 (findI unB w 4 1 : Int)) (hkk : k2 = 8) :
    ∃ T' L', codeEv (run A N) again a15_B1 ⟨119, T, L, m⟩ = some (.norm, ⟨119, T', L', m.set B (.cells [o, x1, v, x3] true)⟩) ∧ lookL L' 2 = some cs ∧ lookL L' 8 = some [.ptr B 1, .ptr B 2, .ptr B 3] ∧ keepT [0, 2, 4, 5, 8, 60, 61] [2, 8] T' = [(0, .str s), (2, .loc 2 0), (4, .slice b 0 nw (some nw) 1), (5, .ptr B 0), (8, .loc 8 0), (60, .agg [.int .i64 k1, .int .i64 k2, .int .i64 k3]), (61, .int .i64 2)] := by
  subst hv
  have h' : ¬ ((2 : Int) ≥ (nw : Int)) := by omega
  have h'' : (2 : Int) < (nw : Int) := by omega
  have hf := find_un w m (N - 1) (by omega)
  rw [show N - 1 + 1 = N by omega] at hf
  subst hkk
  unfold a15_B1 a15_R6
  exact ⟨_, _, by simp only [codeEv, opsEv, oneEv, guardEv, opE_mov, opE_load1, opE_store, opE_bin, opE_eq, opE_iaddrL, opE_call, opE_lenL, lenR_slice, elemR_slice, St.opd, look_set, look_nil, look_cons, St.put, St.read, St.write, lookL_nil, lookL_cons, cellsAt_cons, splice, bin_ilt, bin_ige, bin_ieq, in_int, in_str, in_ptr, in_slice, in_agg, in_loc, List.contains_cons, List.contains_nil, one_int, cells_int, loc_str, loc_fn, callWith, keepL, careEv, dOneEv, dOpsEv, accOf, accEv, Option.toList_some, List.append_nil, List.map, List.length, List.take, List.drop, List.all, List.any, List.cons_append, List.nil_append, List.take_succ_cons, List.drop_succ_cons, List.getElem?_cons_succ, List.getElem?_cons_zero, Option.map_some, Nat.reduceEqDiff, Int.reduceEq, Int.reduceLT, Int.reduceLE, Nat.reduceAdd, Nat.reduceLeDiff, Nat.reduceLT, Nat.reduceMul, if_true, if_false, Bool.and_true, Bool.and_false, Bool.or_true, Bool.or_false, Bool.true_or, Bool.not_true, Bool.not_false, List.isEmpty_cons, beq_self_eq_true, Bool.false_eq_true, Nat.succ_ne_self, decide_true, decide_false, keepT_setT, List.take_succ_cons, Int.reduceToNat, and_self, n3, Nat.one_mul, AOp.kd, kd_rm, kd_sm, opE_idxA, opE_iaddrA, iaR_loc, opE_nilck, nilR_ptr, ad1, hk, hL, hL8, h', h'', hb, hB, hw, hf]; rfl, by simp only [lookL_cons, Nat.reduceEqDiff, if_true, if_false], by simp only [lookL_cons, Nat.reduceEqDiff, if_true, if_false], by simp only [keepT, List.map, look_set, look_cons, in_int, in_str, in_ptr, in_slice, in_agg, in_loc, Nat.reduceEqDiff, if_true, if_false, wr2, List.contains_cons, List.contains_nil, beq_self_eq_true, Bool.or_false, Bool.true_or, Bool.or_true]⟩
theorem b15_num1 (N : Nat) (again : AC → St → Option (Ex × St)) (s : ByteArray) (b B nw : Nat) (k1 k2 k3 : Int) (wc : List AV) (m : Mem) (cs : List AV) (T : List (Nat × AV)) (L : List (Nat × List AV)) (hL : lookL L 2 = some cs) (hL8 : lookL L 8 = some [.ptr B 1, .ptr B 2, .ptr B 3]) (hk : keepT [0, 2, 4, 5, 8, 60, 61] [2, 8] T = [(0, .str s), (2, .loc 2 0), (4, .slice b 0 nw (some nw) 1), (5, .ptr B 0), (8, .loc 8 0), (60, .agg [.int .i64 k1, .int .i64 k2, .int .i64 k3]), (61, .int .i64 1)]) (o x1 x2 x3 : AV) (hB : m.get B = some (.cells [o, x1, x2, x3] true)) (_h13 : 13 ≤ B) (hb : m.get b = some (.cells wc true)) (w : ByteArray) (hw : cellsAt wc (0 + 2 * 1) 1 = some [.str w]) (hnw : 2 < nw) (x : Int) (hf : run A N 42 [.str w] m = some (.tup [.int .i64 x, .nili], m)) (v : AV) (hv : v = .int .i64 x) (hk7 : ¬ k2 = 7) (hk8 : ¬ k2 = 8) :
    ∃ T' L', codeEv (run A N) again a15_B1 ⟨119, T, L, m⟩ = some (.norm, ⟨119, T', L', m.set B (.cells [o, x1, v, x3] true)⟩) ∧ lookL L' 2 = some cs ∧ lookL L' 8 = some [.ptr B 1, .ptr B 2, .ptr B 3] ∧ keepT [0, 2, 4, 5, 8, 60, 61] [2, 8] T' = [(0, .str s), (2, .loc 2 0), (4, .slice b 0 nw (some nw) 1), (5, .ptr B 0), (8, .loc 8 0), (60, .agg [.int .i64 k1, .int .i64 k2, .int .i64 k3]), (61, .int .i64 2)] := by
  subst hv
  have h' : ¬ ((2 : Int) ≥ (nw : Int)) := by omega
  have h'' : (2 : Int) < (nw : Int) := by omega
  unfold a15_B1 a15_R7
  exact ⟨_, _, by simp only [codeEv, opsEv, oneEv, guardEv, opE_mov, opE_load1, opE_store, opE_bin, opE_eq, opE_iaddrL, opE_ext, opE_call, opE_lenL, lenR_slice, elemR_slice, St.opd, look_set, look_nil, look_cons, St.put, St.read, St.write, lookL_nil, lookL_cons, cellsAt_cons, splice, bin_ilt, bin_ige, bin_ieq, in_int, in_str, in_ptr, in_slice, in_agg, in_loc, List.contains_cons, List.contains_nil, one_int, cells_int, loc_str, callWith, keepL, List.map, List.length, List.take, List.drop, List.all, List.any, List.cons_append, List.nil_append, List.take_succ_cons, List.drop_succ_cons, List.getElem?_cons_succ, List.getElem?_cons_zero, Option.map_some, Nat.reduceEqDiff, Int.reduceLT, Int.reduceLE, Nat.reduceAdd, Nat.reduceLeDiff, Nat.reduceLT, Nat.reduceMul, if_true, if_false, Bool.and_true, Bool.or_true, Bool.or_false, Bool.true_or, Bool.not_true, Bool.not_false, List.isEmpty_cons, beq_self_eq_true, Bool.false_eq_true, Nat.succ_ne_self, decide_true, decide_false, keepT_setT, List.take_succ_cons, Int.reduceToNat, and_self, n3, Nat.one_mul, in_nili, nil_ne2, opE_idxA, opE_iaddrA, iaR_loc, opE_nilck, nilR_ptr, ad1, hk, hL, hL8, h', h'', hb, hB, hw, hf, hk7, hk8]; rfl, by simp only [lookL_cons, Nat.reduceEqDiff, if_true, if_false], by simp only [lookL_cons, Nat.reduceEqDiff, if_true, if_false], by simp only [keepT, List.map, look_set, look_cons, in_int, in_str, in_ptr, in_slice, in_agg, in_loc, Nat.reduceEqDiff, if_true, if_false, List.contains_cons, List.contains_nil, beq_self_eq_true, Bool.or_false, Bool.true_or, Bool.or_true]⟩
theorem b15_bad1 (N : Nat) (again : AC → St → Option (Ex × St)) (s : ByteArray) (b B nw : Nat) (k1 k2 k3 : Int) (wc : List AV) (m : Mem) (cs : List AV) (T : List (Nat × AV)) (L : List (Nat × List AV)) (hL : lookL L 2 = some cs) (hL8 : lookL L 8 = some [.ptr B 1, .ptr B 2, .ptr B 3]) (hk : keepT [0, 2, 4, 5, 8, 60, 61] [2, 8] T = [(0, .str s), (2, .loc 2 0), (4, .slice b 0 nw (some nw) 1), (5, .ptr B 0), (8, .loc 8 0), (60, .agg [.int .i64 k1, .int .i64 k2, .int .i64 k3]), (61, .int .i64 1)]) (o x1 x2 x3 : AV) (_hB : m.get B = some (.cells [o, x1, x2, x3] true)) (_h13 : 13 ≤ B) (hb : m.get b = some (.cells wc true)) (w : ByteArray) (hw : cellsAt wc (0 + 2 * 1) 1 = some [.str w]) (hnw : 2 < nw) (x : Int) (t : Nat) (hcs : cs.length = 4) (hf : run A N 42 [.str w] m = some (.tup [.int .i64 x, .iface t .unk], m)) (hk7 : ¬ k2 = 7) (hk8 : ¬ k2 = 8) :
    ∃ T' L', codeEv (run A N) again a15_B1 ⟨119, T, L, m⟩ = some (.ret, ⟨119, T', L', m⟩) ∧ lookL L' 2 = some [.int .i64 0, .int .i64 0, .int .i64 0, .int .i64 0] ∧ (look T' 2 = .loc 2 0 ∧ look T' 3 = .int .i64 11) := by
  match cs, hcs with
  | [c1, c2, c3, c4], _ =>
  have h' : ¬ ((2 : Int) ≥ (nw : Int)) := by omega
  have h'' : (2 : Int) < (nw : Int) := by omega
  unfold a15_B1 a15_R7
  exact ⟨_, _, by simp only [codeEv, opsEv, oneEv, guardEv, opE_mov, opE_load1, opE_store, opE_bin, opE_eq, opE_iaddrL, opE_ext, opE_call, opE_lenL, lenR_slice, elemR_slice, St.opd, look_set, look_nil, look_cons, St.put, St.read, St.write, lookL_nil, lookL_cons, splice, bin_ilt, bin_ige, bin_ieq, in_int, in_str, in_ptr, in_slice, in_agg, in_loc, List.contains_cons, List.contains_nil, loc_str, callWith, keepL, List.map, List.length, List.take, List.drop, List.any, List.take_succ_cons, List.drop_succ_cons, List.getElem?_cons_succ, List.getElem?_cons_zero, Option.map_some, Nat.reduceEqDiff, Int.reduceLT, Int.reduceLE, Nat.reduceAdd, Nat.reduceLeDiff, Nat.reduceLT, Nat.reduceMul, if_true, if_false, Bool.or_true, Bool.or_false, Bool.true_or, Bool.not_false, beq_self_eq_true, Bool.false_eq_true, Nat.succ_ne_self, decide_true, decide_false, keepT_setT, List.take_succ_cons, Int.reduceToNat, and_self, n3, Nat.one_mul, in_iface, nil_ne1, opE_idxA, opE_iaddrA, opE_nilck, ad1, hk, hL, hL8, h', h'', hb, hw, hf, hk7, hk8]; rfl, by simp only [lookL_cons, setL_cons, if_true]; rfl, by simp only [look_cons, look_set, Nat.reduceEqDiff, if_true, if_false], by simp only [look_cons, look_set, Nat.reduceEqDiff, if_true, if_false]⟩

theorem b15_few2 (N : Nat) (again : AC → St → Option (Ex × St)) (s : ByteArray) (b B nw : Nat) (k1 k2 k3 : Int) (_wc : List AV) (m : Mem) (cs : List AV) (T : List (Nat × AV)) (L : List (Nat × List AV)) (hL : lookL L 2 = some cs) (hL8 : lookL L 8 = some [.ptr B 1, .ptr B 2, .ptr B 3]) (hk : keepT [0, 2, 4, 5, 8, 60, 61] [2, 8] T = [(0, .str s), (2, .loc 2 0), (4, .slice b 0 nw (some nw) 1), (5, .ptr B 0), (8, .loc 8 0), (60, .agg [.int .i64 k1, .int .i64 k2, .int .i64 k3]), (61, .int .i64 2)]) (hn : nw ≤ 3) :
    ∃ T' L', codeEv (run A N) again a15_B1 ⟨119, T, L, m⟩ = some (.exit 2, ⟨119, T', L', m⟩) ∧ lookL L' 2 = some cs ∧ keepT [0, 2, 5] [2] T' = [(0, .str s), (2, .loc 2 0), (5, .ptr B 0)] := by
  have h' : ((3 : Int) ≥ (nw : Int)) := by omega
  unfold a15_B1
  exact ⟨_, _, by simp only [codeEv, opsEv, oneEv, guardEv, opE_mov, opE_bin, opE_lenL, lenR_slice, St.opd, look_set, look_nil, look_cons, St.put, lookL_nil, lookL_cons, bin_ilt, bin_ige, in_int, in_str, in_ptr, in_slice, in_agg, in_loc, List.contains_cons, List.contains_nil, keepL, List.map, List.length, List.take, List.drop, List.take_succ_cons, List.drop_succ_cons, List.getElem?_cons_succ, List.getElem?_cons_zero, Option.map_some, Nat.reduceEqDiff, Int.reduceLT, Int.reduceLE, Nat.reduceAdd, Nat.reduceLeDiff, Nat.reduceLT, Nat.reduceMul, if_true, if_false, Bool.or_true, Bool.or_false, Bool.true_or, beq_self_eq_true, Bool.false_eq_true, Nat.succ_ne_self, decide_true, keepT_setT, List.take_succ_cons, Int.reduceToNat, and_self, n3, opE_idxA, ad2, hk, hL, hL8, h']; rfl, by simp only [lookL_cons, Nat.reduceEqDiff, if_true, if_false], by simp only [keepT, List.map, look_set, look_cons, in_str, in_ptr, in_loc, Nat.reduceEqDiff, if_true, if_false, List.contains_cons, List.contains_nil, beq_self_eq_true, Bool.or_false]⟩
theorem b15_sign2 (N : Nat) (again : AC → St → Option (Ex × St)) (s : ByteArray) (b B nw : Nat) (k1 k2 k3 : Int) (wc : List AV) (m : Mem) (cs : List AV) (T : List (Nat × AV)) (L : List (Nat × List AV)) (hL : lookL L 2 = some cs) (hL8 : lookL L 8 = some [.ptr B 1, .ptr B 2, .ptr B 3]) (hk : keepT [0, 2, 4, 5, 8, 60, 61] [2, 8] T = [(0, .str s), (2, .loc 2 0), (4, .slice b 0 nw (some nw) 1), (5, .ptr B 0), (8, .loc 8 0), (60, .agg [.int .i64 k1, .int .i64 k2, .int .i64 k3]), (61, .int .i64 2)]) (o x1 x2 x3 : AV) (hB : m.get B = some (.cells [o, x1, x2, x3] true)) (_h13 : 13 ≤ B) (hb : m.get b = some (.cells wc true)) (w : ByteArray) (hw : cellsAt wc (0 + 3 * 1) 1 = some [.str w]) (hnw : 3 < nw) (hT : Tab m) (hN : 31 ≤ N) (v : AV) (hv : v = .int .i64 (findI signF w 20 1 : Int)) (hkk : k3 = 7) :
    ∃ T' L', codeEv (run A N) again a15_B1 ⟨119, T, L, m⟩ = some (.norm, ⟨119, T', L', m.set B (.cells [o, x1, x2, v] true)⟩) ∧ lookL L' 2 = some cs ∧ lookL L' 8 = some [.ptr B 1, .ptr B 2, .ptr B 3] ∧ keepT [0, 2, 4, 5, 8, 60, 61] [2, 8] T' = [(0, .str s), (2, .loc 2 0), (4, .slice b 0 nw (some nw) 1), (5, .ptr B 0), (8, .loc 8 0), (60, .agg [.int .i64 k1, .int .i64 k2, .int .i64 k3]), (61, .int .i64 3)] := by
  subst hv
  have h' : ¬ ((3 : Int) ≥ (nw : Int)) := by omega
  have h'' : (3 : Int) < (nw : Int) := by omega
  have hf := find_sign w m hT (N - 1) (by omega)
  rw [show N - 1 + 1 = N by omega] at hf
  subst hkk
  unfold a15_B1 a15_R5
  exact ⟨_, _, by simp only [codeEv, opsEv, oneEv, guardEv, opE_mov, opE_load1, opE_store, opE_bin, opE_eq, opE_iaddrL, opE_call, opE_lenL, lenR_slice, elemR_slice, St.opd, look_set, look_nil, look_cons, St.put, St.read, St.write, lookL_nil, lookL_cons, cellsAt_cons, splice, bin_ilt, bin_ige, bin_ieq, in_int, in_str, in_ptr, in_slice, in_agg, in_loc, List.contains_cons, List.contains_nil, one_int, cells_int, loc_str, loc_fn, callWith, keepL, careEv, dOneEv, dOpsEv, accOf, accEv, Option.toList_some, List.append_nil, List.map, List.length, List.take, List.drop, List.all, List.any, List.cons_append, List.nil_append, List.take_succ_cons, List.drop_succ_cons, List.getElem?_cons_succ, List.getElem?_cons_zero, Option.map_some, Nat.reduceEqDiff, Int.reduceEq, Int.reduceLT, Int.reduceLE, Nat.reduceAdd, Nat.reduceLeDiff, Nat.reduceLT, Nat.reduceMul, if_true, if_false, Bool.and_true, Bool.and_false, Bool.or_true, Bool.or_false, Bool.true_or, Bool.not_true, Bool.not_false, List.isEmpty_cons, beq_self_eq_true, Bool.false_eq_true, Nat.succ_ne_self, decide_true, decide_false, keepT_setT, List.take_succ_cons, Int.reduceToNat, and_self, n3, AOp.kd, kd_rm, kd_sm, opE_idxA, opE_iaddrA, iaR_loc, opE_nilck, nilR_ptr, ad2, hk, hL, hL8, h', h'', hb, hB, hw, hf]; rfl, by simp only [lookL_cons, Nat.reduceEqDiff, if_true, if_false], by simp only [lookL_cons, Nat.reduceEqDiff, if_true, if_false], by simp only [keepT, List.map, look_set, look_cons, in_int, in_str, in_ptr, in_slice, in_agg, in_loc, Nat.reduceEqDiff, if_true, if_false, wr3, List.contains_cons, List.contains_nil, beq_self_eq_true, Bool.or_false, Bool.true_or, Bool.or_true]⟩

theorem b15_un2 (N : Nat) (again : AC → St → Option (Ex × St)) (s : ByteArray) (b B nw : Nat) (k1 k2 k3 : Int) (wc : List AV) (m : Mem) (cs : List AV) (T : List (Nat × AV)) (L : List (Nat × List AV)) (hL : lookL L 2 = some cs) (hL8 : lookL L 8 = some [.ptr B 1, .ptr B 2, .ptr B 3]) (hk : keepT [0, 2, 4, 5, 8, 60, 61] [2, 8] T = [(0, .str s), (2, .loc 2 0), (4, .slice b 0 nw (some nw) 1), (5, .ptr B 0), (8, .loc 8 0), (60, .agg [.int .i64 k1, .int .i64 k2, .int .i64 k3]), (61, .int .i64 2)]) (o x1 x2 x3 : AV) (hB : m.get B = some (.cells [o, x1, x2, x3] true)) (_h13 : 13 ≤ B) (hb : m.get b = some (.cells wc true)) (w : ByteArray) (hw : cellsAt wc (0 + 3 * 1) 1 = some [.str w]) (hnw : 3 < nw) (_hT : Tab m) (hN : 31 ≤ N) (v : AV) (hv : v = .int .i64 (findI unB w 4 1 : Int)) (hkk : k3 = 8) :
    ∃ T' L', codeEv (run A N) again a15_B1 ⟨119, T, L, m⟩ = some (.norm, ⟨119, T', L', m.set B (.cells [o, x1, x2, v] true)⟩) ∧ lookL L' 2 = some cs ∧ lookL L' 8 = some [.ptr B 1, .ptr B 2, .ptr B 3] ∧ keepT [0, 2, 4, 5, 8, 60, 61] [2, 8] T' = [(0, .str s), (2, .loc 2 0), (4, .slice b 0 nw (some nw) 1), (5, .ptr B 0), (8, .loc 8 0), (60, .agg [.int .i64 k1, .int .i64 k2, .int .i64 k3]), (61, .int .i64 3)] := by
  subst hv
  have h' : ¬ ((3 : Int) ≥ (nw : Int)) := by omega
  have h'' : (3 : Int) < (nw : Int) := by omega
  have hf := find_un w m (N - 1) (by omega)
  rw [show N - 1 + 1 = N by omega] at hf
  subst hkk
  unfold a15_B1 a15_R6
  exact ⟨_, _, by simp only [codeEv, opsEv, oneEv, guardEv, opE_mov, opE_load1, opE_store, opE_bin, opE_eq, opE_iaddrL, opE_call, opE_lenL, lenR_slice, elemR_slice, St.opd, look_set, look_nil, look_cons, St.put, St.read, St.write, lookL_nil, lookL_cons, cellsAt_cons, splice, bin_ilt, bin_ige, bin_ieq, in_int, in_str, in_ptr, in_slice, in_agg, in_loc, List.contains_cons, List.contains_nil, one_int, cells_int, loc_str, loc_fn, callWith, keepL, careEv, dOneEv, dOpsEv, accOf, accEv, Option.toList_some, List.append_nil, List.map, List.length, List.take, List.drop, List.all, List.any, List.cons_append, List.nil_append, List.take_succ_cons, List.drop_succ_cons, List.getElem?_cons_succ, List.getElem?_cons_zero, Option.map_some, Nat.reduceEqDiff, Int.reduceEq, Int.reduceLT, Int.reduceLE, Nat.reduceAdd, Nat.reduceLeDiff, Nat.reduceLT, Nat.reduceMul, if_true, if_false, Bool.and_true, Bool.and_false, Bool.or_true, Bool.or_false, Bool.true_or, Bool.not_true, Bool.not_false, List.isEmpty_cons, beq_self_eq_true, Bool.false_eq_true, Nat.succ_ne_self, decide_true, decide_false, keepT_setT, List.take_succ_cons, Int.reduceToNat, and_self, n3, AOp.kd, kd_rm, kd_sm, opE_idxA, opE_iaddrA, iaR_loc, opE_nilck, nilR_ptr, ad2, hk, hL, hL8, h', h'', hb, hB, hw, hf]; rfl, by simp only [lookL_cons, Nat.reduceEqDiff, if_true, if_false], by simp only [lookL_cons, Nat.reduceEqDiff, if_true, if_false], by simp only [keepT, List.map, look_set, look_cons, in_int, in_str, in_ptr, in_slice, in_agg, in_loc, Nat.reduceEqDiff, if_true, if_false, wr3, List.contains_cons, List.contains_nil, beq_self_eq_true, Bool.or_false, Bool.true_or, Bool.or_true]⟩
theorem b15_num2 (N : Nat) (again : AC → St → Option (Ex × St)) (s : ByteArray) (b B nw : Nat) (k1 k2 k3 : Int) (wc : List AV) (m : Mem) (cs : List AV) (T : List (Nat × AV)) (L : List (Nat × List AV)) (hL : lookL L 2 = some cs) (hL8 : lookL L 8 = some [.ptr B 1, .ptr B 2, .ptr B 3]) (hk : keepT [0, 2, 4, 5, 8, 60, 61] [2, 8] T = [(0, .str s), (2, .loc 2 0), (4, .slice b 0 nw (some nw) 1), (5, .ptr B 0), (8, .loc 8 0), (60, .agg [.int .i64 k1, .int .i64 k2, .int .i64 k3]), (61, .int .i64 2)]) (o x1 x2 x3 : AV) (hB : m.get B = some (.cells [o, x1, x2, x3] true)) (_h13 : 13 ≤ B) (hb : m.get b = some (.cells wc true)) (w : ByteArray) (hw : cellsAt wc (0 + 3 * 1) 1 = some [.str w]) (hnw : 3 < nw) (x : Int) (hf : run A N 42 [.str w] m = some (.tup [.int .i64 x, .nili], m)) (v : AV) (hv : v = .int .i64 x) (hk7 : ¬ k3 = 7) (hk8 : ¬ k3 = 8) :
    ∃ T' L', codeEv (run A N) again a15_B1 ⟨119, T, L, m⟩ = some (.norm, ⟨119, T', L', m.set B (.cells [o, x1, x2, v] true)⟩) ∧ lookL L' 2 = some cs ∧ lookL L' 8 = some [.ptr B 1, .ptr B 2, .ptr B 3] ∧ keepT [0, 2, 4, 5, 8, 60, 61] [2, 8] T' = [(0, .str s), (2, .loc 2 0), (4, .slice b 0 nw (some nw) 1), (5, .ptr B 0), (8, .loc 8 0), (60, .agg [.int .i64 k1, .int .i64 k2, .int .i64 k3]), (61, .int .i64 3)] := by
  subst hv
  have h' : ¬ ((3 : Int) ≥ (nw : Int)) := by omega
  have h'' : (3 : Int) < (nw : Int) := by omega
  unfold a15_B1 a15_R7
  exact ⟨_, _, by simp only [codeEv, opsEv, oneEv, guardEv, opE_mov, opE_load1, opE_store, opE_bin, opE_eq, opE_iaddrL, opE_ext, opE_call, opE_lenL, lenR_slice, elemR_slice, St.opd, look_set, look_nil, look_cons, St.put, St.read, St.write, lookL_nil, lookL_cons, cellsAt_cons, splice, bin_ilt, bin_ige, bin_ieq, in_int, in_str, in_ptr, in_slice, in_agg, in_loc, List.contains_cons, List.contains_nil, one_int, cells_int, loc_str, callWith, keepL, List.append_nil, List.map, List.length, List.take, List.drop, List.all, List.any, List.cons_append, List.nil_append, List.take_succ_cons, List.drop_succ_cons, List.getElem?_cons_succ, List.getElem?_cons_zero, Option.map_some, Nat.reduceEqDiff, Int.reduceLT, Int.reduceLE, Nat.reduceAdd, Nat.reduceLeDiff, Nat.reduceLT, Nat.reduceMul, if_true, if_false, Bool.and_true, Bool.or_true, Bool.or_false, Bool.true_or, Bool.not_true, Bool.not_false, List.isEmpty_cons, beq_self_eq_true, Bool.false_eq_true, Nat.succ_ne_self, decide_true, decide_false, keepT_setT, List.take_succ_cons, Int.reduceToNat, and_self, n3, in_nili, nil_ne2, opE_idxA, opE_iaddrA, iaR_loc, opE_nilck, nilR_ptr, ad2, hk, hL, hL8, h', h'', hb, hB, hw, hf, hk7, hk8]; rfl, by simp only [lookL_cons, Nat.reduceEqDiff, if_true, if_false], by simp only [lookL_cons, Nat.reduceEqDiff, if_true, if_false], by simp only [keepT, List.map, look_set, look_cons, in_int, in_str, in_ptr, in_slice, in_agg, in_loc, Nat.reduceEqDiff, if_true, if_false, List.contains_cons, List.contains_nil, beq_self_eq_true, Bool.or_false, Bool.true_or, Bool.or_true]⟩
theorem b15_bad2 (N : Nat) (again : AC → St → Option (Ex × St)) (s : ByteArray) (b B nw : Nat) (k1 k2 k3 : Int) (wc : List AV) (m : Mem) (cs : List AV) (T : List (Nat × AV)) (L : List (Nat × List AV)) (hL : lookL L 2 = some cs) (hL8 : lookL L 8 = some [.ptr B 1, .ptr B 2, .ptr B 3]) (hk : keepT [0, 2, 4, 5, 8, 60, 61] [2, 8] T = [(0, .str s), (2, .loc 2 0), (4, .slice b 0 nw (some nw) 1), (5, .ptr B 0), (8, .loc 8 0), (60, .agg [.int .i64 k1, .int .i64 k2, .int .i64 k3]), (61, .int .i64 2)]) (o x1 x2 x3 : AV) (_hB : m.get B = some (.cells [o, x1, x2, x3] true)) (_h13 : 13 ≤ B) (hb : m.get b = some (.cells wc true)) (w : ByteArray) (hw : cellsAt wc (0 + 3 * 1) 1 = some [.str w]) (hnw : 3 < nw) (x : Int) (t : Nat) (hcs : cs.length = 4) (hf : run A N 42 [.str w] m = some (.tup [.int .i64 x, .iface t .unk], m)) (hk7 : ¬ k3 = 7) (hk8 : ¬ k3 = 8) :
    ∃ T' L', codeEv (run A N) again a15_B1 ⟨119, T, L, m⟩ = some (.ret, ⟨119, T', L', m⟩) ∧ lookL L' 2 = some [.int .i64 0, .int .i64 0, .int .i64 0, .int .i64 0] ∧ (look T' 2 = .loc 2 0 ∧ look T' 3 = .int .i64 11) := by
  match cs, hcs with
  | [c1, c2, c3, c4], _ =>
  have h' : ¬ ((3 : Int) ≥ (nw : Int)) := by omega
  have h'' : (3 : Int) < (nw : Int) := by omega
  unfold a15_B1 a15_R7
  exact ⟨_, _, by simp only [codeEv, opsEv, oneEv, guardEv, opE_mov, opE_load1, opE_store, opE_bin, opE_eq, opE_iaddrL, opE_ext, opE_call, opE_lenL, lenR_slice, elemR_slice, St.opd, look_set, look_nil, look_cons, St.put, St.read, St.write, lookL_nil, lookL_cons, splice, bin_ilt, bin_ige, bin_ieq, in_int, in_str, in_ptr, in_slice, in_agg, in_loc, List.contains_cons, List.contains_nil, loc_str, callWith, keepL, List.map, List.length, List.take, List.drop, List.any, List.take_succ_cons, List.drop_succ_cons, List.getElem?_cons_succ, List.getElem?_cons_zero, Option.map_some, Nat.reduceEqDiff, Int.reduceLT, Int.reduceLE, Nat.reduceAdd, Nat.reduceLeDiff, Nat.reduceLT, Nat.reduceMul, if_true, if_false, Bool.or_true, Bool.or_false, Bool.true_or, Bool.not_false, beq_self_eq_true, Bool.false_eq_true, Nat.succ_ne_self, decide_true, decide_false, keepT_setT, List.take_succ_cons, Int.reduceToNat, and_self, n3, in_iface, nil_ne1, opE_idxA, opE_iaddrA, opE_nilck, ad2, hk, hL, hL8, h', h'', hb, hw, hf, hk7, hk8]; rfl, by simp only [lookL_cons, setL_cons, if_true]; rfl, by simp only [look_cons, look_set, Nat.reduceEqDiff, if_true, if_false], by simp only [look_cons, look_set, Nat.reduceEqDiff, if_true, if_false]⟩
/-- The number that a word names. -/
def valW (k : Int) (w : ByteArray) : Option Int :=
  if k = 7 then some (findI signF w 20 1 : Int) else if k = 8 then some (findI unB w 4 1 : Int) else match Lib.atoiAll w.data.toList with
  | .ok v => some v
  | Lib.NumEnd.syntax => none
  | .range => none
theorem atoi_at (n : Nat) (w : ByteArray) (m : Mem) (h5 : ifaceAt m 5 = true) (h6 : ifaceAt m 6 = true) (hs : w.size ≤ 281474976710656) : (∀ v, Lib.atoiAll w.data.toList = .ok v → run A (n + 1) 42 [.str w] m = some (.tup [.int .i64 v, .nili], m)) ∧ ((∀ v, ¬ Lib.atoiAll w.data.toList = .ok v) → ∃ v, run A (n + 1) 42 [.str w] m = some (.tup [.int .i64 v, .iface 141 .unk], m)) := by
  rw [run_42]
  unfold fnEv a42 primFn
  dsimp only
  unfold atoiEv
  dsimp only
  rw [if_pos hs, if_pos h5, if_pos h6]
  cases hc : Lib.atoiAll w.data.toList
  · exact ⟨fun v h => (by cases h; rfl), fun h => absurd rfl (h _)⟩
  · exact ⟨fun v h => (by cases h), fun _ => ⟨_, rfl⟩⟩
  · exact ⟨fun v h => (by cases h), fun _ => ⟨_, rfl⟩⟩
theorem words_at {ws : List ByteArray} {i : Nat} {w : ByteArray} (h : ws[i]? = some w) : cellsAt (ws.map AV.str) (0 + i * 1) 1 = some [.str w] := by
  rw [Nat.zero_add, Nat.mul_one]
  exact cells_one (by rw [List.getElem?_map, h]; rfl)
theorem SB.if5 {B : Nat} {m m' : Mem} (h : SB B m m') (hB : 13 ≤ B) (h5 : ifaceAt m 5 = true) : ifaceAt m' 5 = true := by
  unfold ifaceAt at *
  rw [h.2 5 (by omega)]; exact h5
theorem SB.if6 {B : Nat} {m m' : Mem} (h : SB B m m') (hB : 13 ≤ B) (h6 : ifaceAt m 6 = true) : ifaceAt m' 6 = true := by
  unfold ifaceAt at *
  rw [h.2 6 (by omega)]; exact h6
/-- What stands while the numbers are read. -/
structure PW (m : Mem) (b B : Nat) (ws : List ByteArray) (o x1 x2 x3 : AV) : Prop where
  t : Tab2 m
  i5 : ifaceAt m 5 = true
  i6 : ifaceAt m 6 = true
  hb : m.get b = some (.cells (ws.map AV.str) true)
  hB : m.get B = some (.cells [o, x1, x2, x3] true)
  lt : B < m.n
  full : m.n ≤ 2 ^ depth
theorem PW.set {m : Mem} {b B : Nat} {ws : List ByteArray} {o x1 x2 x3 : AV} (h : PW m b B ws o x1 x2 x3) (h13 : 13 ≤ B) (hbB : b ≠ B) (o' y1 y2 y3 : AV) : PW (m.set B (.cells [o', y1, y2, y3] true)) b B ws o' y1 y2 y3 := by
  have s := SB.set B m (.cells [o', y1, y2, y3] true) h.full h.lt
  exact ⟨s.tab2 h.t h13, s.if5 h13 h.i5, s.if6 h13 h.i6, (s.2 b hbB).trans h.hb, Mem.get_set_same _ h.lt, h.lt, h.full⟩

theorem b15_val0 (N : Nat) (again : AC → St → Option (Ex × St)) (s : ByteArray) (b B nw : Nat) (k1 k2 k3 : Int) (ws : List ByteArray) (m : Mem) (cs : List AV) (T : List (Nat × AV)) (L : List (Nat × List AV)) (hL : lookL L 2 = some cs) (hL8 : lookL L 8 = some [.ptr B 1, .ptr B 2, .ptr B 3]) (hk : keepT [0, 2, 4, 5, 8, 60, 61] [2, 8] T = [(0, .str s), (2, .loc 2 0), (4, .slice b 0 nw (some nw) 1), (5, .ptr B 0), (8, .loc 8 0), (60, .agg [.int .i64 k1, .int .i64 k2, .int .i64 k3]), (61, .int .i64 0)]) (o x1 x2 x3 : AV) (hp : PW m b B ws o x1 x2 x3) (h13 : 13 ≤ B) (hN : 31 ≤ N) (w : ByteArray) (hw : ws[1]? = some w) (hs : w.size ≤ 281474976710656) (hnw : 1 < nw) (v : Int) (hv : valW k1 w = some v) :
    ∃ T' L', codeEv (run A N) again a15_B1 ⟨119, T, L, m⟩ = some (.norm, ⟨119, T', L', m.set B (.cells [o, .int .i64 v, x2, x3] true)⟩) ∧ lookL L' 2 = some cs ∧ lookL L' 8 = some [.ptr B 1, .ptr B 2, .ptr B 3] ∧ keepT [0, 2, 4, 5, 8, 60, 61] [2, 8] T' = [(0, .str s), (2, .loc 2 0), (4, .slice b 0 nw (some nw) 1), (5, .ptr B 0), (8, .loc 8 0), (60, .agg [.int .i64 k1, .int .i64 k2, .int .i64 k3]), (61, .int .i64 1)] := by
  have hw' := words_at hw
  unfold valW at hv
  by_cases h7 : k1 = 7
  · rw [if_pos h7] at hv
    cases hv
    exact b15_sign0 N again s b B nw k1 k2 k3 _ m cs T L hL hL8 hk o x1 x2 x3 hp.hB h13 hp.hb w hw' hnw hp.t.t hN _ rfl h7
  · by_cases h8 : k1 = 8
    · rw [if_neg h7, if_pos h8] at hv
      cases hv
      exact b15_un0 N again s b B nw k1 k2 k3 _ m cs T L hL hL8 hk o x1 x2 x3 hp.hB h13 hp.hb w hw' hnw hp.t.t hN _ rfl h8
    · rw [if_neg h7, if_neg h8] at hv
      split at hv
      · rename_i u hu
        cases hv
        have hf := (atoi_at (N - 1) w m hp.i5 hp.i6 hs).1 _ hu
        rw [show N - 1 + 1 = N by omega] at hf
        exact b15_num0 N again s b B nw k1 k2 k3 _ m cs T L hL hL8 hk o x1 x2 x3 hp.hB h13 hp.hb w hw' hnw v hf _ rfl h7 h8
      · cases hv
      · cases hv
theorem b15_none0 (N : Nat) (again : AC → St → Option (Ex × St)) (s : ByteArray) (b B nw : Nat) (k1 k2 k3 : Int) (ws : List ByteArray) (m : Mem) (cs : List AV) (T : List (Nat × AV)) (L : List (Nat × List AV)) (hL : lookL L 2 = some cs) (hL8 : lookL L 8 = some [.ptr B 1, .ptr B 2, .ptr B 3]) (hk : keepT [0, 2, 4, 5, 8, 60, 61] [2, 8] T = [(0, .str s), (2, .loc 2 0), (4, .slice b 0 nw (some nw) 1), (5, .ptr B 0), (8, .loc 8 0), (60, .agg [.int .i64 k1, .int .i64 k2, .int .i64 k3]), (61, .int .i64 0)]) (o x1 x2 x3 : AV) (hp : PW m b B ws o x1 x2 x3) (h13 : 13 ≤ B) (hN : 31 ≤ N) (w : ByteArray) (hw : ws[1]? = some w) (hs : w.size ≤ 281474976710656) (hnw : 1 < nw) (hcs : cs.length = 4) (hv : valW k1 w = none) :
    ∃ T' L', codeEv (run A N) again a15_B1 ⟨119, T, L, m⟩ = some (.ret, ⟨119, T', L', m⟩) ∧ lookL L' 2 = some [.int .i64 0, .int .i64 0, .int .i64 0, .int .i64 0] ∧ (look T' 2 = .loc 2 0 ∧ look T' 3 = .int .i64 11) := by
  have hw' := words_at hw
  unfold valW at hv
  by_cases h7 : k1 = 7
  · rw [if_pos h7] at hv; cases hv
  · by_cases h8 : k1 = 8
    · rw [if_neg h7, if_pos h8] at hv; cases hv
    · rw [if_neg h7, if_neg h8] at hv
      have hno : ∀ v, ¬ Lib.atoiAll w.data.toList = .ok v := fun v h => by rw [h] at hv; cases hv
      obtain ⟨x, hf⟩ := (atoi_at (N - 1) w m hp.i5 hp.i6 hs).2 hno
      rw [show N - 1 + 1 = N by omega] at hf
      exact b15_bad0 N again s b B nw k1 k2 k3 _ m cs T L hL hL8 hk o x1 x2 x3 hp.hB h13 hp.hb w hw' hnw x 141 hcs hf h7 h8

theorem b15_val1 (N : Nat) (again : AC → St → Option (Ex × St)) (s : ByteArray) (b B nw : Nat) (k1 k2 k3 : Int) (ws : List ByteArray) (m : Mem) (cs : List AV) (T : List (Nat × AV)) (L : List (Nat × List AV)) (hL : lookL L 2 = some cs) (hL8 : lookL L 8 = some [.ptr B 1, .ptr B 2, .ptr B 3]) (hk : keepT [0, 2, 4, 5, 8, 60, 61] [2, 8] T = [(0, .str s), (2, .loc 2 0), (4, .slice b 0 nw (some nw) 1), (5, .ptr B 0), (8, .loc 8 0), (60, .agg [.int .i64 k1, .int .i64 k2, .int .i64 k3]), (61, .int .i64 1)]) (o x1 x2 x3 : AV) (hp : PW m b B ws o x1 x2 x3) (h13 : 13 ≤ B) (hN : 31 ≤ N) (w : ByteArray) (hw : ws[2]? = some w) (hs : w.size ≤ 281474976710656) (hnw : 2 < nw) (v : Int) (hv : valW k2 w = some v) :
    ∃ T' L', codeEv (run A N) again a15_B1 ⟨119, T, L, m⟩ = some (.norm, ⟨119, T', L', m.set B (.cells [o, x1, .int .i64 v, x3] true)⟩) ∧ lookL L' 2 = some cs ∧ lookL L' 8 = some [.ptr B 1, .ptr B 2, .ptr B 3] ∧ keepT [0, 2, 4, 5, 8, 60, 61] [2, 8] T' = [(0, .str s), (2, .loc 2 0), (4, .slice b 0 nw (some nw) 1), (5, .ptr B 0), (8, .loc 8 0), (60, .agg [.int .i64 k1, .int .i64 k2, .int .i64 k3]), (61, .int .i64 2)] := by
  have hw' := words_at hw
  unfold valW at hv
  by_cases h7 : k2 = 7
  · rw [if_pos h7] at hv
    cases hv
    exact b15_sign1 N again s b B nw k1 k2 k3 _ m cs T L hL hL8 hk o x1 x2 x3 hp.hB h13 hp.hb w hw' hnw hp.t.t hN _ rfl h7
  · by_cases h8 : k2 = 8
    · rw [if_neg h7, if_pos h8] at hv
      cases hv
      exact b15_un1 N again s b B nw k1 k2 k3 _ m cs T L hL hL8 hk o x1 x2 x3 hp.hB h13 hp.hb w hw' hnw hp.t.t hN _ rfl h8
    · rw [if_neg h7, if_neg h8] at hv
      split at hv
      · rename_i u hu
        cases hv
        have hf := (atoi_at (N - 1) w m hp.i5 hp.i6 hs).1 _ hu
        rw [show N - 1 + 1 = N by omega] at hf
        exact b15_num1 N again s b B nw k1 k2 k3 _ m cs T L hL hL8 hk o x1 x2 x3 hp.hB h13 hp.hb w hw' hnw v hf _ rfl h7 h8
      · cases hv
      · cases hv
theorem b15_none1 (N : Nat) (again : AC → St → Option (Ex × St)) (s : ByteArray) (b B nw : Nat) (k1 k2 k3 : Int) (ws : List ByteArray) (m : Mem) (cs : List AV) (T : List (Nat × AV)) (L : List (Nat × List AV)) (hL : lookL L 2 = some cs) (hL8 : lookL L 8 = some [.ptr B 1, .ptr B 2, .ptr B 3]) (hk : keepT [0, 2, 4, 5, 8, 60, 61] [2, 8] T = [(0, .str s), (2, .loc 2 0), (4, .slice b 0 nw (some nw) 1), (5, .ptr B 0), (8, .loc 8 0), (60, .agg [.int .i64 k1, .int .i64 k2, .int .i64 k3]), (61, .int .i64 1)]) (o x1 x2 x3 : AV) (hp : PW m b B ws o x1 x2 x3) (h13 : 13 ≤ B) (hN : 31 ≤ N) (w : ByteArray) (hw : ws[2]? = some w) (hs : w.size ≤ 281474976710656) (hnw : 2 < nw) (hcs : cs.length = 4) (hv : valW k2 w = none) :
    ∃ T' L', codeEv (run A N) again a15_B1 ⟨119, T, L, m⟩ = some (.ret, ⟨119, T', L', m⟩) ∧ lookL L' 2 = some [.int .i64 0, .int .i64 0, .int .i64 0, .int .i64 0] ∧ (look T' 2 = .loc 2 0 ∧ look T' 3 = .int .i64 11) := by
  have hw' := words_at hw
  unfold valW at hv
  by_cases h7 : k2 = 7
  · rw [if_pos h7] at hv; cases hv
  · by_cases h8 : k2 = 8
    · rw [if_neg h7, if_pos h8] at hv; cases hv
    · rw [if_neg h7, if_neg h8] at hv
      have hno : ∀ v, ¬ Lib.atoiAll w.data.toList = .ok v := fun v h => by rw [h] at hv; cases hv
      obtain ⟨x, hf⟩ := (atoi_at (N - 1) w m hp.i5 hp.i6 hs).2 hno
      rw [show N - 1 + 1 = N by omega] at hf
      exact b15_bad1 N again s b B nw k1 k2 k3 _ m cs T L hL hL8 hk o x1 x2 x3 hp.hB h13 hp.hb w hw' hnw x 141 hcs hf h7 h8

theorem b15_val2 (N : Nat) (again : AC → St → Option (Ex × St)) (s : ByteArray) (b B nw : Nat) (k1 k2 k3 : Int) (ws : List ByteArray) (m : Mem) (cs : List AV) (T : List (Nat × AV)) (L : List (Nat × List AV)) (hL : lookL L 2 = some cs) (hL8 : lookL L 8 = some [.ptr B 1, .ptr B 2, .ptr B 3]) (hk : keepT [0, 2, 4, 5, 8, 60, 61] [2, 8] T = [(0, .str s), (2, .loc 2 0), (4, .slice b 0 nw (some nw) 1), (5, .ptr B 0), (8, .loc 8 0), (60, .agg [.int .i64 k1, .int .i64 k2, .int .i64 k3]), (61, .int .i64 2)]) (o x1 x2 x3 : AV) (hp : PW m b B ws o x1 x2 x3) (h13 : 13 ≤ B) (hN : 31 ≤ N) (w : ByteArray) (hw : ws[3]? = some w) (hs : w.size ≤ 281474976710656) (hnw : 3 < nw) (v : Int) (hv : valW k3 w = some v) :
    ∃ T' L', codeEv (run A N) again a15_B1 ⟨119, T, L, m⟩ = some (.norm, ⟨119, T', L', m.set B (.cells [o, x1, x2, .int .i64 v] true)⟩) ∧ lookL L' 2 = some cs ∧ lookL L' 8 = some [.ptr B 1, .ptr B 2, .ptr B 3] ∧ keepT [0, 2, 4, 5, 8, 60, 61] [2, 8] T' = [(0, .str s), (2, .loc 2 0), (4, .slice b 0 nw (some nw) 1), (5, .ptr B 0), (8, .loc 8 0), (60, .agg [.int .i64 k1, .int .i64 k2, .int .i64 k3]), (61, .int .i64 3)] := by
  have hw' := words_at hw
  unfold valW at hv
  by_cases h7 : k3 = 7
  · rw [if_pos h7] at hv
    cases hv
    exact b15_sign2 N again s b B nw k1 k2 k3 _ m cs T L hL hL8 hk o x1 x2 x3 hp.hB h13 hp.hb w hw' hnw hp.t.t hN _ rfl h7
  · by_cases h8 : k3 = 8
    · rw [if_neg h7, if_pos h8] at hv
      cases hv
      exact b15_un2 N again s b B nw k1 k2 k3 _ m cs T L hL hL8 hk o x1 x2 x3 hp.hB h13 hp.hb w hw' hnw hp.t.t hN _ rfl h8
    · rw [if_neg h7, if_neg h8] at hv
      split at hv
      · rename_i u hu
        cases hv
        have hf := (atoi_at (N - 1) w m hp.i5 hp.i6 hs).1 _ hu
        rw [show N - 1 + 1 = N by omega] at hf
        exact b15_num2 N again s b B nw k1 k2 k3 _ m cs T L hL hL8 hk o x1 x2 x3 hp.hB h13 hp.hb w hw' hnw v hf _ rfl h7 h8
      · cases hv
      · cases hv
theorem b15_none2 (N : Nat) (again : AC → St → Option (Ex × St)) (s : ByteArray) (b B nw : Nat) (k1 k2 k3 : Int) (ws : List ByteArray) (m : Mem) (cs : List AV) (T : List (Nat × AV)) (L : List (Nat × List AV)) (hL : lookL L 2 = some cs) (hL8 : lookL L 8 = some [.ptr B 1, .ptr B 2, .ptr B 3]) (hk : keepT [0, 2, 4, 5, 8, 60, 61] [2, 8] T = [(0, .str s), (2, .loc 2 0), (4, .slice b 0 nw (some nw) 1), (5, .ptr B 0), (8, .loc 8 0), (60, .agg [.int .i64 k1, .int .i64 k2, .int .i64 k3]), (61, .int .i64 2)]) (o x1 x2 x3 : AV) (hp : PW m b B ws o x1 x2 x3) (h13 : 13 ≤ B) (hN : 31 ≤ N) (w : ByteArray) (hw : ws[3]? = some w) (hs : w.size ≤ 281474976710656) (hnw : 3 < nw) (hcs : cs.length = 4) (hv : valW k3 w = none) :
    ∃ T' L', codeEv (run A N) again a15_B1 ⟨119, T, L, m⟩ = some (.ret, ⟨119, T', L', m⟩) ∧ lookL L' 2 = some [.int .i64 0, .int .i64 0, .int .i64 0, .int .i64 0] ∧ (look T' 2 = .loc 2 0 ∧ look T' 3 = .int .i64 11) := by
  have hw' := words_at hw
  unfold valW at hv
  by_cases h7 : k3 = 7
  · rw [if_pos h7] at hv; cases hv
  · by_cases h8 : k3 = 8
    · rw [if_neg h7, if_pos h8] at hv; cases hv
    · rw [if_neg h7, if_neg h8] at hv
      have hno : ∀ v, ¬ Lib.atoiAll w.data.toList = .ok v := fun v h => by rw [h] at hv; cases hv
      obtain ⟨x, hf⟩ := (atoi_at (N - 1) w m hp.i5 hp.i6 hs).2 hno
      rw [show N - 1 + 1 = N by omega] at hf
      exact b15_bad2 N again s b B nw k1 k2 k3 _ m cs T L hL hL8 hk o x1 x2 x3 hp.hB h13 hp.hb w hw' hnw x 141 hcs hf h7 h8

/-- The numbers that words name, one kind after the other; those that are not named are 0. -/
def vals : List Int → List ByteArray → Option (List Int)
  | [], _ => some []
  | ks, [] => some (ks.map fun _ => 0)
  | k :: ks, w :: ws => match valW k w with
    | some v => (vals ks ws).map (v :: ·)
    | none => none

theorem loop_vals3 (N : Nat) (s : ByteArray) (b B : Nat) (k1 k2 k3 : Int) (ws : List ByteArray) (m : Mem) (cs : List AV) (T : List (Nat × AV)) (L : List (Nat × List AV)) (hL : lookL L 2 = some cs) (hL8 : lookL L 8 = some [.ptr B 1, .ptr B 2, .ptr B 3]) (hk : keepT [0, 2, 4, 5, 8, 60, 61] [2, 8] T = [(0, .str s), (2, .loc 2 0), (4, .slice b 0 ws.length (some ws.length) 1), (5, .ptr B 0), (8, .loc 8 0), (60, .agg [.int .i64 k1, .int .i64 k2, .int .i64 k3]), (61, .int .i64 3)]) (o x1 x2 x3 : AV) (hp : PW m b B ws o (x1) (x2) (x3)) (_h13 : 13 ≤ B) (_hbB : b ≠ B) (_hN : 31 + 0 ≤ N) (_hs : ∀ w ∈ ws, w.size ≤ 281474976710656) (_hcs : cs.length = 4) {q : Option (Ex × St)} (hq : codeEv (run A N) (ev A N).2 a15_L1 ⟨119, T, L, m⟩ = q) :
    (∀ l, vals [] (ws.drop 4) = some l → ∃ T' L' m', q = some (.exit 2, ⟨119, T', L', m'⟩) ∧ lookL L' 2 = some cs ∧ keepT [0, 2, 5] [2] T' = [(0, .str s), (2, .loc 2 0), (5, .ptr B 0)] ∧ SB B m m' ∧ m'.get B = some (.cells ([o, x1, x2, x3] ++ l.map fun v => AV.int .i64 v) true)) ∧ (vals [] (ws.drop 4) = none → ∃ T' L' m', q = some (.ret, ⟨119, T', L', m'⟩) ∧ lookL L' 2 = some [.int .i64 0, .int .i64 0, .int .i64 0, .int .i64 0] ∧ (look T' 2 = .loc 2 0 ∧ look T' 3 = .int .i64 11) ∧ SB B m m') := by
  subst hq
  rw [a15_L1_step]
  obtain ⟨T', L', e1, e2, e3⟩ := b15_end N (ev A N).2 s b B ws.length k1 k2 k3 (ws.map AV.str) m cs T L hL hL8 hk
  rw [e1]
  refine ⟨fun l hl => ?_, fun h => by simp [vals] at h⟩
  simp only [vals, Option.some.injEq] at hl
  subst hl
  exact ⟨T', L', m, rfl, e2, e3, SB.refl B m, by simpa using hp.hB⟩

theorem loop_vals2 (N : Nat) (s : ByteArray) (b B : Nat) (k1 k2 k3 : Int) (ws : List ByteArray) (m : Mem) (cs : List AV) (T : List (Nat × AV)) (L : List (Nat × List AV)) (hL : lookL L 2 = some cs) (hL8 : lookL L 8 = some [.ptr B 1, .ptr B 2, .ptr B 3]) (hk : keepT [0, 2, 4, 5, 8, 60, 61] [2, 8] T = [(0, .str s), (2, .loc 2 0), (4, .slice b 0 ws.length (some ws.length) 1), (5, .ptr B 0), (8, .loc 8 0), (60, .agg [.int .i64 k1, .int .i64 k2, .int .i64 k3]), (61, .int .i64 2)]) (o x1 x2 : AV) (hp : PW m b B ws o (x1) (x2) (.int .i64 0)) (h13 : 13 ≤ B) (hbB : b ≠ B) (hN : 31 + 1 ≤ N) (hs : ∀ w ∈ ws, w.size ≤ 281474976710656) (hcs : cs.length = 4) {q : Option (Ex × St)} (hq : codeEv (run A N) (ev A N).2 a15_L1 ⟨119, T, L, m⟩ = q) :
    (∀ l, vals [k3] (ws.drop 3) = some l → ∃ T' L' m', q = some (.exit 2, ⟨119, T', L', m'⟩) ∧ lookL L' 2 = some cs ∧ keepT [0, 2, 5] [2] T' = [(0, .str s), (2, .loc 2 0), (5, .ptr B 0)] ∧ SB B m m' ∧ m'.get B = some (.cells ([o, x1, x2] ++ l.map fun v => AV.int .i64 v) true)) ∧ (vals [k3] (ws.drop 3) = none → ∃ T' L' m', q = some (.ret, ⟨119, T', L', m'⟩) ∧ lookL L' 2 = some [.int .i64 0, .int .i64 0, .int .i64 0, .int .i64 0] ∧ (look T' 2 = .loc 2 0 ∧ look T' 3 = .int .i64 11) ∧ SB B m m') := by
  subst hq
  rw [a15_L1_step]
  by_cases hn : ws.length ≤ 3
  · obtain ⟨T', L', e1, e2, e3⟩ := b15_few2 N (ev A N).2 s b B ws.length k1 k2 k3 (ws.map AV.str) m cs T L hL hL8 hk hn
    rw [e1]
    rw [List.drop_eq_nil_of_le hn]
    refine ⟨fun l hl => ?_, fun h => by simp [vals] at h⟩
    simp only [vals, List.map, Option.some.injEq] at hl
    subst hl
    exact ⟨T', L', m, rfl, e2, e3, SB.refl B m, by simpa using hp.hB⟩
  · obtain ⟨w, hw⟩ : ∃ w, ws[3]? = some w := ⟨_, List.getElem?_eq_getElem (by omega)⟩
    have hwm : w ∈ ws := List.mem_of_getElem? hw
    have hd : ws.drop 3 = w :: ws.drop 4 := by
      rw [List.drop_eq_getElem_cons (by omega)]
      rw [List.getElem?_eq_getElem (by omega)] at hw
      cases hw; rfl
    rw [hd]
    cases hv : valW k3 w with
    | none =>
      obtain ⟨T', L', e1, e2, e3⟩ := b15_none2 N (ev A N).2 s b B ws.length k1 k2 k3 ws m cs T L hL hL8 hk _ _ _ _ hp h13 (by omega) w hw (hs w hwm) (by omega) hcs hv
      rw [e1]
      simp only [vals, hv]
      exact ⟨fun l hl => (by cases hl), fun _ => ⟨T', L', m, rfl, e2, e3, SB.refl B m⟩⟩
    | some v =>
      obtain ⟨T1, L1, e1, e2, e3, e4⟩ := b15_val2 N (ev A N).2 s b B ws.length k1 k2 k3 ws m cs T L hL hL8 hk _ _ _ _ hp h13 (by omega) w hw (hs w hwm) (by omega) v hv
      have hs1 := SB.set B m (.cells [o, x1, x2, .int .i64 v] true) hp.full hp.lt
      obtain ⟨n, rfl⟩ : ∃ n, N = n + 1 := ⟨N - 1, by omega⟩
      obtain ⟨f1, f2⟩ := loop_vals3 n s b B k1 k2 k3 ws _ cs T1 L1 e2 e3 e4 o x1 x2 (.int .i64 v) (hp.set h13 hbB o (x1) (x2) (.int .i64 v)) h13 hbB (by omega) hs hcs rfl
      rw [e1]
      dsimp only
      rw [again_of]
      cases hr : vals [] (ws.drop 4) with
      | none =>
        have hvn : vals [k3] (w :: ws.drop 4) = none := by rw [vals, hv]; dsimp only; rw [hr]; rfl
        rw [hvn]
        obtain ⟨T', L', m', g1, g2, g3, g4⟩ := f2 hr
        exact ⟨fun l hl => (by cases hl), fun _ => ⟨T', L', m', g1, g2, g3, hs1.trans g4⟩⟩
      | some l0 =>
        have hvn : vals [k3] (w :: ws.drop 4) = some (v :: l0) := by rw [vals, hv]; dsimp only; rw [hr]; rfl
        rw [hvn]
        obtain ⟨T', L', m', g1, g2, g3, g4, g5⟩ := f1 l0 hr
        refine ⟨fun l hl => ?_, fun h => by cases h⟩
        simp only [Option.some.injEq] at hl
        subst hl
        exact ⟨T', L', m', g1, g2, g3, hs1.trans g4, by simpa using g5⟩

theorem loop_vals1 (N : Nat) (s : ByteArray) (b B : Nat) (k1 k2 k3 : Int) (ws : List ByteArray) (m : Mem) (cs : List AV) (T : List (Nat × AV)) (L : List (Nat × List AV)) (hL : lookL L 2 = some cs) (hL8 : lookL L 8 = some [.ptr B 1, .ptr B 2, .ptr B 3]) (hk : keepT [0, 2, 4, 5, 8, 60, 61] [2, 8] T = [(0, .str s), (2, .loc 2 0), (4, .slice b 0 ws.length (some ws.length) 1), (5, .ptr B 0), (8, .loc 8 0), (60, .agg [.int .i64 k1, .int .i64 k2, .int .i64 k3]), (61, .int .i64 1)]) (o x1 : AV) (hp : PW m b B ws o (x1) (.int .i64 0) (.int .i64 0)) (h13 : 13 ≤ B) (hbB : b ≠ B) (hN : 31 + 2 ≤ N) (hs : ∀ w ∈ ws, w.size ≤ 281474976710656) (hcs : cs.length = 4) {q : Option (Ex × St)} (hq : codeEv (run A N) (ev A N).2 a15_L1 ⟨119, T, L, m⟩ = q) :
    (∀ l, vals [k2, k3] (ws.drop 2) = some l → ∃ T' L' m', q = some (.exit 2, ⟨119, T', L', m'⟩) ∧ lookL L' 2 = some cs ∧ keepT [0, 2, 5] [2] T' = [(0, .str s), (2, .loc 2 0), (5, .ptr B 0)] ∧ SB B m m' ∧ m'.get B = some (.cells ([o, x1] ++ l.map fun v => AV.int .i64 v) true)) ∧ (vals [k2, k3] (ws.drop 2) = none → ∃ T' L' m', q = some (.ret, ⟨119, T', L', m'⟩) ∧ lookL L' 2 = some [.int .i64 0, .int .i64 0, .int .i64 0, .int .i64 0] ∧ (look T' 2 = .loc 2 0 ∧ look T' 3 = .int .i64 11) ∧ SB B m m') := by
  subst hq
  rw [a15_L1_step]
  by_cases hn : ws.length ≤ 2
  · obtain ⟨T', L', e1, e2, e3⟩ := b15_few1 N (ev A N).2 s b B ws.length k1 k2 k3 (ws.map AV.str) m cs T L hL hL8 hk hn
    rw [e1]
    rw [List.drop_eq_nil_of_le hn]
    refine ⟨fun l hl => ?_, fun h => by simp [vals] at h⟩
    simp only [vals, List.map, Option.some.injEq] at hl
    subst hl
    exact ⟨T', L', m, rfl, e2, e3, SB.refl B m, by simpa using hp.hB⟩
  · obtain ⟨w, hw⟩ : ∃ w, ws[2]? = some w := ⟨_, List.getElem?_eq_getElem (by omega)⟩
    have hwm : w ∈ ws := List.mem_of_getElem? hw
    have hd : ws.drop 2 = w :: ws.drop 3 := by
      rw [List.drop_eq_getElem_cons (by omega)]
      rw [List.getElem?_eq_getElem (by omega)] at hw
      cases hw; rfl
    rw [hd]
    cases hv : valW k2 w with
    | none =>
      obtain ⟨T', L', e1, e2, e3⟩ := b15_none1 N (ev A N).2 s b B ws.length k1 k2 k3 ws m cs T L hL hL8 hk _ _ _ _ hp h13 (by omega) w hw (hs w hwm) (by omega) hcs hv
      rw [e1]
      simp only [vals, hv]
      exact ⟨fun l hl => (by cases hl), fun _ => ⟨T', L', m, rfl, e2, e3, SB.refl B m⟩⟩
    | some v =>
      obtain ⟨T1, L1, e1, e2, e3, e4⟩ := b15_val1 N (ev A N).2 s b B ws.length k1 k2 k3 ws m cs T L hL hL8 hk _ _ _ _ hp h13 (by omega) w hw (hs w hwm) (by omega) v hv
      have hs1 := SB.set B m (.cells [o, x1, .int .i64 v, .int .i64 0] true) hp.full hp.lt
      obtain ⟨n, rfl⟩ : ∃ n, N = n + 1 := ⟨N - 1, by omega⟩
      obtain ⟨f1, f2⟩ := loop_vals2 n s b B k1 k2 k3 ws _ cs T1 L1 e2 e3 e4 o x1 (.int .i64 v) (hp.set h13 hbB o (x1) (.int .i64 v) (.int .i64 0)) h13 hbB (by omega) hs hcs rfl
      rw [e1]
      dsimp only
      rw [again_of]
      cases hr : vals [k3] (ws.drop 3) with
      | none =>
        have hvn : vals [k2, k3] (w :: ws.drop 3) = none := by rw [vals, hv]; dsimp only; rw [hr]; rfl
        rw [hvn]
        obtain ⟨T', L', m', g1, g2, g3, g4⟩ := f2 hr
        exact ⟨fun l hl => (by cases hl), fun _ => ⟨T', L', m', g1, g2, g3, hs1.trans g4⟩⟩
      | some l0 =>
        have hvn : vals [k2, k3] (w :: ws.drop 3) = some (v :: l0) := by rw [vals, hv]; dsimp only; rw [hr]; rfl
        rw [hvn]
        obtain ⟨T', L', m', g1, g2, g3, g4, g5⟩ := f1 l0 hr
        refine ⟨fun l hl => ?_, fun h => by cases h⟩
        simp only [Option.some.injEq] at hl
        subst hl
        exact ⟨T', L', m', g1, g2, g3, hs1.trans g4, by simpa using g5⟩

theorem loop_vals0 (N : Nat) (s : ByteArray) (b B : Nat) (k1 k2 k3 : Int) (ws : List ByteArray) (m : Mem) (cs : List AV) (T : List (Nat × AV)) (L : List (Nat × List AV)) (hL : lookL L 2 = some cs) (hL8 : lookL L 8 = some [.ptr B 1, .ptr B 2, .ptr B 3]) (hk : keepT [0, 2, 4, 5, 8, 60, 61] [2, 8] T = [(0, .str s), (2, .loc 2 0), (4, .slice b 0 ws.length (some ws.length) 1), (5, .ptr B 0), (8, .loc 8 0), (60, .agg [.int .i64 k1, .int .i64 k2, .int .i64 k3]), (61, .int .i64 0)]) (o  : AV) (hp : PW m b B ws o (.int .i64 0) (.int .i64 0) (.int .i64 0)) (h13 : 13 ≤ B) (hbB : b ≠ B) (hN : 31 + 3 ≤ N) (hs : ∀ w ∈ ws, w.size ≤ 281474976710656) (hcs : cs.length = 4) {q : Option (Ex × St)} (hq : codeEv (run A N) (ev A N).2 a15_L1 ⟨119, T, L, m⟩ = q) :
    (∀ l, vals [k1, k2, k3] (ws.drop 1) = some l → ∃ T' L' m', q = some (.exit 2, ⟨119, T', L', m'⟩) ∧ lookL L' 2 = some cs ∧ keepT [0, 2, 5] [2] T' = [(0, .str s), (2, .loc 2 0), (5, .ptr B 0)] ∧ SB B m m' ∧ m'.get B = some (.cells ([o] ++ l.map fun v => AV.int .i64 v) true)) ∧ (vals [k1, k2, k3] (ws.drop 1) = none → ∃ T' L' m', q = some (.ret, ⟨119, T', L', m'⟩) ∧ lookL L' 2 = some [.int .i64 0, .int .i64 0, .int .i64 0, .int .i64 0] ∧ (look T' 2 = .loc 2 0 ∧ look T' 3 = .int .i64 11) ∧ SB B m m') := by
  subst hq
  rw [a15_L1_step]
  by_cases hn : ws.length ≤ 1
  · obtain ⟨T', L', e1, e2, e3⟩ := b15_few0 N (ev A N).2 s b B ws.length k1 k2 k3 (ws.map AV.str) m cs T L hL hL8 hk hn
    rw [e1]
    rw [List.drop_eq_nil_of_le hn]
    refine ⟨fun l hl => ?_, fun h => by simp [vals] at h⟩
    simp only [vals, List.map, Option.some.injEq] at hl
    subst hl
    exact ⟨T', L', m, rfl, e2, e3, SB.refl B m, by simpa using hp.hB⟩
  · obtain ⟨w, hw⟩ : ∃ w, ws[1]? = some w := ⟨_, List.getElem?_eq_getElem (by omega)⟩
    have hwm : w ∈ ws := List.mem_of_getElem? hw
    have hd : ws.drop 1 = w :: ws.drop 2 := by
      rw [List.drop_eq_getElem_cons (by omega)]
      rw [List.getElem?_eq_getElem (by omega)] at hw
      cases hw; rfl
    rw [hd]
    cases hv : valW k1 w with
    | none =>
      obtain ⟨T', L', e1, e2, e3⟩ := b15_none0 N (ev A N).2 s b B ws.length k1 k2 k3 ws m cs T L hL hL8 hk _ _ _ _ hp h13 (by omega) w hw (hs w hwm) (by omega) hcs hv
      rw [e1]
      simp only [vals, hv]
      exact ⟨fun l hl => (by cases hl), fun _ => ⟨T', L', m, rfl, e2, e3, SB.refl B m⟩⟩
    | some v =>
      obtain ⟨T1, L1, e1, e2, e3, e4⟩ := b15_val0 N (ev A N).2 s b B ws.length k1 k2 k3 ws m cs T L hL hL8 hk _ _ _ _ hp h13 (by omega) w hw (hs w hwm) (by omega) v hv
      have hs1 := SB.set B m (.cells [o, .int .i64 v, .int .i64 0, .int .i64 0] true) hp.full hp.lt
      obtain ⟨n, rfl⟩ : ∃ n, N = n + 1 := ⟨N - 1, by omega⟩
      obtain ⟨f1, f2⟩ := loop_vals1 n s b B k1 k2 k3 ws _ cs T1 L1 e2 e3 e4 o  (.int .i64 v) (hp.set h13 hbB o (.int .i64 v) (.int .i64 0) (.int .i64 0)) h13 hbB (by omega) hs hcs rfl
      rw [e1]
      dsimp only
      rw [again_of]
      cases hr : vals [k2, k3] (ws.drop 2) with
      | none =>
        have hvn : vals [k1, k2, k3] (w :: ws.drop 2) = none := by rw [vals, hv]; dsimp only; rw [hr]; rfl
        rw [hvn]
        obtain ⟨T', L', m', g1, g2, g3, g4⟩ := f2 hr
        exact ⟨fun l hl => (by cases hl), fun _ => ⟨T', L', m', g1, g2, g3, hs1.trans g4⟩⟩
      | some l0 =>
        have hvn : vals [k1, k2, k3] (w :: ws.drop 2) = some (v :: l0) := by rw [vals, hv]; dsimp only; rw [hr]; rfl
        rw [hvn]
        obtain ⟨T', L', m', g1, g2, g3, g4, g5⟩ := f1 l0 hr
        refine ⟨fun l hl => ?_, fun h => by cases h⟩
        simp only [Option.some.injEq] at hl
        subst hl
        exact ⟨T', L', m', g1, g2, g3, hs1.trans g4, by simpa using g5⟩
end AG
