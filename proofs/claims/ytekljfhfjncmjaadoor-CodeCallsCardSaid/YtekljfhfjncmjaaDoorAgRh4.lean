/- What the functions of instructions and their texts compute, and the laws of that. -/
import Derived.Test.YtekljfhfjncmjaaDoorAgRh3
namespace AG
open Go Go.Proofs.YtekljfhfjncmjaaDoor
set_option maxRecDepth 100000
set_option maxHeartbeats 4000000
/-- At most k blocks are new, and of the old ones only B may have turned. -/
def GB (B : Nat) (m m' : Mem) (k : Nat) : Prop := m.n ≤ m'.n ∧ m'.n ≤ m.n + k ∧ ∀ i, i ≠ B → i < m.n → m'.get i = m.get i
theorem GB.refl (B : Nat) (m : Mem) : GB B m m 0 := ⟨Nat.le_refl _, Nat.le_refl _, fun _ _ _ => rfl⟩
theorem GB.trans {B : Nat} {a b c : Mem} {j k : Nat} (h : GB B a b j) (i : GB B b c k) : GB B a c (j + k) := ⟨by have := h.1; have := i.1; omega, by have := h.2.1; have := i.2.1; omega, fun x hx hl => (i.2.2 x hx (by have := h.1; omega)).trans (h.2.2 x hx hl)⟩
theorem GB.le {B : Nat} {a b : Mem} {j k : Nat} (h : GB B a b j) (hk : j ≤ k) : GB B a b k := ⟨h.1, by have := h.2.1; omega, h.2.2⟩
theorem GB.of {a b : Mem} {k : Nat} (B : Nat) (h : Gr a b k) : GB B a b k := ⟨h.1.1, h.2, fun i _ hi => h.1.2 i hi⟩
theorem GB.set (B : Nat) (m : Mem) (x : ABlk) (hm : m.n ≤ 2 ^ depth) (hB : B < m.n) : GB B m (m.set B x) 0 := ⟨Nat.le_refl _, Nat.le_refl _, fun _i hi _ => Mem.get_set_ne x hm hB (fun h => hi h.symm)⟩
theorem GB.tab2 {B : Nat} {m m' : Mem} {k : Nat} (h : GB B m m' k) (hT : Tab2 m) (hB : 13 ≤ B) (hn : 13 ≤ m.n) : Tab2 m' := ⟨⟨(h.2.2 0 (by omega) (by omega)).trans hT.t.k, (h.2.2 2 (by omega) (by omega)).trans hT.t.s, (h.2.2 12 (by omega) (by omega)).trans hT.t.t⟩, (h.2.2 7 (by omega) (by omega)).trans hT.p⟩
theorem GB.gr {B : Nat} {a m m' : Mem} {j k : Nat} (ha : Gr a m j) (h : GB B m m' k) (hB : a.n ≤ B) : Gr a m' (j + k) := ⟨⟨by have := ha.1.1; have := h.1; omega, fun i hi => (h.2.2 i (by omega) (by have := ha.1.1; omega)).trans (ha.1.2 i hi)⟩, by have := ha.2; have := h.2.1; omega⟩
theorem same_cell {m m' : Mem} {b o : Nat} {c : List AV} {ow ow' : Bool} {v : AV} (h : m.get b = some (.cells c ow)) (h' : m'.get b = some (.cells c ow')) (hr : cellsAt c o 1 = some [v]) (hv : eqV 4 v v = true) : sameRead m m' (.ptr b o) 1 = true := by
  unfold sameRead
  simp only [h, h', hr, eqL, hv, Bool.and_self]
theorem eqV_str (n : Nat) (x : ByteArray) : eqV (n + 1) (.str x) (.str x) = true := by simp [eqV]
theorem eqV_ptr (n b o : Nat) : eqV (n + 1) (.ptr b o) (.ptr b o) = true := by simp [eqV]
theorem lg20a {m m' : Mem} {x : AV} (h : sameRead m m' x 1 = true) : logOk [.eff m m', .rw x 1 false] = true := by
  simp only [logOk, List.all, accFit, h, Bool.and_self, beq_self_eq_true, Bool.true_or]
theorem lg20b {m m' : Mem} {x : AV} (h : sameRead m m' x 1 = true) : logOk [.rw x 1 false, .eff m m'] = true := by
  simp only [logOk, List.all, accFit, h, Bool.and_self, beq_self_eq_true, Bool.true_or]

theorem r20_end (N : Nat) (hN : 1 ≤ N) (again : AC → St → Option (Ex × St)) (s : ByteArray) (b B nw : Nat) (cap : Option Nat) (m : Mem) (hmn : m.n + 2 ≤ 2 ^ depth) (cs : List AV) (T : List (Nat × AV)) (L : List (Nat × List AV)) (hL : lookL L 2 = some cs) (hk : keepT [0, 2, 4, 5, 6] [2] T = [(0, .str s), (2, .loc 2 0), (4, .slice b 0 nw cap 1), (5, .ptr B 0), (6, .int .i64 ((24 : Nat) : Int))]) :
    ∃ T' L', codeEv (run A N) again a20_B2 ⟨72, T, L, m⟩ = some (.exit 0, ⟨72, T', L', m.push (.cells namesL true)⟩) ∧ lookL L' 2 = some cs ∧ keepT [0, 2, 4, 5] [2] T' = [(0, .str s), (2, .loc 2 0), (4, .slice b 0 nw cap 1), (5, .ptr B 0)] := by
  have c1 := rnames_run N hN m (by omega)
  have h' : ¬ ((24 : Nat) : Int) < ((24 : Nat) : Int) := by omega
  unfold a20_B2
  exact ⟨_, _, by simp only [codeEv, opsEv, oneEv, guardEv, opE_mov, opE_bin, opE_call, opE_lenL, lenR_slice, St.opd, look_set, look_nil, look_cons, St.put, bin_ilt, callWith, keepL, List.map, List.any, Option.map_some, Nat.reduceEqDiff, Nat.reduceLT, if_true, if_false, Bool.false_eq_true, Nat.succ_ne_self, decide_false, hk, hL, c1, h']; rfl, by simp only [lookL_cons, if_true], by simp only [keepT, List.map, look_set, look_cons, in_str, in_ptr, in_slice, in_loc, Nat.reduceEqDiff, if_true, if_false, List.contains_cons, List.contains_nil, beq_self_eq_true, Bool.or_false]⟩
theorem r20_hit (N : Nat) (hN : 1 ≤ N) (again : AC → St → Option (Ex × St)) (s w0 : ByteArray) (b B nw j : Nat) (cap : Option Nat) (hw : 0 < nw) (wc : List AV) (m : Mem) (hmn : m.n + 2 ≤ 2 ^ depth) (hb : m.get b = some (.cells wc true)) (hw0 : cellsAt wc 0 1 = some [.str w0]) (x y z o : AV) (hB : m.get B = some (.cells [o, x, y, z] true)) (cs : List AV) (T : List (Nat × AV)) (L : List (Nat × List AV)) (hL : lookL L 2 = some cs) (hk : keepT [0, 2, 4, 5, 6] [2] T = [(0, .str s), (2, .loc 2 0), (4, .slice b 0 nw cap 1), (5, .ptr B 0), (6, .int .i64 (j : Int))]) (hj : j < 24) (he : ((nameB (j + 1)).toList == w0.toList) = true) :
    ∃ T' L' m', codeEv (run A N) again a20_B2 ⟨72, T, L, m⟩ = some (.norm, ⟨72, T', L', m'⟩) ∧ lookL L' 2 = some cs ∧ keepT [0, 2, 4, 5, 6] [2] T' = [(0, .str s), (2, .loc 2 0), (4, .slice b 0 nw cap 1), (5, .ptr B 0), (6, .int .i64 ((j + 1 : Nat) : Int))] ∧ GB B m m' 2 ∧ m'.get B = some (.cells [.int .i64 ((j + 1 : Nat) : Int), x, y, z] true) := by
  have c1 := rnames_run N hN m (by omega)
  have c2 := rnames_run N hN (m.push (.cells namesL true)) (by rw [push_n]; omega)
  have hf1 : m.full = false := not_full (by omega)
  have hf2 : (m.push (.cells namesL true)).full = false := not_full (by rw [push_n]; omega)
  have hbl := Mem.get_lt hb
  have hBl := Mem.get_lt hB
  have hb1 : (m.push (.cells namesL true)).get b = some (.cells wc true) := (Mem.get_push_old _ hf1 (by omega)).trans hb
  have hb2 : ((m.push (.cells namesL true)).push (.cells namesL true)).get b = some (.cells wc true) := (Mem.get_push_old _ hf2 (by rw [push_n]; omega)).trans hb1
  have hB2 : ((m.push (.cells namesL true)).push (.cells namesL true)).get B = some (.cells [o, x, y, z] true) := (Mem.get_push_old _ hf2 (by rw [push_n]; omega)).trans ((Mem.get_push_old _ hf1 (by omega)).trans hB)
  have hg : ((m.push (.cells namesL true)).push (.cells namesL true)).get (m.push (.cells namesL true)).n = some (.cells namesL true) := Mem.get_push_new _
  have h' : (j : Int) < ((24 : Nat) : Int) := by omega
  have h'' : 0 ≤ (j : Int) := by omega
  have hw' : (0 : Int) < (nw : Int) := by omega
  have hn : cellsAt namesL (0 + j * 1) 1 = some [.str (nameB (j + 1))] := by
    rw [Nat.zero_add, Nat.mul_one]
    exact cells_one (names_at j hj)
  have a1 := add_i j (by omega)
  have hlg := lg20a (same_cell hb1 hb2 hw0 (eqV_str 3 w0))
  have hm2 : m.n < 2 ^ depth := by omega
  have gb : GB B m (((m.push (.cells namesL true)).push (.cells namesL true)).set B (.cells [.int .i64 ((j + 1 : Nat) : Int), x, y, z] true)) 2 := ((GB.of B ((Gr.push m _ hm2).trans (Gr.push _ (.cells namesL true) (by rw [push_n]; omega)))).trans (GB.set B _ _ (by rw [push_n, push_n]; omega) (by rw [push_n, push_n]; omega))).le (by omega)
  unfold a20_B2
  exact ⟨_, _, ((m.push (.cells namesL true)).push (.cells namesL true)).set B (.cells [.int .i64 ((j + 1 : Nat) : Int), x, y, z] true), by simp only [codeEv, opsEv, oneEv, guardEv, opE_mov, opE_load1, opE_store, opE_bin, opE_faddr, opE_iaddrL, opE_call, opE_lenL, lenR_slice, elemR_slice, St.opd, look_set, look_nil, look_cons, St.put, St.read, St.write, lookL_nil, lookL_cons, splice, bin_ilt, in_int, in_str, in_ptr, in_slice, in_loc, List.contains_cons, List.contains_nil, one_int, cells_int, callWith, keepL, careEv, dOneEv, dOpsEv, accOf, accEv, Option.toList_some, List.append_nil, List.map, List.length, List.take, List.drop, List.all, List.any, List.cons_append, List.nil_append, List.drop_succ_cons, Option.map_some, Nat.reduceEqDiff, Int.reduceLE, Nat.reduceAdd, Nat.reduceLeDiff, Nat.reduceLT, if_true, if_false, Bool.and_true, Bool.and_false, Bool.or_false, Bool.not_true, Bool.not_false, List.isEmpty_cons, beq_self_eq_true, Bool.false_eq_true, Nat.succ_ne_self, decide_true, keepT_setT, and_self, Int.toNat_zero, Nat.zero_mul, str_eqg, AOp.kd, kd_rm, Int.toNat_natCast, str_eqg, hk, hL, c1, c2, hg, h', h'', hw', hn, hb2, hB2, hw0, he, a1, hlg]; rfl, by simp only [lookL_cons, if_true], by simp only [keepT, List.map, look_set, look_cons, in_int, in_str, in_ptr, in_slice, in_loc, Nat.reduceEqDiff, if_true, if_false, List.contains_cons, List.contains_nil, beq_self_eq_true, Bool.or_false], gb, Mem.get_set_same _ (by rw [push_n, push_n]; omega)⟩
theorem r20_more (N : Nat) (hN : 1 ≤ N) (again : AC → St → Option (Ex × St)) (s w0 : ByteArray) (b B nw j : Nat) (cap : Option Nat) (hw : 0 < nw) (wc : List AV) (m : Mem) (hmn : m.n + 2 ≤ 2 ^ depth) (hb : m.get b = some (.cells wc true)) (hw0 : cellsAt wc 0 1 = some [.str w0]) (x y z o : AV) (hB : m.get B = some (.cells [o, x, y, z] true)) (cs : List AV) (T : List (Nat × AV)) (L : List (Nat × List AV)) (hL : lookL L 2 = some cs) (hk : keepT [0, 2, 4, 5, 6] [2] T = [(0, .str s), (2, .loc 2 0), (4, .slice b 0 nw cap 1), (5, .ptr B 0), (6, .int .i64 (j : Int))]) (hj : j < 24) (he : ((nameB (j + 1)).toList == w0.toList) = false) :
    ∃ T' L' m', codeEv (run A N) again a20_B2 ⟨72, T, L, m⟩ = some (.norm, ⟨72, T', L', m'⟩) ∧ lookL L' 2 = some cs ∧ keepT [0, 2, 4, 5, 6] [2] T' = [(0, .str s), (2, .loc 2 0), (4, .slice b 0 nw cap 1), (5, .ptr B 0), (6, .int .i64 ((j + 1 : Nat) : Int))] ∧ GB B m m' 2 ∧ m'.get B = some (.cells [o, x, y, z] true) := by
  have c1 := rnames_run N hN m (by omega)
  have c2 := rnames_run N hN (m.push (.cells namesL true)) (by rw [push_n]; omega)
  have hf1 : m.full = false := not_full (by omega)
  have hf2 : (m.push (.cells namesL true)).full = false := not_full (by rw [push_n]; omega)
  have hbl := Mem.get_lt hb
  have hBl := Mem.get_lt hB
  have hb1 : (m.push (.cells namesL true)).get b = some (.cells wc true) := (Mem.get_push_old _ hf1 (by omega)).trans hb
  have hb2 : ((m.push (.cells namesL true)).push (.cells namesL true)).get b = some (.cells wc true) := (Mem.get_push_old _ hf2 (by rw [push_n]; omega)).trans hb1
  have hB2 : ((m.push (.cells namesL true)).push (.cells namesL true)).get B = some (.cells [o, x, y, z] true) := (Mem.get_push_old _ hf2 (by rw [push_n]; omega)).trans ((Mem.get_push_old _ hf1 (by omega)).trans hB)
  have hg : ((m.push (.cells namesL true)).push (.cells namesL true)).get (m.push (.cells namesL true)).n = some (.cells namesL true) := Mem.get_push_new _
  have h' : (j : Int) < ((24 : Nat) : Int) := by omega
  have h'' : 0 ≤ (j : Int) := by omega
  have hw' : (0 : Int) < (nw : Int) := by omega
  have hn : cellsAt namesL (0 + j * 1) 1 = some [.str (nameB (j + 1))] := by
    rw [Nat.zero_add, Nat.mul_one]
    exact cells_one (names_at j hj)
  have a1 := add_i j (by omega)
  have hlg := lg20a (same_cell hb1 hb2 hw0 (eqV_str 3 w0))
  have hm2 : m.n < 2 ^ depth := by omega
  have gb : GB B m ((m.push (.cells namesL true)).push (.cells namesL true)) 2 := (GB.of B ((Gr.push m _ hm2).trans (Gr.push _ (.cells namesL true) (by rw [push_n]; omega)))).le (by omega)
  unfold a20_B2
  exact ⟨_, _, (m.push (.cells namesL true)).push (.cells namesL true), by simp only [codeEv, opsEv, oneEv, guardEv, opE_mov, opE_load1, opE_store, opE_bin, opE_faddr, opE_iaddrL, opE_call, opE_lenL, lenR_slice, elemR_slice, St.opd, look_set, look_nil, look_cons, St.put, St.read, St.write, lookL_nil, lookL_cons, splice, bin_ilt, in_int, in_str, in_ptr, in_slice, in_loc, List.contains_cons, List.contains_nil, one_int, cells_int, callWith, keepL, careEv, dOneEv, dOpsEv, accOf, accEv, Option.toList_some, List.append_nil, List.map, List.length, List.take, List.drop, List.all, List.any, List.cons_append, List.nil_append, List.drop_succ_cons, Option.map_some, Nat.reduceEqDiff, Int.reduceLE, Nat.reduceAdd, Nat.reduceLeDiff, Nat.reduceLT, if_true, if_false, Bool.and_true, Bool.and_false, Bool.or_false, Bool.not_true, Bool.not_false, List.isEmpty_cons, beq_self_eq_true, Bool.false_eq_true, Nat.succ_ne_self, decide_true, keepT_setT, and_self, Int.toNat_zero, Nat.zero_mul, str_eqg, AOp.kd, kd_rm, Int.toNat_natCast, str_eqg, hk, hL, c1, c2, hg, h', h'', hw', hn, hb2, hB2, hw0, he, a1, hlg]; rfl, by simp only [lookL_cons, if_true], by simp only [keepT, List.map, look_set, look_cons, in_int, in_str, in_ptr, in_slice, in_loc, Nat.reduceEqDiff, if_true, if_false, List.contains_cons, List.contains_nil, beq_self_eq_true, Bool.or_false], gb, hB2⟩
theorem loop20 (s w0 : ByteArray) (b B nw : Nat) (cap : Option Nat) (hw : 0 < nw) (wc : List AV) (hw0 : cellsAt wc 0 1 = some [.str w0]) (x y z : AV) (cs : List AV) (hbB : b ≠ B) : ∀ (k j acc N : Nat) (m : Mem) (T : List (Nat × AV)) (L : List (Nat × List AV)), j + k = 24 → k + 1 ≤ N → m.n + 2 * k + 2 ≤ 2 ^ depth → m.get b = some (.cells wc true) → m.get B = some (.cells [.int .i64 (acc : Int), x, y, z] true) → lookL L 2 = some cs → keepT [0, 2, 4, 5, 6] [2] T = [(0, .str s), (2, .loc 2 0), (4, .slice b 0 nw cap 1), (5, .ptr B 0), (6, .int .i64 (j : Int))] →
    ∃ T' L' m', codeEv (run A N) (ev A N).2 a20_L2 ⟨72, T, L, m⟩ = some (.exit 0, ⟨72, T', L', m'⟩) ∧ lookL L' 2 = some cs ∧ keepT [0, 2, 4, 5] [2] T' = [(0, .str s), (2, .loc 2 0), (4, .slice b 0 nw cap 1), (5, .ptr B 0)] ∧ GB B m m' (2 * k + 1) ∧ m'.get B = some (.cells [.int .i64 (opOf w0 k (j + 1) acc : Int), x, y, z] true)
  | 0, j, acc, N, m, T, L, hjk, hN, hmn, hb, hB, hL, hk => by
    obtain rfl : j = 24 := by omega
    obtain ⟨T', L', e1, e2, e3⟩ := r20_end N (by omega) (ev A N).2 s b B nw cap m (by omega) cs T L hL hk
    have hBl := Mem.get_lt hB
    exact ⟨T', L', m.push (.cells namesL true), by rw [a20_L2_step, e1], e2, e3, GB.of B (Gr.push m _ (by omega)), (Mem.get_push_old _ (not_full (by omega)) (by omega)).trans hB⟩
  | k + 1, j, acc, N, m, T, L, hjk, hN, hmn, hb, hB, hL, hk => by
    obtain ⟨n, rfl⟩ : ∃ n, N = n + 1 := ⟨N - 1, by omega⟩
    have hbl := Mem.get_lt hb
    cases he : ((nameB (j + 1)).toList == w0.toList)
    · obtain ⟨T1, L1, m1, e1, e2, e3, e4, e5⟩ := r20_more (n + 1) (by omega) (ev A (n + 1)).2 s w0 b B nw j cap hw wc m (by omega) hb hw0 x y z _ hB cs T L hL hk (by omega) he
      obtain ⟨T', L', m', f1, f2, f3, f4, f5⟩ := loop20 s w0 b B nw cap hw wc hw0 x y z cs hbB k (j + 1) acc n m1 T1 L1 (by omega) (by omega) (by have := e4.2.1; omega) ((e4.2.2 b hbB hbl).trans hb) e5 e2 e3
      refine ⟨T', L', m', ?_, f2, f3, (e4.trans f4).le (by omega), by rw [f5, opOf, if_neg (by rw [he]; simp)]⟩
      rw [a20_L2_step, e1]
      dsimp only
      rw [again_of]
      exact f1
    · obtain ⟨T1, L1, m1, e1, e2, e3, e4, e5⟩ := r20_hit (n + 1) (by omega) (ev A (n + 1)).2 s w0 b B nw j cap hw wc m (by omega) hb hw0 x y z _ hB cs T L hL hk (by omega) he
      obtain ⟨T', L', m', f1, f2, f3, f4, f5⟩ := loop20 s w0 b B nw cap hw wc hw0 x y z cs hbB k (j + 1) (j + 1) n m1 T1 L1 (by omega) (by omega) (by have := e4.2.1; omega) ((e4.2.2 b hbB hbl).trans hb) e5 e2 e3
      refine ⟨T', L', m', ?_, f2, f3, (e4.trans f4).le (by omega), by rw [f5, opOf, if_pos he]⟩
      rw [a20_L2_step, e1]
      dsimp only
      rw [again_of]
      exact f1
theorem loop20q (s w0 : ByteArray) (b B nw : Nat) (cap : Option Nat) (hw : 0 < nw) (wc : List AV) (hw0 : cellsAt wc 0 1 = some [.str w0]) (x y z : AV) (cs : List AV) (hbB : b ≠ B) (N : Nat) (m : Mem) (T : List (Nat × AV)) (L : List (Nat × List AV)) {q : Option (Ex × St)} (hq : codeEv (run A N) (ev A N).2 a20_L2 ⟨72, T, L, m⟩ = q) (hN : 30 ≤ N) (hmn : m.n + 60 ≤ 2 ^ depth) (hb : m.get b = some (.cells wc true)) (hB : m.get B = some (.cells [.int .i64 0, x, y, z] true)) (hL : lookL L 2 = some cs) (hk : keepT [0, 2, 4, 5, 6] [2] T = [(0, .str s), (2, .loc 2 0), (4, .slice b 0 nw cap 1), (5, .ptr B 0), (6, .int .i64 0)]) :
    ∃ T' L' m', q = some (.exit 0, ⟨72, T', L', m'⟩) ∧ lookL L' 2 = some cs ∧ keepT [0, 2, 4, 5] [2] T' = [(0, .str s), (2, .loc 2 0), (4, .slice b 0 nw cap 1), (5, .ptr B 0)] ∧ GB B m m' 49 ∧ m'.get B = some (.cells [.int .i64 (opOf w0 24 1 0 : Int), x, y, z] true) := by
  subst hq
  exact loop20 s w0 b B nw cap hw wc hw0 x y z cs hbB 24 0 0 N m T L (by omega) (by omega) (by omega) hb hB hL hk
/-- The numbers of words, as the reference has them. -/
def valsR : List Int → List ByteArray → List Int
  | [], _ => []
  | ks, [] => ks.map fun _ => 0
  | k :: ks, w :: ws => numR k w :: valsR ks ws
/-- What stands while the numbers are read. -/
structure PX (m : Mem) (b B Q : Nat) (ws : List ByteArray) (o x1 x2 x3 : AV) : Prop where
  hb : m.get b = some (.cells (ws.map AV.str) true)
  hB : m.get B = some (.cells [o, x1, x2, x3] true)
  hQ : m.get Q = some (.cells [.ptr B 1, .ptr B 2, .ptr B 3] true)

theorem v20_end (N : Nat) (again : AC → St → Option (Ex × St)) (s : ByteArray) (b B Q nw : Nat) (cap : Option Nat) (k1 k2 k3 : Int) (m : Mem) (cs : List AV) (T : List (Nat × AV)) (L : List (Nat × List AV)) (hL : lookL L 2 = some cs) (hL7 : lookL L 7 = some [.int .i64 k1, .int .i64 k2, .int .i64 k3]) (hk : keepT [0, 2, 4, 5, 7, 8, 9] [2, 7] T = [(0, .str s), (2, .loc 2 0), (4, .slice b 0 nw cap 1), (5, .ptr B 0), (7, .loc 7 0), (8, .slice Q 0 3 (some 3) 1), (9, .int .i64 3)]) : ∃ T' L', codeEv (run A N) again a20_B1 ⟨72, T, L, m⟩ = some (.exit 2, ⟨72, T', L', m⟩) ∧ lookL L' 2 = some cs ∧ keepT [0, 2, 5] [2] T' = [(0, .str s), (2, .loc 2 0), (5, .ptr B 0)] := by
  unfold a20_B1
  exact ⟨_, _, by simp only [codeEv, opsEv, oneEv, guardEv, opE_mov, opE_pick, opE_bin, St.opd, look_set, look_nil, look_cons, St.put, bin_ilt, keepL, Option.map_some, Nat.reduceEqDiff, Int.reduceLT, Nat.reduceLT, if_true, if_false, Bool.false_eq_true, Nat.succ_ne_self, decide_false, beq_ft, hk, hL, hL7]; rfl, by simp only [lookL_cons, Nat.reduceEqDiff, if_true, if_false], by simp only [keepT, List.map, look_set, look_cons, in_str, in_ptr, in_loc, Nat.reduceEqDiff, if_true, if_false, List.contains_cons, List.contains_nil, beq_self_eq_true, Bool.or_false]⟩

theorem v20_few0 (N : Nat) (again : AC → St → Option (Ex × St)) (s : ByteArray) (b B Q nw : Nat) (cap : Option Nat) (k1 k2 k3 : Int) (m : Mem) (cs : List AV) (T : List (Nat × AV)) (L : List (Nat × List AV)) (hL : lookL L 2 = some cs) (hL7 : lookL L 7 = some [.int .i64 k1, .int .i64 k2, .int .i64 k3]) (hk : keepT [0, 2, 4, 5, 7, 8, 9] [2, 7] T = [(0, .str s), (2, .loc 2 0), (4, .slice b 0 nw cap 1), (5, .ptr B 0), (7, .loc 7 0), (8, .slice Q 0 3 (some 3) 1), (9, .int .i64 0)]) (hn : nw ≤ 1) : ∃ T' L', codeEv (run A N) again a20_B1 ⟨72, T, L, m⟩ = some (.exit 2, ⟨72, T', L', m⟩) ∧ lookL L' 2 = some cs ∧ keepT [0, 2, 5] [2] T' = [(0, .str s), (2, .loc 2 0), (5, .ptr B 0)] := by
  have h' : ¬ ((1 : Int) < (nw : Int)) := by omega
  unfold a20_B1
  exact ⟨_, _, by simp only [codeEv, opsEv, oneEv, guardEv, opE_mov, opE_pick, opE_bin, opE_lenL, lenR_slice, St.opd, look_set, look_nil, look_cons, St.put, bin_ilt, keepL, Option.map_some, Nat.reduceEqDiff, Int.reduceLT, Nat.reduceLT, if_true, if_false, beq_self_eq_true, Bool.false_eq_true, Nat.succ_ne_self, decide_true, decide_false, ad0, hk, hL, hL7, h']; rfl, by simp only [lookL_cons, Nat.reduceEqDiff, if_true, if_false], by simp only [keepT, List.map, look_set, look_cons, in_str, in_ptr, in_loc, Nat.reduceEqDiff, if_true, if_false, List.contains_cons, List.contains_nil, beq_self_eq_true, Bool.or_false]⟩
theorem v20_num0 (N : Nat) (again : AC → St → Option (Ex × St)) (s : ByteArray) (b B Q nw : Nat) (cap : Option Nat) (k1 k2 k3 : Int) (m : Mem) (cs : List AV) (T : List (Nat × AV)) (L : List (Nat × List AV)) (hL : lookL L 2 = some cs) (hL7 : lookL L 7 = some [.int .i64 k1, .int .i64 k2, .int .i64 k3]) (hk : keepT [0, 2, 4, 5, 7, 8, 9] [2, 7] T = [(0, .str s), (2, .loc 2 0), (4, .slice b 0 nw cap 1), (5, .ptr B 0), (7, .loc 7 0), (8, .slice Q 0 3 (some 3) 1), (9, .int .i64 0)]) (hn : 1 < nw) (hN : 60 ≤ N) (hmn : m.n + 19 ≤ 2 ^ depth) (ws : List ByteArray) (o x1 x2 x3 : AV) (hp : PX m b B Q ws o x1 x2 x3) (hbB : b ≠ B) (hQB : Q ≠ B) (w : ByteArray) (hw : ws[1]? = some w) :
    ∃ T' L' m', codeEv (run A N) again a20_B1 ⟨72, T, L, m⟩ = some (.norm, ⟨72, T', L', m'⟩) ∧ lookL L' 2 = some cs ∧ lookL L' 7 = some [.int .i64 k1, .int .i64 k2, .int .i64 k3] ∧ keepT [0, 2, 4, 5, 7, 8, 9] [2, 7] T' = [(0, .str s), (2, .loc 2 0), (4, .slice b 0 nw cap 1), (5, .ptr B 0), (7, .loc 7 0), (8, .slice Q 0 3 (some 3) 1), (9, .int .i64 1)] ∧ GB B m m' 19 ∧ PX m' b B Q ws o (.int .i64 (numR k1 w)) (x2) (x3) := by
  obtain ⟨m1, c1, g1⟩ := number_run N hN k1 w m hmn
  have hw' := words_at hw
  have h' : ((1 : Int) < (nw : Int)) := by omega
  have hQ1 : m1.get Q = some (.cells [.ptr B 1, .ptr B 2, .ptr B 3] true) := (g1.1.2 Q (Mem.get_lt hp.hQ)).trans hp.hQ
  have hB1 : m1.get B = some (.cells [o, x1, x2, x3] true) := (g1.1.2 B (Mem.get_lt hp.hB)).trans hp.hB
  have hb1 : m1.get b = some (.cells (ws.map AV.str) true) := (g1.1.2 b (Mem.get_lt hp.hb)).trans hp.hb
  have hrd : cellsAt [.ptr B 1, .ptr B 2, .ptr B 3] 0 1 = some [.ptr B 1] := rfl
  have hlg := lg20b (same_cell hp.hQ hQ1 hrd (eqV_ptr 3 B 1))
  have hb := hp.hb
  have hQ := hp.hQ
  have hBm : B < m1.n := Mem.get_lt hB1
  have hful : m1.n ≤ 2 ^ depth := by have := g1.2; omega
  have gb := ((GB.of B g1).trans (GB.set B m1 (.cells [o, .int .i64 (numR k1 w), x2, x3] true) hful hBm)).le (Nat.le_refl 19)
  unfold a20_B1
  exact ⟨_, _, m1.set B (.cells [o, .int .i64 (numR k1 w), x2, x3] true), by simp only [codeEv, opsEv, oneEv, guardEv, opE_mov, opE_pick, opE_load1, opE_store, opE_bin, opE_iaddrL, opE_call, opE_lenL, lenR_slice, elemR_slice, St.opd, look_set, look_nil, look_cons, St.put, St.read, St.write, lookL_nil, lookL_cons, cellsAt_cons, splice, bin_ilt, in_int, in_str, in_ptr, in_slice, in_loc, List.contains_cons, List.contains_nil, one_int, loc_int, cells_int, loc_str, callWith, keepL, careEv, dOneEv, dOpsEv, accOf, accEv, Option.toList_some, List.append_nil, List.map, List.length, List.take, List.drop, List.all, List.any, List.cons_append, List.nil_append, List.take_succ_cons, List.drop_succ_cons, Option.map_some, Nat.reduceEqDiff, Int.reduceLT, Int.reduceLE, Nat.reduceAdd, Nat.reduceLeDiff, Nat.reduceLT, if_true, if_false, Bool.and_true, Bool.and_false, Bool.or_true, Bool.or_false, Bool.true_or, Bool.not_true, Bool.not_false, List.isEmpty_cons, beq_self_eq_true, Bool.false_eq_true, Nat.succ_ne_self, decide_true, keepT_setT, List.take_succ_cons, Int.reduceToNat, and_self, Int.toNat_zero, n3, Nat.zero_mul, Nat.one_mul, opE_iaddrA, iaR_loc, opE_nilck, nilR_ptr, ad0, AOp.kd, kd_rm, kd_sm, hk, hL, hL7, h', hb, hQ, hB1, hw', c1, hlg]; rfl, by simp only [lookL_cons, Nat.reduceEqDiff, if_true, if_false], by simp only [lookL_cons, Nat.reduceEqDiff, if_true, if_false], by simp only [keepT, List.map, look_set, look_cons, in_int, in_str, in_ptr, in_slice, in_loc, Nat.reduceEqDiff, if_true, if_false, List.contains_cons, List.contains_nil, beq_self_eq_true, Bool.or_false, Bool.or_true, Bool.true_or], gb, ⟨(Mem.get_set_ne _ hful hBm (fun h => hbB h.symm)).trans hb1, Mem.get_set_same _ hBm, (Mem.get_set_ne _ hful hBm (fun h => hQB h.symm)).trans hQ1⟩⟩

theorem v20_few1 (N : Nat) (again : AC → St → Option (Ex × St)) (s : ByteArray) (b B Q nw : Nat) (cap : Option Nat) (k1 k2 k3 : Int) (m : Mem) (cs : List AV) (T : List (Nat × AV)) (L : List (Nat × List AV)) (hL : lookL L 2 = some cs) (hL7 : lookL L 7 = some [.int .i64 k1, .int .i64 k2, .int .i64 k3]) (hk : keepT [0, 2, 4, 5, 7, 8, 9] [2, 7] T = [(0, .str s), (2, .loc 2 0), (4, .slice b 0 nw cap 1), (5, .ptr B 0), (7, .loc 7 0), (8, .slice Q 0 3 (some 3) 1), (9, .int .i64 1)]) (hn : nw ≤ 2) : ∃ T' L', codeEv (run A N) again a20_B1 ⟨72, T, L, m⟩ = some (.exit 2, ⟨72, T', L', m⟩) ∧ lookL L' 2 = some cs ∧ keepT [0, 2, 5] [2] T' = [(0, .str s), (2, .loc 2 0), (5, .ptr B 0)] := by
  have h' : ¬ ((2 : Int) < (nw : Int)) := by omega
  unfold a20_B1
  exact ⟨_, _, by simp only [codeEv, opsEv, oneEv, guardEv, opE_mov, opE_pick, opE_bin, opE_lenL, lenR_slice, St.opd, look_set, look_nil, look_cons, St.put, bin_ilt, keepL, Option.map_some, Nat.reduceEqDiff, Int.reduceLT, Nat.reduceLT, if_true, if_false, beq_self_eq_true, Bool.false_eq_true, Nat.succ_ne_self, decide_true, decide_false, ad1, hk, hL, hL7, h']; rfl, by simp only [lookL_cons, Nat.reduceEqDiff, if_true, if_false], by simp only [keepT, List.map, look_set, look_cons, in_str, in_ptr, in_loc, Nat.reduceEqDiff, if_true, if_false, List.contains_cons, List.contains_nil, beq_self_eq_true, Bool.or_false]⟩
theorem v20_num1 (N : Nat) (again : AC → St → Option (Ex × St)) (s : ByteArray) (b B Q nw : Nat) (cap : Option Nat) (k1 k2 k3 : Int) (m : Mem) (cs : List AV) (T : List (Nat × AV)) (L : List (Nat × List AV)) (hL : lookL L 2 = some cs) (hL7 : lookL L 7 = some [.int .i64 k1, .int .i64 k2, .int .i64 k3]) (hk : keepT [0, 2, 4, 5, 7, 8, 9] [2, 7] T = [(0, .str s), (2, .loc 2 0), (4, .slice b 0 nw cap 1), (5, .ptr B 0), (7, .loc 7 0), (8, .slice Q 0 3 (some 3) 1), (9, .int .i64 1)]) (hn : 2 < nw) (hN : 60 ≤ N) (hmn : m.n + 19 ≤ 2 ^ depth) (ws : List ByteArray) (o x1 x2 x3 : AV) (hp : PX m b B Q ws o x1 x2 x3) (hbB : b ≠ B) (hQB : Q ≠ B) (w : ByteArray) (hw : ws[2]? = some w) :
    ∃ T' L' m', codeEv (run A N) again a20_B1 ⟨72, T, L, m⟩ = some (.norm, ⟨72, T', L', m'⟩) ∧ lookL L' 2 = some cs ∧ lookL L' 7 = some [.int .i64 k1, .int .i64 k2, .int .i64 k3] ∧ keepT [0, 2, 4, 5, 7, 8, 9] [2, 7] T' = [(0, .str s), (2, .loc 2 0), (4, .slice b 0 nw cap 1), (5, .ptr B 0), (7, .loc 7 0), (8, .slice Q 0 3 (some 3) 1), (9, .int .i64 2)] ∧ GB B m m' 19 ∧ PX m' b B Q ws o (x1) (.int .i64 (numR k2 w)) (x3) := by
  obtain ⟨m1, c1, g1⟩ := number_run N hN k2 w m hmn
  have hw' := words_at hw
  have h' : ((2 : Int) < (nw : Int)) := by omega
  have hQ1 : m1.get Q = some (.cells [.ptr B 1, .ptr B 2, .ptr B 3] true) := (g1.1.2 Q (Mem.get_lt hp.hQ)).trans hp.hQ
  have hB1 : m1.get B = some (.cells [o, x1, x2, x3] true) := (g1.1.2 B (Mem.get_lt hp.hB)).trans hp.hB
  have hb1 : m1.get b = some (.cells (ws.map AV.str) true) := (g1.1.2 b (Mem.get_lt hp.hb)).trans hp.hb
  have hrd : cellsAt [.ptr B 1, .ptr B 2, .ptr B 3] 1 1 = some [.ptr B 2] := rfl
  have hlg := lg20b (same_cell hp.hQ hQ1 hrd (eqV_ptr 3 B 2))
  have hb := hp.hb
  have hQ := hp.hQ
  have hBm : B < m1.n := Mem.get_lt hB1
  have hful : m1.n ≤ 2 ^ depth := by have := g1.2; omega
  have gb := ((GB.of B g1).trans (GB.set B m1 (.cells [o, x1, .int .i64 (numR k2 w), x3] true) hful hBm)).le (Nat.le_refl 19)
  unfold a20_B1
  exact ⟨_, _, m1.set B (.cells [o, x1, .int .i64 (numR k2 w), x3] true), by simp only [codeEv, opsEv, oneEv, guardEv, opE_mov, opE_pick, opE_load1, opE_store, opE_bin, opE_iaddrL, opE_call, opE_lenL, lenR_slice, elemR_slice, St.opd, look_set, look_nil, look_cons, St.put, St.read, St.write, lookL_nil, lookL_cons, cellsAt_cons, splice, bin_ilt, in_int, in_str, in_ptr, in_slice, in_loc, List.contains_cons, List.contains_nil, one_int, loc_int, cells_int, loc_str, callWith, keepL, careEv, dOneEv, dOpsEv, accOf, accEv, Option.toList_some, List.append_nil, List.map, List.length, List.take, List.drop, List.all, List.any, List.cons_append, List.nil_append, List.take_succ_cons, List.drop_succ_cons, Option.map_some, Nat.reduceEqDiff, Int.reduceLT, Int.reduceLE, Nat.reduceAdd, Nat.reduceLeDiff, Nat.reduceLT, Nat.reduceMul, if_true, if_false, Bool.and_true, Bool.and_false, Bool.or_true, Bool.or_false, Bool.true_or, Bool.not_true, Bool.not_false, List.isEmpty_cons, beq_self_eq_true, Bool.false_eq_true, Nat.succ_ne_self, decide_true, keepT_setT, List.take_succ_cons, Int.reduceToNat, and_self, n3, Nat.one_mul, opE_iaddrA, iaR_loc, opE_nilck, nilR_ptr, ad1, AOp.kd, kd_rm, kd_sm, hk, hL, hL7, h', hb, hQ, hB1, hw', c1, hlg]; rfl, by simp only [lookL_cons, Nat.reduceEqDiff, if_true, if_false], by simp only [lookL_cons, Nat.reduceEqDiff, if_true, if_false], by simp only [keepT, List.map, look_set, look_cons, in_int, in_str, in_ptr, in_slice, in_loc, Nat.reduceEqDiff, if_true, if_false, List.contains_cons, List.contains_nil, beq_self_eq_true, Bool.or_false, Bool.or_true, Bool.true_or], gb, ⟨(Mem.get_set_ne _ hful hBm (fun h => hbB h.symm)).trans hb1, Mem.get_set_same _ hBm, (Mem.get_set_ne _ hful hBm (fun h => hQB h.symm)).trans hQ1⟩⟩

theorem v20_few2 (N : Nat) (again : AC → St → Option (Ex × St)) (s : ByteArray) (b B Q nw : Nat) (cap : Option Nat) (k1 k2 k3 : Int) (m : Mem) (cs : List AV) (T : List (Nat × AV)) (L : List (Nat × List AV)) (hL : lookL L 2 = some cs) (hL7 : lookL L 7 = some [.int .i64 k1, .int .i64 k2, .int .i64 k3]) (hk : keepT [0, 2, 4, 5, 7, 8, 9] [2, 7] T = [(0, .str s), (2, .loc 2 0), (4, .slice b 0 nw cap 1), (5, .ptr B 0), (7, .loc 7 0), (8, .slice Q 0 3 (some 3) 1), (9, .int .i64 2)]) (hn : nw ≤ 3) : ∃ T' L', codeEv (run A N) again a20_B1 ⟨72, T, L, m⟩ = some (.exit 2, ⟨72, T', L', m⟩) ∧ lookL L' 2 = some cs ∧ keepT [0, 2, 5] [2] T' = [(0, .str s), (2, .loc 2 0), (5, .ptr B 0)] := by
  have h' : ¬ ((3 : Int) < (nw : Int)) := by omega
  unfold a20_B1
  exact ⟨_, _, by simp only [codeEv, opsEv, oneEv, guardEv, opE_mov, opE_pick, opE_bin, opE_lenL, lenR_slice, St.opd, look_set, look_nil, look_cons, St.put, bin_ilt, keepL, Option.map_some, Nat.reduceEqDiff, Int.reduceLT, Nat.reduceLT, if_true, if_false, beq_self_eq_true, Bool.false_eq_true, Nat.succ_ne_self, decide_true, decide_false, ad2, hk, hL, hL7, h']; rfl, by simp only [lookL_cons, Nat.reduceEqDiff, if_true, if_false], by simp only [keepT, List.map, look_set, look_cons, in_str, in_ptr, in_loc, Nat.reduceEqDiff, if_true, if_false, List.contains_cons, List.contains_nil, beq_self_eq_true, Bool.or_false]⟩
theorem v20_num2 (N : Nat) (again : AC → St → Option (Ex × St)) (s : ByteArray) (b B Q nw : Nat) (cap : Option Nat) (k1 k2 k3 : Int) (m : Mem) (cs : List AV) (T : List (Nat × AV)) (L : List (Nat × List AV)) (hL : lookL L 2 = some cs) (hL7 : lookL L 7 = some [.int .i64 k1, .int .i64 k2, .int .i64 k3]) (hk : keepT [0, 2, 4, 5, 7, 8, 9] [2, 7] T = [(0, .str s), (2, .loc 2 0), (4, .slice b 0 nw cap 1), (5, .ptr B 0), (7, .loc 7 0), (8, .slice Q 0 3 (some 3) 1), (9, .int .i64 2)]) (hn : 3 < nw) (hN : 60 ≤ N) (hmn : m.n + 19 ≤ 2 ^ depth) (ws : List ByteArray) (o x1 x2 x3 : AV) (hp : PX m b B Q ws o x1 x2 x3) (hbB : b ≠ B) (hQB : Q ≠ B) (w : ByteArray) (hw : ws[3]? = some w) :
    ∃ T' L' m', codeEv (run A N) again a20_B1 ⟨72, T, L, m⟩ = some (.norm, ⟨72, T', L', m'⟩) ∧ lookL L' 2 = some cs ∧ lookL L' 7 = some [.int .i64 k1, .int .i64 k2, .int .i64 k3] ∧ keepT [0, 2, 4, 5, 7, 8, 9] [2, 7] T' = [(0, .str s), (2, .loc 2 0), (4, .slice b 0 nw cap 1), (5, .ptr B 0), (7, .loc 7 0), (8, .slice Q 0 3 (some 3) 1), (9, .int .i64 3)] ∧ GB B m m' 19 ∧ PX m' b B Q ws o (x1) (x2) (.int .i64 (numR k3 w)) := by
  obtain ⟨m1, c1, g1⟩ := number_run N hN k3 w m hmn
  have hw' := words_at hw
  have h' : ((3 : Int) < (nw : Int)) := by omega
  have hQ1 : m1.get Q = some (.cells [.ptr B 1, .ptr B 2, .ptr B 3] true) := (g1.1.2 Q (Mem.get_lt hp.hQ)).trans hp.hQ
  have hB1 : m1.get B = some (.cells [o, x1, x2, x3] true) := (g1.1.2 B (Mem.get_lt hp.hB)).trans hp.hB
  have hb1 : m1.get b = some (.cells (ws.map AV.str) true) := (g1.1.2 b (Mem.get_lt hp.hb)).trans hp.hb
  have hrd : cellsAt [.ptr B 1, .ptr B 2, .ptr B 3] 2 1 = some [.ptr B 3] := rfl
  have hlg := lg20b (same_cell hp.hQ hQ1 hrd (eqV_ptr 3 B 3))
  have hb := hp.hb
  have hQ := hp.hQ
  have hBm : B < m1.n := Mem.get_lt hB1
  have hful : m1.n ≤ 2 ^ depth := by have := g1.2; omega
  have gb := ((GB.of B g1).trans (GB.set B m1 (.cells [o, x1, x2, .int .i64 (numR k3 w)] true) hful hBm)).le (Nat.le_refl 19)
  unfold a20_B1
  exact ⟨_, _, m1.set B (.cells [o, x1, x2, .int .i64 (numR k3 w)] true), by simp only [codeEv, opsEv, oneEv, guardEv, opE_mov, opE_pick, opE_load1, opE_store, opE_bin, opE_iaddrL, opE_call, opE_lenL, lenR_slice, elemR_slice, St.opd, look_set, look_nil, look_cons, St.put, St.read, St.write, lookL_nil, lookL_cons, cellsAt_cons, splice, bin_ilt, in_int, in_str, in_ptr, in_slice, in_loc, List.contains_cons, List.contains_nil, one_int, loc_int, cells_int, loc_str, callWith, keepL, careEv, dOneEv, dOpsEv, accOf, accEv, Option.toList_some, List.append_nil, List.map, List.length, List.take, List.drop, List.all, List.any, List.cons_append, List.nil_append, List.take_succ_cons, List.drop_succ_cons, Option.map_some, Nat.reduceEqDiff, Int.reduceLT, Int.reduceLE, Nat.reduceAdd, Nat.reduceLeDiff, Nat.reduceLT, Nat.reduceMul, if_true, if_false, Bool.and_true, Bool.and_false, Bool.or_true, Bool.or_false, Bool.true_or, Bool.not_true, Bool.not_false, List.isEmpty_cons, beq_self_eq_true, Bool.false_eq_true, Nat.succ_ne_self, decide_true, keepT_setT, List.take_succ_cons, Int.reduceToNat, and_self, n3, opE_iaddrA, iaR_loc, opE_nilck, nilR_ptr, ad2, AOp.kd, kd_rm, kd_sm, hk, hL, hL7, h', hb, hQ, hB1, hw', c1, hlg]; rfl, by simp only [lookL_cons, Nat.reduceEqDiff, if_true, if_false], by simp only [lookL_cons, Nat.reduceEqDiff, if_true, if_false], by simp only [keepT, List.map, look_set, look_cons, in_int, in_str, in_ptr, in_slice, in_loc, Nat.reduceEqDiff, if_true, if_false, List.contains_cons, List.contains_nil, beq_self_eq_true, Bool.or_false, Bool.or_true, Bool.true_or], gb, ⟨(Mem.get_set_ne _ hful hBm (fun h => hbB h.symm)).trans hb1, Mem.get_set_same _ hBm, (Mem.get_set_ne _ hful hBm (fun h => hQB h.symm)).trans hQ1⟩⟩
theorem lv20_3 (N : Nat) (s : ByteArray) (b B Q : Nat) (cap : Option Nat) (k1 k2 k3 : Int) (ws : List ByteArray) (m : Mem) (cs : List AV) (T : List (Nat × AV)) (L : List (Nat × List AV)) (hL : lookL L 2 = some cs) (hL7 : lookL L 7 = some [.int .i64 k1, .int .i64 k2, .int .i64 k3]) (hk : keepT [0, 2, 4, 5, 7, 8, 9] [2, 7] T = [(0, .str s), (2, .loc 2 0), (4, .slice b 0 ws.length cap 1), (5, .ptr B 0), (7, .loc 7 0), (8, .slice Q 0 3 (some 3) 1), (9, .int .i64 3)]) (o x1 x2 x3 : AV) (hp : PX m b B Q ws o (x1) (x2) (x3)) (_hbB : b ≠ B) (_hQB : Q ≠ B) (_hN : 60 + 0 ≤ N) (_hmn : m.n + 0 ≤ 2 ^ depth) {q : Option (Ex × St)} (hq : codeEv (run A N) (ev A N).2 a20_L1 ⟨72, T, L, m⟩ = q) :
    ∃ T' L' m', q = some (.exit 2, ⟨72, T', L', m'⟩) ∧ lookL L' 2 = some cs ∧ keepT [0, 2, 5] [2] T' = [(0, .str s), (2, .loc 2 0), (5, .ptr B 0)] ∧ GB B m m' 0 ∧ m'.get B = some (.cells ([o, x1, x2, x3] ++ (valsR [] (ws.drop 4)).map fun v => AV.int .i64 v) true) := by
  subst hq
  rw [a20_L1_step]
  obtain ⟨T', L', e1, e2, e3⟩ := v20_end N (ev A N).2 s b B Q ws.length cap k1 k2 k3 m cs T L hL hL7 hk
  exact ⟨T', L', m, by rw [e1], e2, e3, GB.refl B m, by simpa [valsR] using hp.hB⟩

theorem lv20_2 (N : Nat) (s : ByteArray) (b B Q : Nat) (cap : Option Nat) (k1 k2 k3 : Int) (ws : List ByteArray) (m : Mem) (cs : List AV) (T : List (Nat × AV)) (L : List (Nat × List AV)) (hL : lookL L 2 = some cs) (hL7 : lookL L 7 = some [.int .i64 k1, .int .i64 k2, .int .i64 k3]) (hk : keepT [0, 2, 4, 5, 7, 8, 9] [2, 7] T = [(0, .str s), (2, .loc 2 0), (4, .slice b 0 ws.length cap 1), (5, .ptr B 0), (7, .loc 7 0), (8, .slice Q 0 3 (some 3) 1), (9, .int .i64 2)]) (o x1 x2 : AV) (hp : PX m b B Q ws o (x1) (x2) (.int .i64 0)) (hbB : b ≠ B) (hQB : Q ≠ B) (hN : 60 + 1 ≤ N) (hmn : m.n + 19 ≤ 2 ^ depth) {q : Option (Ex × St)} (hq : codeEv (run A N) (ev A N).2 a20_L1 ⟨72, T, L, m⟩ = q) :
    ∃ T' L' m', q = some (.exit 2, ⟨72, T', L', m'⟩) ∧ lookL L' 2 = some cs ∧ keepT [0, 2, 5] [2] T' = [(0, .str s), (2, .loc 2 0), (5, .ptr B 0)] ∧ GB B m m' 19 ∧ m'.get B = some (.cells ([o, x1, x2] ++ (valsR [k3] (ws.drop 3)).map fun v => AV.int .i64 v) true) := by
  subst hq
  rw [a20_L1_step]
  by_cases hn : ws.length ≤ 3
  · obtain ⟨T', L', e1, e2, e3⟩ := v20_few2 N (ev A N).2 s b B Q ws.length cap k1 k2 k3 m cs T L hL hL7 hk hn
    exact ⟨T', L', m, by rw [e1], e2, e3, (GB.refl B m).le (by omega), by rw [List.drop_eq_nil_of_le hn]; simpa [valsR] using hp.hB⟩
  · obtain ⟨w, hw⟩ : ∃ w, ws[3]? = some w := ⟨_, List.getElem?_eq_getElem (by omega)⟩
    have hd : ws.drop 3 = w :: ws.drop 4 := by
      rw [List.drop_eq_getElem_cons (by omega)]
      rw [List.getElem?_eq_getElem (by omega)] at hw
      cases hw; rfl
    rw [hd]
    obtain ⟨T1, L1, m1, e1, e2, e3, e4, g1, p1⟩ := v20_num2 N (ev A N).2 s b B Q ws.length cap k1 k2 k3 m cs T L hL hL7 hk (by omega) (by omega) (by omega) ws _ _ _ _ hp hbB hQB w hw
    obtain ⟨n, rfl⟩ : ∃ n, N = n + 1 := ⟨N - 1, by omega⟩
    obtain ⟨T', L', m', f1, f2, f3, f4, f5⟩ := lv20_3 n s b B Q cap k1 k2 k3 ws m1 cs T1 L1 e2 e3 e4 o x1 x2 _ p1 hbB hQB (by omega) (by have := g1.2.1; omega) rfl
    have hvr : valsR [k3] (w :: ws.drop 4) = numR k3 w :: valsR [] (ws.drop 4) := rfl
    refine ⟨T', L', m', ?_, f2, f3, (g1.trans f4).le (by omega), by rw [f5, hvr]; simp⟩
    rw [e1]
    dsimp only
    rw [again_of]
    exact f1

theorem lv20_1 (N : Nat) (s : ByteArray) (b B Q : Nat) (cap : Option Nat) (k1 k2 k3 : Int) (ws : List ByteArray) (m : Mem) (cs : List AV) (T : List (Nat × AV)) (L : List (Nat × List AV)) (hL : lookL L 2 = some cs) (hL7 : lookL L 7 = some [.int .i64 k1, .int .i64 k2, .int .i64 k3]) (hk : keepT [0, 2, 4, 5, 7, 8, 9] [2, 7] T = [(0, .str s), (2, .loc 2 0), (4, .slice b 0 ws.length cap 1), (5, .ptr B 0), (7, .loc 7 0), (8, .slice Q 0 3 (some 3) 1), (9, .int .i64 1)]) (o x1 : AV) (hp : PX m b B Q ws o (x1) (.int .i64 0) (.int .i64 0)) (hbB : b ≠ B) (hQB : Q ≠ B) (hN : 60 + 2 ≤ N) (hmn : m.n + 38 ≤ 2 ^ depth) {q : Option (Ex × St)} (hq : codeEv (run A N) (ev A N).2 a20_L1 ⟨72, T, L, m⟩ = q) :
    ∃ T' L' m', q = some (.exit 2, ⟨72, T', L', m'⟩) ∧ lookL L' 2 = some cs ∧ keepT [0, 2, 5] [2] T' = [(0, .str s), (2, .loc 2 0), (5, .ptr B 0)] ∧ GB B m m' 38 ∧ m'.get B = some (.cells ([o, x1] ++ (valsR [k2, k3] (ws.drop 2)).map fun v => AV.int .i64 v) true) := by
  subst hq
  rw [a20_L1_step]
  by_cases hn : ws.length ≤ 2
  · obtain ⟨T', L', e1, e2, e3⟩ := v20_few1 N (ev A N).2 s b B Q ws.length cap k1 k2 k3 m cs T L hL hL7 hk hn
    exact ⟨T', L', m, by rw [e1], e2, e3, (GB.refl B m).le (by omega), by rw [List.drop_eq_nil_of_le hn]; simpa [valsR] using hp.hB⟩
  · obtain ⟨w, hw⟩ : ∃ w, ws[2]? = some w := ⟨_, List.getElem?_eq_getElem (by omega)⟩
    have hd : ws.drop 2 = w :: ws.drop 3 := by
      rw [List.drop_eq_getElem_cons (by omega)]
      rw [List.getElem?_eq_getElem (by omega)] at hw
      cases hw; rfl
    rw [hd]
    obtain ⟨T1, L1, m1, e1, e2, e3, e4, g1, p1⟩ := v20_num1 N (ev A N).2 s b B Q ws.length cap k1 k2 k3 m cs T L hL hL7 hk (by omega) (by omega) (by omega) ws _ _ _ _ hp hbB hQB w hw
    obtain ⟨n, rfl⟩ : ∃ n, N = n + 1 := ⟨N - 1, by omega⟩
    obtain ⟨T', L', m', f1, f2, f3, f4, f5⟩ := lv20_2 n s b B Q cap k1 k2 k3 ws m1 cs T1 L1 e2 e3 e4 o x1 _ p1 hbB hQB (by omega) (by have := g1.2.1; omega) rfl
    have hvr : valsR [k2, k3] (w :: ws.drop 3) = numR k2 w :: valsR [k3] (ws.drop 3) := rfl
    refine ⟨T', L', m', ?_, f2, f3, (g1.trans f4).le (by omega), by rw [f5, hvr]; simp⟩
    rw [e1]
    dsimp only
    rw [again_of]
    exact f1

theorem lv20_0 (N : Nat) (s : ByteArray) (b B Q : Nat) (cap : Option Nat) (k1 k2 k3 : Int) (ws : List ByteArray) (m : Mem) (cs : List AV) (T : List (Nat × AV)) (L : List (Nat × List AV)) (hL : lookL L 2 = some cs) (hL7 : lookL L 7 = some [.int .i64 k1, .int .i64 k2, .int .i64 k3]) (hk : keepT [0, 2, 4, 5, 7, 8, 9] [2, 7] T = [(0, .str s), (2, .loc 2 0), (4, .slice b 0 ws.length cap 1), (5, .ptr B 0), (7, .loc 7 0), (8, .slice Q 0 3 (some 3) 1), (9, .int .i64 0)]) (o  : AV) (hp : PX m b B Q ws o (.int .i64 0) (.int .i64 0) (.int .i64 0)) (hbB : b ≠ B) (hQB : Q ≠ B) (hN : 60 + 3 ≤ N) (hmn : m.n + 57 ≤ 2 ^ depth) {q : Option (Ex × St)} (hq : codeEv (run A N) (ev A N).2 a20_L1 ⟨72, T, L, m⟩ = q) :
    ∃ T' L' m', q = some (.exit 2, ⟨72, T', L', m'⟩) ∧ lookL L' 2 = some cs ∧ keepT [0, 2, 5] [2] T' = [(0, .str s), (2, .loc 2 0), (5, .ptr B 0)] ∧ GB B m m' 57 ∧ m'.get B = some (.cells ([o] ++ (valsR [k1, k2, k3] (ws.drop 1)).map fun v => AV.int .i64 v) true) := by
  subst hq
  rw [a20_L1_step]
  by_cases hn : ws.length ≤ 1
  · obtain ⟨T', L', e1, e2, e3⟩ := v20_few0 N (ev A N).2 s b B Q ws.length cap k1 k2 k3 m cs T L hL hL7 hk hn
    exact ⟨T', L', m, by rw [e1], e2, e3, (GB.refl B m).le (by omega), by rw [List.drop_eq_nil_of_le hn]; simpa [valsR] using hp.hB⟩
  · obtain ⟨w, hw⟩ : ∃ w, ws[1]? = some w := ⟨_, List.getElem?_eq_getElem (by omega)⟩
    have hd : ws.drop 1 = w :: ws.drop 2 := by
      rw [List.drop_eq_getElem_cons (by omega)]
      rw [List.getElem?_eq_getElem (by omega)] at hw
      cases hw; rfl
    rw [hd]
    obtain ⟨T1, L1, m1, e1, e2, e3, e4, g1, p1⟩ := v20_num0 N (ev A N).2 s b B Q ws.length cap k1 k2 k3 m cs T L hL hL7 hk (by omega) (by omega) (by omega) ws _ _ _ _ hp hbB hQB w hw
    obtain ⟨n, rfl⟩ : ∃ n, N = n + 1 := ⟨N - 1, by omega⟩
    obtain ⟨T', L', m', f1, f2, f3, f4, f5⟩ := lv20_1 n s b B Q cap k1 k2 k3 ws m1 cs T1 L1 e2 e3 e4 o  _ p1 hbB hQB (by omega) (by have := g1.2.1; omega) rfl
    have hvr : valsR [k1, k2, k3] (w :: ws.drop 2) = numR k1 w :: valsR [k2, k3] (ws.drop 2) := rfl
    refine ⟨T', L', m', ?_, f2, f3, (g1.trans f4).le (by omega), by rw [f5, hvr]; simp⟩
    rw [e1]
    dsimp only
    rw [again_of]
    exact f1

theorem splB_ne : ∀ (cur : ByteArray) (r : List UInt8), splB cur r ≠ []
  | cur, [] => by simp [splB]
  | cur, b :: r => by
    rw [splB]
    split
    · simp
    · exact splB_ne _ r
theorem valsR_len : ∀ (ks : List Int) (ws : List ByteArray), (valsR ks ws).length = ks.length
  | [], _ => rfl
  | k :: ks, [] => by simp [valsR]
  | k :: ks, w :: ws => by simp [valsR, valsR_len ks ws]
/-- The instruction of a text, as the reference has it. -/
def refIns (s w0 : ByteArray) (ws : List ByteArray) : Option (Nat × Int × Int × Int) :=
  match valsR [hR 1 (opOf w0 24 1 0 : Nat), hR 2 (opOf w0 24 1 0 : Nat), hR 3 (opOf w0 24 1 0 : Nat)] ws with
  | [a, b, c] => if codeOk (opOf w0 24 1 0 : Nat) a b c = true then (if ((textB (opOf w0 24 1 0 : Nat) a b c).toList == s.toList) = true then some (opOf w0 24 1 0, a, b, c) else none) else none
  | _ => none
def parseR (s : ByteArray) : Option (Nat × Int × Int × Int) :=
  match splB ⟨#[]⟩ s.data.toList with
  | [] => none
  | w0 :: ws => refIns s w0 ws
theorem rparse_run (N : Nat) (hN : 150 ≤ N) (s : ByteArray) (hs : s.size ≤ 110) (m : Mem) (hT : Tab2 m) (h13 : 13 ≤ m.n) (hmn : m.n + 400 ≤ 2 ^ depth) : ∃ m', run A N 20 [.str s] m = some (parseAV (parseR s), m') ∧ Gr m m' 360 := by
  obtain ⟨n, rfl⟩ : ∃ n, N = n + 1 := ⟨N - 1, by omega⟩
  obtain ⟨v, m1, hF, hps, g1⟩ := pieces_run n (by omega) s hs m (by omega)
  unfold parseR
  match hsp : splB ⟨#[]⟩ s.data.toList with
  | [] => exact absurd hsp (splB_ne _ _)
  | w0 :: ws =>
  dsimp only
  rw [hsp] at hps
  obtain ⟨b, cap, rfl, hb0, hb1, hcap⟩ := hps
  have hW0 : (w0 :: ws)[0]? = some w0 := rfl
  have hWd : (w0 :: ws).drop 1 = ws := rfl
  have hWl : 0 < (w0 :: ws).length := by simp
  generalize w0 :: ws = W at *
  have gn1 := g1.2
  have gx1 := g1.1.1
  have hbl := Mem.get_lt hb1
  have hf1 : m1.full = false := not_full (by omega)
  have hb2 : (m1.push (.cells [.int .i64 0, .int .i64 0, .int .i64 0, .int .i64 0] true)).get b = some (.cells (W.map AV.str) true) := (Mem.get_push_old _ hf1 (by omega)).trans hb1
  have hB2 : (m1.push (.cells [.int .i64 0, .int .i64 0, .int .i64 0, .int .i64 0] true)).get m1.n = some (.cells [.int .i64 0, .int .i64 0, .int .i64 0, .int .i64 0] true) := Mem.get_push_new _
  have g2 : Gr m (m1.push (.cells [.int .i64 0, .int .i64 0, .int .i64 0, .int .i64 0] true)) 231 := g1.trans (Gr.push m1 _ (by omega))
  rw [run_20]
  unfold fnEv a20
  simp only [codeEv, opsEv, oneEv, guardEv, opE_mov, opE_pick, opE_alloc, opE_mkslc, opE_load1, opE_loadk, opE_store, opE_bin, opE_faddr, opE_call, St.opd, look_set, look_nil, look_cons, St.put, St.new, St.read, St.write, lookL_nil, lookL_cons, setL_nil, splice, argsT, resEv, in_str, in_ptr, in_slice, in_loc, List.contains_cons, List.contains_nil, loc_str, fillEv, callWith, keepL, List.map, List.length, List.take, List.any, List.nil_append, Nat.reduceEqDiff, Nat.reduceAdd, Nat.reduceLeDiff, Nat.reduceLT, Nat.reduceMul, if_true, if_false, Bool.or_false, beq_self_eq_true, Bool.false_eq_true, Nat.succ_ne_self, keepT_setT, keepT_lit, Nat.reducePow, Nat.zero_mul, Nat.one_mul, opE_build, hF, hf1]
  generalize hm2 : m1.push (.cells [.int .i64 0, .int .i64 0, .int .i64 0, .int .i64 0] true) = m2 at *
  have gn2 := g2.2
  generalize hq : codeEv (run A n) (ev A n).2 a20_L2 _ = q
  obtain ⟨T', L', m3, rfl, hL', hk', g3, hB3⟩ := loop20q s w0 b m1.n W.length cap hWl _ (words_at hW0) _ _ _ [.int .i64 0, .int .i64 0, .int .i64 0, .int .i64 0] (by omega) n m2 _ _ hq (by omega) (by omega) hb2 hB2 (by simp only [lookL_cons, if_true]) (by simp only [keepT, List.map, look_set, look_cons, in_int, in_str, in_ptr, in_slice, in_loc, Nat.reduceEqDiff, if_true, if_false, List.contains_cons, List.contains_nil, beq_self_eq_true, Bool.or_false])
  have gn3 := g3.2.1
  have hb3 := (g3.2.2 b (by omega) (Mem.get_lt hb2)).trans hb2
  have hB3l := Mem.get_lt hB3
  have hb3l := Mem.get_lt hb3
  generalize hopd : opOf w0 24 1 0 = op at *
  have hh := has_run n (by omega) (op : Int) m3
  have hf3 : m3.full = false := not_full (by omega)
  have hp : PX (m3.push (.cells [.ptr m1.n 1, .ptr m1.n 2, .ptr m1.n 3] true)) b m1.n m3.n W (.int .i64 (op : Int)) (.int .i64 0) (.int .i64 0) (.int .i64 0) := ⟨(Mem.get_push_old _ hf3 (by omega)).trans hb3, (Mem.get_push_old _ hf3 (by omega)).trans hB3, Mem.get_push_new _⟩
  have hz3 : zerosEv [AV.nilp] 3 = [.nilp, .nilp, .nilp] := rfl
  simp only [look_set, look_nil, look_cons, lookL_nil, lookL_cons, setL_nil, setL_cons, cellsAt_cons, in_str, in_ptr, in_slice, in_loc, List.contains_cons, List.contains_nil, one_int, loc_int, cells_ptr, cells_agg, List.append_nil, List.map, List.length, List.take, List.drop, List.all, List.cons_append, List.nil_append, List.take_succ_cons, List.drop_succ_cons, List.length_cons, Nat.reduceEqDiff, Nat.reduceAdd, Nat.reduceLeDiff, Nat.reduceLT, if_true, if_false, Bool.and_true, Bool.or_true, Bool.or_false, Bool.true_or, Bool.not_false, List.isEmpty_cons, beq_self_eq_true, Bool.false_eq_true, Nat.succ_ne_self, keepT_setT, List.take_succ_cons, hk', hL', hB3, hh, hf3, hz3]
  generalize hq2 : codeEv (run A n) (ev A n).2 a20_L1 _ = q2
  obtain ⟨T1, L1, m4, rfl, e2, e3, g4, hB4⟩ := lv20_0 n s b m1.n m3.n cap (hR 1 (op : Int)) (hR 2 (op : Int)) (hR 3 (op : Int)) W _ [.int .i64 0, .int .i64 0, .int .i64 0, .int .i64 0] _ _ (by simp only [lookL_cons, Nat.reduceEqDiff, if_true, if_false]) (by simp only [lookL_cons, Nat.reduceEqDiff, if_true, if_false]) (by simp only [keepT, List.map, look_set, look_cons, in_int, in_str, in_ptr, in_slice, in_loc, Nat.reduceEqDiff, if_true, if_false, List.contains_cons, List.contains_nil, beq_self_eq_true, Bool.or_false, Bool.or_true, Bool.true_or]) _ hp (by omega) (by omega) (by omega) (by rw [push_n]; omega) hq2
  rw [hWd] at hB4
  have gn4 := g4.2.1
  rw [push_n] at gn4
  have g34 := (GB.of m1.n (Gr.push m3 (.cells [.ptr m1.n 1, .ptr m1.n 2, .ptr m1.n 3] true) (by omega))).trans g4
  have G4 : Gr m m4 340 := (GB.gr (GB.gr g2 g3 (by omega)) g34 (by omega)).le (by omega)
  have hl3 := valsR_len [hR 1 (op : Int), hR 2 (op : Int), hR 3 (op : Int)] ws
  unfold refIns
  rw [hopd]
  match hv : valsR [hR 1 (op : Int), hR 2 (op : Int), hR 3 (op : Int)] ws, hl3 with
  | [a, bb, c], _ =>
    rw [hv] at hB4
    simp only [List.map, List.cons_append, List.nil_append] at hB4
    have G4x := G4.1
    have G4n := G4.2
    have T4 := hT.ext G4x h13
    obtain ⟨m5, c5, g5⟩ := rcheck_run n (by omega) (op : Int) a bb c m4 (by omega)
    have hB5 := (g5.1.2 _ (Mem.get_lt hB4)).trans hB4
    cases hc : codeOk (op : Int) a bb c
    · rw [hc] at c5
      refine ⟨m5, ?_, (G4.trans g5).le (by omega)⟩
      have hz : (if codeOk (op : Int) a bb c = true then (if ((textB (op : Int) a bb c).toList == s.toList) = true then some (op, a, bb, c) else none) else none) = (none : Option (Nat × Int × Int × Int)) := if_neg (by rw [hc]; simp)
      dsimp only
      rw [hz]
      simp only [look_set, look_nil, look_cons, lookL_nil, lookL_cons, setL_nil, setL_cons, cellsAt_cons, bin_ine, in_loc, List.contains_cons, List.contains_nil, one_int, loc_int, loc_agg, cells_agg, List.append_nil, List.map, List.length, List.take, List.drop, List.all, List.any, List.nil_append, List.take_succ_cons, List.drop_succ_cons, Option.map_some, Nat.reduceEqDiff, Int.reduceEq, Nat.reduceAdd, Nat.reduceLeDiff, Nat.reduceLT, if_true, if_false, Bool.and_true, Bool.or_false, Bool.not_false, List.isEmpty_cons, beq_self_eq_true, Bool.false_eq_true, Nat.succ_ne_self, decide_false, beq_tf, keepT_setT, List.take_succ_cons, e2, e3, hB4, c5]
      rfl
    · rw [hc] at c5
      simp only [if_true] at c5
      have g5n := g5.2
      have g5x := g5.1.1
      obtain ⟨m6, c6, g6⟩ := rtext_run n (by omega) (op : Int) a bb c m5 (T4.ext g5.1 (by have := G4x.1; omega)) (by have := G4x.1; omega) (by omega)
      have hB6 := (g6.1.2 _ (Mem.get_lt hB5)).trans hB5
      refine ⟨m6, ?_, ((G4.trans g5).trans g6).le (by omega)⟩
      cases he : (textB (op : Int) a bb c).toList == s.toList
      · have hz : (if codeOk (op : Int) a bb c = true then (if ((textB (op : Int) a bb c).toList == s.toList) = true then some (op, a, bb, c) else none) else none) = (none : Option (Nat × Int × Int × Int)) := by rw [if_pos hc, if_neg (by rw [he]; simp)]
        dsimp only
        rw [hz]
        simp only [look_set, look_nil, look_cons, lookL_nil, lookL_cons, setL_nil, setL_cons, cellsAt_cons, bin_ine, in_loc, List.contains_cons, List.contains_nil, one_int, loc_int, loc_agg, cells_agg, List.append_nil, List.map, List.length, List.take, List.drop, List.all, List.any, List.nil_append, List.take_succ_cons, List.drop_succ_cons, Option.map_some, Nat.reduceEqDiff, Nat.reduceAdd, Nat.reduceLeDiff, Nat.reduceLT, if_true, if_false, Bool.and_true, Bool.or_false, Bool.not_true, Bool.not_false, List.isEmpty_cons, beq_self_eq_true, Bool.false_eq_true, Nat.succ_ne_self, decide_true, keepT_setT, List.take_succ_cons, str_ne, e2, e3, hB4, hB5, c5, c6, str_ne, he]
        rfl
      · have hz : (if codeOk (op : Int) a bb c = true then (if ((textB (op : Int) a bb c).toList == s.toList) = true then some (op, a, bb, c) else none) else none) = some (op, a, bb, c) := by rw [if_pos hc, if_pos he]
        dsimp only
        rw [hz]
        simp only [look_set, look_nil, look_cons, lookL_nil, lookL_cons, setL_nil, setL_cons, cellsAt_cons, bin_ine, in_ptr, in_loc, List.contains_cons, List.contains_nil, one_int, loc_int, loc_agg, cells_agg, List.append_nil, List.map, List.length, List.take, List.drop, List.all, List.any, List.nil_append, List.take_succ_cons, List.drop_succ_cons, Option.map_some, Nat.reduceEqDiff, Nat.reduceAdd, Nat.reduceLeDiff, Nat.reduceLT, if_true, if_false, Bool.and_true, Bool.or_false, Bool.not_true, Bool.not_false, List.isEmpty_cons, beq_self_eq_true, Bool.false_eq_true, Nat.succ_ne_self, decide_true, keepT_setT, List.take_succ_cons, str_ne, e2, e3, hB4, hB5, hB6, c5, c6, str_ne, he]
        rfl
end AG
