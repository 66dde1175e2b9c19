/- What the functions of instructions and their texts compute, and the laws of that. -/
import Derived.Test.YtekljfhfjncmjaaDoorAgCh1
namespace AG
open Go Go.Proofs.YtekljfhfjncmjaaDoor
set_option maxRecDepth 100000
set_option maxHeartbeats 4000000
theorem str_eqg (x y : ByteArray) : binEv .eql (.str x) (.str y) = some (.bool (x.toList == y.toList)) := rfl
theorem kname_at (j : Nat) (h2 : j < 25) : cellsAt kinds (0 + j * 6 + 0) 1 = some [.str (nameB j)] := by
  have : ((List.range 25).all fun j => match kinds[j * 6]? with | some (.str _) => true | _ => false) = true := by decide +kernel
  have h := List.all_eq_true.1 this j (List.mem_range.2 h2)
  have e : kinds[j * 6]? = some (.str (nameB j)) := by
    unfold nameB strAt
    split at h
    · rename_i s hs
      rw [hs]
    · cases h
  rw [Nat.zero_add, Nat.add_zero]
  exact cells_one e
theorem ops_end (N : Nat) (again : AC → St → Option (Ex × St)) (s : ByteArray) (b B nw : Nat) (m : Mem) (hT : Tab m) (cs : List AV) (T : List (Nat × AV)) (L : List (Nat × List AV)) (hL : lookL L 2 = some cs) (hk : keepT [0, 2, 4, 5, 6] [2] T = [(0, .str s), (2, .loc 2 0), (4, .slice b 0 nw (some nw) 1), (5, .ptr B 0), (6, .int .i64 ((25 : Nat) : Int))]) :
    ∃ T' L', codeEv (run A N) again a15_B2 ⟨119, T, L, m⟩ = some (.exit 0, ⟨119, T', L', m⟩) ∧ lookL L' 2 = some cs ∧ keepT [0, 2, 4, 5] [2] T' = [(0, .str s), (2, .loc 2 0), (4, .slice b 0 nw (some nw) 1), (5, .ptr B 0)] := by
  have hg := hT.k
  have h' : ¬ ((25 : Nat) : Int) < ((25 : Nat) : Int) := by omega
  unfold a15_B2
  exact ⟨_, _, by simp only [codeEv, opsEv, oneEv, guardEv, opE_mov, opE_load1, opE_bin, opE_lenL, lenR_slice, St.opd, look_set, look_nil, look_cons, St.put, St.read, cellsAt_cons, bin_ilt, keepL, List.length, List.take, List.drop, List.take_succ_cons, Option.map_some, Nat.reduceEqDiff, Nat.reduceAdd, Nat.reduceLeDiff, Nat.reduceLT, if_true, if_false, Bool.false_eq_true, Nat.succ_ne_self, decide_false, List.take_succ_cons, hk, hL, hg, h']; rfl, by simp only [lookL_cons, if_true], by simp only [keepT, List.map, look_set, look_cons, in_str, in_ptr, in_slice, in_loc, Nat.reduceEqDiff, if_true, if_false, List.contains_cons, List.contains_nil, beq_self_eq_true, Bool.or_false]⟩
theorem ops_hit (N : Nat) (again : AC → St → Option (Ex × St)) (s w0 : ByteArray) (b B nw j : Nat) (hw : 0 < nw) (wc : List AV) (m : Mem) (hT : Tab m) (hb : m.get b = some (.cells wc true)) (hw0 : cellsAt wc 0 1 = some [.str w0]) (x y z o : AV) (hB : m.get B = some (.cells [o, x, y, z] true)) (cs : List AV) (T : List (Nat × AV)) (L : List (Nat × List AV)) (hL : lookL L 2 = some cs) (hk : keepT [0, 2, 4, 5, 6] [2] T = [(0, .str s), (2, .loc 2 0), (4, .slice b 0 nw (some nw) 1), (5, .ptr B 0), (6, .int .i64 (j : Int))]) (hj : 1 ≤ j ∧ j < 25) (he : ((nameB j).toList == w0.toList) = true) :
    ∃ T' L', codeEv (run A N) again a15_B2 ⟨119, T, L, m⟩ = some (.norm, ⟨119, T', L', m.set B (.cells [.int .i64 (j : Int), x, y, z] true)⟩) ∧ lookL L' 2 = some cs ∧ keepT [0, 2, 4, 5, 6] [2] T' = [(0, .str s), (2, .loc 2 0), (4, .slice b 0 nw (some nw) 1), (5, .ptr B 0), (6, .int .i64 ((j + 1 : Nat) : Int))] := by
  have hg := hT.k
  have hg2 := hT.t
  have h' : (j : Int) < ((25 : Nat) : Int) := by omega
  have h'' : 0 ≤ (j : Int) := by omega
  have hw' : (0 : Int) < (nw : Int) := by omega
  have hn := kname_at j hj.2
  have a1 := add_i j (by omega)
  unfold a15_B2 a15_R2
  exact ⟨_, _, by simp only [codeEv, opsEv, oneEv, guardEv, opE_mov, opE_load1, opE_store, opE_bin, opE_faddr, opE_iaddrL, opE_lenL, lenR_slice, elemR_slice, St.opd, look_set, look_nil, look_cons, St.put, St.read, St.write, lookL_nil, lookL_cons, cellsAt_cons, splice, bin_ilt, in_int, in_str, in_ptr, in_slice, in_loc, List.contains_cons, List.contains_nil, one_int, cells_int, keepL, careEv, dOneEv, dOpsEv, accOf, accEv, Option.toList_some, List.append_nil, List.map, List.length, List.take, List.drop, List.all, List.cons_append, List.nil_append, List.take_succ_cons, List.drop_succ_cons, Option.map_some, Nat.reduceEqDiff, Int.reduceLE, Nat.reduceAdd, Nat.reduceLeDiff, Nat.reduceLT, if_true, if_false, Bool.and_true, Bool.and_false, Bool.or_false, Bool.not_true, Bool.not_false, List.isEmpty_cons, beq_self_eq_true, Bool.false_eq_true, Nat.succ_ne_self, decide_true, keepT_setT, List.take_succ_cons, and_self, Int.toNat_zero, Nat.zero_mul, AOp.kd, kd_rm, logOk_nil', str_eqg, hk, hL, hg, hg2, h', h'', hw', hn, hb, hB, hw0, he, a1, Int.toNat_natCast]; rfl, by simp only [lookL_cons, if_true], by simp only [keepT, List.map, look_set, look_cons, in_int, in_str, in_ptr, in_slice, in_loc, Nat.reduceEqDiff, if_true, if_false, List.contains_cons, List.contains_nil, beq_self_eq_true, Bool.or_false]⟩
theorem ops_more (N : Nat) (again : AC → St → Option (Ex × St)) (s w0 : ByteArray) (b B nw j : Nat) (hw : 0 < nw) (wc : List AV) (m : Mem) (hT : Tab m) (hb : m.get b = some (.cells wc true)) (hw0 : cellsAt wc 0 1 = some [.str w0]) (x y z o : AV) (hB : m.get B = some (.cells [o, x, y, z] true)) (cs : List AV) (T : List (Nat × AV)) (L : List (Nat × List AV)) (hL : lookL L 2 = some cs) (hk : keepT [0, 2, 4, 5, 6] [2] T = [(0, .str s), (2, .loc 2 0), (4, .slice b 0 nw (some nw) 1), (5, .ptr B 0), (6, .int .i64 (j : Int))]) (hj : 1 ≤ j ∧ j < 25) (he : ((nameB j).toList == w0.toList) = false) :
    ∃ T' L', codeEv (run A N) again a15_B2 ⟨119, T, L, m⟩ = some (.norm, ⟨119, T', L', m⟩) ∧ lookL L' 2 = some cs ∧ keepT [0, 2, 4, 5, 6] [2] T' = [(0, .str s), (2, .loc 2 0), (4, .slice b 0 nw (some nw) 1), (5, .ptr B 0), (6, .int .i64 ((j + 1 : Nat) : Int))] := by
  have hg := hT.k
  have hg2 := hT.t
  have h' : (j : Int) < ((25 : Nat) : Int) := by omega
  have h'' : 0 ≤ (j : Int) := by omega
  have hw' : (0 : Int) < (nw : Int) := by omega
  have hn := kname_at j hj.2
  have a1 := add_i j (by omega)
  unfold a15_B2 a15_R2
  exact ⟨_, _, by simp only [codeEv, opsEv, oneEv, guardEv, opE_mov, opE_load1, opE_store, opE_bin, opE_faddr, opE_iaddrL, opE_lenL, lenR_slice, elemR_slice, St.opd, look_set, look_nil, look_cons, St.put, St.read, St.write, lookL_nil, lookL_cons, cellsAt_cons, splice, bin_ilt, in_int, in_str, in_ptr, in_slice, in_loc, List.contains_cons, List.contains_nil, one_int, cells_int, keepL, careEv, dOneEv, dOpsEv, accOf, accEv, Option.toList_some, List.append_nil, List.map, List.length, List.take, List.drop, List.all, List.cons_append, List.nil_append, List.take_succ_cons, List.drop_succ_cons, Option.map_some, Nat.reduceEqDiff, Int.reduceLE, Nat.reduceAdd, Nat.reduceLeDiff, Nat.reduceLT, if_true, if_false, Bool.and_true, Bool.and_false, Bool.or_false, Bool.not_true, Bool.not_false, List.isEmpty_cons, beq_self_eq_true, Bool.false_eq_true, Nat.succ_ne_self, decide_true, keepT_setT, List.take_succ_cons, and_self, Int.toNat_zero, Nat.zero_mul, AOp.kd, kd_rm, logOk_nil', str_eqg, hk, hL, hg, hg2, h', h'', hw', hn, hb, hB, hw0, he, a1, Int.toNat_natCast]; rfl, by simp only [lookL_cons, if_true], by simp only [keepT, List.map, look_set, look_cons, in_int, in_str, in_ptr, in_slice, in_loc, Nat.reduceEqDiff, if_true, if_false, List.contains_cons, List.contains_nil, beq_self_eq_true, Bool.or_false]⟩
/-- Nothing but one block has turned. -/
def SB (B : Nat) (m m' : Mem) : Prop := m'.n = m.n ∧ ∀ i, i ≠ B → m'.get i = m.get i
theorem SB.refl (B : Nat) (m : Mem) : SB B m m := ⟨rfl, fun _ _ => rfl⟩
theorem SB.trans {B : Nat} {a b c : Mem} (h : SB B a b) (k : SB B b c) : SB B a c := ⟨k.1.trans h.1, fun i hi => (k.2 i hi).trans (h.2 i hi)⟩
theorem SB.set (B : Nat) (m : Mem) (x : ABlk) (hm : m.n ≤ 2 ^ depth) (hB : B < m.n) : SB B m (m.set B x) := ⟨rfl, fun _i hi => Mem.get_set_ne x hm hB (fun h => hi h.symm)⟩
theorem SB.tab {B : Nat} {m m' : Mem} (h : SB B m m') (hT : Tab m) (hB : 13 ≤ B) : Tab m' := ⟨(h.2 0 (by omega)).trans hT.k, (h.2 2 (by omega)).trans hT.s, (h.2 12 (by omega)).trans hT.t⟩
theorem SB.tab2 {B : Nat} {m m' : Mem} (h : SB B m m') (hT : Tab2 m) (hB : 13 ≤ B) : Tab2 m' := ⟨h.tab hT.t hB, (h.2 7 (by omega)).trans hT.p⟩
theorem SB.ext {B : Nat} {m m' : Mem} (h : SB B m m') {a : Mem} (ha : Ext a m) (hB : a.n ≤ B) : Ext a m' := ⟨by rw [h.1]; exact ha.1, fun i hi => (h.2 i (by omega)).trans (ha.2 i hi)⟩
theorem loop_ops (s w0 : ByteArray) (b B nw : Nat) (hw : 0 < nw) (wc : List AV) (hw0 : cellsAt wc 0 1 = some [.str w0]) (x y z : AV) (cs : List AV) (h13 : 13 ≤ B) (hbB : b ≠ B) : ∀ (k j acc N : Nat) (m : Mem) (T : List (Nat × AV)) (L : List (Nat × List AV)), j + k = 25 → 1 ≤ j → k ≤ N → B < m.n → m.n ≤ 2 ^ depth → Tab m → m.get b = some (.cells wc true) → m.get B = some (.cells [.int .i64 (acc : Int), x, y, z] true) → lookL L 2 = some cs → keepT [0, 2, 4, 5, 6] [2] T = [(0, .str s), (2, .loc 2 0), (4, .slice b 0 nw (some nw) 1), (5, .ptr B 0), (6, .int .i64 (j : Int))] →
    ∃ T' L' m', codeEv (run A N) (ev A N).2 a15_L2 ⟨119, T, L, m⟩ = some (.exit 0, ⟨119, T', L', m'⟩) ∧ lookL L' 2 = some cs ∧ keepT [0, 2, 4, 5] [2] T' = [(0, .str s), (2, .loc 2 0), (4, .slice b 0 nw (some nw) 1), (5, .ptr B 0)] ∧ SB B m m' ∧ m'.get B = some (.cells [.int .i64 (opOf w0 k j acc : Int), x, y, z] true)
  | 0, j, acc, N, m, T, L, hjk, hj1, hN, hBm, hmn, hT, hb, hB, hL, hk => by
    obtain rfl : j = 25 := by omega
    obtain ⟨T', L', e1, e2, e3⟩ := ops_end N (ev A N).2 s b B nw m hT cs T L hL hk
    exact ⟨T', L', m, by rw [a15_L2_step, e1], e2, e3, SB.refl B m, hB⟩
  | k + 1, j, acc, N, m, T, L, hjk, hj1, hN, hBm, hmn, hT, hb, hB, hL, hk => by
    obtain ⟨n, rfl⟩ : ∃ n, N = n + 1 := ⟨N - 1, by omega⟩
    by_cases he : ((nameB j).toList == w0.toList) = true
    · obtain ⟨T1, L1, e1, e2, e3⟩ := ops_hit (n + 1) (ev A (n + 1)).2 s w0 b B nw j hw wc m hT hb hw0 x y z _ hB cs T L hL hk ⟨hj1, by omega⟩ he
      have hs := SB.set B m (.cells [.int .i64 (j : Int), x, y, z] true) hmn hBm
      obtain ⟨T', L', m', f1, f2, f3, f4, f5⟩ := loop_ops s w0 b B nw hw wc hw0 x y z cs h13 hbB k (j + 1) j n (m.set B (.cells [.int .i64 (j : Int), x, y, z] true)) T1 L1 (by omega) (by omega) (by omega) hBm hmn (hs.tab hT h13) ((hs.2 b hbB).trans hb) (Mem.get_set_same _ hBm) e2 e3
      refine ⟨T', L', m', ?_, f2, f3, hs.trans f4, by rw [f5, opOf, if_pos he]⟩
      rw [a15_L2_step, e1]
      dsimp only
      rw [again_of]
      exact f1
    · obtain ⟨T1, L1, e1, e2, e3⟩ := ops_more (n + 1) (ev A (n + 1)).2 s w0 b B nw j hw wc m hT hb hw0 x y z _ hB cs T L hL hk ⟨hj1, by omega⟩ (by simpa using he)
      obtain ⟨T', L', m', f1, f2, f3, f4, f5⟩ := loop_ops s w0 b B nw hw wc hw0 x y z cs h13 hbB k (j + 1) acc n m T1 L1 (by omega) (by omega) (by omega) hBm hmn hT hb hB e2 e3
      refine ⟨T', L', m', ?_, f2, f3, f4, by rw [f5, opOf, if_neg he]⟩
      rw [a15_L2_step, e1]
      dsimp only
      rw [again_of]
      exact f1
end AG
