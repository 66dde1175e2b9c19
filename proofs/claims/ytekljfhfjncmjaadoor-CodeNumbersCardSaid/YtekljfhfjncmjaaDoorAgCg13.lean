/- What the functions of instructions and their texts compute, and the laws of that. -/
import Derived.Test.YtekljfhfjncmjaaDoorAgCg12
namespace AG
open Go Go.Proofs.YtekljfhfjncmjaaDoor
set_option maxRecDepth 100000
set_option maxHeartbeats 4000000



theorem loop4q (N : Nat) (s : ByteArray) (hN : s.data.toList.length < N) (hl : s.data.toList.length ≤ 1000) (m : Mem) (cs : List AV) {T : List (Nat × AV)} {L : List (Nat × List AV)} {q : Option (Ex × St)} (hq : codeEv (run A N) (ev A N).2 a4_L2 ⟨121, T, L, m⟩ = q) (hL : lookL L 1 = some cs) (hk : keepT [1, 3, 4, 5] [1] T = [(1, .loc 1 0), (3, .str s), (4, .int .i64 1), (5, .int .i64 0)]) :
    ∃ T' L', q = some (.exit 0, ⟨121, T', L', m⟩) ∧ lookL L' 1 = some cs ∧ keepT [1, 4] [1] T' = [(1, .loc 1 0), (4, .int .i64 ((1 + sps s.data.toList : Nat) : Int))] := by
  subst hq
  exact loop4 s m cs s.data.toList 0 1 N T L rfl hN (by omega) (by omega) hL hk
theorem loopNq (N : Nat) (hN : 20 ≤ N) (w op a b c : Int) (m : Mem) (hT : Tab m) {T : List (Nat × AV)} {L : List (Nat × List AV)} {q : Option (Ex × St)} (hq : codeEv (run A N) (ev A N).2 a4_L1 ⟨121, T, L, m⟩ = q) (hL : lookL L 1 = some [.int .i64 op, .int .i64 a, .int .i64 b, .int .i64 c]) (hk : keepT [1, 4, 6, 7] [1] T = [(1, .loc 1 0), (4, .int .i64 w), (6, .int .i64 0), (7, .int .i64 0)]) :
    ∃ T' L', q = some (.exit 2, ⟨121, T', L', m⟩) ∧ lookL L' 1 = some [.int .i64 op, .int .i64 a, .int .i64 b, .int .i64 c] ∧ keepT [1, 4, 6] [1] T' = [(1, .loc 1 0), (4, .int .i64 w), (6, .int .i64 0)] := by
  subst hq
  exact loopN N hN w op a b c m hT T L hL hk
theorem ok_1 {op a b c : Int} (h : codeOk op a b c = true) (x : Int) : codeOk op x b c = fitsI (kx 1 op.toNat) x := by
  obtain ⟨h1, h2, h3, h4⟩ := codeOk_fits h
  simp [codeOk, h1.1, h1.2, h3, h4]
theorem ok_2 {op a b c : Int} (h : codeOk op a b c = true) (x : Int) : codeOk op a x c = fitsI (kx 2 op.toNat) x := by
  obtain ⟨h1, h2, h3, h4⟩ := codeOk_fits h
  simp [codeOk, h1.1, h1.2, h2, h4]
theorem ok_3 {op a b c : Int} (h : codeOk op a b c = true) (x : Int) : codeOk op a b x = fitsI (kx 3 op.toNat) x := by
  obtain ⟨h1, h2, h3, h4⟩ := codeOk_fits h
  simp [codeOk, h1.1, h1.2, h2, h3]
def numK (y1 y0 z u : Bool) : Nat := if u then 3 else if z then 2 else if y1 || !y0 then 1 else 0
theorem num_fact : (List.range 25).all (fun i => i == 0 || (numK (fitsI (kx 1 i) 1) (fitsI (kx 1 i) 0) (fitsI (kx 2 i) 8) (fitsI (kx 3 i) 8) == (if kx 1 i = 0 then 0 else 1) + ((if kx 2 i = 0 then 0 else 1) + (if kx 3 i = 0 then 0 else 1)) &&
    ((!fitsI (kx 3 i) 8 || fitsI (kx 2 i) 8) && (!fitsI (kx 2 i) 8 || fitsI (kx 1 i) 1)))) = true := by decide +kernel
theorem num_at (op : Int) (h1 : 1 ≤ op) (h2 : op < 25) : numK (fitsI (kx 1 op.toNat) 1) (fitsI (kx 1 op.toNat) 0) (fitsI (kx 2 op.toNat) 8) (fitsI (kx 3 op.toNat) 8) = (if kx 1 op.toNat = 0 then 0 else 1) + ((if kx 2 op.toNat = 0 then 0 else 1) + (if kx 3 op.toNat = 0 then 0 else 1)) ∧ (fitsI (kx 3 op.toNat) 8 = true → fitsI (kx 2 op.toNat) 8 = true) ∧ (fitsI (kx 2 op.toNat) 8 = true → fitsI (kx 1 op.toNat) 1 = true) := by
  have := List.all_eq_true.1 num_fact op.toNat (List.mem_range.2 (by omega))
  simp only [Bool.or_eq_true, Bool.and_eq_true, beq_iff_eq, Bool.not_eq_true'] at this
  rcases this with h | ⟨h3, h4, h5⟩
  · omega
  · exact ⟨h3, fun h => h4.resolve_left (by simp [h]), fun h => h5.resolve_left (by simp [h])⟩

theorem nums_a (N : Nat) (hN : 300 ≤ N) {op a b c : Int} (m m' m1 : Mem) (hl : run A N 11 [] m = some (.bool true, m')) (hT : Tab2 m') (hT1 : Tab2 m1) (h13 : 13 ≤ m1.n) (hmn : m1.n + 20 ≤ 2 ^ depth) (hk : codeOk op a b c = true) (t1 : run A N 13 [insA op a b c] m' = some (.str (textB op a b c), m1)) (hlen : (textB op a b c).data.toList.length ≤ 200)
    (hsp : 1 + sps (textB op a b c).data.toList = 0 + 1) (e1 : fitsI (kx 1 op.toNat) 1 = false) (e0 : fitsI (kx 1 op.toNat) 0 = true) (e2 : fitsI (kx 2 op.toNat) 8 = false) (e3 : fitsI (kx 3 op.toNat) 8 = false) : ∃ m2, run A (N + 1) 4 [insA op a b c] m = some (.bool true, m2) := by
  rw [run_4]
  have hc := code_call N (by omega) op a b c m' hT.t
  rw [hk] at hc
  simp only [if_true] at hc
  have c1 := code_call N (by omega) op 1 b c m1 hT1.t
  rw [ok_1 hk, e1] at c1
  simp only [Bool.false_eq_true, if_false] at c1
  have c0 := code_call N (by omega) op 0 b c m1 hT1.t
  rw [ok_1 hk, e0] at c0
  simp only [if_true] at c0
  have c2 := code_call N (by omega) op a 8 c m1 hT1.t
  rw [ok_2 hk, e2] at c2
  simp only [Bool.false_eq_true, if_false] at c2
  have c3 := code_call N (by omega) op a b 8 m1 hT1.t
  rw [ok_3 hk, e3] at c3
  simp only [Bool.false_eq_true, if_false] at c3
  have l4 := fun T L q => loop4q N (textB op a b c) (by omega) (by omega) m1 [AV.int .i64 op, .int .i64 a, .int .i64 b, .int .i64 c] (T := T) (L := L) (q := q)
  have lN := fun T L q => loopNq N (by omega) ((1 + sps (textB op a b c).data.toList : Nat) : Int) op a b c m1 hT1.t (T := T) (L := L) (q := q)
  have r3 := fun T L q => R3_ok N (by omega) (ev A N).2 ((1 + sps (textB op a b c).data.toList : Nat) : Int) 0 op a b c m1 hT1 h13 (by omega) (T := T) (L := L) (q := q)
  obtain ⟨A', hx⟩ := xor_ex a
  unfold insA at t1
  unfold fnEv a4 insA
  simp only [codeEv, opsEv, oneEv, guardEv, opE_mov, opE_alloc, opE_box, opE_load1, opE_loadk, opE_store, opE_bin, opE_un, opE_faddr, opE_call, St.opd, look_set, look_nil, look_cons, St.put, St.new, St.read, St.write, lookL_nil, lookL_cons, setL_nil, cellsAt_cons, splice, argsT, resEv, bin_ine, in_int, in_str, in_agg, in_loc, List.contains_cons, List.contains_nil, one_int, cells_int, loc_agg, cells_agg, unEv, callWith, keepL, List.map, List.length, List.take, List.drop, List.all, List.any, List.take_succ_cons, Option.map_some, Nat.reduceEqDiff, Nat.reduceAdd, Nat.reduceLeDiff, Nat.reduceLT, if_true, if_false, Bool.and_true, Bool.or_false, Bool.not_true, Bool.not_false, List.isEmpty_cons, beq_self_eq_true, Bool.false_eq_true, Nat.succ_ne_self, decide_true, keepT_setT, keepT_lit, List.take_succ_cons, hl, hc, t1]
  generalize hq : codeEv (run A N) (ev A N).2 a4_L2 _ = q
  obtain ⟨T1, L1, rfl, g1, g2⟩ := l4 _ _ _ hq (by simp only [lookL_cons, if_true]) (by simp only [keepT, List.map, look_set, look_cons, in_int, in_str, in_loc, Nat.reduceEqDiff, if_true, if_false, List.contains_cons, List.contains_nil, beq_self_eq_true, Bool.or_false])
  simp only [look_set, look_nil, look_cons, lookL_nil, lookL_cons, in_int, in_loc, List.contains_cons, List.contains_nil, List.map, Nat.reduceEqDiff, Nat.reduceLT, if_true, if_false, Bool.or_false, beq_self_eq_true, keepT_setT, g1, g2]
  generalize hq : codeEv (run A N) (ev A N).2 a4_L1 _ = q
  obtain ⟨T2, L2, rfl, g3, g4⟩ := lN _ _ _ hq (by simp only [lookL_cons, if_true]) (by simp only [keepT, List.map, look_set, look_cons, in_int, in_loc, Nat.reduceEqDiff, if_true, if_false, List.contains_cons, List.contains_nil, beq_self_eq_true, Bool.or_false])
  simp only [codeEv, opsEv, oneEv, guardEv, opE_mov, opE_pick, opE_loadk, opE_bin, opE_call, St.opd, look_set, look_nil, look_cons, St.put, St.read, lookL_nil, lookL_cons, setL_nil, setL_cons, cellsAt_cons, bin_ieq, bin_ine, in_int, in_loc, List.contains_cons, List.contains_nil, one_int, loc_agg, cells_agg, callWith, keepL, List.append_nil, List.map, List.length, List.take, List.drop, List.all, List.any, List.cons_append, List.nil_append, List.take_succ_cons, List.drop_succ_cons, Option.map_some, Nat.reduceEqDiff, Int.reduceEq, Nat.reduceAdd, Nat.reduceLeDiff, Nat.reduceLT, if_true, if_false, Bool.and_true, Bool.or_true, Bool.or_false, Bool.true_or, Bool.not_true, Bool.not_false, List.isEmpty_cons, beq_self_eq_true, Bool.false_eq_true, Nat.succ_ne_self, decide_true, decide_false, keepT_setT, List.take_succ_cons, g3, g4, a4_R2, c1, c2, c3, c0]
  generalize hq : codeEv (run A N) (ev A N).2 a4_R3 _ = q
  obtain ⟨T3, L3, m3, x, y, zz, rfl, g5, g6, g7, g8, g9⟩ := r3 _ _ _ hq (by simp only [lookL_cons, Nat.reduceEqDiff, if_true, if_false]) (by simp only [keepT, List.map, look_set, look_cons, in_int, in_loc, Nat.reduceEqDiff, if_true, if_false, List.contains_cons, List.contains_nil, beq_self_eq_true, Bool.or_false])
  have r4 := fun T L q => R4_ok N (by omega) (ev A N).2 ((1 + sps (textB op a b c).data.toList : Nat) : Int) 0 op A' b c x y zz m3 g9 (by omega) (by omega) (T := T) (L := L) (q := q)
  simp only [look_set, look_nil, look_cons, lookL_nil, lookL_cons, setL_nil, setL_cons, cellsAt_cons, in_int, in_bool, in_loc, List.contains_cons, List.contains_nil, one_int, cells_int, cells_agg, List.append_nil, List.map, List.length, List.take, List.drop, List.all, List.cons_append, List.nil_append, List.take_succ_cons, List.drop_succ_cons, Option.map_some, Nat.reduceEqDiff, Nat.reduceAdd, Nat.reduceLeDiff, Nat.reduceLT, if_true, if_false, Bool.and_true, Bool.or_true, Bool.or_false, Bool.true_or, Bool.not_false, List.isEmpty_cons, beq_self_eq_true, Nat.succ_ne_self, keepT_setT, List.take_succ_cons, g5, g6, hx]
  generalize hq : codeEv (run A N) (ev A N).2 a4_R4 _ = q
  obtain ⟨T4, L4, m4, x', y', zz', rfl, g10, g11⟩ := r4 _ _ _ hq (by simp only [lookL_cons, Nat.reduceEqDiff, if_true, if_false]) (by simp only [keepT, List.map, look_set, look_cons, in_int, in_bool, in_loc, Nat.reduceEqDiff, if_true, if_false, List.contains_cons, List.contains_nil, beq_self_eq_true, Bool.or_false])
  dsimp only
  generalize hq : codeEv (run A N) (ev A N).2 a4_R5 _ = q
  obtain ⟨T5, rfl, g12⟩ := R5_ok N (ev A N).2 ((1 + sps (textB op a b c).data.toList : Nat) : Int) 0 _ _ x y x' y' zz zz' g7 g11 (by rw [hsp]; rfl) m4 hq g10
  exact ⟨m4, by simp only [loc_bool, if_false, Bool.false_eq_true, g12]⟩

theorem nums_b (N : Nat) (hN : 300 ≤ N) {op a b c : Int} (m m' m1 : Mem) (hl : run A N 11 [] m = some (.bool true, m')) (hT : Tab2 m') (hT1 : Tab2 m1) (h13 : 13 ≤ m1.n) (hmn : m1.n + 20 ≤ 2 ^ depth) (hk : codeOk op a b c = true) (t1 : run A N 13 [insA op a b c] m' = some (.str (textB op a b c), m1)) (hlen : (textB op a b c).data.toList.length ≤ 200)
    (hsp : 1 + sps (textB op a b c).data.toList = 1 + 1) (e1 : fitsI (kx 1 op.toNat) 1 = true) (e2 : fitsI (kx 2 op.toNat) 8 = false) (e3 : fitsI (kx 3 op.toNat) 8 = false) : ∃ m2, run A (N + 1) 4 [insA op a b c] m = some (.bool true, m2) := by
  rw [run_4]
  have hc := code_call N (by omega) op a b c m' hT.t
  rw [hk] at hc
  simp only [if_true] at hc
  have c1 := code_call N (by omega) op 1 b c m1 hT1.t
  rw [ok_1 hk, e1] at c1
  simp only [if_true] at c1
  have c2 := code_call N (by omega) op a 8 c m1 hT1.t
  rw [ok_2 hk, e2] at c2
  simp only [Bool.false_eq_true, if_false] at c2
  have c3 := code_call N (by omega) op a b 8 m1 hT1.t
  rw [ok_3 hk, e3] at c3
  simp only [Bool.false_eq_true, if_false] at c3
  have l4 := fun T L q => loop4q N (textB op a b c) (by omega) (by omega) m1 [AV.int .i64 op, .int .i64 a, .int .i64 b, .int .i64 c] (T := T) (L := L) (q := q)
  have lN := fun T L q => loopNq N (by omega) ((1 + sps (textB op a b c).data.toList : Nat) : Int) op a b c m1 hT1.t (T := T) (L := L) (q := q)
  have r3 := fun T L q => R3_ok N (by omega) (ev A N).2 ((1 + sps (textB op a b c).data.toList : Nat) : Int) 1 op a b c m1 hT1 h13 (by omega) (T := T) (L := L) (q := q)
  obtain ⟨A', hx⟩ := xor_ex a
  unfold insA at t1
  unfold fnEv a4 insA
  simp only [codeEv, opsEv, oneEv, guardEv, opE_mov, opE_alloc, opE_box, opE_load1, opE_loadk, opE_store, opE_bin, opE_un, opE_faddr, opE_call, St.opd, look_set, look_nil, look_cons, St.put, St.new, St.read, St.write, lookL_nil, lookL_cons, setL_nil, cellsAt_cons, splice, argsT, resEv, bin_ine, in_int, in_str, in_agg, in_loc, List.contains_cons, List.contains_nil, one_int, cells_int, loc_agg, cells_agg, unEv, callWith, keepL, List.map, List.length, List.take, List.drop, List.all, List.any, List.take_succ_cons, Option.map_some, Nat.reduceEqDiff, Nat.reduceAdd, Nat.reduceLeDiff, Nat.reduceLT, if_true, if_false, Bool.and_true, Bool.or_false, Bool.not_true, Bool.not_false, List.isEmpty_cons, beq_self_eq_true, Bool.false_eq_true, Nat.succ_ne_self, decide_true, keepT_setT, keepT_lit, List.take_succ_cons, hl, hc, t1]
  generalize hq : codeEv (run A N) (ev A N).2 a4_L2 _ = q
  obtain ⟨T1, L1, rfl, g1, g2⟩ := l4 _ _ _ hq (by simp only [lookL_cons, if_true]) (by simp only [keepT, List.map, look_set, look_cons, in_int, in_str, in_loc, Nat.reduceEqDiff, if_true, if_false, List.contains_cons, List.contains_nil, beq_self_eq_true, Bool.or_false])
  simp only [look_set, look_nil, look_cons, lookL_nil, lookL_cons, in_int, in_loc, List.contains_cons, List.contains_nil, List.map, Nat.reduceEqDiff, Nat.reduceLT, if_true, if_false, Bool.or_false, beq_self_eq_true, keepT_setT, g1, g2]
  generalize hq : codeEv (run A N) (ev A N).2 a4_L1 _ = q
  obtain ⟨T2, L2, rfl, g3, g4⟩ := lN _ _ _ hq (by simp only [lookL_cons, if_true]) (by simp only [keepT, List.map, look_set, look_cons, in_int, in_loc, Nat.reduceEqDiff, if_true, if_false, List.contains_cons, List.contains_nil, beq_self_eq_true, Bool.or_false])
  simp only [codeEv, opsEv, oneEv, guardEv, opE_mov, opE_pick, opE_loadk, opE_bin, opE_call, St.opd, look_set, look_nil, look_cons, St.put, St.read, lookL_nil, lookL_cons, setL_nil, setL_cons, cellsAt_cons, bin_ieq, in_int, in_loc, List.contains_cons, List.contains_nil, one_int, loc_agg, cells_agg, callWith, keepL, List.append_nil, List.map, List.length, List.take, List.drop, List.all, List.any, List.cons_append, List.nil_append, List.take_succ_cons, List.drop_succ_cons, Option.map_some, Nat.reduceEqDiff, Int.reduceEq, Nat.reduceAdd, Nat.reduceLeDiff, Nat.reduceLT, if_true, if_false, Bool.and_true, Bool.or_true, Bool.or_false, Bool.true_or, Bool.not_false, List.isEmpty_cons, beq_self_eq_true, Bool.false_eq_true, Nat.succ_ne_self, decide_true, decide_false, beq_tf, keepT_setT, List.take_succ_cons, g3, g4, a4_R2, c1, c2, c3]
  generalize hq : codeEv (run A N) (ev A N).2 a4_R3 _ = q
  obtain ⟨T3, L3, m3, x, y, zz, rfl, g5, g6, g7, g8, g9⟩ := r3 _ _ _ hq (by simp only [lookL_cons, Nat.reduceEqDiff, if_true, if_false]) (by simp only [keepT, List.map, look_set, look_cons, in_int, in_loc, Nat.reduceEqDiff, if_true, if_false, List.contains_cons, List.contains_nil, beq_self_eq_true, Bool.or_false])
  have r4 := fun T L q => R4_ok N (by omega) (ev A N).2 ((1 + sps (textB op a b c).data.toList : Nat) : Int) 1 op A' b c x y zz m3 g9 (by omega) (by omega) (T := T) (L := L) (q := q)
  simp only [look_set, look_nil, look_cons, lookL_nil, lookL_cons, setL_nil, setL_cons, cellsAt_cons, in_int, in_bool, in_loc, List.contains_cons, List.contains_nil, one_int, cells_int, cells_agg, List.append_nil, List.map, List.length, List.take, List.drop, List.all, List.cons_append, List.nil_append, List.take_succ_cons, List.drop_succ_cons, Option.map_some, Nat.reduceEqDiff, Nat.reduceAdd, Nat.reduceLeDiff, Nat.reduceLT, if_true, if_false, Bool.and_true, Bool.or_true, Bool.or_false, Bool.true_or, Bool.not_false, List.isEmpty_cons, beq_self_eq_true, Nat.succ_ne_self, keepT_setT, List.take_succ_cons, g5, g6, hx]
  generalize hq : codeEv (run A N) (ev A N).2 a4_R4 _ = q
  obtain ⟨T4, L4, m4, x', y', zz', rfl, g10, g11⟩ := r4 _ _ _ hq (by simp only [lookL_cons, Nat.reduceEqDiff, if_true, if_false]) (by simp only [keepT, List.map, look_set, look_cons, in_int, in_bool, in_loc, Nat.reduceEqDiff, if_true, if_false, List.contains_cons, List.contains_nil, beq_self_eq_true, Bool.or_false])
  dsimp only
  generalize hq : codeEv (run A N) (ev A N).2 a4_R5 _ = q
  obtain ⟨T5, rfl, g12⟩ := R5_ok N (ev A N).2 ((1 + sps (textB op a b c).data.toList : Nat) : Int) 1 _ _ x y x' y' zz zz' g7 g11 (by rw [hsp]; rfl) m4 hq g10
  exact ⟨m4, by simp only [loc_bool, if_false, Bool.false_eq_true, g12]⟩

theorem nums_c (N : Nat) (hN : 300 ≤ N) {op a b c : Int} (m m' m1 : Mem) (hl : run A N 11 [] m = some (.bool true, m')) (hT : Tab2 m') (hT1 : Tab2 m1) (h13 : 13 ≤ m1.n) (hmn : m1.n + 20 ≤ 2 ^ depth) (hk : codeOk op a b c = true) (t1 : run A N 13 [insA op a b c] m' = some (.str (textB op a b c), m1)) (hlen : (textB op a b c).data.toList.length ≤ 200)
    (hsp : 1 + sps (textB op a b c).data.toList = 2 + 1) (e1 : fitsI (kx 1 op.toNat) 1 = true) (e2 : fitsI (kx 2 op.toNat) 8 = true) (e3 : fitsI (kx 3 op.toNat) 8 = false) : ∃ m2, run A (N + 1) 4 [insA op a b c] m = some (.bool true, m2) := by
  rw [run_4]
  have hc := code_call N (by omega) op a b c m' hT.t
  rw [hk] at hc
  simp only [if_true] at hc
  have c1 := code_call N (by omega) op 1 b c m1 hT1.t
  rw [ok_1 hk, e1] at c1
  simp only [if_true] at c1
  have c2 := code_call N (by omega) op a 8 c m1 hT1.t
  rw [ok_2 hk, e2] at c2
  simp only [if_true] at c2
  have c3 := code_call N (by omega) op a b 8 m1 hT1.t
  rw [ok_3 hk, e3] at c3
  simp only [Bool.false_eq_true, if_false] at c3
  have l4 := fun T L q => loop4q N (textB op a b c) (by omega) (by omega) m1 [AV.int .i64 op, .int .i64 a, .int .i64 b, .int .i64 c] (T := T) (L := L) (q := q)
  have lN := fun T L q => loopNq N (by omega) ((1 + sps (textB op a b c).data.toList : Nat) : Int) op a b c m1 hT1.t (T := T) (L := L) (q := q)
  have r3 := fun T L q => R3_ok N (by omega) (ev A N).2 ((1 + sps (textB op a b c).data.toList : Nat) : Int) 2 op a b c m1 hT1 h13 (by omega) (T := T) (L := L) (q := q)
  obtain ⟨A', hx⟩ := xor_ex a
  unfold insA at t1
  unfold fnEv a4 insA
  simp only [codeEv, opsEv, oneEv, guardEv, opE_mov, opE_alloc, opE_box, opE_load1, opE_loadk, opE_store, opE_bin, opE_un, opE_faddr, opE_call, St.opd, look_set, look_nil, look_cons, St.put, St.new, St.read, St.write, lookL_nil, lookL_cons, setL_nil, cellsAt_cons, splice, argsT, resEv, bin_ine, in_int, in_str, in_agg, in_loc, List.contains_cons, List.contains_nil, one_int, cells_int, loc_agg, cells_agg, unEv, callWith, keepL, List.map, List.length, List.take, List.drop, List.all, List.any, List.take_succ_cons, Option.map_some, Nat.reduceEqDiff, Nat.reduceAdd, Nat.reduceLeDiff, Nat.reduceLT, if_true, if_false, Bool.and_true, Bool.or_false, Bool.not_true, Bool.not_false, List.isEmpty_cons, beq_self_eq_true, Bool.false_eq_true, Nat.succ_ne_self, decide_true, keepT_setT, keepT_lit, List.take_succ_cons, hl, hc, t1]
  generalize hq : codeEv (run A N) (ev A N).2 a4_L2 _ = q
  obtain ⟨T1, L1, rfl, g1, g2⟩ := l4 _ _ _ hq (by simp only [lookL_cons, if_true]) (by simp only [keepT, List.map, look_set, look_cons, in_int, in_str, in_loc, Nat.reduceEqDiff, if_true, if_false, List.contains_cons, List.contains_nil, beq_self_eq_true, Bool.or_false])
  simp only [look_set, look_nil, look_cons, lookL_nil, lookL_cons, in_int, in_loc, List.contains_cons, List.contains_nil, List.map, Nat.reduceEqDiff, Nat.reduceLT, if_true, if_false, Bool.or_false, beq_self_eq_true, keepT_setT, g1, g2]
  generalize hq : codeEv (run A N) (ev A N).2 a4_L1 _ = q
  obtain ⟨T2, L2, rfl, g3, g4⟩ := lN _ _ _ hq (by simp only [lookL_cons, if_true]) (by simp only [keepT, List.map, look_set, look_cons, in_int, in_loc, Nat.reduceEqDiff, if_true, if_false, List.contains_cons, List.contains_nil, beq_self_eq_true, Bool.or_false])
  simp only [codeEv, opsEv, oneEv, guardEv, opE_mov, opE_pick, opE_loadk, opE_bin, opE_call, St.opd, look_set, look_nil, look_cons, St.put, St.read, lookL_nil, lookL_cons, setL_nil, setL_cons, cellsAt_cons, bin_ieq, in_int, in_loc, List.contains_cons, List.contains_nil, one_int, loc_agg, cells_agg, callWith, keepL, List.append_nil, List.map, List.length, List.take, List.drop, List.all, List.any, List.cons_append, List.nil_append, List.take_succ_cons, List.drop_succ_cons, Option.map_some, Nat.reduceEqDiff, Int.reduceEq, Nat.reduceAdd, Nat.reduceLeDiff, Nat.reduceLT, if_true, if_false, Bool.and_true, Bool.or_true, Bool.or_false, Bool.true_or, Bool.not_false, List.isEmpty_cons, beq_self_eq_true, Bool.false_eq_true, Nat.succ_ne_self, decide_true, decide_false, beq_tf, keepT_setT, List.take_succ_cons, g3, g4, a4_R2, c1, c2, c3]
  generalize hq : codeEv (run A N) (ev A N).2 a4_R3 _ = q
  obtain ⟨T3, L3, m3, x, y, zz, rfl, g5, g6, g7, g8, g9⟩ := r3 _ _ _ hq (by simp only [lookL_cons, Nat.reduceEqDiff, if_true, if_false]) (by simp only [keepT, List.map, look_set, look_cons, in_int, in_loc, Nat.reduceEqDiff, if_true, if_false, List.contains_cons, List.contains_nil, beq_self_eq_true, Bool.or_false])
  have r4 := fun T L q => R4_ok N (by omega) (ev A N).2 ((1 + sps (textB op a b c).data.toList : Nat) : Int) 2 op A' b c x y zz m3 g9 (by omega) (by omega) (T := T) (L := L) (q := q)
  simp only [look_set, look_nil, look_cons, lookL_nil, lookL_cons, setL_nil, setL_cons, cellsAt_cons, in_int, in_bool, in_loc, List.contains_cons, List.contains_nil, one_int, cells_int, cells_agg, List.append_nil, List.map, List.length, List.take, List.drop, List.all, List.cons_append, List.nil_append, List.take_succ_cons, List.drop_succ_cons, Option.map_some, Nat.reduceEqDiff, Nat.reduceAdd, Nat.reduceLeDiff, Nat.reduceLT, if_true, if_false, Bool.and_true, Bool.or_true, Bool.or_false, Bool.true_or, Bool.not_false, List.isEmpty_cons, beq_self_eq_true, Nat.succ_ne_self, keepT_setT, List.take_succ_cons, g5, g6, hx]
  generalize hq : codeEv (run A N) (ev A N).2 a4_R4 _ = q
  obtain ⟨T4, L4, m4, x', y', zz', rfl, g10, g11⟩ := r4 _ _ _ hq (by simp only [lookL_cons, Nat.reduceEqDiff, if_true, if_false]) (by simp only [keepT, List.map, look_set, look_cons, in_int, in_bool, in_loc, Nat.reduceEqDiff, if_true, if_false, List.contains_cons, List.contains_nil, beq_self_eq_true, Bool.or_false])
  dsimp only
  generalize hq : codeEv (run A N) (ev A N).2 a4_R5 _ = q
  obtain ⟨T5, rfl, g12⟩ := R5_ok N (ev A N).2 ((1 + sps (textB op a b c).data.toList : Nat) : Int) 2 _ _ x y x' y' zz zz' g7 g11 (by rw [hsp]; rfl) m4 hq g10
  exact ⟨m4, by simp only [loc_bool, if_false, Bool.false_eq_true, g12]⟩

theorem nums_d (N : Nat) (hN : 300 ≤ N) {op a b c : Int} (m m' m1 : Mem) (hl : run A N 11 [] m = some (.bool true, m')) (hT : Tab2 m') (hT1 : Tab2 m1) (h13 : 13 ≤ m1.n) (hmn : m1.n + 20 ≤ 2 ^ depth) (hk : codeOk op a b c = true) (t1 : run A N 13 [insA op a b c] m' = some (.str (textB op a b c), m1)) (hlen : (textB op a b c).data.toList.length ≤ 200)
    (hsp : 1 + sps (textB op a b c).data.toList = 3 + 1) (e1 : fitsI (kx 1 op.toNat) 1 = true) (e2 : fitsI (kx 2 op.toNat) 8 = true) (e3 : fitsI (kx 3 op.toNat) 8 = true) : ∃ m2, run A (N + 1) 4 [insA op a b c] m = some (.bool true, m2) := by
  rw [run_4]
  have hc := code_call N (by omega) op a b c m' hT.t
  rw [hk] at hc
  simp only [if_true] at hc
  have c1 := code_call N (by omega) op 1 b c m1 hT1.t
  rw [ok_1 hk, e1] at c1
  simp only [if_true] at c1
  have c2 := code_call N (by omega) op a 8 c m1 hT1.t
  rw [ok_2 hk, e2] at c2
  simp only [if_true] at c2
  have c3 := code_call N (by omega) op a b 8 m1 hT1.t
  rw [ok_3 hk, e3] at c3
  simp only [if_true] at c3
  have l4 := fun T L q => loop4q N (textB op a b c) (by omega) (by omega) m1 [AV.int .i64 op, .int .i64 a, .int .i64 b, .int .i64 c] (T := T) (L := L) (q := q)
  have lN := fun T L q => loopNq N (by omega) ((1 + sps (textB op a b c).data.toList : Nat) : Int) op a b c m1 hT1.t (T := T) (L := L) (q := q)
  have r3 := fun T L q => R3_ok N (by omega) (ev A N).2 ((1 + sps (textB op a b c).data.toList : Nat) : Int) 3 op a b c m1 hT1 h13 (by omega) (T := T) (L := L) (q := q)
  obtain ⟨A', hx⟩ := xor_ex a
  unfold insA at t1
  unfold fnEv a4 insA
  simp only [codeEv, opsEv, oneEv, guardEv, opE_mov, opE_alloc, opE_box, opE_load1, opE_loadk, opE_store, opE_bin, opE_un, opE_faddr, opE_call, St.opd, look_set, look_nil, look_cons, St.put, St.new, St.read, St.write, lookL_nil, lookL_cons, setL_nil, cellsAt_cons, splice, argsT, resEv, bin_ine, in_int, in_str, in_agg, in_loc, List.contains_cons, List.contains_nil, one_int, cells_int, loc_agg, cells_agg, unEv, callWith, keepL, List.map, List.length, List.take, List.drop, List.all, List.any, List.take_succ_cons, Option.map_some, Nat.reduceEqDiff, Nat.reduceAdd, Nat.reduceLeDiff, Nat.reduceLT, if_true, if_false, Bool.and_true, Bool.or_false, Bool.not_true, Bool.not_false, List.isEmpty_cons, beq_self_eq_true, Bool.false_eq_true, Nat.succ_ne_self, decide_true, keepT_setT, keepT_lit, List.take_succ_cons, hl, hc, t1]
  generalize hq : codeEv (run A N) (ev A N).2 a4_L2 _ = q
  obtain ⟨T1, L1, rfl, g1, g2⟩ := l4 _ _ _ hq (by simp only [lookL_cons, if_true]) (by simp only [keepT, List.map, look_set, look_cons, in_int, in_str, in_loc, Nat.reduceEqDiff, if_true, if_false, List.contains_cons, List.contains_nil, beq_self_eq_true, Bool.or_false])
  simp only [look_set, look_nil, look_cons, lookL_nil, lookL_cons, in_int, in_loc, List.contains_cons, List.contains_nil, List.map, Nat.reduceEqDiff, Nat.reduceLT, if_true, if_false, Bool.or_false, beq_self_eq_true, keepT_setT, g1, g2]
  generalize hq : codeEv (run A N) (ev A N).2 a4_L1 _ = q
  obtain ⟨T2, L2, rfl, g3, g4⟩ := lN _ _ _ hq (by simp only [lookL_cons, if_true]) (by simp only [keepT, List.map, look_set, look_cons, in_int, in_loc, Nat.reduceEqDiff, if_true, if_false, List.contains_cons, List.contains_nil, beq_self_eq_true, Bool.or_false])
  simp only [codeEv, opsEv, oneEv, guardEv, opE_mov, opE_pick, opE_loadk, opE_bin, opE_call, St.opd, look_set, look_nil, look_cons, St.put, St.read, lookL_nil, lookL_cons, setL_nil, setL_cons, cellsAt_cons, bin_ieq, in_int, in_loc, List.contains_cons, List.contains_nil, one_int, loc_agg, cells_agg, callWith, keepL, List.append_nil, List.map, List.length, List.take, List.drop, List.all, List.any, List.cons_append, List.nil_append, List.take_succ_cons, List.drop_succ_cons, Option.map_some, Nat.reduceEqDiff, Nat.reduceAdd, Nat.reduceLeDiff, Nat.reduceLT, if_true, if_false, Bool.and_true, Bool.or_true, Bool.or_false, Bool.true_or, Bool.not_false, List.isEmpty_cons, beq_self_eq_true, Bool.false_eq_true, Nat.succ_ne_self, decide_true, beq_tf, keepT_setT, List.take_succ_cons, g3, g4, a4_R2, c1, c2, c3]
  generalize hq : codeEv (run A N) (ev A N).2 a4_R3 _ = q
  obtain ⟨T3, L3, m3, x, y, zz, rfl, g5, g6, g7, g8, g9⟩ := r3 _ _ _ hq (by simp only [lookL_cons, if_true]) (by simp only [keepT, List.map, look_set, look_cons, in_int, in_loc, Nat.reduceEqDiff, if_true, if_false, List.contains_cons, List.contains_nil, beq_self_eq_true, Bool.or_false])
  have r4 := fun T L q => R4_ok N (by omega) (ev A N).2 ((1 + sps (textB op a b c).data.toList : Nat) : Int) 3 op A' b c x y zz m3 g9 (by omega) (by omega) (T := T) (L := L) (q := q)
  simp only [look_set, look_nil, look_cons, lookL_nil, lookL_cons, setL_nil, setL_cons, cellsAt_cons, in_int, in_bool, in_loc, List.contains_cons, List.contains_nil, one_int, cells_int, cells_agg, List.append_nil, List.map, List.length, List.take, List.drop, List.all, List.cons_append, List.nil_append, List.take_succ_cons, List.drop_succ_cons, Option.map_some, Nat.reduceEqDiff, Nat.reduceAdd, Nat.reduceLeDiff, Nat.reduceLT, if_true, if_false, Bool.and_true, Bool.or_true, Bool.or_false, Bool.true_or, Bool.not_false, List.isEmpty_cons, beq_self_eq_true, Nat.succ_ne_self, keepT_setT, List.take_succ_cons, g5, g6, hx]
  generalize hq : codeEv (run A N) (ev A N).2 a4_R4 _ = q
  obtain ⟨T4, L4, m4, x', y', zz', rfl, g10, g11⟩ := r4 _ _ _ hq (by simp only [lookL_cons, Nat.reduceEqDiff, if_true, if_false]) (by simp only [keepT, List.map, look_set, look_cons, in_int, in_bool, in_loc, Nat.reduceEqDiff, if_true, if_false, List.contains_cons, List.contains_nil, beq_self_eq_true, Bool.or_false])
  dsimp only
  generalize hq : codeEv (run A N) (ev A N).2 a4_R5 _ = q
  obtain ⟨T5, rfl, g12⟩ := R5_ok N (ev A N).2 ((1 + sps (textB op a b c).data.toList : Nat) : Int) 3 _ _ x y x' y' zz zz' g7 g11 (by rw [hsp]; rfl) m4 hq g10
  exact ⟨m4, by simp only [loc_bool, if_false, Bool.false_eq_true, g12]⟩

theorem nums_e (N : Nat) (hN : 300 ≤ N) {op a b c : Int} (m m' m1 : Mem) (hl : run A N 11 [] m = some (.bool true, m')) (hT : Tab2 m') (hT1 : Tab2 m1) (h13 : 13 ≤ m1.n) (hmn : m1.n + 20 ≤ 2 ^ depth) (hk : codeOk op a b c = true) (t1 : run A N 13 [insA op a b c] m' = some (.str (textB op a b c), m1)) (hlen : (textB op a b c).data.toList.length ≤ 200)
    (hsp : 1 + sps (textB op a b c).data.toList = 1 + 1) (e1 : fitsI (kx 1 op.toNat) 1 = false) (e0 : fitsI (kx 1 op.toNat) 0 = false) (e2 : fitsI (kx 2 op.toNat) 8 = false) (e3 : fitsI (kx 3 op.toNat) 8 = false) : ∃ m2, run A (N + 1) 4 [insA op a b c] m = some (.bool true, m2) := by
  rw [run_4]
  have hc := code_call N (by omega) op a b c m' hT.t
  rw [hk] at hc
  simp only [if_true] at hc
  have c1 := code_call N (by omega) op 1 b c m1 hT1.t
  rw [ok_1 hk, e1] at c1
  simp only [Bool.false_eq_true, if_false] at c1
  have c0 := code_call N (by omega) op 0 b c m1 hT1.t
  rw [ok_1 hk, e0] at c0
  simp only [Bool.false_eq_true, if_false] at c0
  have c2 := code_call N (by omega) op a 8 c m1 hT1.t
  rw [ok_2 hk, e2] at c2
  simp only [Bool.false_eq_true, if_false] at c2
  have c3 := code_call N (by omega) op a b 8 m1 hT1.t
  rw [ok_3 hk, e3] at c3
  simp only [Bool.false_eq_true, if_false] at c3
  have l4 := fun T L q => loop4q N (textB op a b c) (by omega) (by omega) m1 [AV.int .i64 op, .int .i64 a, .int .i64 b, .int .i64 c] (T := T) (L := L) (q := q)
  have lN := fun T L q => loopNq N (by omega) ((1 + sps (textB op a b c).data.toList : Nat) : Int) op a b c m1 hT1.t (T := T) (L := L) (q := q)
  have r3 := fun T L q => R3_ok N (by omega) (ev A N).2 ((1 + sps (textB op a b c).data.toList : Nat) : Int) 1 op a b c m1 hT1 h13 (by omega) (T := T) (L := L) (q := q)
  obtain ⟨A', hx⟩ := xor_ex a
  unfold insA at t1
  unfold fnEv a4 insA
  simp only [codeEv, opsEv, oneEv, guardEv, opE_mov, opE_alloc, opE_box, opE_load1, opE_loadk, opE_store, opE_bin, opE_un, opE_faddr, opE_call, St.opd, look_set, look_nil, look_cons, St.put, St.new, St.read, St.write, lookL_nil, lookL_cons, setL_nil, cellsAt_cons, splice, argsT, resEv, bin_ine, in_int, in_str, in_agg, in_loc, List.contains_cons, List.contains_nil, one_int, cells_int, loc_agg, cells_agg, unEv, callWith, keepL, List.map, List.length, List.take, List.drop, List.all, List.any, List.take_succ_cons, Option.map_some, Nat.reduceEqDiff, Nat.reduceAdd, Nat.reduceLeDiff, Nat.reduceLT, if_true, if_false, Bool.and_true, Bool.or_false, Bool.not_true, Bool.not_false, List.isEmpty_cons, beq_self_eq_true, Bool.false_eq_true, Nat.succ_ne_self, decide_true, keepT_setT, keepT_lit, List.take_succ_cons, hl, hc, t1]
  generalize hq : codeEv (run A N) (ev A N).2 a4_L2 _ = q
  obtain ⟨T1, L1, rfl, g1, g2⟩ := l4 _ _ _ hq (by simp only [lookL_cons, if_true]) (by simp only [keepT, List.map, look_set, look_cons, in_int, in_str, in_loc, Nat.reduceEqDiff, if_true, if_false, List.contains_cons, List.contains_nil, beq_self_eq_true, Bool.or_false])
  simp only [look_set, look_nil, look_cons, lookL_nil, lookL_cons, in_int, in_loc, List.contains_cons, List.contains_nil, List.map, Nat.reduceEqDiff, Nat.reduceLT, if_true, if_false, Bool.or_false, beq_self_eq_true, keepT_setT, g1, g2]
  generalize hq : codeEv (run A N) (ev A N).2 a4_L1 _ = q
  obtain ⟨T2, L2, rfl, g3, g4⟩ := lN _ _ _ hq (by simp only [lookL_cons, if_true]) (by simp only [keepT, List.map, look_set, look_cons, in_int, in_loc, Nat.reduceEqDiff, if_true, if_false, List.contains_cons, List.contains_nil, beq_self_eq_true, Bool.or_false])
  simp only [codeEv, opsEv, oneEv, guardEv, opE_mov, opE_pick, opE_loadk, opE_bin, opE_call, St.opd, look_set, look_nil, look_cons, St.put, St.read, lookL_nil, lookL_cons, setL_nil, setL_cons, cellsAt_cons, bin_ieq, bin_ine, in_int, in_loc, List.contains_cons, List.contains_nil, one_int, loc_agg, cells_agg, callWith, keepL, List.append_nil, List.map, List.length, List.take, List.drop, List.all, List.any, List.cons_append, List.nil_append, List.take_succ_cons, List.drop_succ_cons, Option.map_some, Nat.reduceEqDiff, Int.reduceEq, Nat.reduceAdd, Nat.reduceLeDiff, Nat.reduceLT, if_true, if_false, Bool.and_true, Bool.or_true, Bool.or_false, Bool.true_or, Bool.not_false, List.isEmpty_cons, beq_self_eq_true, Bool.false_eq_true, Nat.succ_ne_self, decide_false, keepT_setT, List.take_succ_cons, g3, g4, a4_R2, c1, c2, c3, c0]
  generalize hq : codeEv (run A N) (ev A N).2 a4_R3 _ = q
  obtain ⟨T3, L3, m3, x, y, zz, rfl, g5, g6, g7, g8, g9⟩ := r3 _ _ _ hq (by simp only [lookL_cons, Nat.reduceEqDiff, if_true, if_false]) (by simp only [keepT, List.map, look_set, look_cons, in_int, in_loc, Nat.reduceEqDiff, if_true, if_false, List.contains_cons, List.contains_nil, beq_self_eq_true, Bool.or_false])
  have r4 := fun T L q => R4_ok N (by omega) (ev A N).2 ((1 + sps (textB op a b c).data.toList : Nat) : Int) 1 op A' b c x y zz m3 g9 (by omega) (by omega) (T := T) (L := L) (q := q)
  simp only [look_set, look_nil, look_cons, lookL_nil, lookL_cons, setL_nil, setL_cons, cellsAt_cons, in_int, in_bool, in_loc, List.contains_cons, List.contains_nil, one_int, cells_int, cells_agg, List.append_nil, List.map, List.length, List.take, List.drop, List.all, List.cons_append, List.nil_append, List.take_succ_cons, List.drop_succ_cons, Option.map_some, Nat.reduceEqDiff, Nat.reduceAdd, Nat.reduceLeDiff, Nat.reduceLT, if_true, if_false, Bool.and_true, Bool.or_true, Bool.or_false, Bool.true_or, Bool.not_false, List.isEmpty_cons, beq_self_eq_true, Nat.succ_ne_self, keepT_setT, List.take_succ_cons, g5, g6, hx]
  generalize hq : codeEv (run A N) (ev A N).2 a4_R4 _ = q
  obtain ⟨T4, L4, m4, x', y', zz', rfl, g10, g11⟩ := r4 _ _ _ hq (by simp only [lookL_cons, Nat.reduceEqDiff, if_true, if_false]) (by simp only [keepT, List.map, look_set, look_cons, in_int, in_bool, in_loc, Nat.reduceEqDiff, if_true, if_false, List.contains_cons, List.contains_nil, beq_self_eq_true, Bool.or_false])
  dsimp only
  generalize hq : codeEv (run A N) (ev A N).2 a4_R5 _ = q
  obtain ⟨T5, rfl, g12⟩ := R5_ok N (ev A N).2 ((1 + sps (textB op a b c).data.toList : Nat) : Int) 1 _ _ x y x' y' zz zz' g7 g11 (by rw [hsp]; rfl) m4 hq g10
  exact ⟨m4, by simp only [loc_bool, if_false, Bool.false_eq_true, g12]⟩

theorem nums_bad (N : Nat) (hN : 300 ≤ N) {op a b c : Int} (m m' : Mem) (hl : run A N 11 [] m = some (.bool true, m')) (hT : Tab2 m') (hk : codeOk op a b c = false) : run A (N + 1) 4 [insA op a b c] m = some (.bool true, m') := by
  rw [run_4]
  have hc := code_call N (by omega) op a b c m' hT.t
  rw [hk] at hc
  simp only [Bool.false_eq_true, if_false] at hc
  unfold fnEv a4 insA
  simp only [codeEv, opsEv, oneEv, guardEv, opE_mov, opE_box, opE_loadk, opE_bin, opE_un, opE_call, St.opd, look_set, look_nil, look_cons, St.put, St.new, St.read, lookL_nil, lookL_cons, setL_nil, cellsAt_cons, argsT, resEv, bin_ine, in_agg, in_loc, List.contains_cons, List.contains_nil, loc_bool, loc_agg, cells_agg, unEv, callWith, keepL, List.map, List.length, List.take, List.drop, List.any, List.take_succ_cons, Option.map_some, Nat.reduceEqDiff, Int.reduceEq, Nat.reduceAdd, Nat.reduceLeDiff, Nat.reduceLT, if_true, if_false, Bool.or_false, Bool.not_true, Bool.not_false, beq_self_eq_true, Bool.false_eq_true, Nat.succ_ne_self, decide_false, keepT_setT, keepT_lit, List.take_succ_cons, hl, hc]
theorem nums_run (N : Nat) (hN : 300 ≤ N) (op a b c : Int) (m m' : Mem) (hl : run A N 11 [] m = some (.bool true, m')) (hT : Tab2 m') (h13 : 13 ≤ m'.n) (hmn : m'.n + 40 ≤ 2 ^ depth) : ∃ m2, run A (N + 1) 4 [insA op a b c] m = some (.bool true, m2) := by
  cases hk : codeOk op a b c
  · exact ⟨_, nums_bad N hN m m' hl hT hk⟩
  obtain ⟨m1, t1, x1, n1⟩ := text_good N (by omega) op a b c m' hT h13 (by omega) hk
  have hT1 := hT.ext x1 h13
  have h13' : 13 ≤ m1.n := by have := x1.1; omega
  have e : joinB (parts op a b c) ⟨#[32]⟩ = textB op a b c := by rw [textB, if_pos hk]
  rw [e] at t1
  obtain ⟨h1, h2⟩ := codeOk_op hk
  obtain ⟨k1, k2, k3⟩ := num_at op h1 h2
  have hsp := text_sps hk
  rw [← k1] at hsp
  have hlen : (textB op a b c).data.toList.length ≤ 200 := by
    have hb84 := join_len (B := 20) _ (parts_b hk)
    rw [List.length_map] at hb84
    have pl : ∀ w n : Int, (piece w n).length ≤ 1 := fun w n => by rw [piece_len]; split <;> omega
    have l1 := pl (kx 1 op.toNat) a
    have l2 := pl (kx 2 op.toNat) b
    have l3 := pl (kx 3 op.toNat) c
    have hlen4 : (parts op a b c).length ≤ 4 := by
      simp only [parts, List.length_cons, List.length_append]
      omega
    rw [← e]
    show (Lib.join ((parts op a b c).map (·.data.toList)) [32]).toArray.toList.length ≤ 200
    simp only []
    omega
  have key : ∀ y1 y0 z u : Bool, fitsI (kx 1 op.toNat) 1 = y1 → fitsI (kx 1 op.toNat) 0 = y0 → fitsI (kx 2 op.toNat) 8 = z → fitsI (kx 3 op.toNat) 8 = u → ∃ m2, run A (N + 1) 4 [insA op a b c] m = some (.bool true, m2) := by
    intro y1 y0 z u e1 e0 e2 e3
    rw [e1, e0, e2, e3] at hsp
    rw [e3, e2] at k2
    rw [e2, e1] at k3
    cases y1 <;> cases y0 <;> cases z <;> cases u
    · exact nums_e N hN m m' m1 hl hT hT1 h13' (by omega) hk t1 hlen (by rw [hsp]; rfl) e1 e0 e2 e3
    · exact absurd (k2 rfl) (by decide)
    · exact absurd (k3 rfl) (by decide)
    · exact absurd (k3 rfl) (by decide)
    · exact nums_a N hN m m' m1 hl hT hT1 h13' (by omega) hk t1 hlen (by rw [hsp]; rfl) e1 e0 e2 e3
    · exact absurd (k2 rfl) (by decide)
    · exact absurd (k3 rfl) (by decide)
    · exact absurd (k3 rfl) (by decide)
    · exact nums_b N hN m m' m1 hl hT hT1 h13' (by omega) hk t1 hlen (by rw [hsp]; rfl) e1 e2 e3
    · exact absurd (k2 rfl) (by decide)
    · exact nums_c N hN m m' m1 hl hT hT1 h13' (by omega) hk t1 hlen (by rw [hsp]; rfl) e1 e2 e3
    · exact nums_d N hN m m' m1 hl hT hT1 h13' (by omega) hk t1 hlen (by rw [hsp]; rfl) e1 e2 e3
    · exact nums_b N hN m m' m1 hl hT hT1 h13' (by omega) hk t1 hlen (by rw [hsp]; rfl) e1 e2 e3
    · exact absurd (k2 rfl) (by decide)
    · exact nums_c N hN m m' m1 hl hT hT1 h13' (by omega) hk t1 hlen (by rw [hsp]; rfl) e1 e2 e3
    · exact nums_d N hN m m' m1 hl hT hT1 h13' (by omega) hk t1 hlen (by rw [hsp]; rfl) e1 e2 e3
  exact key _ _ _ _ rfl rfl rfl rfl

end AG
