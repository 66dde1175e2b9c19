/- What the functions of instructions and their texts compute, and the laws of that. -/
import Derived.Test.YtekljfhfjncmjaaDoorAgRh2
namespace AG
open Go Go.Proofs.YtekljfhfjncmjaaDoor
set_option maxRecDepth 100000
set_option maxHeartbeats 4000000
/-- The word is the n-th of the names that are meant. -/
def hitB (w : Int) (s : ByteArray) (n : Nat) : Bool := if w = 5 then (signI n).toList == s.toList else if w = 6 then (unI n).toList == s.toList else false
def findW (w : Int) (s : ByteArray) : Nat → Nat → Nat
  | 0, _ => 0
  | k + 1, n => if hitB w s n = true then n else findW w s k (n + 1)

theorem b45_end' (N : Nat) (again : AC → St → Option (Ex × St)) (w : Int) (s : ByteArray) (n : Nat) (m : Mem) (T : List (Nat × AV)) (L : List (Nat × List AV)) (hk : keepT [0, 1, 5] [] T = [(0, .int .i64 w), (1, .str s), (5, .int .i64 (n : Int))]) (h : 20 ≤ n) : ∃ T' L', codeEv (run A N) again a45_B2 ⟨81, T, L, m⟩ = some (.exit 0, ⟨81, T', L', m⟩) ∧ keepT [0, 1] [] T' = [(0, .int .i64 w), (1, .str s)] := by
  have h' : ¬ (n : Int) < 20 := by omega
  unfold a45_B2
  exact ⟨_, _, by simp only [codeEv, opsEv, oneEv, guardEv, opE_mov, opE_bin, St.opd, look_set, look_nil, look_cons, St.put, bin_ilt, keepL, Option.map_some, Nat.reduceEqDiff, Nat.reduceLT, if_true, if_false, Bool.false_eq_true, decide_false, hk, h']; rfl, by simp only [keepT, List.map, look_set, look_cons, in_int, in_str, Nat.reduceEqDiff, if_true, if_false]⟩

theorem b45_5_hit (N : Nat) (hN : 1 ≤ N) (again : AC → St → Option (Ex × St)) (w : Int) (s : ByteArray) (n : Nat) (m : Mem) (hmn : m.n + 1 ≤ 2 ^ depth) (T : List (Nat × AV)) (L : List (Nat × List AV)) (hk : keepT [0, 1, 5] [] T = [(0, .int .i64 w), (1, .str s), (5, .int .i64 (n : Int))]) (h : n < 20) (hw : w = 5) (he : ((signI n).toList == s.toList) = true) : ∃ T' L' m', codeEv (run A N) again a45_B2 ⟨81, T, L, m⟩ = some (.ret, ⟨81, T', L', m'⟩) ∧ keepT [4] [] T' = [(4, .int .i64 (n : Int))] ∧ Gr m m' 1 := by
  subst hw
  have h' : (n : Int) < 20 := by omega
  have hc := sgn_run N (by omega) (n : Int) m hmn
  have a1 := add_i n (by omega)
  unfold a45_B2
  exact ⟨_, _, m.push (.cells signs true), by simp only [codeEv, opsEv, oneEv, guardEv, opE_mov, opE_pick, opE_bin, opE_call, St.opd, look_set, look_nil, look_cons, St.put, bin_ilt, bin_ieq, in_int, in_str, loc_int, callWith, keepL, List.map, List.any, Option.map_some, Nat.reduceEqDiff, Nat.reduceLT, if_true, if_false, Bool.or_false, beq_self_eq_true, Bool.false_eq_true, Nat.succ_ne_self, decide_true, beq_tf, keepT_setT, str_eqg, hk, h', hc, he]; rfl, by simp only [keepT, List.map, look_set, look_cons, in_int, Nat.reduceEqDiff, if_true, if_false], Gr.push m _ (by omega)⟩
theorem b45_5_more (N : Nat) (hN : 1 ≤ N) (again : AC → St → Option (Ex × St)) (w : Int) (s : ByteArray) (n : Nat) (m : Mem) (hmn : m.n + 1 ≤ 2 ^ depth) (T : List (Nat × AV)) (L : List (Nat × List AV)) (hk : keepT [0, 1, 5] [] T = [(0, .int .i64 w), (1, .str s), (5, .int .i64 (n : Int))]) (h : n < 20) (hw : w = 5) (he : ((signI n).toList == s.toList) = false) : ∃ T' L' m', codeEv (run A N) again a45_B2 ⟨81, T, L, m⟩ = some (.norm, ⟨81, T', L', m'⟩) ∧ keepT [0, 1, 5] [] T' = [(0, .int .i64 w), (1, .str s), (5, .int .i64 ((n + 1 : Nat) : Int))] ∧ Gr m m' 1 := by
  subst hw
  have h' : (n : Int) < 20 := by omega
  have hc := sgn_run N (by omega) (n : Int) m hmn
  have a1 := add_i n (by omega)
  unfold a45_B2
  exact ⟨_, _, m.push (.cells signs true), by simp only [codeEv, opsEv, oneEv, guardEv, opE_mov, opE_pick, opE_bin, opE_call, St.opd, look_set, look_nil, look_cons, St.put, bin_ilt, bin_ieq, in_int, in_str, loc_int, callWith, keepL, List.map, List.any, Option.map_some, Nat.reduceEqDiff, Int.reduceEq, Nat.reduceLT, if_true, if_false, Bool.or_false, beq_self_eq_true, Bool.false_eq_true, Nat.succ_ne_self, decide_true, decide_false, beq_ft, keepT_setT, str_eqg, hk, h', hc, he, a1]; rfl, by simp only [keepT, List.map, look_set, look_cons, in_int, in_str, Nat.reduceEqDiff, if_true, if_false], Gr.push m _ (by omega)⟩

theorem b45_6_hit (N : Nat) (hN : 1 ≤ N) (again : AC → St → Option (Ex × St)) (w : Int) (s : ByteArray) (n : Nat) (m : Mem) (hmn : m.n + 1 ≤ 2 ^ depth) (T : List (Nat × AV)) (L : List (Nat × List AV)) (hk : keepT [0, 1, 5] [] T = [(0, .int .i64 w), (1, .str s), (5, .int .i64 (n : Int))]) (h : n < 20) (hw : w = 6) (he : ((unI n).toList == s.toList) = true) : ∃ T' L' m', codeEv (run A N) again a45_B2 ⟨81, T, L, m⟩ = some (.ret, ⟨81, T', L', m'⟩) ∧ keepT [4] [] T' = [(4, .int .i64 (n : Int))] ∧ Gr m m' 1 := by
  subst hw
  have h' : (n : Int) < 20 := by omega
  have hc := nam_run N (by omega) (n : Int) m hmn
  have a1 := add_i n (by omega)
  unfold a45_B2
  exact ⟨_, _, m.push (.cells uns true), by simp only [codeEv, opsEv, oneEv, guardEv, opE_mov, opE_pick, opE_bin, opE_call, St.opd, look_set, look_nil, look_cons, St.put, bin_ilt, bin_ieq, in_int, in_str, loc_int, callWith, keepL, List.map, List.any, Option.map_some, Nat.reduceEqDiff, Int.reduceEq, Nat.reduceLT, if_true, if_false, Bool.or_false, beq_self_eq_true, Bool.false_eq_true, Nat.succ_ne_self, decide_true, decide_false, beq_ft, keepT_setT, str_eqg, hk, h', hc, he]; rfl, by simp only [keepT, List.map, look_set, look_cons, in_int, Nat.reduceEqDiff, if_true, if_false], Gr.push m _ (by omega)⟩
theorem b45_6_more (N : Nat) (hN : 1 ≤ N) (again : AC → St → Option (Ex × St)) (w : Int) (s : ByteArray) (n : Nat) (m : Mem) (hmn : m.n + 1 ≤ 2 ^ depth) (T : List (Nat × AV)) (L : List (Nat × List AV)) (hk : keepT [0, 1, 5] [] T = [(0, .int .i64 w), (1, .str s), (5, .int .i64 (n : Int))]) (h : n < 20) (hw : w = 6) (he : ((unI n).toList == s.toList) = false) : ∃ T' L' m', codeEv (run A N) again a45_B2 ⟨81, T, L, m⟩ = some (.norm, ⟨81, T', L', m'⟩) ∧ keepT [0, 1, 5] [] T' = [(0, .int .i64 w), (1, .str s), (5, .int .i64 ((n + 1 : Nat) : Int))] ∧ Gr m m' 1 := by
  subst hw
  have h' : (n : Int) < 20 := by omega
  have hc := nam_run N (by omega) (n : Int) m hmn
  have a1 := add_i n (by omega)
  unfold a45_B2
  exact ⟨_, _, m.push (.cells uns true), by simp only [codeEv, opsEv, oneEv, guardEv, opE_mov, opE_pick, opE_bin, opE_call, St.opd, look_set, look_nil, look_cons, St.put, bin_ilt, bin_ieq, in_int, in_str, loc_int, callWith, keepL, List.map, List.any, Option.map_some, Nat.reduceEqDiff, Int.reduceEq, Nat.reduceLT, if_true, if_false, Bool.or_false, beq_self_eq_true, Bool.false_eq_true, Nat.succ_ne_self, decide_true, decide_false, beq_ft, keepT_setT, str_eqg, hk, h', hc, he, a1]; rfl, by simp only [keepT, List.map, look_set, look_cons, in_int, in_str, Nat.reduceEqDiff, if_true, if_false], Gr.push m _ (by omega)⟩

theorem b45_o_more (N : Nat) (_hN : 1 ≤ N) (again : AC → St → Option (Ex × St)) (w : Int) (s : ByteArray) (n : Nat) (m : Mem) (_hmn : m.n + 1 ≤ 2 ^ depth) (T : List (Nat × AV)) (L : List (Nat × List AV)) (hk : keepT [0, 1, 5] [] T = [(0, .int .i64 w), (1, .str s), (5, .int .i64 (n : Int))]) (h : n < 20) (hw5 : ¬ w = 5) (hw6 : ¬ w = 6) : ∃ T' L' m', codeEv (run A N) again a45_B2 ⟨81, T, L, m⟩ = some (.norm, ⟨81, T', L', m'⟩) ∧ keepT [0, 1, 5] [] T' = [(0, .int .i64 w), (1, .str s), (5, .int .i64 ((n + 1 : Nat) : Int))] ∧ Gr m m' 1 := by
  have h' : (n : Int) < 20 := by omega
  have a1 := add_i n (by omega)
  unfold a45_B2
  exact ⟨_, _, m, by simp only [codeEv, opsEv, oneEv, guardEv, opE_mov, opE_pick, opE_bin, St.opd, look_set, look_nil, look_cons, St.put, bin_ilt, bin_ieq, in_int, in_str, keepL, List.map, Option.map_some, Nat.reduceEqDiff, Nat.reduceLT, if_true, if_false, beq_self_eq_true, Bool.false_eq_true, Nat.succ_ne_self, decide_true, decide_false, beq_ft, keepT_setT, hk, h', hw5, hw6, a1]; rfl, by simp only [keepT, List.map, look_set, look_cons, in_int, in_str, Nat.reduceEqDiff, if_true, if_false], (Gr.refl m).le (by omega)⟩
theorem b45_hit (N : Nat) (hN : 1 ≤ N) (again : AC → St → Option (Ex × St)) (w : Int) (s : ByteArray) (n : Nat) (m : Mem) (hmn : m.n + 1 ≤ 2 ^ depth) (T : List (Nat × AV)) (L : List (Nat × List AV)) (hk : keepT [0, 1, 5] [] T = [(0, .int .i64 w), (1, .str s), (5, .int .i64 (n : Int))]) (h : n < 20) (he : hitB w s n = true) : ∃ T' L' m', codeEv (run A N) again a45_B2 ⟨81, T, L, m⟩ = some (.ret, ⟨81, T', L', m'⟩) ∧ keepT [4] [] T' = [(4, .int .i64 (n : Int))] ∧ Gr m m' 1 := by
  unfold hitB at he
  by_cases h5 : w = 5
  · rw [if_pos h5] at he
    exact b45_5_hit N hN again w s n m hmn T L hk h h5 he
  · by_cases h6 : w = 6
    · rw [if_neg h5, if_pos h6] at he
      exact b45_6_hit N hN again w s n m hmn T L hk h h6 he
    · rw [if_neg h5, if_neg h6] at he
      cases he
theorem b45_more (N : Nat) (hN : 1 ≤ N) (again : AC → St → Option (Ex × St)) (w : Int) (s : ByteArray) (n : Nat) (m : Mem) (hmn : m.n + 1 ≤ 2 ^ depth) (T : List (Nat × AV)) (L : List (Nat × List AV)) (hk : keepT [0, 1, 5] [] T = [(0, .int .i64 w), (1, .str s), (5, .int .i64 (n : Int))]) (h : n < 20) (he : hitB w s n = false) : ∃ T' L' m', codeEv (run A N) again a45_B2 ⟨81, T, L, m⟩ = some (.norm, ⟨81, T', L', m'⟩) ∧ keepT [0, 1, 5] [] T' = [(0, .int .i64 w), (1, .str s), (5, .int .i64 ((n + 1 : Nat) : Int))] ∧ Gr m m' 1 := by
  unfold hitB at he
  by_cases h5 : w = 5
  · rw [if_pos h5] at he
    exact b45_5_more N hN again w s n m hmn T L hk h h5 he
  · by_cases h6 : w = 6
    · rw [if_neg h5, if_pos h6] at he
      exact b45_6_more N hN again w s n m hmn T L hk h h6 he
    · exact b45_o_more N hN again w s n m hmn T L hk h h5 h6
theorem loop45 (w : Int) (s : ByteArray) : ∀ (k n N : Nat) (m : Mem) (T : List (Nat × AV)) (L : List (Nat × List AV)), n + k = 20 → 1 ≤ n → k + 1 ≤ N → m.n + k ≤ 2 ^ depth → keepT [0, 1, 5] [] T = [(0, .int .i64 w), (1, .str s), (5, .int .i64 (n : Int))] →
    ∃ T' L' m', Gr m m' k ∧ ((¬ findW w s k n = 0 ∧ codeEv (run A N) (ev A N).2 a45_L2 ⟨81, T, L, m⟩ = some (.ret, ⟨81, T', L', m'⟩) ∧ keepT [4] [] T' = [(4, .int .i64 (findW w s k n : Int))]) ∨ (findW w s k n = 0 ∧ codeEv (run A N) (ev A N).2 a45_L2 ⟨81, T, L, m⟩ = some (.exit 0, ⟨81, T', L', m'⟩) ∧ keepT [0, 1] [] T' = [(0, .int .i64 w), (1, .str s)]))
  | 0, n, N, m, T, L, hnk, hn1, hN, hm, hk => by
    obtain ⟨T', L', e1, e2⟩ := b45_end' N (ev A N).2 w s n m T L hk (by omega)
    exact ⟨T', L', m, Gr.refl m, .inr ⟨rfl, by rw [a45_L2_step, e1], e2⟩⟩
  | k + 1, n, N, m, T, L, hnk, hn1, hN, hm, hk => by
    obtain ⟨M, rfl⟩ : ∃ M, N = M + 1 := ⟨N - 1, by omega⟩
    cases he : hitB w s n
    · obtain ⟨T1, L1, m1, e1, e2, g1⟩ := b45_more (M + 1) (by omega) (ev A (M + 1)).2 w s n m (by omega) T L hk (by omega) he
      obtain ⟨T', L', m', g2, f⟩ := loop45 w s k (n + 1) M m1 T1 L1 (by omega) (by omega) (by omega) (by have := g1.2; omega) e2
      have hfw : findW w s (k + 1) n = findW w s k (n + 1) := by rw [findW, if_neg (by rw [he]; simp)]
      refine ⟨T', L', m', (g1.trans g2).le (by omega), ?_⟩
      rw [hfw, a45_L2_step, e1]
      dsimp only
      rw [again_of]
      exact f
    · obtain ⟨T', L', m', e1, e2, g1⟩ := b45_hit (M + 1) (by omega) (ev A (M + 1)).2 w s n m (by omega) T L hk (by omega) he
      have hfw : findW w s (k + 1) n = n := by rw [findW, if_pos he]
      exact ⟨T', L', m', g1.le (by omega), .inl ⟨by omega, by rw [a45_L2_step, e1], by rw [hfw]; exact e2⟩⟩

/-- What digits mean; -1: one of them is none. -/
def fd : List UInt8 → Int → Int
  | [], x => x
  | b :: r, x => if b.toNat < 48 ∨ 57 < b.toNat then -1 else fd r (10 * x + b.toNat - 48)
theorem u8_lt (x y : Int) : binEv .lss (.int .u8 x) (.int .u8 y) = some (.bool (decide (x < y))) := rfl
theorem u8_gt (x y : Int) : binEv .gtr (.int .u8 x) (.int .u8 y) = some (.bool (decide (x > y))) := rfl
theorem mul_i (x : Int) (h0 : 0 ≤ x) (h : x < 100000000000000) : binEv .mul (.int .i64 10) (.int .i64 x) = some (.int .i64 (10 * x)) := by
  simp only [binEv, if_true, intBin, IntKind.wrap, IntKind.bits]
  simp [IntKind.signed]
  omega
theorem add_ii (x y : Int) (h0 : 0 ≤ x) (h : x < 1000000000000000) (h1 : 0 ≤ y) (h2 : y < 1000) : binEv .add (.int .i64 x) (.int .i64 y) = some (.int .i64 (x + y)) := by
  simp only [binEv, if_true, intBin, IntKind.wrap, IntKind.bits]
  simp [IntKind.signed]
  omega
theorem sub_48 (x : Int) (h0 : 0 ≤ x) (h : x < 10000000000000000) : binEv .sub (.int .i64 x) (.int .i64 48) = some (.int .i64 (x - 48)) := by
  simp only [binEv, if_true, intBin, IntKind.wrap, IntKind.bits]
  simp [IntKind.signed]
  omega
theorem conv_u8 (b : UInt8) : IntKind.i64.wrap (b.toNat : Int) = (b.toNat : Int) := by
  have := b.toNat_lt
  simp only [IntKind.wrap, IntKind.bits]
  simp [IntKind.signed]
  omega
theorem b45_dend (N : Nat) (again : AC → St → Option (Ex × St)) (s : ByteArray) (k : Nat) (x : Int) (m : Mem) (T : List (Nat × AV)) (L : List (Nat × List AV)) (hk : keepT [1, 6, 7] [] T = [(1, .str s), (6, .int .i64 x), (7, .int .i64 (k : Int))]) (h : s.size ≤ k) : ∃ T' L', codeEv (run A N) again a45_B1 ⟨81, T, L, m⟩ = some (.exit 2, ⟨81, T', L', m⟩) ∧ keepT [6] [] T' = [(6, .int .i64 x)] := by
  have h' : ¬ (k : Int) < (s.size : Int) := by omega
  unfold a45_B1
  exact ⟨_, _, by simp only [codeEv, opsEv, oneEv, guardEv, opE_mov, opE_bin, St.opd, look_set, look_nil, look_cons, St.put, bin_ilt, keepL, Option.map_some, Nat.reduceEqDiff, Nat.reduceLT, if_true, if_false, Bool.false_eq_true, Nat.succ_ne_self, decide_false, opE_lenS, hk, h']; rfl, by simp only [keepT, List.map, look_set, look_cons, in_int, Nat.reduceEqDiff, if_true, if_false]⟩
theorem b45_dbad (N : Nat) (again : AC → St → Option (Ex × St)) (s : ByteArray) (k : Nat) (x : Int) (m : Mem) (T : List (Nat × AV)) (L : List (Nat × List AV)) (hk : keepT [1, 6, 7] [] T = [(1, .str s), (6, .int .i64 x), (7, .int .i64 (k : Int))]) {b : UInt8} (hb : s.data.toList[k]? = some b) (hd : b.toNat < 48 ∨ 57 < b.toNat) : ∃ T' L', codeEv (run A N) again a45_B1 ⟨81, T, L, m⟩ = some (.ret, ⟨81, T', L', m⟩) ∧ keepT [4] [] T' = [(4, .int .i64 (-1))] := by
  have hlt : k < s.size := by rw [← size_list]; exact (List.getElem?_eq_some_iff.1 hb).1
  have h' : (k : Int) < (s.size : Int) := by omega
  have hx := fun st => idx_str hb st
  unfold a45_B1
  by_cases q1 : (b.toNat : Int) < 48
  · exact ⟨_, _, by simp only [codeEv, opsEv, oneEv, guardEv, opE_mov, opE_pick, opE_bin, opE_idxS, St.opd, look_set, look_nil, look_cons, St.put, bin_ilt, in_int, in_str, keepL, List.map, Option.map_some, Nat.reduceEqDiff, Nat.reduceLT, if_true, if_false, Nat.succ_ne_self, decide_true, beq_tf, keepT_setT, opE_lenS, hk, h', hx, u8_lt, q1]; rfl, by simp only [keepT, List.map, look_set, in_int, if_true]⟩
  · have q2 : (b.toNat : Int) > 57 := by omega
    exact ⟨_, _, by simp only [codeEv, opsEv, oneEv, guardEv, opE_mov, opE_pick, opE_bin, opE_idxS, St.opd, look_set, look_nil, look_cons, St.put, bin_ilt, in_int, in_str, keepL, List.map, Option.map_some, Nat.reduceEqDiff, Nat.reduceLT, if_true, if_false, beq_self_eq_true, Bool.false_eq_true, Nat.succ_ne_self, decide_true, decide_false, keepT_setT, opE_lenS, hk, h', hx, u8_lt, u8_gt, q1, q2]; rfl, by simp only [keepT, List.map, look_set, in_int, if_true]⟩
theorem b45_dok (N : Nat) (again : AC → St → Option (Ex × St)) (s : ByteArray) (k : Nat) (x : Int) (m : Mem) (T : List (Nat × AV)) (L : List (Nat × List AV)) (hk : keepT [1, 6, 7] [] T = [(1, .str s), (6, .int .i64 x), (7, .int .i64 (k : Int))]) {b : UInt8} (hb : s.data.toList[k]? = some b) (hd : ¬ (b.toNat < 48 ∨ 57 < b.toNat)) (h0 : 0 ≤ x) (hx : x < 100000000000000) (hkk : k ≤ 1000) : ∃ T' L', codeEv (run A N) again a45_B1 ⟨81, T, L, m⟩ = some (.norm, ⟨81, T', L', m⟩) ∧ keepT [1, 6, 7] [] T' = [(1, .str s), (6, .int .i64 (10 * x + b.toNat - 48)), (7, .int .i64 ((k + 1 : Nat) : Int))] := by
  have hlt : k < s.size := by rw [← size_list]; exact (List.getElem?_eq_some_iff.1 hb).1
  have h' : (k : Int) < (s.size : Int) := by omega
  have hi := fun st => idx_str hb st
  have q1 : ¬ (b.toNat : Int) < 48 := by omega
  have q2 : ¬ (b.toNat : Int) > 57 := by omega
  have a1 := mul_i x h0 hx
  have a2 := add_ii (10 * x) (b.toNat : Int) (by omega) (by omega) (by omega) (by omega)
  have a3 := sub_48 (10 * x + b.toNat) (by omega) (by omega)
  have a4 := add_i k (by omega)
  unfold a45_B1
  exact ⟨_, _, by simp only [codeEv, opsEv, oneEv, guardEv, opE_mov, opE_pick, opE_bin, opE_conv, opE_idxS, St.opd, look_set, look_nil, look_cons, St.put, bin_ilt, in_int, in_str, keepL, List.map, Option.map_some, Nat.reduceEqDiff, Nat.reduceLT, if_true, if_false, beq_self_eq_true, Bool.false_eq_true, Nat.succ_ne_self, decide_true, decide_false, keepT_setT, opE_lenS, hk, h', hi, u8_lt, u8_gt, q1, q2, a1, conv_u8, a2, a3, a4]; rfl, by simp only [keepT, List.map, look_set, look_cons, in_int, in_str, Nat.reduceEqDiff, if_true, if_false]⟩
theorem loop45d (s : ByteArray) (m : Mem) : ∀ (r : List UInt8) (k N B : Nat) (x : Int) (T : List (Nat × AV)) (L : List (Nat × List AV)), s.data.toList.drop k = r → r.length + 1 ≤ N → k + r.length ≤ 100 → 0 ≤ x → x < (10 : Int) ^ B → B + r.length ≤ 13 → keepT [1, 6, 7] [] T = [(1, .str s), (6, .int .i64 x), (7, .int .i64 (k : Int))] →
    ∃ T' L', (codeEv (run A N) (ev A N).2 a45_L1 ⟨81, T, L, m⟩ = some (.ret, ⟨81, T', L', m⟩) ∧ keepT [4] [] T' = [(4, .int .i64 (fd r x))]) ∨ (codeEv (run A N) (ev A N).2 a45_L1 ⟨81, T, L, m⟩ = some (.exit 2, ⟨81, T', L', m⟩) ∧ keepT [6] [] T' = [(6, .int .i64 (fd r x))])
  | [], k, N, B, x, T, L, hr, hN, hkk, h0, hx, hB, hk => by
    have hle : s.size ≤ k := by rw [← size_list]; exact List.drop_eq_nil_iff.1 hr
    obtain ⟨T', L', e1, e2⟩ := b45_dend N (ev A N).2 s k x m T L hk hle
    exact ⟨T', L', .inr ⟨by rw [a45_L1_step, e1], e2⟩⟩
  | b :: r, k, N, B, x, T, L, hr, hN, hkk, h0, hx, hB, hk => by
    obtain ⟨g1, g2, g3⟩ := drop_cons_get hr
    obtain ⟨n, rfl⟩ : ∃ n, N = n + 1 := ⟨N - 1, by omega⟩
    simp only [List.length_cons] at hN hkk hB
    by_cases hb : b.toNat < 48 ∨ 57 < b.toNat
    · obtain ⟨T', L', e1, e2⟩ := b45_dbad (n + 1) (ev A (n + 1)).2 s k x m T L hk g1 hb
      exact ⟨T', L', .inl ⟨by rw [a45_L1_step, e1], by rw [fd, if_pos hb]; exact e2⟩⟩
    · have hp : (10 : Int) ^ B ≤ 10 ^ 12 := by
        have : (10 : Nat) ^ B ≤ 10 ^ 12 := Nat.pow_le_pow_right (by omega) (by omega)
        exact_mod_cast this
      have hp1 : (10 : Int) ^ (B + 1) = 10 ^ B * 10 := Int.pow_succ ..
      obtain ⟨T1, L1, e1, e2⟩ := b45_dok (n + 1) (ev A (n + 1)).2 s k x m T L hk g1 hb h0 (by omega) (by omega)
      obtain ⟨T', L', h⟩ := loop45d s m r (k + 1) n (B + 1) _ T1 L1 g3 (by omega) (by omega) (by omega) (by omega) (by omega) e2
      refine ⟨T', L', ?_⟩
      rw [a45_L1_step, e1, fd, if_neg hb]
      dsimp only
      rw [again_of]
      exact h
/-- The number of a word, as the reference has it. -/
def numR (w : Int) (s : ByteArray) : Int := if ¬ findW w s 19 1 = 0 then (findW w s 19 1 : Int) else if (s.toList == (ByteArray.mk #[]).toList) = true ∨ w = 5 ∨ w = 6 ∨ 12 < s.size ∨ (1 < s.size ∧ s.data.toList[0]? = some 48) then -1 else fd s.data.toList 0
theorem u8_48 (x : Int) : binEv .eql (.int .u8 x) (.int .u8 48) = some (.bool (x == 48)) := rfl
theorem size_pos {s : ByteArray} (h : (s.toList == (ByteArray.mk #[]).toList) = false) : 0 < s.size := by
  rcases Nat.eq_zero_or_pos s.size with h0 | h0
  · rw [text_eq] at h
    have : s.data.toList = [] := List.length_eq_zero_iff.1 (by rw [size_list]; exact h0)
    rw [this] at h
    simp at h
  · exact h0
theorem keep1 {u : Nat} {T : List (Nat × AV)} {k : IntKind} {x : Int} (h : keepT [u] [] T = [(u, .int k x)]) : look T u = .int k x := by
  simp only [keepT, List.map, List.cons.injEq, Prod.mk.injEq, true_and, and_true] at h
  split at h
  · exact h
  · cases h
theorem loop45q (w : Int) (s : ByteArray) (N : Nat) (m : Mem) (T : List (Nat × AV)) (L : List (Nat × List AV)) (hN : 20 ≤ N) (hm : m.n + 19 ≤ 2 ^ depth) {q : Option (Ex × St)} (hq : codeEv (run A N) (ev A N).2 a45_L2 ⟨81, T, L, m⟩ = q) (hk : keepT [0, 1, 5] [] T = [(0, .int .i64 w), (1, .str s), (5, .int .i64 1)]) :
    ∃ T' L' m', Gr m m' 19 ∧ ((¬ findW w s 19 1 = 0 ∧ q = some (.ret, ⟨81, T', L', m'⟩) ∧ keepT [4] [] T' = [(4, .int .i64 (findW w s 19 1 : Int))]) ∨ (findW w s 19 1 = 0 ∧ q = some (.exit 0, ⟨81, T', L', m'⟩) ∧ keepT [0, 1] [] T' = [(0, .int .i64 w), (1, .str s)])) := by
  subst hq
  exact loop45 w s 19 1 N m T L (by omega) (by omega) (by omega) hm hk
theorem loop45dq (s : ByteArray) (m : Mem) (N : Nat) (T : List (Nat × AV)) (L : List (Nat × List AV)) (hN : 20 ≤ N) (hs : s.size ≤ 12) {q : Option (Ex × St)} (hq : codeEv (run A N) (ev A N).2 a45_L1 ⟨81, T, L, m⟩ = q) (hk : keepT [1, 6, 7] [] T = [(1, .str s), (6, .int .i64 0), (7, .int .i64 0)]) :
    ∃ T' L', (q = some (.ret, ⟨81, T', L', m⟩) ∧ keepT [4] [] T' = [(4, .int .i64 (fd s.data.toList 0))]) ∨ (q = some (.exit 2, ⟨81, T', L', m⟩) ∧ keepT [6] [] T' = [(6, .int .i64 (fd s.data.toList 0))]) := by
  subst hq
  exact loop45d s m s.data.toList 0 N 0 0 T L rfl (by rw [size_list]; omega) (by rw [size_list]; omega) (by omega) (by decide) (by rw [size_list]; omega) hk
theorem number_run (N : Nat) (hN : 60 ≤ N) (w : Int) (s : ByteArray) (m : Mem) (hmn : m.n + 19 ≤ 2 ^ depth) : ∃ m', run A N 45 [.int .i64 w, .str s] m = some (.int .i64 (numR w s), m') ∧ Gr m m' 19 := by
  obtain ⟨n, rfl⟩ : ∃ n, N = n + 1 := ⟨N - 1, by omega⟩
  rw [run_45]
  unfold fnEv a45
  simp only [codeEv, opsEv, oneEv, guardEv, opE_mov, opE_pick, opE_bin, opE_idxS, St.opd, look_set, look_nil, look_cons, St.put, argsT, resEv, in_int, in_str, keepL, List.map, List.length, Nat.reduceEqDiff, Nat.reduceAdd, Nat.reduceLT, if_true, if_false, Nat.succ_ne_self, keepT_setT, keepT_lit, opE_lenS]
  generalize hq : codeEv (run A n) (ev A n).2 a45_L2 _ = q
  obtain ⟨T', L', m', g1, h⟩ := loop45q w s n m _ _ (by omega) (by omega) hq (by simp only [keepT, List.map, look_set, look_cons, in_int, in_str, Nat.reduceEqDiff, if_true, if_false])
  rcases h with ⟨hf, rfl, hk⟩ | ⟨hf, rfl, hk⟩
  · have e : numR w s = (findW w s 19 1 : Int) := if_pos hf
    rw [e]
    refine ⟨m', ?_, g1⟩
    simp only [loc_int, if_false, Bool.false_eq_true, keep1 hk]
  · have e : numR w s = if (s.toList == (ByteArray.mk #[]).toList) = true ∨ w = 5 ∨ w = 6 ∨ 12 < s.size ∨ (1 < s.size ∧ s.data.toList[0]? = some 48) then -1 else fd s.data.toList 0 := if_neg (by omega)
    rw [e]
    refine ⟨m', ?_, g1⟩
    by_cases q2 : w = 5
    · rw [if_pos (.inr (.inl q2))]
      subst q2
      cases q1 : (s.toList == (ByteArray.mk #[]).toList)
      · simp only [look_set, look_nil, look_cons, bin_ieq, loc_int, List.map, Option.map_some, Nat.reduceEqDiff, Nat.reduceLT, if_true, if_false, beq_self_eq_true, Bool.false_eq_true, Nat.succ_ne_self, decide_true, beq_tf, keepT_setT, str_eqg, hk, q1]
      · simp only [look_set, look_nil, look_cons, loc_int, List.map, Option.map_some, Nat.reduceEqDiff, Nat.reduceLT, if_true, if_false, Bool.false_eq_true, Nat.succ_ne_self, beq_tf, keepT_setT, str_eqg, hk, q1]
    by_cases q3 : w = 6
    · rw [if_pos (.inr (.inr (.inl q3)))]
      subst q3
      cases q1 : (s.toList == (ByteArray.mk #[]).toList)
      · simp only [look_set, look_nil, look_cons, bin_ieq, loc_int, List.map, Option.map_some, Nat.reduceEqDiff, Int.reduceEq, Nat.reduceLT, if_true, if_false, beq_self_eq_true, Bool.false_eq_true, Nat.succ_ne_self, decide_true, decide_false, beq_tf, keepT_setT, str_eqg, hk, q1]
      · simp only [look_set, look_nil, look_cons, loc_int, List.map, Option.map_some, Nat.reduceEqDiff, Nat.reduceLT, if_true, if_false, Bool.false_eq_true, Nat.succ_ne_self, beq_tf, keepT_setT, str_eqg, hk, q1]
    cases q1 : (s.toList == (ByteArray.mk #[]).toList)
    rotate_left
    · rw [if_pos (.inl rfl)]
      simp only [look_set, look_nil, look_cons, loc_int, List.map, Option.map_some, Nat.reduceEqDiff, Nat.reduceLT, if_true, if_false, Bool.false_eq_true, Nat.succ_ne_self, beq_tf, keepT_setT, str_eqg, hk, q1]
    by_cases q4 : 12 < s.size
    · rw [if_pos (.inr (.inr (.inr (.inl q4))))]
      have q4' : (s.size : Int) > 12 := by omega
      simp only [look_set, look_nil, look_cons, bin_igt, bin_ieq, loc_int, List.map, Option.map_some, Nat.reduceEqDiff, Nat.reduceLT, if_true, if_false, beq_self_eq_true, Bool.false_eq_true, Nat.succ_ne_self, decide_true, decide_false, beq_tf, keepT_setT, str_eqg, hk, q1, q2, q3, q4']
    have q4' : ¬ (s.size : Int) > 12 := by omega
    have hpos := size_pos q1
    obtain ⟨b, hb⟩ : ∃ b, s.data.toList[0]? = some b := ⟨_, List.getElem?_eq_getElem (by rw [size_list]; exact hpos)⟩
    have hx0 : ∀ st, idxR (.str s) (.int .i64 0) st = some (.int .u8 (b.toNat : Int), st) := fun st => idx_str hb st
    by_cases q5 : 1 < s.size ∧ s.data.toList[0]? = some 48
    · rw [if_pos (.inr (.inr (.inr (.inr q5))))]
      have q5' : (s.size : Int) > 1 := by omega
      have hb48 : b = 48 := by rw [hb] at q5; simpa using q5.2
      subst hb48
      have e48 : (((48 : UInt8).toNat : Int) == 48) = true := rfl
      simp only [look_set, look_nil, look_cons, bin_igt, bin_ieq, loc_int, List.map, Option.map_some, Nat.reduceEqDiff, Nat.reduceLT, if_true, if_false, beq_self_eq_true, Bool.false_eq_true, Nat.succ_ne_self, decide_true, decide_false, keepT_setT, str_eqg, hk, q1, q2, q3, q4', q5', hx0, u8_48, e48]
    · rw [if_neg (by rw [Bool.false_eq_true]; simp only [q2, q3, q4, q5, or_self, not_false_eq_true])]
      by_cases q5' : (s.size : Int) > 1
      · have e48 : ((b.toNat : Int) == 48) = false := by
          rw [beq_eq_false_iff_ne]
          intro e
          apply q5
          refine ⟨by omega, ?_⟩
          rw [hb]
          congr 1
          apply UInt8.toNat_inj.1
          have : (48 : UInt8).toNat = 48 := rfl
          omega
        simp only [look_set, look_nil, look_cons, bin_igt, bin_ieq, in_int, in_str, List.map, Option.map_some, Nat.reduceEqDiff, Nat.reduceLT, if_true, if_false, beq_self_eq_true, Bool.false_eq_true, Nat.succ_ne_self, decide_true, decide_false, keepT_setT, str_eqg, hk, q1, q2, q3, q4', q5', hx0, u8_48, e48]
        generalize hq3 : codeEv (run A n) (ev A n).2 a45_L1 _ = q3
        obtain ⟨T3, L3, h3⟩ := loop45dq s m' n _ _ (by omega) (by omega) hq3 (by simp only [keepT, List.map, look_set, look_cons, in_int, in_str, Nat.reduceEqDiff, if_true, if_false])
        rcases h3 with ⟨rfl, hk3⟩ | ⟨rfl, hk3⟩
        · simp only [loc_int, if_false, Bool.false_eq_true, keep1 hk3]
        · simp only [look_set, look_nil, look_cons, loc_int, Nat.reduceEqDiff, Nat.reduceLT, if_true, if_false, Bool.false_eq_true, hk3]
      · simp only [look_set, look_nil, look_cons, bin_igt, bin_ieq, in_int, in_str, List.map, Option.map_some, Nat.reduceEqDiff, Nat.reduceLT, if_true, if_false, beq_self_eq_true, Bool.false_eq_true, Nat.succ_ne_self, decide_false, beq_ft, keepT_setT, str_eqg, hk, q1, q2, q3, q4', q5']
        generalize hq3 : codeEv (run A n) (ev A n).2 a45_L1 _ = q3
        obtain ⟨T3, L3, h3⟩ := loop45dq s m' n _ _ (by omega) (by omega) hq3 (by simp only [keepT, List.map, look_set, look_cons, in_int, in_str, Nat.reduceEqDiff, if_true, if_false])
        rcases h3 with ⟨rfl, hk3⟩ | ⟨rfl, hk3⟩
        · simp only [loc_int, if_false, Bool.false_eq_true, keep1 hk3]
        · simp only [look_set, look_nil, look_cons, loc_int, Nat.reduceEqDiff, Nat.reduceLT, if_true, if_false, Bool.false_eq_true, hk3]
/-- What stands between blanks: 'cur' is what is open. -/
def splB : ByteArray → List UInt8 → List ByteArray
  | cur, [] => [cur]
  | cur, b :: r => if b = 32 then cur :: splB ⟨#[]⟩ r else splB (cur ++ ⟨#[b]⟩) r
theorem opE_slcS (call : Caller) (x : Opd) (lo hi : Option Opd) (s : St) : opEv call (.slcS x lo hi) s = match s.opd x with
    | .str a => match bndsEv a.size a.size (lo.map s.opd) (hi.map s.opd) none with
      | some (l, h, _) => some (.str (a.extract l h), s)
      | none => none
    | _ => none := rfl
theorem bnds_one {n k : Nat} (h : k < n) : bndsEv n n (some (.int .i64 (k : Int))) (some (.int .i64 ((k + 1 : Nat) : Int))) none = some (k, k + 1, n) := by
  unfold bndsEv obnd bndEv
  simp only
  rw [if_pos (by omega)]
  simp only
  rw [if_pos (by omega)]
  simp
theorem sub_1 (l0 : Nat) (h : l0 ≤ 100000) : binEv .sub (.int .i64 ((l0 + 1 : Nat) : Int)) (.int .i64 1) = some (.int .i64 (l0 : Int)) := by
  simp only [binEv, if_true, intBin, IntKind.wrap, IntKind.bits]
  simp [IntKind.signed]
  omega
theorem ext_one {s : ByteArray} {k : Nat} {b : UInt8} (h : s.data.toList[k]? = some b) : s.extract k (k + 1) = ⟨#[b]⟩ := by
  apply ba_ext
  obtain ⟨h1, h2⟩ := List.getElem?_eq_some_iff.1 h
  simp only [ByteArray.data_extract, Array.toList_extract]
  rw [List.extract_eq_take_drop, show k + 1 - k = 1 by omega, List.drop_eq_getElem_cons h1]
  simp [h2]
theorem b43_end (N : Nat) (again : AC → St → Option (Ex × St)) (s : ByteArray) (k : Nat) (b l0 : Nat) (cap : Option Nat) (m : Mem) (T : List (Nat × AV)) (L : List (Nat × List AV)) (hk : keepT [0, 3, 4] [] T = [(0, .str s), (3, .slice b 0 (l0 + 1) cap 1), (4, .int .i64 (k : Int))]) (h : s.size ≤ k) : ∃ T' L', codeEv (run A N) again a43_B1 ⟨37, T, L, m⟩ = some (.exit 0, ⟨37, T', L', m⟩) ∧ keepT [3] [] T' = [(3, .slice b 0 (l0 + 1) cap 1)] := by
  have h' : ¬ (k : Int) < (s.size : Int) := by omega
  unfold a43_B1
  exact ⟨_, _, by simp only [codeEv, opsEv, oneEv, guardEv, opE_mov, opE_bin, St.opd, look_set, look_nil, look_cons, St.put, bin_ilt, keepL, Option.map_some, Nat.reduceEqDiff, Nat.reduceLT, if_true, if_false, Bool.false_eq_true, Nat.succ_ne_self, decide_false, opE_lenS, hk, h']; rfl, by simp only [keepT, List.map, look_set, look_cons, in_slice, Nat.reduceEqDiff, if_true, if_false]⟩
theorem b43_sp (N : Nat) (again : AC → St → Option (Ex × St)) (s : ByteArray) (k : Nat) (b l0 : Nat) (cap : Option Nat) (m : Mem) (T : List (Nat × AV)) (L : List (Nat × List AV)) (hk : keepT [0, 3, 4] [] T = [(0, .str s), (3, .slice b 0 (l0 + 1) cap 1), (4, .int .i64 (k : Int))]) (hb : s.data.toList[k]? = some 32) (hkk : k ≤ 1000) (hf : m.full = false) (v' : AV) (hv' : ∀ ls, AV.locIn ls v' = true) (m' : Mem) (ha : ∀ sn t l, appEv ⟨sn, t, l, m.push (.cells [.str ⟨#[]⟩] true)⟩ none 1 16 (.slice b 0 (l0 + 1) cap 1) (.slice m.n 0 1 (some 1) 1) = some (v', ⟨sn, t, l, m'⟩)) :
    ∃ T' L', codeEv (run A N) again a43_B1 ⟨37, T, L, m⟩ = some (.norm, ⟨37, T', L', m'⟩) ∧ keepT [0, 3, 4] [] T' = [(0, .str s), (3, v'), (4, .int .i64 ((k + 1 : Nat) : Int))] := by
  have hlt : k < s.size := by rw [← size_list]; exact (List.getElem?_eq_some_iff.1 hb).1
  have h' : (k : Int) < (s.size : Int) := by omega
  have hi := fun st => idx_str hb st
  have e32 : (((32 : UInt8).toNat : Int) == 32) = true := rfl
  have a1 := add_i k (by omega)
  unfold a43_B1
  exact ⟨_, _, by simp only [codeEv, opsEv, oneEv, guardEv, opE_mov, opE_mkslc, opE_load1, opE_store, opE_bin, opE_iaddrL, opE_idxS, opE_lenL, opE_app, lenR_slice, St.opd, look_set, look_nil, look_cons, St.put, St.read, St.write, splice, bin_ilt, in_int, in_str, in_slice, cells_str, fillEv, keepL, careEv, dOneEv, dOpsEv, accOf, accEv, Option.toList_some, List.append_nil, List.map, List.length, List.take, List.drop, List.nil_append, List.drop_succ_cons, Option.map_some, Nat.reduceEqDiff, Nat.reduceAdd, Nat.reduceLeDiff, Nat.reduceLT, if_true, if_false, Bool.false_and, Bool.and_false, Bool.not_true, Bool.false_eq_true, Nat.succ_ne_self, decide_true, keepT_setT, Nat.reducePow, hz1, Nat.zero_mul, Nat.one_mul, opE_lenS, u8_eq, opE_slcS, AOp.kd, kd_rm, kd_sm, hk, h', hi, e32, a1, hf, ha, hv']; rfl, by simp only [keepT, List.map, look_set, look_cons, in_int, in_str, Nat.reduceEqDiff, if_true, if_false, hv']⟩
theorem b43_ch (N : Nat) (again : AC → St → Option (Ex × St)) (s : ByteArray) (k : Nat) (b l0 : Nat) (cap : Option Nat) (m : Mem) (T : List (Nat × AV)) (L : List (Nat × List AV)) (hk : keepT [0, 3, 4] [] T = [(0, .str s), (3, .slice b 0 (l0 + 1) cap 1), (4, .int .i64 (k : Int))]) {x : UInt8} (hb : s.data.toList[k]? = some x) (hne : ¬ x = 32) (hkk : k ≤ 1000) (hl : l0 ≤ 1000) (cl : List AV) (cur : ByteArray) (hg : m.get b = some (.cells cl true)) (hrd : cellsAt cl (0 + l0 * 1) 1 = some [.str cur]) (hlen : 0 + l0 * 1 + 1 ≤ cl.length) (hcs : cur.size ≤ 10000) :
    ∃ T' L', codeEv (run A N) again a43_B1 ⟨37, T, L, m⟩ = some (.norm, ⟨37, T', L', m.set b (.cells (splice cl (0 + l0 * 1) [.str (cur ++ ⟨#[x]⟩)]) true)⟩) ∧ keepT [0, 3, 4] [] T' = [(0, .str s), (3, .slice b 0 (l0 + 1) cap 1), (4, .int .i64 ((k + 1 : Nat) : Int))] := by
  have hlt : k < s.size := by rw [← size_list]; exact (List.getElem?_eq_some_iff.1 hb).1
  have h' : (k : Int) < (s.size : Int) := by omega
  have hi := fun st => idx_str hb st
  have e32 : ((x.toNat : Int) == 32) = false := by
    rw [beq_eq_false_iff_ne]
    intro e
    apply hne
    apply UInt8.toNat_inj.1
    have : (32 : UInt8).toNat = 32 := rfl
    omega
  have a1 := add_i k (by omega)
  have a2 := sub_1 l0 (by omega)
  have a3 := bnds_one hlt
  have a4 := ext_one hb
  have h1 : (ByteArray.mk #[x]).size = 1 := rfl
  have a5 := str_add' cur ⟨#[x]⟩ (by omega)
  have hbd : 0 ≤ (l0 : Int) ∧ (l0 : Int) < ((l0 + 1 : Nat) : Int) := by omega
  unfold a43_B1
  exact ⟨_, _, by simp only [codeEv, opsEv, oneEv, guardEv, opE_mov, opE_mkslc, opE_load1, opE_store, opE_bin, opE_iaddrL, opE_idxS, opE_lenL, opE_app, lenR_slice, elemR_slice, St.opd, look_set, look_nil, look_cons, St.put, St.read, St.write, splice, bin_ilt, in_int, in_str, in_slice, one_str, cells_str, fillEv, keepL, careEv, dOneEv, dOpsEv, accOf, accEv, Option.toList_some, List.append_nil, List.map, List.length, List.take, List.drop, List.all, List.nil_append, List.drop_succ_cons, Option.map_some, Nat.reduceEqDiff, Nat.reduceAdd, Nat.reduceLeDiff, Nat.reduceLT, if_true, if_false, Bool.and_true, Bool.and_false, Bool.not_true, Bool.not_false, List.isEmpty_cons, Bool.false_eq_true, Nat.succ_ne_self, decide_true, keepT_setT, Nat.reducePow, hz1, and_self, Nat.zero_mul, Nat.one_mul, opE_lenS, u8_eq, opE_slcS, AOp.kd, kd_rm, kd_sm, logOk_nil', Int.toNat_natCast, hk, h', hi, e32, a1, a2, a3, a4, a5, hbd, hg, hrd, hlen]; rfl, by simp only [keepT, List.map, look_set, look_cons, in_int, in_str, in_slice, Nat.reduceEqDiff, if_true, if_false]⟩
theorem last_read (ps0 : List ByteArray) (cur : ByteArray) : cellsAt ((ps0 ++ [cur]).map AV.str) (0 + ps0.length * 1) 1 = some [.str cur] := by
  rw [Nat.zero_add, Nat.mul_one]
  exact cells_one (by simp)
theorem last_set (ps0 : List ByteArray) (cur x : ByteArray) : splice ((ps0 ++ [cur]).map AV.str) (0 + ps0.length * 1) [.str x] = (ps0 ++ [x]).map AV.str := by
  rw [Nat.zero_add, Nat.mul_one]
  simp [splice]
theorem loop43 (s : ByteArray) (n0 : Nat) : ∀ (r : List UInt8) (k N : Nat) (m : Mem) (v : AV) (ps0 : List ByteArray) (cur : ByteArray) (T : List (Nat × AV)) (L : List (Nat × List AV)), s.data.toList.drop k = r → r.length + 1 ≤ N → k + r.length ≤ 500 → PS n0 m v (ps0 ++ [cur]) → n0 ≤ m.n → m.n + 2 * r.length + 2 ≤ 2 ^ depth → ps0.length + r.length ≤ 900 → cur.size + r.length ≤ 1000 → keepT [0, 3, 4] [] T = [(0, .str s), (3, v), (4, .int .i64 (k : Int))] →
    ∃ T' L' m' v', codeEv (run A N) (ev A N).2 a43_L1 ⟨37, T, L, m⟩ = some (.exit 0, ⟨37, T', L', m'⟩) ∧ keepT [3] [] T' = [(3, v')] ∧ PS n0 m' v' (ps0 ++ splB cur r) ∧ (∀ i, i < n0 → m'.get i = m.get i) ∧ m.n ≤ m'.n ∧ m'.n ≤ m.n + 2 * r.length
  | [], k, N, m, v, ps0, cur, T, L, hr, hN, hkk, hps, hn0, hmn, hl, hc, hk => by
    have hle : s.size ≤ k := by rw [← size_list]; exact List.drop_eq_nil_iff.1 hr
    have hps' := hps
    obtain ⟨b, cap, rfl, hb, hg, hcap⟩ := hps
    rw [List.length_append, List.length_singleton] at hk
    obtain ⟨T', L', e1, e2⟩ := b43_end N (ev A N).2 s k b ps0.length cap m T L hk hle
    refine ⟨T', L', m, _, by rw [a43_L1_step, e1], e2, ?_, fun i hi => rfl, Nat.le_refl _, by omega⟩
    rw [List.length_append, List.length_singleton] at hps'
    exact hps'
  | x :: r, k, N, m, v, ps0, cur, T, L, hr, hN, hkk, hps, hn0, hmn, hl, hc, hk => by
    obtain ⟨g1, g2, g3⟩ := drop_cons_get hr
    obtain ⟨n, rfl⟩ : ∃ n, N = n + 1 := ⟨N - 1, by omega⟩
    simp only [List.length_cons] at hN hkk hmn hl hc
    have hps' := hps
    obtain ⟨b, cap, rfl, hb, hg, hcap⟩ := hps
    by_cases hx : x = 32
    · subst hx
      obtain ⟨v1, m1, ha, hp1, hm1, hk1⟩ := app_ps hps' ⟨#[]⟩ hn0 (by omega) (by rw [List.length_append, List.length_singleton]; omega)
      have pl := hp1.plain
      rw [List.length_append, List.length_singleton] at hk ha
      obtain ⟨T1, L1, e1, e2⟩ := b43_sp (n + 1) (ev A (n + 1)).2 s k b ps0.length cap m T L hk g1 (by omega) (not_full (by omega)) v1 pl.1 m1 ha
      obtain ⟨T', L', m', v', f1, f2, f3, f4, f5, f6⟩ := loop43 s n0 r (k + 1) n m1 v1 (ps0 ++ [cur]) ⟨#[]⟩ T1 L1 g3 (by omega) (by omega) hp1 (by omega) (by omega) (by rw [List.length_append, List.length_singleton]; omega) (by have : ByteArray.size ⟨#[]⟩ = 0 := rfl; omega) e2
      refine ⟨T', L', m', v', ?_, f2, ?_, fun i hi => (f4 i hi).trans (hk1 i hi), by omega, by simp only [List.length_cons]; omega⟩
      · rw [a43_L1_step, e1]
        dsimp only
        rw [again_of]
        exact f1
      · rw [splB, if_pos rfl]
        rw [List.append_assoc, List.singleton_append] at f3
        exact f3
    · rw [List.length_append, List.length_singleton] at hk
      have hbm := Mem.get_lt hg
      have h1 : (ByteArray.mk #[x]).size = 1 := rfl
      obtain ⟨T1, L1, e1, e2⟩ := b43_ch (n + 1) (ev A (n + 1)).2 s k b ps0.length cap m T L hk g1 hx (by omega) (by omega) _ cur hg (last_read ps0 cur) (by simp) (by omega)
      rw [last_set] at e1
      have hp1 : PS n0 (m.set b (.cells ((ps0 ++ [cur ++ ⟨#[x]⟩]).map AV.str) true)) (.slice b 0 (ps0 ++ [cur ++ ⟨#[x]⟩]).length cap 1) (ps0 ++ [cur ++ ⟨#[x]⟩]) := by
        refine ⟨b, cap, rfl, hb, Mem.get_set_same _ hbm, ?_⟩
        rw [List.length_append, List.length_singleton] at hcap ⊢
        exact hcap
      obtain ⟨T', L', m', v', f1, f2, f3, f4, f5, f6⟩ := loop43 s n0 r (k + 1) n (m.set b (.cells ((ps0 ++ [cur ++ ⟨#[x]⟩]).map AV.str) true)) (.slice b 0 (ps0 ++ [cur ++ ⟨#[x]⟩]).length cap 1) ps0 (cur ++ ⟨#[x]⟩) T1 L1 g3 (by omega) (by omega) hp1 hn0 (by rw [set_n]; omega) (by omega) (by rw [ByteArray.size_append]; omega) (by rw [List.length_append, List.length_singleton]; exact e2)
      rw [set_n] at f5 f6
      refine ⟨T', L', m', v', ?_, f2, ?_, fun i hi => (f4 i hi).trans (Mem.get_set_ne _ (by omega) hbm (by omega)), f5, by simp only [List.length_cons]; omega⟩
      · rw [a43_L1_step, e1]
        dsimp only
        rw [again_of]
        exact f1
      · rw [splB, if_neg hx]
        exact f3
theorem loop43q (s : ByteArray) (N : Nat) (m : Mem) (T : List (Nat × AV)) (L : List (Nat × List AV)) {q : Option (Ex × St)} (hq : codeEv (run A N) (ev A N).2 a43_L1 ⟨37, T, L, m.push (.cells [.str ⟨#[]⟩] true)⟩ = q) (hN : 120 ≤ N) (hs : s.size ≤ 110) (hmn : m.n + 300 ≤ 2 ^ depth) (hk : keepT [0, 3, 4] [] T = [(0, .str s), (3, .slice m.n 0 1 (some 1) 1), (4, .int .i64 0)]) :
    ∃ T' L' m' v', q = some (.exit 0, ⟨37, T', L', m'⟩) ∧ keepT [3] [] T' = [(3, v')] ∧ PS m.n m' v' (splB ⟨#[]⟩ s.data.toList) ∧ Gr m m' 230 := by
  subst hq
  have hp : PS m.n (m.push (.cells [.str ⟨#[]⟩] true)) (.slice m.n 0 1 (some 1) 1) ([] ++ [⟨#[]⟩]) := ⟨m.n, some 1, rfl, Nat.le_refl _, Mem.get_push_new _, .inr rfl⟩
  have h0 : ByteArray.size ⟨#[]⟩ = 0 := rfl
  obtain ⟨T', L', m', v', e1, e2, e3, e4, e5, e6⟩ := loop43 s m.n s.data.toList 0 N _ _ [] ⟨#[]⟩ T L rfl (by rw [size_list]; omega) (by rw [size_list]; omega) hp (by rw [push_n]; omega) (by rw [push_n, size_list]; omega) (by rw [size_list, List.length_nil]; omega) (by rw [size_list]; omega) hk
  rw [push_n] at e5 e6
  rw [size_list] at e6
  exact ⟨T', L', m', v', e1, e2, e3, ⟨by omega, fun i hi => (e4 i hi).trans (Mem.get_push_old _ (not_full (by omega)) (by omega))⟩, by omega⟩
theorem pieces_run (N : Nat) (hN : 130 ≤ N) (s : ByteArray) (hs : s.size ≤ 110) (m : Mem) (hmn : m.n + 300 ≤ 2 ^ depth) : ∃ v m', run A N 43 [.str s] m = some (v, m') ∧ PS m.n m' v (splB ⟨#[]⟩ s.data.toList) ∧ Gr m m' 230 := by
  obtain ⟨n, rfl⟩ : ∃ n, N = n + 1 := ⟨N - 1, by omega⟩
  have hf : m.full = false := not_full (by omega)
  rw [run_43]
  unfold fnEv a43
  simp only [codeEv, opsEv, oneEv, guardEv, opE_mov, opE_mkslc, St.opd, look_set, look_nil, look_cons, St.put, splice, argsT, resEv, in_str, in_slice, cells_str, fillEv, keepL, List.append_nil, List.map, List.length, List.take, List.drop, List.nil_append, List.drop_succ_cons, Nat.reduceEqDiff, Nat.reduceAdd, Nat.reduceLeDiff, Nat.reduceLT, if_true, if_false, Bool.false_eq_true, keepT_setT, keepT_lit, Nat.reducePow, hz1, Nat.zero_mul, Nat.one_mul, hf]
  generalize hq : codeEv (run A n) (ev A n).2 a43_L1 _ = q
  obtain ⟨T', L', m', v', rfl, e2, e3, e4⟩ := loop43q s n m _ _ hq (by omega) hs hmn (by simp only [keepT, List.map, look_set, look_cons, in_int, in_str, in_slice, Nat.reduceEqDiff, if_true, if_false])
  obtain ⟨p1, p2⟩ := e3.plain
  refine ⟨v', m', ?_, e3, e4⟩
  simp only [look_set, look_nil, look_cons, Nat.reduceEqDiff, Nat.reduceLT, if_true, if_false, Bool.false_eq_true, Nat.succ_ne_self, e2, p2]
end AG
