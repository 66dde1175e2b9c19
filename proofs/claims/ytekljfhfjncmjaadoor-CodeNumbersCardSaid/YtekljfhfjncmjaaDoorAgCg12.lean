/- What the functions of instructions and their texts compute, and the laws of that. -/
import Derived.Test.YtekljfhfjncmjaaDoorAgCg11
namespace AG
open Go Go.Proofs.YtekljfhfjncmjaaDoor
set_option maxRecDepth 100000
set_option maxHeartbeats 4000000



def ones : List Int := List.replicate 8 1
theorem effI_form (op a b c : Int) : ∃ (x y : Int) (z : Bool), effI op a b c ones = .tup [.int .i64 x, .int .i64 y, .bool z] ∧ (z = true → x = (if op = 17 then 1 else kx 4 op.toNat) ∧ y = kx 5 op.toNat) := by
  unfold effI
  cases hk : codeOk op a b c
  · exact ⟨0, 0, false, rfl, fun h => by cases h⟩
  · simp only [if_true]
    by_cases h17 : op = 17
    · subst h17
      have ha := codeOk_call hk
      simp only [if_true]
      by_cases hl : (ones.length : Int) ≤ a
      · rw [if_pos hl]
        exact ⟨0, 0, false, rfl, fun h => by cases h⟩
      · rw [if_neg hl]
        refine ⟨_, _, true, rfl, fun _ => ⟨?_, rfl⟩⟩
        have h8 : ones.length = 8 := rfl
        rw [h8] at hl
        have : ones[a.toNat]? = some 1 := by
          unfold ones
          rw [List.getElem?_replicate, if_pos (by omega)]
        rw [this]; rfl
    · rw [if_neg h17, if_neg h17]
      exact ⟨_, _, true, rfl, fun _ => ⟨rfl, rfl⟩⟩
theorem xor_ex (a : Int) : ∃ A', binEv .xor (.int .i64 a) (.int .i64 1) = some (.int .i64 A') := ⟨_, rfl⟩
theorem ones_rs (m : Mem) (_hf : m.n < 2 ^ depth) : RS iC 1 (m.push (.cells [AV.int .i64 1, .int .i64 1, .int .i64 1, .int .i64 1, .int .i64 1, .int .i64 1, .int .i64 1, .int .i64 1] true)) (.slice m.n 0 8 (some 8) 1) ones := by
  refine .inr ⟨m.n, 0, some 8, 1, rfl, fun i x hx => ⟨[AV.int .i64 1, .int .i64 1, .int .i64 1, .int .i64 1, .int .i64 1, .int .i64 1, .int .i64 1, .int .i64 1], true, Mem.get_push_new _, ?_⟩⟩
  have hi : i < 8 := (List.getElem?_eq_some_iff.1 hx).1
  have hx1 : x = 1 := by
    unfold ones at hx
    rw [List.getElem?_replicate, if_pos hi] at hx
    exact (Option.some.inj hx).symm
  subst hx1
  have : i = 0 ∨ i = 1 ∨ i = 2 ∨ i = 3 ∨ i = 4 ∨ i = 5 ∨ i = 6 ∨ i = 7 := by omega
  rcases this with rfl | rfl | rfl | rfl | rfl | rfl | rfl | rfl <;> rfl
theorem hz8 : zerosEv [AV.int .i64 0] 8 = [AV.int .i64 0, .int .i64 0, .int .i64 0, .int .i64 0, .int .i64 0, .int .i64 0, .int .i64 0, .int .i64 0] := rfl
theorem fill8 : fillEv [AV.int .i64 0, .int .i64 0, .int .i64 0, .int .i64 0, .int .i64 0, .int .i64 0, .int .i64 0, .int .i64 0] [(0, 1, .int .i64 1), (1, 1, .int .i64 1), (2, 1, .int .i64 1), (3, 1, .int .i64 1), (4, 1, .int .i64 1), (5, 1, .int .i64 1), (6, 1, .int .i64 1), (7, 1, .int .i64 1)] = some [AV.int .i64 1, .int .i64 1, .int .i64 1, .int .i64 1, .int .i64 1, .int .i64 1, .int .i64 1, .int .i64 1] := rfl
theorem R3_ok (N : Nat) (hN : 6 ≤ N) (again : AC → St → Option (Ex × St)) (w n op a b c : Int) (m : Mem) (hT : Tab2 m) (h13 : 13 ≤ m.n) (hf : m.n + 1 ≤ 2 ^ depth) {T : List (Nat × AV)} {L : List (Nat × List AV)} {q : Option (Ex × St)} (hq : codeEv (run A N) again a4_R3 ⟨121, T, L, m⟩ = q) (hL : lookL L 1 = some [.int .i64 op, .int .i64 a, .int .i64 b, .int .i64 c]) (hk : keepT [1, 4, 6] [1] T = [(1, .loc 1 0), (4, .int .i64 w), (6, .int .i64 n)]) :
    ∃ T' L' m' x y z, q = some (.norm, ⟨121, T', L', m'⟩) ∧ lookL L' 1 = some [.int .i64 op, .int .i64 a, .int .i64 b, .int .i64 c] ∧ keepT [1, 4, 6, 11, 12, 13] [1] T' = [(1, .loc 1 0), (4, .int .i64 w), (6, .int .i64 n), (11, .int .i64 x), (12, .int .i64 y), (13, .bool z)] ∧ (z = true → x = (if op = 17 then 1 else kx 4 op.toNat) ∧ y = kx 5 op.toNat) ∧ m'.n = m.n + 1 ∧ Tab2 m' := by
  subst hq
  have hfl : m.full = false := not_full (by omega)
  have hx := (Ext.refl m).push (.cells [AV.int .i64 1, .int .i64 1, .int .i64 1, .int .i64 1, .int .i64 1, .int .i64 1, .int .i64 1, .int .i64 1] true) (by omega)
  have hT' := hT.ext hx h13
  have he := eff_ex N (by omega) op a b c _ hT'.t _ ones (ones_rs m (by omega))
  obtain ⟨x, y, z, e1, e2⟩ := effI_form op a b c
  rw [e1] at he
  unfold insA at he
  unfold a4_R3
  refine ⟨_, _, m.push (.cells [AV.int .i64 1, .int .i64 1, .int .i64 1, .int .i64 1, .int .i64 1, .int .i64 1, .int .i64 1, .int .i64 1] true), x, y, z, by simp only [codeEv, opsEv, oneEv, guardEv, opE_mov, opE_mkslc, opE_loadk, opE_ext, opE_call, St.opd, look_set, look_nil, look_cons, St.put, St.read, lookL_nil, lookL_cons, cellsAt_cons, loc_slice, loc_agg, callWith, keepL, List.map, List.length, List.take, List.drop, List.any, List.take_succ_cons, List.getElem?_cons_succ, List.getElem?_cons_zero, Option.map_some, Nat.reduceEqDiff, Nat.reduceAdd, Nat.reduceLeDiff, Nat.reduceLT, Nat.reduceMul, if_true, if_false, Bool.or_false, Bool.false_eq_true, Nat.succ_ne_self, Nat.reducePow, List.take_succ_cons, Nat.zero_mul, Nat.one_mul, hk, hL, hz8, fill8, hfl, he]; rfl, by simp only [lookL_cons, if_true], by simp only [keepT, List.map, look_set, look_cons, in_int, in_bool, in_loc, Nat.reduceEqDiff, if_true, if_false, List.contains_cons, List.contains_nil, beq_self_eq_true, Bool.or_false], e2, push_n _ _, hT'⟩
theorem R4_ok (N : Nat) (hN : 6 ≤ N) (again : AC → St → Option (Ex × St)) (w n op a b c x y : Int) (z : Bool) (m : Mem) (hT : Tab2 m) (h13 : 13 ≤ m.n) (hf : m.n + 1 ≤ 2 ^ depth) {T : List (Nat × AV)} {L : List (Nat × List AV)} {q : Option (Ex × St)} (hq : codeEv (run A N) again a4_R4 ⟨121, T, L, m⟩ = q) (hL : lookL L 14 = some [.int .i64 op, .int .i64 a, .int .i64 b, .int .i64 c]) (hk : keepT [4, 6, 11, 12, 13, 14] [14] T = [(4, .int .i64 w), (6, .int .i64 n), (11, .int .i64 x), (12, .int .i64 y), (13, .bool z), (14, .loc 14 0)]) :
    ∃ T' L' m' x' y' z', q = some (.norm, ⟨121, T', L', m'⟩) ∧ keepT [4, 6, 11, 12, 13, 15, 16, 17] [] T' = [(4, .int .i64 w), (6, .int .i64 n), (11, .int .i64 x), (12, .int .i64 y), (13, .bool z), (15, .int .i64 x'), (16, .int .i64 y'), (17, .bool z')] ∧ (z' = true → x' = (if op = 17 then 1 else kx 4 op.toNat) ∧ y' = kx 5 op.toNat) := by
  subst hq
  have hfl : m.full = false := not_full (by omega)
  have hx := (Ext.refl m).push (.cells [AV.int .i64 1, .int .i64 1, .int .i64 1, .int .i64 1, .int .i64 1, .int .i64 1, .int .i64 1, .int .i64 1] true) (by omega)
  have hT' := hT.ext hx h13
  have he := eff_ex N (by omega) op a b c _ hT'.t _ ones (ones_rs m (by omega))
  obtain ⟨x', y', z', e1, e2⟩ := effI_form op a b c
  rw [e1] at he
  unfold insA at he
  unfold a4_R4
  refine ⟨_, _, m.push (.cells [AV.int .i64 1, .int .i64 1, .int .i64 1, .int .i64 1, .int .i64 1, .int .i64 1, .int .i64 1, .int .i64 1] true), x', y', z', by simp only [codeEv, opsEv, oneEv, guardEv, opE_mov, opE_mkslc, opE_loadk, opE_ext, opE_call, St.opd, look_set, look_nil, look_cons, St.put, St.read, lookL_nil, lookL_cons, cellsAt_cons, loc_slice, loc_agg, callWith, keepL, List.map, List.length, List.take, List.drop, List.any, List.take_succ_cons, List.getElem?_cons_succ, List.getElem?_cons_zero, Option.map_some, Nat.reduceEqDiff, Nat.reduceAdd, Nat.reduceLeDiff, Nat.reduceLT, Nat.reduceMul, if_true, if_false, Bool.or_false, Bool.false_eq_true, Nat.succ_ne_self, Nat.reducePow, List.take_succ_cons, Nat.zero_mul, Nat.one_mul, hk, hL, hz8, fill8, hfl, he]; rfl, by simp only [keepT, List.map, look_set, look_cons, in_int, in_bool, Nat.reduceEqDiff, if_true, if_false], e2⟩
theorem R5_ok (N : Nat) (again : AC → St → Option (Ex × St)) (w n X Y x y x' y' : Int) (z z' : Bool) (h1 : z = true → x = X ∧ y = Y) (h2 : z' = true → x' = X ∧ y' = Y) (hw : binEv .add (.int .i64 n) (.int .i64 1) = some (.int .i64 w)) (m : Mem) {T : List (Nat × AV)} {L : List (Nat × List AV)} {q : Option (Ex × St)} (hq : codeEv (run A N) again a4_R5 ⟨121, T, L, m⟩ = q) (hk : keepT [4, 6, 11, 12, 13, 15, 16, 17] [] T = [(4, .int .i64 w), (6, .int .i64 n), (11, .int .i64 x), (12, .int .i64 y), (13, .bool z), (15, .int .i64 x'), (16, .int .i64 y'), (17, .bool z')]) :
    ∃ T', q = some (.norm, ⟨121, T', [], m⟩) ∧ look T' 2 = .bool true := by
  subst hq
  unfold a4_R5
  cases z
  · exact ⟨_, by simp only [codeEv, opsEv, oneEv, guardEv, opE_mov, opE_pick, opE_bin, opE_un, St.opd, look_set, look_nil, look_cons, St.put, bin_ieq, unEv, keepL, Option.map_some, Nat.reduceEqDiff, Nat.reduceLT, if_true, if_false, Bool.not_false, beq_self_eq_true, Nat.succ_ne_self, decide_true, beq_tf, hk, hw]; rfl, by simp only [look_set, look_cons, Nat.reduceEqDiff, if_true, if_false]⟩
  · cases z'
    · exact ⟨_, by simp only [codeEv, opsEv, oneEv, guardEv, opE_mov, opE_pick, opE_bin, opE_un, St.opd, look_set, look_nil, look_cons, St.put, bin_ieq, unEv, keepL, Option.map_some, Nat.reduceEqDiff, Nat.reduceLT, if_true, if_false, Bool.not_true, Bool.not_false, beq_self_eq_true, Bool.false_eq_true, Nat.succ_ne_self, decide_true, beq_tf, hk, hw]; rfl, by simp only [look_set, look_cons, Nat.reduceEqDiff, if_true, if_false]⟩
    · obtain ⟨rfl, rfl⟩ := h1 rfl
      obtain ⟨rfl, rfl⟩ := h2 rfl
      exact ⟨_, by simp only [codeEv, opsEv, oneEv, guardEv, opE_mov, opE_pick, opE_bin, opE_un, St.opd, look_set, look_nil, look_cons, St.put, bin_ieq, unEv, keepL, Option.map_some, Nat.reduceEqDiff, Nat.reduceLT, if_true, if_false, Bool.not_true, beq_self_eq_true, Bool.false_eq_true, Nat.succ_ne_self, decide_true, hk, hw]; rfl, by simp only [look_set, look_cons, Nat.reduceEqDiff, if_true, if_false]⟩

end AG
