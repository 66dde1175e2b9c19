/- What the functions of sets and vectors compute, and the laws of that. -/
import Derived.Test.YtenhcejelicjfaaDoorAgLnN
namespace AG
open Go Go.Proofs.YtenhcejelicjfaaDoor
set_option maxRecDepth 100000
set_option maxHeartbeats 4000000



theorem u64_small (k : Int) (h1 : 0 ≤ k) (h2 : k < 32) : IntKind.u64.wrap k = k := by
  simp only [IntKind.wrap, IntKind.bits]
  simp [IntKind.signed]
  omega
theorem bin_rem2 (x : BitVec 32) : binEv .rem (U x) (.int .u32 2) = some (U (x % 2#32)) := by
  simp only [U, binEv, if_true, intBin]
  rw [if_neg (by decide)]
  congr 2
theorem bit_rem (s : BitVec 32) (k : Nat) : decide (s >>> k % 2#32 = 1#32) = s.getLsbD k := by
  have h0 : (s >>> k % 2#32).toNat = (s >>> k).toNat % 2 := by rw [BitVec.toNat_umod]; rfl
  have h1 : s.getLsbD k = decide ((s >>> k).toNat % 2 = 1) := by
    rw [← Nat.add_zero k, ← BitVec.getLsbD_ushiftRight, ← BitVec.testBit_toNat, Nat.testBit_zero, Nat.add_zero]
  rw [h1, Bool.eq_iff_iff]
  simp only [decide_eq_true_eq]
  rw [← h0]
  exact ⟨fun h => by rw [h]; rfl, fun h => BitVec.eq_of_toNat_eq (by rw [h]; rfl)⟩
theorem rhas_spec (N : Nat) (hN : 1 ≤ N) (s : BitVec 32) (k : Int) (m : Mem) : run A N 26 [U s, .int .i64 k] m = some (.bool (hasI s k), m) := by
  obtain ⟨n, rfl⟩ : ∃ n, N = n + 1 := ⟨N - 1, by omega⟩
  rw [run_26]
  unfold fnEv a26 hasI
  by_cases h1 : 0 ≤ k
  · have e := bin_shr s .u64 k h1
    by_cases h2 : k < 32
    · have w := u64_small k h1 h2
      simp only [codeEv, opsEv, oneEv, guardEv, opE_mov, opE_pick, opE_bin, opE_conv, St.opd, look_set, look_cons, St.put, argsT, resEv, bin_ueq, bin_ilt, bin_ige, in_int, in_U, loc_bool, keepL, List.map, List.length, Option.map_some, Nat.reduceEqDiff, Nat.reduceAdd, Nat.reduceLT, if_true, if_false, Bool.true_and, beq_self_eq_true, Bool.false_eq_true, Nat.succ_ne_self, decide_true, u_1, keepT_setT, keepT_lit, h1, h2, w, e, bin_rem2, bit_rem]
    · simp only [codeEv, opsEv, oneEv, guardEv, opE_mov, opE_pick, opE_bin, St.opd, look_set, look_cons, St.put, argsT, resEv, bin_ilt, bin_ige, in_int, in_U, loc_bool, keepL, List.map, List.length, Option.map_some, Nat.reduceEqDiff, Nat.reduceAdd, Nat.reduceLT, if_true, if_false, Bool.false_and, Bool.and_false, beq_self_eq_true, Bool.false_eq_true, Nat.succ_ne_self, decide_true, decide_false, beq_ft, keepT_setT, keepT_lit, h1, h2]
  · simp only [codeEv, opsEv, oneEv, guardEv, opE_mov, opE_pick, opE_bin, St.opd, look_set, look_cons, St.put, argsT, resEv, bin_ige, in_int, in_U, loc_bool, keepL, List.map, List.length, Option.map_some, Nat.reduceEqDiff, Nat.reduceAdd, Nat.reduceLT, if_true, if_false, Bool.false_and, Bool.false_eq_true, Nat.succ_ne_self, decide_false, beq_ft, keepT_setT, keepT_lit, h1]

theorem rfind_loop (v : AV) (m : Mem) (l : List V) (hl : l.length ≤ 1000000) (hv : VS m v l) (x : Int) :
    ∀ (r : List V) (i : Nat) (N : Nat) (T : List (Nat × AV)) (L : List (Nat × List AV)) (q : _), l.drop i = r → r.length + 1 ≤ N → codeEv (run A N) (ev A N).2 a21_L1 ⟨21, T, L, m⟩ = q → keepT [0, 1, 6] [] T = [(0, v), (1, .int .i64 x), (6, .int .i64 (i : Int))] →
      ∃ T' L', (q = some (.exit 0, ⟨21, T', L', m⟩) ∧ findL x r i = none) ∨ (∃ k, q = some (.ret, ⟨21, T', L', m⟩) ∧ findL x r i = some k ∧ look T' 4 = .int .i64 (k : Int) ∧ look T' 5 = .bool true)
  | [], i, N, T, L, q, hd, hN, hq, hk => by
    subst hq
    have hi : ¬ ((i : Int) < (l.length : Int)) := by
      have := List.drop_eq_nil_iff.1 hd
      omega
    have hln := hv.lenR
    rw [a21_L1_step]
    unfold a21_B1 findL
    exact ⟨_, _, .inl ⟨(by simp only [codeEv, opsEv, oneEv, guardEv, opE_mov, opE_bin, opE_lenL, St.opd, look_set, look_cons, St.put, bin_ilt, keepL, Option.map_some, Nat.reduceEqDiff, Nat.reduceLT, if_true, if_false, Bool.false_eq_true, Nat.succ_ne_self, decide_false, hk, hln, hi]; rfl), rfl⟩⟩
  | w :: r, i, N, T, L, q, hd, hN, hq, hk => by
    subst hq
    obtain ⟨hg, hi, hd'⟩ := drop_cons_get hd
    obtain ⟨n, rfl⟩ : ∃ n, N = n + 1 := ⟨N - 1, by simp only [List.length_cons] at hN; omega⟩
    have hv0 := hv
    rcases hv0 with ⟨rfl, h0⟩ | ⟨b, o, cap, e, rfl, hm⟩
    · rw [h0] at hg; cases hg
    obtain ⟨c, own, hc, hc3⟩ := hm i w hg
    obtain ⟨_, g3, _⟩ := cells_fld hc3
    have hi' := idx_ok hg
    have hadd := add_i i (by omega)
    rw [a21_L1_step]
    unfold a21_B1 findL
    by_cases c1 : w.line = x
    · have c2 := eq_true c1
      exact ⟨_, _, .inr ⟨i, (by simp only [codeEv, opsEv, oneEv, guardEv, opE_mov, opE_load1, opE_bin, opE_faddr, opE_iaddrL, opE_lenL, lenR_slice, elemR_slice, St.opd, look_set, look_cons, St.put, St.read, bin_ilt, bin_ieq, in_int, in_slice, keepL, List.map, Option.map_some, Nat.reduceEqDiff, Nat.reduceLT, if_true, if_false, Nat.succ_ne_self, decide_true, keepT_setT, hk, hi', and_self, Int.toNat_natCast, hc, g3, c2]; rfl), (by simp only [c1, if_true]), (by simp only [look_set, look_cons, Nat.reduceEqDiff, if_true, if_false]), (by simp only [look_set, look_cons, Nat.reduceEqDiff, if_true, if_false])⟩⟩
    · simp only [codeEv, opsEv, oneEv, guardEv, opE_mov, opE_load1, opE_bin, opE_faddr, opE_iaddrL, opE_lenL, lenR_slice, elemR_slice, St.opd, look_set, look_cons, St.put, St.read, bin_ilt, bin_ieq, in_int, in_slice, keepL, List.map, Option.map_some, Nat.reduceEqDiff, Nat.reduceLT, if_true, if_false, Bool.false_eq_true, Nat.succ_ne_self, decide_true, decide_false, keepT_setT, hk, hi', and_self, Int.toNat_natCast, hc, g3, c1, hadd, again_of]
      exact rfind_loop _ m l hl hv x r (i + 1) n _ _ _ hd' (by simp only [List.length_cons] at hN; omega) rfl (by simp only [keepT, List.map, look_set, look_cons, in_int, in_slice, Nat.reduceEqDiff, if_true, if_false])
theorem rfind_spec (N : Nat) (m : Mem) (v : AV) (l : List V) (hv : VS m v l) (hl : l.length ≤ 1000000) (hN : l.length + 3 ≤ N) (x : Int) : run A N 21 [v, .int .i64 x] m = some (findAV (findL x l 0), m) := by
  obtain ⟨n, rfl⟩ : ∃ n, N = n + 1 := ⟨N - 1, by omega⟩
  rw [run_21]
  unfold fnEv a21
  obtain ⟨p1, p2, p3, p4⟩ := hv.plain
  simp only [codeEv, opsEv, oneEv, guardEv, opE_mov, St.opd, look_set, look_cons, St.put, argsT, resEv, in_int, keepL, List.map, List.length, List.any, Nat.reduceEqDiff, Nat.reduceAdd, Nat.reduceLT, if_true, if_false, Bool.or_false, Nat.succ_ne_self, keepT_setT, keepT_lit, p1]
  generalize hq : codeEv (run A n) (ev A n).2 a21_L1 _ = q
  obtain ⟨T', L', ⟨rfl, h1⟩ | ⟨k, rfl, h1, h2, h3⟩⟩ := rfind_loop v m l hl hv x l 0 n _ _ q rfl (by omega) hq (by simp only [keepT, List.map, look_set, look_cons, in_int, Nat.reduceEqDiff, if_true, if_false, p1, Int.ofNat_zero])
  · simp only [look_set, loc_int, loc_bool, Nat.reduceEqDiff, Nat.reduceLT, if_true, if_false, Bool.or_false, Bool.false_eq_true, Nat.succ_ne_self, h1, findAV]
  · simp only [loc_int, loc_bool, if_false, Bool.or_false, Bool.false_eq_true, h2, h1, h3, findAV]

theorem rof_loop (v : AV) (m : Mem) (l : List Int) (hl : l.length ≤ 1000000) (hv : IS m v l) :
    ∀ (r : List Int) (i : Nat) (s : BitVec 32) (N : Nat) (T : List (Nat × AV)) (L : List (Nat × List AV)) (q : _), l.drop i = r → r.length + 1 ≤ N → codeEv (run A N) (ev A N).2 a22_L1 ⟨33, T, L, m⟩ = q → keepT [0, 4, 5] [] T = [(0, v), (4, U s), (5, .int .i64 (i : Int))] →
      ∃ T' L', (q = some (.exit 0, ⟨33, T', L', m⟩) ∧ (ofL s r).2 = 0 ∧ keepT [4] [] T' = [(4, U (ofL s r).1)]) ∨ (q = some (.ret, ⟨33, T', L', m⟩) ∧ (ofL s r) = (0#32, 2) ∧ look T' 2 = U 0#32 ∧ look T' 3 = .int .i64 2)
  | [], i, s, N, T, L, q, hd, hN, hq, hk => by
    subst hq
    have hi : ¬ ((i : Int) < (l.length : Int)) := by
      have := List.drop_eq_nil_iff.1 hd
      omega
    have hln := hv.lenR
    rw [a22_L1_step]
    unfold a22_B1 ofL
    exact ⟨_, _, .inl ⟨(by simp only [codeEv, opsEv, oneEv, guardEv, opE_mov, opE_bin, opE_lenL, St.opd, look_set, look_cons, St.put, bin_ilt, keepL, Option.map_some, Nat.reduceEqDiff, Nat.reduceLT, if_true, if_false, Bool.false_eq_true, Nat.succ_ne_self, decide_false, hk, hln, hi]; rfl), rfl, (by simp only [keepT, List.map, look_set, look_cons, in_U, Nat.reduceEqDiff, if_true, if_false])⟩⟩
  | x :: r, i, s, N, T, L, q, hd, hN, hq, hk => by
    subst hq
    obtain ⟨hg, hi, hd'⟩ := drop_cons_get hd
    obtain ⟨n, rfl⟩ : ∃ n, N = n + 1 := ⟨N - 1, by simp only [List.length_cons] at hN; omega⟩
    have hv0 := hv
    rcases hv0 with ⟨rfl, h0⟩ | ⟨b, o, cap, e, rfl, hm⟩
    · rw [h0] at hg; cases hg
    obtain ⟨c, own, hc, hc3, _⟩ := get_flat hm hg hg
    have hi' := idx_any hg
    have hadd := add_i i (by omega)
    rw [a22_L1_step]
    unfold a22_B1 ofL
    by_cases c1 : x < 0
    · exact ⟨_, _, .inr ⟨(by simp only [codeEv, opsEv, oneEv, guardEv, opE_mov, opE_pick, opE_load1, opE_bin, opE_iaddrL, opE_lenL, lenR_slice, elemR_slice, St.opd, look_set, look_cons, St.put, St.read, bin_ilt, in_int, in_U, in_slice, keepL, List.map, Option.map_some, Nat.reduceEqDiff, Nat.reduceLT, if_true, if_false, Nat.succ_ne_self, decide_true, beq_tf, u_0, keepT_setT, hk, hi', and_self, Int.toNat_natCast, Nat.mul_one, hc, hc3, c1]; rfl), (by simp only [c1, if_true]), (by simp only [look_set, Nat.reduceEqDiff, if_true, if_false]), (by simp only [look_set, Nat.reduceEqDiff, if_true, if_false])⟩⟩
    · by_cases c2 : 31 < x
      · exact ⟨_, _, .inr ⟨(by simp only [codeEv, opsEv, oneEv, guardEv, opE_mov, opE_pick, opE_load1, opE_bin, opE_iaddrL, opE_lenL, lenR_slice, elemR_slice, St.opd, look_set, look_cons, St.put, St.read, bin_ilt, bin_igt, in_int, in_U, in_slice, keepL, List.map, Option.map_some, Nat.reduceEqDiff, Nat.reduceLT, if_true, if_false, beq_self_eq_true, Bool.false_eq_true, Nat.succ_ne_self, decide_true, decide_false, u_0, keepT_setT, hk, hi', and_self, Int.toNat_natCast, Nat.mul_one, hc, hc3, c1, c2]; rfl), (by simp only [c1, c2, if_true, if_false]), (by simp only [look_set, Nat.reduceEqDiff, if_true, if_false]), (by simp only [look_set, Nat.reduceEqDiff, if_true, if_false])⟩⟩
      · have w := u64_small x (by omega) (by omega)
        have hsh := bin_shl 1#32 .u64 x (by omega)
        simp only [codeEv, opsEv, oneEv, guardEv, opE_mov, opE_pick, opE_load1, opE_bin, opE_conv, opE_iaddrL, opE_lenL, lenR_slice, elemR_slice, St.opd, look_set, look_cons, St.put, St.read, bin_or, bin_ilt, bin_igt, in_int, in_U, in_slice, keepL, List.map, Option.map_some, Nat.reduceEqDiff, Nat.reduceLT, if_true, if_false, beq_self_eq_true, Bool.false_eq_true, Nat.succ_ne_self, decide_true, decide_false, u_0, u_1, keepT_setT, hk, hi', and_self, Int.toNat_natCast, Nat.mul_one, hc, hc3, c1, c2, w, hsh, hadd, again_of]
        exact rof_loop _ m l hl hv r (i + 1) (s ||| 1#32 <<< x.toNat) n _ _ _ hd' (by simp only [List.length_cons] at hN; omega) rfl (by simp only [keepT, List.map, look_set, look_cons, in_int, in_U, in_slice, Nat.reduceEqDiff, if_true, if_false])
theorem rof_spec (N : Nat) (m : Mem) (v : AV) (l : List Int) (hv : IS m v l) (hl : l.length ≤ 1000000) (hN : l.length + 3 ≤ N) : run A N 22 [v] m = some (.tup [U (ofL 0#32 l).1, .int .i64 (ofL 0#32 l).2], m) := by
  obtain ⟨n, rfl⟩ : ∃ n, N = n + 1 := ⟨N - 1, by omega⟩
  rw [run_22]
  unfold fnEv a22
  obtain ⟨p1, p2, p3, p4⟩ := hv.plain
  simp only [codeEv, opsEv, oneEv, guardEv, opE_mov, St.opd, look_set, look_cons, St.put, argsT, resEv, in_U, keepL, List.map, List.length, List.any, Nat.reduceEqDiff, Nat.reduceAdd, Nat.reduceLT, if_true, if_false, Bool.or_false, u_0, keepT_setT, keepT_lit, p1]
  generalize hq : codeEv (run A n) (ev A n).2 a22_L1 _ = q
  obtain ⟨T', L', ⟨rfl, h1, h2⟩ | ⟨rfl, h1, h2, h3⟩⟩ := rof_loop v m l hl hv l 0 0#32 n _ _ q rfl (by omega) hq (by simp only [keepT, List.map, look_set, look_cons, in_int, in_U, Nat.reduceEqDiff, if_true, if_false, p1, Int.ofNat_zero])
  · simp only [look_set, look_cons, loc_int, loc_U, Nat.reduceEqDiff, Nat.reduceLT, if_true, if_false, Bool.or_false, Bool.false_eq_true, Nat.succ_ne_self, h2, h1]
  · simp only [loc_int, loc_U, if_false, Bool.or_false, Bool.false_eq_true, h2, h1, h3]

theorem rlist_loop (n0 : Nat) (h00 : 0 < n0) (x : BitVec 32) : ∀ (j : Nat) (N : Nat) (T : List (Nat × AV)) (L : List (Nat × List AV)) (m : Mem) (v : AV) (q : _), j ≤ 32 → j + 2 ≤ N → m.n + 2 * j ≤ 2 ^ depth → n0 ≤ m.n →
      OS 1 n0 m v ((ints ((List.range (32 - j)).filter fun i => x.getLsbD i)).flatMap iC) (ints ((List.range (32 - j)).filter fun i => x.getLsbD i)).length → codeEv (run A N) (ev A N).2 a25_L1 ⟨17, T, L, m⟩ = q → keepT [0, 3, 4] [] T = [(0, U x), (3, v), (4, .int .i64 ((32 - j : Nat) : Int))] →
      ∃ T' L' m' v', q = some (.exit 0, ⟨17, T', L', m'⟩) ∧ keepT [3] [] T' = [(3, v')] ∧ OS 1 n0 m' v' ((ints (bitsOf x)).flatMap iC) (ints (bitsOf x)).length ∧ (∀ i, i < n0 → m'.get i = m.get i) ∧ m.n ≤ m'.n ∧ m'.n ≤ m.n + 2 * j
  | 0, N, T, L, m, v, q, hj, hN, hmn, hn0, hv, hq, hk => by
    subst hq
    obtain ⟨p1, p2, p3, p4⟩ := hv.plain
    have hi : ¬ (((32 - 0 : Nat) : Int) < 32) := by omega
    rw [a25_L1_step]
    unfold a25_B1
    exact ⟨_, _, m, v, (by simp only [codeEv, opsEv, oneEv, guardEv, opE_mov, opE_bin, St.opd, look_set, look_cons, St.put, bin_ilt, keepL, Option.map_some, Nat.reduceEqDiff, Nat.reduceLT, Nat.reduceSub, if_true, if_false, Bool.false_eq_true, decide_false, hk, hi]; rfl), (by simp only [keepT, List.map, look_set, look_cons, Nat.reduceEqDiff, if_true, if_false, p1]), hv, fun _ _ => rfl, Nat.le_refl _, by omega⟩
  | j + 1, N, T, L, m, v, q, hj, hN, hmn, hn0, hv, hq, hk => by
    subst hq
    obtain ⟨n, rfl⟩ : ∃ n, N = n + 1 := ⟨N - 1, by omega⟩
    obtain ⟨i, hi⟩ : ∃ i, 32 - (j + 1) = i := ⟨_, rfl⟩
    have hi1 : 32 - j = i + 1 := by omega
    rw [hi] at hv hk
    have hlt : (i : Int) < 32 := by omega
    obtain ⟨p1, p2, p3, p4⟩ := hv.plain
    have hs := rhas_spec (n + 1) (by omega) x (i : Int) m
    have hb : hasI x (i : Int) = x.getLsbD i := by
      unfold hasI
      have a1 : decide ((0 : Int) ≤ (i : Int)) = true := by simp
      rw [a1, decide_eq_true hlt]; simp
    rw [hb] at hs
    have hadd := add_i i (by omega)
    have ih := fun m v T L q => rlist_loop n0 h00 x j n T L m v q (by omega) (by omega)
    rw [hi1] at ih
    rw [List.range_succ, List.filter_append] at ih
    rw [a25_L1_step]
    unfold a25_B1
    cases hbit : x.getLsbD i with
    | false =>
      rw [hbit] at hs
      have e1 : List.filter (fun i => x.getLsbD i) [i] = [] := by simp [hbit]
      rw [e1, List.append_nil] at ih
      simp only [codeEv, opsEv, oneEv, guardEv, opE_mov, opE_mkslc, opE_bin, opE_call, opE_app, St.opd, look_set, look_cons, St.put, splice, bin_ilt, in_int, in_U, loc_int, cells_int, loc_U, fillEv, callWith, keepL, List.map, List.length, List.take, List.any, List.cons_append, List.nil_append, Option.map_some, Nat.reduceEqDiff, Nat.reduceAdd, Nat.reduceLT, Nat.reduceMul, if_true, if_false, Bool.or_false, Bool.false_eq_true, Nat.succ_ne_self, decide_true, keepT_setT, hk, hlt, hs, p1, hadd, again_of]
      generalize hq : codeEv (run A n) (ev A n).2 a25_L1 _ = q
      obtain ⟨T', L', m2, v2, e1, e2, e3, e4, e5, e6⟩ := ih m v _ _ q (by omega) hn0 hv hq (by simp only [keepT, List.map, look_set, look_cons, in_int, in_U, Nat.reduceEqDiff, if_true, if_false, p1])
      exact ⟨T', L', m2, v2, e1, e2, e3, e4, e5, by omega⟩
    | true =>
      rw [hbit] at hs
      have e1 : List.filter (fun i => x.getLsbD i) [i] = [i] := by simp [hbit]
      rw [e1] at ih
      have hf := not_full (m := m) (by omega)
      have hlen : (ints ((List.range i).filter fun i => x.getLsbD i)).length ≤ 32 := by
        unfold ints
        rw [List.length_map]
        have := List.length_filter_le (fun i => x.getLsbD i) (List.range i)
        rw [List.length_range] at this
        omega
      obtain ⟨v', m', ap, o1, o2, o3⟩ := app_spec (bytes := 8) (by decide) (hv.push (.cells [.int .i64 (i : Int)] true) (by omega)) (cp := some 1) (Mem.get_push_new _) rfl (by simp [AV.one]) (by rw [push_n]; omega) (by rw [push_n]; omega) (by omega) (Nat.le_trans (show _ ≤ 1000 by omega) (by decide))
      rw [push_n] at o2
      have keep : ∀ i, i < n0 → m'.get i = m.get i := fun i hi => (o3 i hi).trans (Mem.get_push_old _ hf (by omega))
      have e2 : ints ((List.range i).filter (fun i => x.getLsbD i) ++ [i]) = ints ((List.range i).filter fun i => x.getLsbD i) ++ [(i : Int)] := by simp [ints]
      rw [e2] at ih
      have ov : OS 1 n0 m' v' ((ints ((List.range i).filter fun i => x.getLsbD i) ++ [(i : Int)]).flatMap iC) (ints ((List.range i).filter fun i => x.getLsbD i) ++ [(i : Int)]).length := by
        rw [List.flatMap_append, List.length_append]
        exact o1
      obtain ⟨p1', _, _, _⟩ := ov.plain
      simp only [codeEv, opsEv, oneEv, guardEv, opE_mov, opE_mkslc, opE_bin, opE_call, opE_app, St.opd, look_set, look_cons, St.put, splice, bin_ilt, in_int, in_U, loc_int, cells_int, loc_U, fillEv, callWith, keepL, List.append_nil, List.map, List.length, List.take, List.drop, List.any, List.nil_append, List.drop_succ_cons, Option.map_some, Nat.reduceEqDiff, Nat.reduceAdd, Nat.reduceLeDiff, Nat.reduceLT, Nat.reduceMul, if_true, if_false, Bool.or_false, Bool.false_eq_true, Nat.succ_ne_self, decide_true, keepT_setT, hk, hlt, hs, p1, p1', z1, p24, hf, ap, hadd, again_of]
      generalize hq : codeEv (run A n) (ev A n).2 a25_L1 _ = q
      obtain ⟨T', L', m2, v2, e1, e2, e3, e4, e5, e6⟩ := ih m' v' _ _ q (by omega) (by omega) ov hq (by simp only [keepT, List.map, look_set, look_cons, in_int, in_U, Nat.reduceEqDiff, if_true, if_false, p1'])
      exact ⟨T', L', m2, v2, e1, e2, e3, fun i hi => (e4 i hi).trans (keep i hi), by omega, by omega⟩

theorem rlist_spec (N : Nat) (hN : 40 ≤ N) (x : BitVec 32) (m : Mem) (hm : 0 < m.n) (hmn : m.n + 64 ≤ 2 ^ depth) :
    ∃ v m', run A N 25 [U x] m = some (v, m') ∧ Ext m m' ∧ m'.n ≤ m.n + 64 ∧ IS m' v (ints (bitsOf x)) := by
  obtain ⟨n, rfl⟩ : ∃ n, N = n + 1 := ⟨N - 1, by omega⟩
  rw [run_25]
  unfold fnEv a25
  simp only [codeEv, opsEv, oneEv, guardEv, opE_mov, St.opd, look_set, look_cons, St.put, argsT, resEv, in_U, in_nils, keepL, List.map, List.length, Nat.reduceEqDiff, Nat.reduceAdd, Nat.reduceLT, if_true, if_false, keepT_setT, keepT_lit]
  generalize hq : codeEv (run A n) (ev A n).2 a25_L1 _ = q
  obtain ⟨T', L', m2, v2, rfl, e2, e3, e4, e5, e6⟩ := rlist_loop m.n hm x 32 n _ _ m .nils q (by omega) (by omega) (by omega) (Nat.le_refl _) (.inl ⟨rfl, rfl, rfl⟩) hq (by simp only [keepT, List.map, look_set, look_cons, in_int, in_U, in_nils, Nat.reduceEqDiff, if_true, if_false]; rfl)
  obtain ⟨p1, p2, p3, p4⟩ := e3.plain
  exact ⟨v2, m2, (by simp only [look_set, look_cons, Nat.reduceEqDiff, Nat.reduceLT, if_true, if_false, Bool.false_eq_true, Nat.succ_ne_self, e2, p2]), ⟨e5, e4⟩, by omega, OS.rs (f := iC) (fun _ => rfl) e3⟩

theorem ints_loop (m : Mem) (v w : AV) (l : List Int) (hl : l.length ≤ 1000000) (hv : IS m v l) (hw : IS m w l) :
    ∀ (r : List Int) (i : Nat) (N : Nat) (T : List (Nat × AV)) (L : List (Nat × List AV)) (q : _), l.drop i = r → r.length + 1 ≤ N → codeEv (run A N) (ev A N).2 a24_L1 ⟨26, T, L, m⟩ = q → keepT [0, 1, 5] [] T = [(0, v), (1, w), (5, .int .i64 (i : Int))] →
      ∃ T' L', q = some (.exit 0, ⟨26, T', L', m⟩)
  | [], i, N, T, L, q, hd, hN, hq, hk => by
    subst hq
    have hi : ¬ ((i : Int) < (l.length : Int)) := by
      have := List.drop_eq_nil_iff.1 hd
      omega
    have hln := hv.lenR
    rw [a24_L1_step]
    unfold a24_B1
    exact ⟨_, _, (by simp only [codeEv, opsEv, oneEv, guardEv, opE_mov, opE_bin, opE_lenL, St.opd, look_set, look_cons, St.put, bin_ilt, keepL, Option.map_some, Nat.reduceEqDiff, Nat.reduceLT, if_true, if_false, Bool.false_eq_true, Nat.succ_ne_self, decide_false, hk, hln, hi]; rfl)⟩
  | x :: r, i, N, T, L, q, hd, hN, hq, hk => by
    subst hq
    obtain ⟨hg, hi, hd'⟩ := drop_cons_get hd
    obtain ⟨n, rfl⟩ : ∃ n, N = n + 1 := ⟨N - 1, by simp only [List.length_cons] at hN; omega⟩
    have lg : logOk [] = true := rfl
    have hv0 := hv
    have hw0 := hw
    rcases hv0 with ⟨rfl, h0⟩ | ⟨b, o, cap, e, rfl, hm⟩
    · rw [h0] at hg; cases hg
    rcases hw0 with ⟨rfl, h0⟩ | ⟨b', o', cap', e', rfl, hm'⟩
    · rw [h0] at hg; cases hg
    obtain ⟨c, own, hc, hc3, _⟩ := get_flat hm hg hg
    obtain ⟨c', own', hc', hc3', _⟩ := get_flat hm' hg hg
    have hi' := idx_any hg
    have hadd := add_i i (by omega)
    rw [a24_L1_step]
    unfold a24_B1
    simp only [codeEv, opsEv, oneEv, guardEv, opE_mov, opE_load1, opE_bin, opE_iaddrL, opE_lenL, lenR_slice, elemR_slice, St.opd, look_set, look_cons, St.put, St.read, bin_ilt, bin_ine, in_int, in_slice, keepL, careEv, dOneEv, dOpsEv, accOf, accEv, Option.toList_some, List.append_nil, List.map, Option.map_some, Nat.reduceEqDiff, Nat.reduceLT, if_true, if_false, Bool.and_true, Bool.and_false, Bool.not_true, Bool.not_false, Bool.false_eq_true, Nat.succ_ne_self, decide_true, keepT_setT, lg, hk, hi', and_self, Int.toNat_natCast, Nat.mul_one, hc, hc3, hc', hc3', hadd, again_of]
    exact ints_loop m _ _ l hl hv hw r (i + 1) n _ _ _ hd' (by simp only [List.length_cons] at hN; omega) rfl (by simp only [keepT, List.map, look_set, look_cons, in_int, in_slice, Nat.reduceEqDiff, if_true, if_false])
theorem ints_spec (N : Nat) (m : Mem) (v w : AV) (l : List Int) (hl : l.length ≤ 1000000) (hv : IS m v l) (hw : IS m w l) (hN : l.length + 3 ≤ N) : run A N 24 [v, w] m = some (.bool true, m) := by
  obtain ⟨n, rfl⟩ : ∃ n, N = n + 1 := ⟨N - 1, by omega⟩
  rw [run_24]
  unfold fnEv a24
  obtain ⟨p1, p2, p3, p4⟩ := hv.plain
  obtain ⟨q1, q2, q3, q4⟩ := hw.plain
  have hln := hv.lenR
  have hlw := hw.lenR
  simp only [codeEv, opsEv, oneEv, guardEv, opE_mov, opE_bin, opE_lenL, St.opd, look_set, look_cons, St.put, argsT, resEv, bin_ine, keepL, List.map, List.length, Option.map_some, Nat.reduceEqDiff, Nat.reduceAdd, Nat.reduceLT, if_true, if_false, Bool.not_true, Bool.false_eq_true, Nat.succ_ne_self, decide_true, keepT_setT, keepT_lit, p1, q1, hln, hlw]
  generalize hq : codeEv (run A n) (ev A n).2 a24_L1 _ = q
  obtain ⟨T', L', rfl⟩ := ints_loop m v w l hl hv hw l 0 n _ _ q rfl (by omega) hq (by simp only [keepT, List.map, look_set, look_cons, in_int, Nat.reduceEqDiff, if_true, if_false, p1, q1, Int.ofNat_zero])
  simp only [look_set, loc_bool, Nat.reduceLT, if_true, if_false, Bool.false_eq_true]

end AG
