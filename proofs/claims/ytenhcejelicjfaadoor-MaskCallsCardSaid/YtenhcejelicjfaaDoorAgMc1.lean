/- What the functions of masks and sets compute, and the laws of that. -/
import Derived.Test.YtenhcejelicjfaaDoorAgFc
import Derived.Test.YtenhcejelicjfaaDoorAgMkG
namespace AG
open Go Go.Proofs.YtenhcejelicjfaaDoor
set_option maxRecDepth 100000
set_option maxHeartbeats 4000000


theorem has_spec (N : Nat) (hN : 1 ≤ N) (s : BitVec 32) (k : Int) (m : Mem) : run A N 14 [U s, .int .i64 k] m = some (.bool (hasI s k), m) := by
  obtain ⟨n, rfl⟩ : ∃ n, N = n + 1 := ⟨N - 1, by omega⟩
  rw [run_14]
  unfold fnEv a14 hasI
  by_cases h1 : 0 ≤ k
  · have e := bin_shr s .i64 k h1
    by_cases h2 : k < 32
    · simp only [codeEv, opsEv, oneEv, guardEv, opEv, St.opd, look, setT, St.put, argsT, resEv, bin_and, bin_ueq, bin_ilt, bin_ige, in_int, in_U, loc_bool, keepT, keepL, List.map, List.length, Option.map_some, Nat.reduceEqDiff, Nat.reduceAdd, Nat.reduceLT, if_true, if_false, Bool.true_and, beq_self_eq_true, Bool.false_eq_true, Nat.succ_ne_self, decide_true, u_1, h1, h2, e, bit_and]
    · simp only [codeEv, opsEv, oneEv, guardEv, opEv, St.opd, look, setT, St.put, argsT, resEv, bin_ilt, bin_ige, in_int, in_U, loc_bool, keepT, keepL, List.map, List.length, Option.map_some, Nat.reduceEqDiff, Nat.reduceAdd, Nat.reduceLT, if_true, if_false, Bool.false_and, Bool.and_false, beq_self_eq_true, Bool.false_eq_true, Nat.succ_ne_self, decide_true, decide_false, beq_ft, h1, h2]
  · simp only [codeEv, opsEv, oneEv, guardEv, opEv, St.opd, look, setT, St.put, argsT, resEv, bin_ige, in_int, in_U, loc_bool, keepT, keepL, List.map, List.length, Option.map_some, Nat.reduceEqDiff, Nat.reduceAdd, Nat.reduceLT, if_true, if_false, Bool.false_and, Bool.false_eq_true, Nat.succ_ne_self, decide_false, beq_ft, h1]

theorem check_loop (b o cap e) (m : Mem) (l : List V) (hl : l.length ≤ 1000000) (hm : ∀ (i : Nat) (x : V), l[i]? = some x → ∃ c own, m.get b = some (.cells c own) ∧ cellsAt c (o + i * 3) 3 = some x.c) :
    ∀ (r : List V) (i : Nat) (s : BitVec 32) (N : Nat) (T : List (Nat × AV)) (L : List (Nat × List AV)) (q : _), l.drop i = r → r.length + 1 ≤ N → codeEv (run A N) (ev A N).2 a12_L1 { n := 50, t := T, l := L, m := m } = q → look T 3 = U s → look T 9 = .slice b o l.length cap e → look T 10 = .int .i64 l.length → look T 11 = .int .i64 (i : Int) →
      ∃ T' L', q = some (if checkL s r then .exit 0 else .ret, { n := 50, t := T', l := L', m := m }) ∧ (checkL s r = false → look T' 2 = .int .i64 2)
  | [], i, s, N, T, L, q, hd, hN, hq, h3, h9, h10, h11 => by
    subst hq
    have hi : ¬ ((i : Int) < (l.length : Int)) := by
      have := List.drop_eq_nil_iff.1 hd
      omega
    rw [a12_L1_step]
    unfold a12_B1 checkL
    simp only [codeEv, opsEv, oneEv, guardEv, opEv, St.opd, look_set, look_cons, St.put, bin_ilt, in_int, in_U, in_slice, keepT, keepL, List.map, Option.map_some, Nat.reduceEqDiff, Nat.reduceLT, if_true, if_false, Bool.false_eq_true, Bool.true_eq_false, Nat.succ_ne_self, decide_false, h3, h9, h10, h11, hi]
    exact ⟨_, _, rfl, fun h => by cases h⟩
  | v :: r, i, s, N, T, L, q, hd, hN, hq, h3, h9, h10, h11 => by
    subst hq
    obtain ⟨hg, hi, hd'⟩ := drop_cons_get hd
    obtain ⟨n, rfl⟩ : ∃ n, N = n + 1 := ⟨N - 1, by simp only [List.length_cons] at hN; omega⟩
    obtain ⟨c, own, hc, hc3⟩ := hm i v hg
    have hi' : (i : Int) < (l.length : Int) := by omega
    have h0 : (0 : Int) ≤ (i : Int) := by omega
    have hadd := add_i i (by omega)
    have hs := fun s k => has_spec (n + 1) (by omega) s k m
    have ih := fun s' T L q => check_loop b o cap e m l hl hm r (i + 1) s' n T L q hd' (by simp only [List.length_cons] at hN; omega)
    rw [a12_L1_step]
    unfold a12_B1 checkL okV
    by_cases c1 : v.line < 0
    · simp only [codeEv, opsEv, oneEv, guardEv, opEv, St.opd, look_set, look_cons, St.put, St.new, St.read, St.write, lookL, setL, cellsAt_cons, splice, bin_ilt, in_int, in_U, in_slice, in_loc, List.contains_cons, List.contains_nil, one_int, cells_agg, keepT, keepL, List.append_nil, List.map, List.length, List.take, List.drop, List.all, List.nil_append, List.take_succ_cons, List.drop_succ_cons, Option.map_some, Nat.reduceEqDiff, Nat.reduceAdd, Nat.reduceLeDiff, Nat.reduceLT, if_true, if_false, Bool.and_true, Bool.false_and, Bool.or_false, Bool.not_true, Bool.not_false, List.isEmpty_cons, beq_self_eq_true, Bool.false_eq_true, Nat.succ_ne_self, decide_true, beq_tf, h3, h9, h10, h11, hi', h0, hc, hc3, V.c_eq, Int.toNat_natCast, and_self, c1]
      exact ⟨_, _, rfl, fun _ => rfl⟩
    · skip
      by_cases c2 : 31 < v.line
      · simp only [codeEv, opsEv, oneEv, guardEv, opEv, St.opd, look_set, look_cons, St.put, St.new, St.read, St.write, lookL, setL, cellsAt_cons, splice, bin_ilt, bin_igt, in_int, in_U, in_slice, in_loc, List.contains_cons, List.contains_nil, one_int, cells_agg, keepT, keepL, List.append_nil, List.map, List.length, List.take, List.drop, List.all, List.nil_append, List.take_succ_cons, List.drop_succ_cons, Option.map_some, Nat.reduceEqDiff, Nat.reduceAdd, Nat.reduceLeDiff, Nat.reduceLT, if_true, if_false, Bool.and_true, Bool.false_and, Bool.and_false, Bool.or_false, Bool.not_true, Bool.not_false, List.isEmpty_cons, beq_self_eq_true, Bool.false_eq_true, Nat.succ_ne_self, decide_true, decide_false, beq_tf, h3, h9, h10, h11, hi', h0, hc, hc3, V.c_eq, Int.toNat_natCast, and_self, c1, c2]
        exact ⟨_, _, rfl, fun _ => rfl⟩
      · skip
        by_cases c3 : v.prio < 1
        · simp only [codeEv, opsEv, oneEv, guardEv, opEv, St.opd, look_set, look_cons, St.put, St.new, St.read, St.write, lookL, setL, cellsAt_cons, splice, bin_ilt, bin_igt, in_int, in_U, in_slice, in_loc, List.contains_cons, List.contains_nil, one_int, cells_agg, keepT, keepL, List.append_nil, List.map, List.length, List.take, List.drop, List.all, List.nil_append, List.take_succ_cons, List.drop_succ_cons, Option.map_some, Nat.reduceEqDiff, Nat.reduceAdd, Nat.reduceLeDiff, Nat.reduceLT, if_true, if_false, Bool.and_true, Bool.false_and, Bool.and_false, Bool.or_false, Bool.not_true, Bool.not_false, List.isEmpty_cons, beq_self_eq_true, Bool.false_eq_true, Nat.succ_ne_self, decide_true, decide_false, beq_tf, h3, h9, h10, h11, hi', h0, hc, hc3, V.c_eq, Int.toNat_natCast, and_self, c1, c2, c3]
          exact ⟨_, _, rfl, fun _ => rfl⟩
        · skip
          by_cases c4 : 15 < v.prio
          · simp only [codeEv, opsEv, oneEv, guardEv, opEv, St.opd, look_set, look_cons, St.put, St.new, St.read, St.write, lookL, setL, cellsAt_cons, splice, bin_ilt, bin_igt, in_int, in_U, in_slice, in_loc, List.contains_cons, List.contains_nil, one_int, cells_agg, keepT, keepL, List.append_nil, List.map, List.length, List.take, List.drop, List.all, List.nil_append, List.take_succ_cons, List.drop_succ_cons, Option.map_some, Nat.reduceEqDiff, Nat.reduceAdd, Nat.reduceLeDiff, Nat.reduceLT, if_true, if_false, Bool.and_true, Bool.false_and, Bool.and_false, Bool.or_false, Bool.not_true, Bool.not_false, List.isEmpty_cons, beq_self_eq_true, Bool.false_eq_true, Nat.succ_ne_self, decide_true, decide_false, beq_tf, h3, h9, h10, h11, hi', h0, hc, hc3, V.c_eq, Int.toNat_natCast, and_self, c1, c2, c3, c4]
            exact ⟨_, _, rfl, fun _ => rfl⟩
          · skip
            by_cases c5 : v.fn < 0
            · simp only [codeEv, opsEv, oneEv, guardEv, opEv, St.opd, look_set, look_cons, St.put, St.new, St.read, St.write, lookL, setL, cellsAt_cons, splice, bin_ilt, bin_igt, in_int, in_U, in_slice, in_loc, List.contains_cons, List.contains_nil, one_int, cells_agg, keepT, keepL, List.append_nil, List.map, List.length, List.take, List.drop, List.all, List.nil_append, List.take_succ_cons, List.drop_succ_cons, Option.map_some, Nat.reduceEqDiff, Nat.reduceAdd, Nat.reduceLeDiff, Nat.reduceLT, if_true, if_false, Bool.and_true, Bool.false_and, Bool.and_false, Bool.or_false, Bool.not_true, Bool.not_false, List.isEmpty_cons, beq_self_eq_true, Bool.false_eq_true, Nat.succ_ne_self, decide_true, decide_false, beq_tf, h3, h9, h10, h11, hi', h0, hc, hc3, V.c_eq, Int.toNat_natCast, and_self, c1, c2, c3, c4, c5]
              exact ⟨_, _, rfl, fun _ => rfl⟩
            · skip
              by_cases c6 : hasI s v.line = true
              · simp only [codeEv, opsEv, oneEv, guardEv, opEv, St.opd, look_set, look_cons, St.put, St.new, St.read, St.write, lookL, setL, cellsAt_cons, splice, bin_ilt, bin_igt, in_int, in_U, in_slice, in_loc, List.contains_cons, List.contains_nil, one_int, loc_int, cells_agg, loc_U, callWith, keepT, keepL, List.append_nil, List.map, List.length, List.take, List.drop, List.all, List.any, List.nil_append, List.take_succ_cons, List.drop_succ_cons, Option.map_some, Nat.reduceEqDiff, Nat.reduceAdd, Nat.reduceLeDiff, Nat.reduceLT, if_true, if_false, Bool.and_true, Bool.false_and, Bool.and_false, Bool.or_false, Bool.not_true, Bool.not_false, List.isEmpty_cons, beq_self_eq_true, Bool.false_eq_true, Nat.succ_ne_self, decide_true, decide_false, h3, h9, h10, h11, hi', h0, hc, hc3, hs, V.c_eq, Int.toNat_natCast, and_self, c1, c2, c3, c4, c5, c6]
                exact ⟨_, _, rfl, fun _ => rfl⟩
              · skip
                have hsh := u_or v.line s (by omega)
                simp only [codeEv, opsEv, oneEv, guardEv, opEv, St.opd, look_set, look_cons, St.put, St.new, St.read, St.write, lookL, setL, cellsAt_cons, splice, bin_or, bin_ilt, bin_igt, in_int, in_U, in_slice, in_loc, List.contains_cons, List.contains_nil, one_int, loc_int, cells_agg, loc_U, callWith, keepT, keepL, List.append_nil, List.map, List.length, List.take, List.drop, List.all, List.any, List.nil_append, List.take_succ_cons, List.drop_succ_cons, Option.map_some, Nat.reduceEqDiff, Nat.reduceAdd, Nat.reduceLeDiff, Nat.reduceLT, if_true, if_false, Bool.and_true, Bool.true_and, Bool.or_false, Bool.not_false, List.isEmpty_cons, beq_self_eq_true, Bool.false_eq_true, Nat.succ_ne_self, decide_true, decide_false, u_1, h3, h9, h10, h11, hi', h0, hc, hc3, hs, V.c_eq, Int.toNat_natCast, and_self, c1, c2, c3, c4, c5, c6, hsh, hadd, again_of]
                exact ih _ _ _ _ rfl rfl rfl rfl rfl

theorem check_v (N : Nat) (hN : 34 ≤ N) (m : Mem) (v : AV) (l : List V) (hv : VS m v l) (hl : l.length ≤ 1000000) : run A N 12 [v] m = some (.int .i64 (checkV l), m) := by
  obtain ⟨n, rfl⟩ : ∃ n, N = n + 1 := ⟨N - 1, by omega⟩
  rw [run_12]
  unfold fnEv a12 checkV
  rcases hv with ⟨rfl, rfl⟩ | ⟨b, o, cap, e, rfl, hm⟩
  · simp only [codeEv, opsEv, oneEv, guardEv, opEv, St.opd, look_set, look_cons, St.put, argsT, resEv, bin_ilt, bin_igt, in_int, in_U, in_nils, loc_int, keepT, keepL, List.map, List.length, Option.map_some, Nat.reduceEqDiff, Nat.reduceAdd, Nat.reduceLT, if_true, if_false, Bool.false_eq_true, Nat.succ_ne_self, decide_false, u_0, u_1, a12_L1_step, a12_B1, checkL, Int.lt_irrefl, Nat.not_lt_zero, show ¬ ((32 : Int) < 0) by omega]
  · by_cases h : 32 < l.length
    · have h' : (32 : Int) < (l.length : Int) := by omega
      simp only [codeEv, opsEv, oneEv, guardEv, opEv, St.opd, look_set, look_cons, St.put, argsT, resEv, bin_igt, in_slice, loc_int, keepT, keepL, List.map, List.length, Option.map_some, Nat.reduceEqDiff, Nat.reduceAdd, Nat.reduceLT, if_true, if_false, Bool.false_eq_true, decide_true, h, h']
    · have h' : ¬ (32 : Int) < (l.length : Int) := by omega
      simp only [codeEv, opsEv, oneEv, guardEv, opEv, St.opd, look_set, look_cons, St.put, argsT, resEv, bin_igt, in_U, in_slice, keepT, keepL, List.map, List.length, Option.map_some, Nat.reduceEqDiff, Nat.reduceAdd, Nat.reduceLT, if_true, if_false, Bool.false_eq_true, decide_false, u_0, h, h']
      generalize hq : codeEv (run A n) (ev A n).2 a12_L1 _ = q
      obtain ⟨T', L', rfl, h2⟩ := check_loop b o cap e m l hl hm l 0 0#32 n _ _ q rfl (by omega) hq rfl rfl rfl rfl
      cases hc : checkL 0#32 l
      · simp only [loc_int, if_false, Bool.false_eq_true, h2 hc]
      · simp only [look_set, loc_int, Nat.reduceLT, if_true, if_false, Bool.false_eq_true]

theorem u64_small (k : Int) (h1 : 0 ≤ k) (h2 : k < 32) : IntKind.u64.wrap k = k := by
  simp only [IntKind.wrap, IntKind.bits]
  simp [IntKind.signed]
  omega
theorem hasI_zero (k : Int) : hasI 0#32 k = false := by unfold hasI; simp
theorem checkL_of : ∀ (l : List V) (s : BitVec 32), (∀ v ∈ l, okV v = true ∧ hasI s v.line = false) → l.Pairwise (fun a b => a.line ≠ b.line) → checkL s l = true
  | [], _, _, _ => rfl
  | v :: r, s, h, hp => by
    obtain ⟨h1, h2⟩ := h v (List.mem_cons_self ..)
    rw [List.pairwise_cons] at hp
    have ho := okV_law h1
    unfold checkL
    rw [h1, h2, checkL_of r _ (fun x hx => ⟨(h x (List.mem_cons_of_mem _ hx)).1, ?_⟩) hp.2]
    · rfl
    · rw [hasI_or _ _ (by omega), (h x (List.mem_cons_of_mem _ hx)).2, Bool.false_or, decide_eq_false_iff_not]
      have := hp.1 x hx
      omega
/-- Are the vectors from here on valid, if these came before? -/
def chkR (l : List V) : List V → Nat → Bool
  | [], _ => true
  | x :: r, i => okV x && ((l.take i).all (fun y => !decide (y.line = x.line)) && chkR l r (i + 1))
theorem chkR_iff (l : List V) : ∀ (r : List V) (i : Nat), l.drop i = r → (chkR l r i = true ↔ (∀ x ∈ r, okV x = true) ∧ ∀ (j k : Nat) (a b : V), i ≤ j → k < j → l[j]? = some a → l[k]? = some b → b.line ≠ a.line)
  | [], i, hd => by
    unfold chkR
    have hi := List.drop_eq_nil_iff.1 hd
    refine ⟨fun _ => ⟨fun _ h => (by cases h), fun j k a b hj hk ha => ?_⟩, fun _ => rfl⟩
    have := (List.getElem?_eq_some_iff.1 ha).1
    omega
  | x :: r, i, hd => by
    obtain ⟨hg, hi, hd'⟩ := drop_cons_get hd
    unfold chkR
    rw [Bool.and_eq_true, Bool.and_eq_true, chkR_iff l r (i + 1) hd', List.all_eq_true]
    constructor
    · rintro ⟨h1, h2, h3, h4⟩
      refine ⟨fun y hy => ?_, fun j k a b hj hk ha hb => ?_⟩
      · rcases List.mem_cons.1 hy with rfl | hy
        · exact h1
        · exact h3 y hy
      · by_cases hji : j = i
        · subst hji
          rw [hg] at ha; cases ha
          have hm : b ∈ l.take j := by
            rw [List.mem_iff_getElem?]
            exact ⟨k, by rw [List.getElem?_take, if_pos hk]; exact hb⟩
          have := h2 b hm
          simpa using this
        · exact h4 j k a b (by omega) hk ha hb
    · rintro ⟨h1, h2⟩
      refine ⟨h1 x (List.mem_cons_self ..), fun y hy => ?_, fun y hy => h1 y (List.mem_cons_of_mem _ hy), fun j k a b hj hk ha hb => h2 j k a b (by omega) hk ha hb⟩
      obtain ⟨k, hk⟩ := List.mem_iff_getElem?.1 hy
      rw [List.getElem?_take] at hk
      split at hk
      · rename_i hki
        have := h2 i k x y (Nat.le_refl _) hki hg hk
        simpa using this
      · cases hk
theorem chkR_checkL (l : List V) : chkR l l 0 = checkL 0#32 l := by
  rw [Bool.eq_iff_iff, chkR_iff l l 0 rfl]
  constructor
  · rintro ⟨h1, h2⟩
    refine checkL_of l _ (fun v hv => ⟨h1 v hv, hasI_zero _⟩) ?_
    rw [List.pairwise_iff_getElem]
    intro i j hi hj hij
    exact h2 j i _ _ (Nat.zero_le _) hij (List.getElem?_eq_getElem hj) (List.getElem?_eq_getElem hi)
  · intro h
    obtain ⟨a, b⟩ := checkL_law l _ h
    exact ⟨fun x hx => (a x hx).1, fun j k x y _ hk hx hy => pair_ne b hy hx (by omega)⟩

theorem get_vecs {m : Mem} {b o : Nat} {l : List V} (hm : ∀ (i : Nat) (x : V), l[i]? = some x → ∃ c own, m.get b = some (.cells c own) ∧ cellsAt c (o + i * 3) 3 = some x.c) {i j : Nat} {x y : V} (hx : l[i]? = some x) (hy : l[j]? = some y) :
    ∃ c own, m.get b = some (.cells c own) ∧ cellsAt c (o + i * 3) 3 = some x.c ∧ cellsAt c (o + j * 3) 3 = some y.c := by
  obtain ⟨c, own, h1, h2⟩ := hm i x hx
  obtain ⟨c', own', h3, h4⟩ := hm j y hy
  rw [h1] at h3
  simp only [Option.some.injEq, ABlk.cells.injEq] at h3
  obtain ⟨rfl, rfl⟩ := h3
  exact ⟨c, own, h1, h2, h4⟩

theorem rcheck_in (v : AV) (m : Mem) (l : List V) (hl : l.length ≤ 1000000) (hv : VS m v l) (i : Nat) (x : V) (hx : l[i]? = some x) :
    ∀ (d j : Nat) (N : Nat) (T : List (Nat × AV)) (L : List (Nat × List AV)) (q : _), j + d = i → d + 1 ≤ N → codeEv (run A N) (ev A N).2 a23_L1 ⟨68, T, L, m⟩ = q → keepT [0, 3, 4] [] T = [(0, v), (3, .int .i64 (i : Int)), (4, .int .i64 (j : Int))] →
      ∃ T' L', (q = some (.exit 2, ⟨68, T', L', m⟩) ∧ ((l.drop j).take d).all (fun y => !decide (y.line = x.line)) = true ∧ keepT [0, 3] [] T' = [(0, v), (3, .int .i64 (i : Int))]) ∨ (q = some (.ret, ⟨68, T', L', m⟩) ∧ ((l.drop j).take d).all (fun y => !decide (y.line = x.line)) = false ∧ look T' 2 = .int .i64 2)
  | 0, j, N, T, L, q, hj, hN, hq, hk => by
    subst hq
    obtain ⟨p1, p2, p3, p4⟩ := hv.plain
    have hi : ¬ ((j : Int) < (i : Int)) := by omega
    rw [a23_L1_step]
    unfold a23_B1
    exact ⟨_, _, .inl ⟨(by simp only [codeEv, opsEv, oneEv, guardEv, opE_mov, opE_bin, St.opd, look_set, look_cons, St.put, bin_ilt, keepL, Option.map_some, Nat.reduceEqDiff, Nat.reduceLT, if_true, if_false, Bool.false_eq_true, Nat.succ_ne_self, decide_false, hk, hi]; rfl), by simp, (by simp only [keepT, List.map, look_set, look_cons, in_int, Nat.reduceEqDiff, if_true, if_false, p1])⟩⟩
  | d + 1, j, N, T, L, q, hj, hN, hq, hk => by
    subst hq
    obtain ⟨n, rfl⟩ : ∃ n, N = n + 1 := ⟨N - 1, by omega⟩
    have hil := (List.getElem?_eq_some_iff.1 hx).1
    obtain ⟨y, hy⟩ : ∃ y, l[j]? = some y := ⟨l[j]'(by omega), List.getElem?_eq_getElem _⟩
    have hdr : l.drop j = y :: l.drop (j + 1) := by
      obtain ⟨h1, h2⟩ := List.getElem?_eq_some_iff.1 hy
      rw [List.drop_eq_getElem_cons h1, h2]
    have e : ((l.drop j).take (d + 1)).all (fun z => !decide (z.line = x.line)) = (!decide (y.line = x.line) && ((l.drop (j + 1)).take d).all (fun z => !decide (z.line = x.line))) := by
      rw [hdr, List.take_succ_cons, List.all_cons]
    rw [e]
    have hi : (j : Int) < (i : Int) := by omega
    have hii := idx_ok hx
    have hjj := idx_ok hy
    have hadd := add_i j (by omega)
    have lg : logOk [] = true := rfl
    have hv0 := hv
    rcases hv0 with ⟨rfl, h0⟩ | ⟨b, o, cap, ee, rfl, hm⟩
    · rw [h0] at hx; cases hx
    obtain ⟨c, own, g1, g2, g3⟩ := get_vecs hm hx hy
    obtain ⟨_, gl, _⟩ := cells_fld g2
    obtain ⟨_, gl', _⟩ := cells_fld g3
    rw [a23_L1_step]
    unfold a23_B1
    by_cases c1 : y.line = x.line
    · have c2 := eq_true c1
      exact ⟨_, _, .inr ⟨(by simp only [codeEv, opsEv, oneEv, guardEv, opE_mov, opE_load1, opE_bin, opE_faddr, opE_iaddrL, elemR_slice, St.opd, look_set, look_cons, St.put, St.read, bin_ilt, bin_ieq, in_int, in_slice, keepL, careEv, dOneEv, dOpsEv, accOf, accEv, Option.toList_some, List.append_nil, List.map, Option.map_some, Nat.reduceEqDiff, Nat.reduceLT, if_true, if_false, Bool.and_true, Bool.and_false, Bool.not_true, Bool.not_false, Bool.false_eq_true, Nat.succ_ne_self, decide_true, keepT_setT, lg, hk, hi, hii, hjj, and_self, Int.toNat_natCast, g1, gl, gl', c2]; rfl), (by simp only [c1, decide_true, Bool.not_true, Bool.false_and]), (by simp only [look_set, if_true])⟩⟩
    · simp only [codeEv, opsEv, oneEv, guardEv, opE_mov, opE_load1, opE_bin, opE_faddr, opE_iaddrL, elemR_slice, St.opd, look_set, look_cons, St.put, St.read, bin_ilt, bin_ieq, in_int, in_slice, keepL, careEv, dOneEv, dOpsEv, accOf, accEv, Option.toList_some, List.append_nil, List.map, Option.map_some, Nat.reduceEqDiff, Nat.reduceLT, if_true, if_false, Bool.and_true, Bool.true_and, Bool.and_false, Bool.not_true, Bool.not_false, Bool.false_eq_true, Nat.succ_ne_self, decide_true, decide_false, keepT_setT, lg, hk, hi, hii, hjj, and_self, Int.toNat_natCast, g1, gl, gl', c1, hadd, again_of]
      exact rcheck_in _ m l hl hv i x hx d (j + 1) n _ _ _ (by omega) (by omega) rfl (by simp only [keepT, List.map, look_set, look_cons, in_int, in_slice, Nat.reduceEqDiff, if_true, if_false])

theorem rcheck_out (v : AV) (m : Mem) (l : List V) (hl : l.length ≤ 32) (hv : VS m v l) :
    ∀ (r : List V) (i : Nat) (N : Nat) (T : List (Nat × AV)) (L : List (Nat × List AV)) (q : _), l.drop i = r → r.length + 40 ≤ N → codeEv (run A N) (ev A N).2 a23_L2 ⟨68, T, L, m⟩ = q → keepT [0, 3] [] T = [(0, v), (3, .int .i64 (i : Int))] →
      ∃ T' L', (q = some (.exit 0, ⟨68, T', L', m⟩) ∧ chkR l r i = true) ∨ (q = some (.ret, ⟨68, T', L', m⟩) ∧ chkR l r i = false ∧ look T' 2 = .int .i64 2)
  | [], i, N, T, L, q, hd, hN, hq, hk => by
    subst hq
    have hi : ¬ ((i : Int) < (l.length : Int)) := by
      have := List.drop_eq_nil_iff.1 hd
      omega
    have hln := hv.lenR
    rw [a23_L2_step]
    unfold a23_B2 chkR
    exact ⟨_, _, .inl ⟨(by simp only [codeEv, opsEv, oneEv, guardEv, opE_mov, opE_bin, opE_lenL, St.opd, look_set, look_cons, St.put, bin_ilt, keepL, Option.map_some, Nat.reduceEqDiff, Nat.reduceLT, if_true, if_false, Bool.false_eq_true, Nat.succ_ne_self, decide_false, hk, hln, hi]; rfl), rfl⟩⟩
  | x :: r, i, N, T, L, q, hd, hN, hq, hk => by
    subst hq
    obtain ⟨hg, hi, hd'⟩ := drop_cons_get hd
    obtain ⟨n, rfl⟩ : ∃ n, N = n + 1 := ⟨N - 1, by simp only [List.length_cons] at hN; omega⟩
    rw [List.length_cons] at hN
    have hv0 := hv
    rcases hv0 with ⟨rfl, h0⟩ | ⟨b, o, cap, ee, rfl, hm⟩
    · rw [h0] at hg; cases hg
    obtain ⟨c, own, hc, hc3⟩ := hm i x hg
    obtain ⟨gp, gl, gf⟩ := cells_fld hc3
    have hi' := idx_ok hg
    have hadd := add_i i (by omega)
    rw [a23_L2_step]
    unfold a23_B2 chkR okV
    by_cases c1 : x.line < 0
    · exact ⟨_, _, .inr ⟨(by simp only [codeEv, opsEv, oneEv, guardEv, opE_mov, opE_pick, opE_load1, opE_bin, opE_faddr, opE_iaddrL, opE_lenL, lenR_slice, elemR_slice, St.opd, look_set, look_cons, St.put, St.read, bin_ilt, in_int, in_slice, keepL, List.map, Option.map_some, Nat.reduceEqDiff, Nat.reduceLT, if_true, if_false, Nat.succ_ne_self, decide_true, beq_tf, keepT_setT, hk, hi', and_self, Int.toNat_natCast, hc, gl, c1]; rfl), (by simp only [c1, decide_true, Bool.not_true, Bool.false_and]), (by simp only [look_set, if_true])⟩⟩
    by_cases c2 : 31 < x.line
    · exact ⟨_, _, .inr ⟨(by simp only [codeEv, opsEv, oneEv, guardEv, opE_mov, opE_pick, opE_load1, opE_bin, opE_faddr, opE_iaddrL, opE_lenL, lenR_slice, elemR_slice, St.opd, look_set, look_cons, St.put, St.read, bin_ilt, bin_igt, in_int, in_slice, keepL, List.map, Option.map_some, Nat.reduceEqDiff, Nat.reduceLT, if_true, if_false, beq_self_eq_true, Bool.false_eq_true, Nat.succ_ne_self, decide_true, decide_false, beq_tf, keepT_setT, hk, hi', and_self, Int.toNat_natCast, hc, gl, c1, c2]; rfl), (by simp only [c2, decide_true, Bool.not_true, Bool.false_and, Bool.and_false]), (by simp only [look_set, if_true])⟩⟩
    by_cases c3 : x.prio < 1
    · exact ⟨_, _, .inr ⟨(by simp only [codeEv, opsEv, oneEv, guardEv, opE_mov, opE_pick, opE_load1, opE_bin, opE_faddr, opE_iaddrL, opE_lenL, lenR_slice, elemR_slice, St.opd, look_set, look_cons, St.put, St.read, bin_ilt, bin_igt, in_int, in_slice, keepL, List.map, Option.map_some, Nat.reduceEqDiff, Nat.reduceLT, if_true, if_false, beq_self_eq_true, Bool.false_eq_true, Nat.succ_ne_self, decide_true, decide_false, beq_tf, keepT_setT, hk, hi', and_self, Int.toNat_natCast, hc, gp, gl, c1, c2, c3]; rfl), (by simp only [c3, decide_true, Bool.not_true, Bool.false_and, Bool.and_false]), (by simp only [look_set, if_true])⟩⟩
    by_cases c4 : 15 < x.prio
    · exact ⟨_, _, .inr ⟨(by simp only [codeEv, opsEv, oneEv, guardEv, opE_mov, opE_pick, opE_load1, opE_bin, opE_faddr, opE_iaddrL, opE_lenL, lenR_slice, elemR_slice, St.opd, look_set, look_cons, St.put, St.read, bin_ilt, bin_igt, in_int, in_slice, keepL, List.map, Option.map_some, Nat.reduceEqDiff, Nat.reduceLT, if_true, if_false, beq_self_eq_true, Bool.false_eq_true, Nat.succ_ne_self, decide_true, decide_false, beq_tf, keepT_setT, hk, hi', and_self, Int.toNat_natCast, hc, gp, gl, c1, c2, c3, c4]; rfl), (by simp only [c4, decide_true, Bool.not_true, Bool.false_and, Bool.and_false]), (by simp only [look_set, if_true])⟩⟩
    by_cases c5 : x.fn < 0
    · exact ⟨_, _, .inr ⟨(by simp only [codeEv, opsEv, oneEv, guardEv, opE_mov, opE_pick, opE_load1, opE_bin, opE_faddr, opE_iaddrL, opE_lenL, lenR_slice, elemR_slice, St.opd, look_set, look_cons, St.put, St.read, bin_ilt, bin_igt, in_int, in_slice, keepL, List.map, Option.map_some, Nat.reduceEqDiff, Nat.reduceLT, if_true, if_false, beq_self_eq_true, Bool.false_eq_true, Nat.succ_ne_self, decide_true, decide_false, keepT_setT, hk, hi', and_self, Int.toNat_natCast, hc, gp, gl, gf, c1, c2, c3, c4, c5]; rfl), (by simp only [c5, decide_true, Bool.not_true, Bool.false_and, Bool.and_false]), (by simp only [look_set, if_true])⟩⟩
    simp only [codeEv, opsEv, oneEv, guardEv, opE_mov, opE_pick, opE_load1, opE_bin, opE_faddr, opE_iaddrL, opE_lenL, lenR_slice, elemR_slice, St.opd, look_set, look_cons, St.put, St.read, bin_ilt, bin_igt, in_int, in_slice, keepL, List.map, Option.map_some, Nat.reduceEqDiff, Nat.reduceLT, if_true, if_false, Bool.and_true, Bool.true_and, Bool.not_false, beq_self_eq_true, Bool.false_eq_true, Nat.succ_ne_self, decide_true, decide_false, keepT_setT, hk, hi', and_self, Int.toNat_natCast, hc, gp, gl, gf, c1, c2, c3, c4, c5]
    generalize hq : codeEv (run A (n + 1)) (ev A (n + 1)).2 a23_L1 _ = q
    obtain ⟨T2, L2, ⟨rfl, h1, h2⟩ | ⟨rfl, h1, h2⟩⟩ := rcheck_in _ m l (by omega) hv i x hg i 0 (n + 1) _ _ q (by omega) (by omega) hq (by simp only [keepT, List.map, look_set, look_cons, in_int, in_slice, Nat.reduceEqDiff, if_true, if_false, Int.ofNat_zero])
    · rw [List.drop_zero] at h1
      simp only [look_set, look_cons, Option.map_some, Nat.reduceEqDiff, Nat.reduceLT, if_true, if_false, Bool.true_and, h1, h2, hadd, again_of]
      exact rcheck_out _ m l hl hv r (i + 1) n _ _ _ hd' (by omega) rfl (by simp only [keepT, List.map, look_set, look_cons, in_int, in_slice, Nat.reduceEqDiff, if_true, if_false])
    · rw [List.drop_zero] at h1
      simp only [Bool.false_and, Bool.false_eq_true, h1]
      exact ⟨_, _, .inr ⟨rfl, trivial, h2⟩⟩

theorem rcheck_spec (N : Nat) (hN : 90 ≤ N) (m : Mem) (v : AV) (l : List V) (hv : VS m v l) : run A N 23 [v] m = some (.int .i64 (checkV l), m) := by
  obtain ⟨n, rfl⟩ : ∃ n, N = n + 1 := ⟨N - 1, by omega⟩
  rw [run_23]
  unfold fnEv a23 checkV
  obtain ⟨p1, p2, p3, p4⟩ := hv.plain
  have hln := hv.lenR
  by_cases h : 32 < l.length
  · have h' : (32 : Int) < (l.length : Int) := by omega
    simp only [codeEv, opsEv, oneEv, guardEv, opE_mov, opE_bin, opE_lenL, St.opd, look_set, look_cons, St.put, argsT, resEv, bin_igt, loc_int, keepL, List.map, List.length, Option.map_some, Nat.reduceEqDiff, Nat.reduceAdd, Nat.reduceLT, if_true, if_false, Bool.false_eq_true, decide_true, keepT_setT, keepT_lit, p1, hln, h, h']
  · have h' : ¬ (32 : Int) < (l.length : Int) := by omega
    simp only [codeEv, opsEv, oneEv, guardEv, opE_mov, opE_bin, opE_lenL, St.opd, look_set, look_cons, St.put, argsT, resEv, bin_igt, keepL, List.map, List.length, Option.map_some, Nat.reduceEqDiff, Nat.reduceAdd, Nat.reduceLT, if_true, if_false, Bool.false_eq_true, decide_false, keepT_setT, keepT_lit, p1, hln, h, h']
    generalize hq : codeEv (run A n) (ev A n).2 a23_L2 _ = q
    obtain ⟨T', L', ⟨rfl, h1⟩ | ⟨rfl, h1, h2⟩⟩ := rcheck_out v m l (by omega) hv l 0 n _ _ q rfl (by omega) hq (by simp only [keepT, List.map, look_set, look_cons, in_int, Nat.reduceEqDiff, if_true, if_false, p1, Int.ofNat_zero])
    · rw [chkR_checkL] at h1
      simp only [look_set, loc_int, Nat.reduceLT, if_true, if_false, Bool.false_eq_true, h1]
    · rw [chkR_checkL] at h1
      simp only [loc_int, if_false, Bool.false_eq_true, h1, h2]


end AG
