/- What the functions of instructions and their texts compute, and the laws of that. -/
import Derived.Test.YtekljfhfjncmjaaDoorAgCgP
namespace AG
open Go Go.Proofs.YtekljfhfjncmjaaDoor
set_option maxRecDepth 100000
set_option maxHeartbeats 4000000
theorem str_eqf (x y : ByteArray) : binEv .eql (.str x) (.str y) = some (.bool (x.toList == y.toList)) := rfl
theorem b41_end (N : Nat) (again : AC → St → Option (Ex × St)) (s : ByteArray) (g n : Nat) (m : Mem) (T : List (Nat × AV)) (L : List (Nat × List AV)) (hk : keepT [0, 1, 5] [] T = [(0, .str s), (1, .fn g []), (5, .int .i64 (n : Int))]) (x : ByteArray) (hf : run A N g [.int .i64 (n : Int)] m = some (.str x, m)) (he : isNo x = true) :
    ∃ T' L', codeEv (run A N) again a41_B1 ⟨18, T, L, m⟩ = some (.exit 0, ⟨18, T', L', m⟩) ∧ keepT [] [] T' = [] := by
  unfold isNo at he
  unfold a41_B1
  exact ⟨_, _, by simp only [codeEv, opsEv, oneEv, guardEv, opE_mov, opE_bin, opE_callv, St.opd, look_set, look_nil, look_cons, St.put, loc_int, callWith, keepL, List.append_nil, List.map, List.any, Option.map_some, Nat.reduceEqDiff, Nat.reduceLT, if_true, if_false, Bool.or_false, Bool.not_true, Bool.false_eq_true, Nat.succ_ne_self, opE_callv, hk, hf, str_ne, he, Bool.not_true]; rfl, by simp only [keepT, List.map]⟩
theorem b41_hit (N : Nat) (again : AC → St → Option (Ex × St)) (s : ByteArray) (g n : Nat) (m : Mem) (T : List (Nat × AV)) (L : List (Nat × List AV)) (hk : keepT [0, 1, 5] [] T = [(0, .str s), (1, .fn g []), (5, .int .i64 (n : Int))]) (x : ByteArray) (hf : run A N g [.int .i64 (n : Int)] m = some (.str x, m)) (he : isNo x = false) (hx : (x.toList == s.toList) = true) :
    ∃ T' L', codeEv (run A N) again a41_B1 ⟨18, T, L, m⟩ = some (.ret, ⟨18, T', L', m⟩) ∧ keepT [4] [] T' = [(4, .int .i64 (n : Int))] := by
  unfold isNo at he
  unfold a41_B1
  exact ⟨_, _, by simp only [codeEv, opsEv, oneEv, guardEv, opE_mov, opE_bin, opE_callv, St.opd, look_set, look_nil, look_cons, St.put, in_int, in_str, in_fn, loc_int, callWith, keepL, List.append_nil, List.map, List.any, Option.map_some, Nat.reduceEqDiff, Nat.reduceLT, if_true, if_false, Bool.or_false, Bool.not_false, Bool.false_eq_true, Nat.succ_ne_self, keepT_setT, opE_callv, hk, hf, str_ne, str_eqf, he, hx, Bool.not_false]; rfl, by simp only [keepT, List.map, look_set, look_cons, in_int, Nat.reduceEqDiff, if_true, if_false]⟩
theorem b41_more (N : Nat) (again : AC → St → Option (Ex × St)) (s : ByteArray) (g n : Nat) (m : Mem) (T : List (Nat × AV)) (L : List (Nat × List AV)) (hk : keepT [0, 1, 5] [] T = [(0, .str s), (1, .fn g []), (5, .int .i64 (n : Int))]) (x : ByteArray) (hf : run A N g [.int .i64 (n : Int)] m = some (.str x, m)) (he : isNo x = false) (hx : (x.toList == s.toList) = false) (hn : n ≤ 1000000) :
    ∃ T' L', codeEv (run A N) again a41_B1 ⟨18, T, L, m⟩ = some (.norm, ⟨18, T', L', m⟩) ∧ keepT [0, 1, 5] [] T' = [(0, .str s), (1, .fn g []), (5, .int .i64 ((n + 1 : Nat) : Int))] := by
  unfold isNo at he
  have a2 := add_i n hn
  unfold a41_B1
  exact ⟨_, _, by simp only [codeEv, opsEv, oneEv, guardEv, opE_mov, opE_bin, opE_callv, St.opd, look_set, look_nil, look_cons, St.put, in_int, in_str, in_fn, loc_int, callWith, keepL, List.append_nil, List.map, List.any, Option.map_some, Nat.reduceEqDiff, Nat.reduceLT, if_true, if_false, Bool.or_false, Bool.not_false, Bool.false_eq_true, Nat.succ_ne_self, keepT_setT, opE_callv, hk, hf, str_ne, str_eqf, he, hx, Bool.not_false, a2]; rfl, by simp only [keepT, List.map, look_set, look_cons, in_int, in_str, in_fn, Nat.reduceEqDiff, if_true, if_false]⟩

/-- Of the names of f from n on, the first that is s; 0: none. -/
def findI (f : Nat → ByteArray) (s : ByteArray) : Nat → Nat → Nat
  | 0, _ => 0
  | k + 1, n => if isNo (f n) = true then 0 else if ((f n).toList == s.toList) = true then n else findI f s k (n + 1)

theorem loop41 (f : Nat → ByteArray) (s : ByteArray) (g : Nat) (m : Mem) : ∀ (k n N : Nat) (T : List (Nat × AV)) (L : List (Nat × List AV)), k ≤ N → n + k ≤ 1000000 → isNo (f (n + k)) = true → (∀ M j, N ≤ M + k → n ≤ j → j ≤ n + k → run A M g [.int .i64 (j : Int)] m = some (.str (f j), m)) → keepT [0, 1, 5] [] T = [(0, .str s), (1, .fn g []), (5, .int .i64 (n : Int))] →
    ∃ T' L', (codeEv (run A N) (ev A N).2 a41_L1 ⟨18, T, L, m⟩ = some (.ret, ⟨18, T', L', m⟩) ∧ keepT [4] [] T' = [(4, .int .i64 (findI f s (k + 1) n : Int))]) ∨ (codeEv (run A N) (ev A N).2 a41_L1 ⟨18, T, L, m⟩ = some (.exit 0, ⟨18, T', L', m⟩) ∧ keepT [] [] T' = [] ∧ findI f s (k + 1) n = 0)
  | k, n, N, T, L, hkN, hn, hend, hf, hk => by
    by_cases he : isNo (f n) = true
    · obtain ⟨T', L', e1, e2⟩ := b41_end N (ev A N).2 s g n m T L hk (f n) (hf N n (by omega) (by omega) (by omega)) he
      exact ⟨T', L', .inr ⟨by rw [a41_L1_step, e1], e2, by rw [findI, if_pos he]⟩⟩
    · have he' : isNo (f n) = false := by simpa using he
      by_cases hx : ((f n).toList == s.toList) = true
      · obtain ⟨T', L', e1, e2⟩ := b41_hit N (ev A N).2 s g n m T L hk (f n) (hf N n (by omega) (by omega) (by omega)) he' hx
        exact ⟨T', L', .inl ⟨by rw [a41_L1_step, e1], by rw [e2, findI, if_neg he, if_pos hx]⟩⟩
      · match k, hkN, hn, hend, hf with
        | 0, _, _, hend, _ => exact absurd hend he
        | k + 1, hkN, hn, hend, hf =>
          obtain ⟨M, rfl⟩ : ∃ M, N = M + 1 := ⟨N - 1, by omega⟩
          obtain ⟨T1, L1, e1, e2⟩ := b41_more (M + 1) (ev A (M + 1)).2 s g n m T L hk (f n) (hf (M + 1) n (by omega) (by omega) (by omega)) he' (by simpa using hx) (by omega)
          obtain ⟨T', L', h⟩ := loop41 f s g m k (n + 1) M T1 L1 (by omega) (by omega) (by rw [show n + 1 + k = n + (k + 1) by omega]; exact hend) (fun M' j h1 h2 h3 => hf M' j (by omega) (by omega) (by omega)) e2
          refine ⟨T', L', ?_⟩
          rw [a41_L1_step, e1, findI, if_neg he, if_neg hx]
          dsimp only
          rw [again_of]
          exact h
theorem find_gen (f : Nat → ByteArray) (s : ByteArray) (g k : Nat) (m : Mem) (N : Nat) (hkN : k ≤ N) (hn : 1 + k ≤ 1000000) (hend : isNo (f (1 + k)) = true) (hf : ∀ M j, N ≤ M + k → 1 ≤ j → j ≤ 1 + k → run A M g [.int .i64 (j : Int)] m = some (.str (f j), m)) :
    run A (N + 1) 41 [.str s, .fn g []] m = some (.int .i64 (findI f s (k + 1) 1 : Int), m) := by
  rw [run_41]
  have hl : ∀ T L q, codeEv (run A N) (ev A N).2 a41_L1 ⟨18, T, L, m⟩ = q → keepT [0, 1, 5] [] T = [(0, .str s), (1, .fn g []), (5, .int .i64 1)] → ∃ T' L', (q = some (.ret, ⟨18, T', L', m⟩) ∧ keepT [4] [] T' = [(4, .int .i64 (findI f s (k + 1) 1 : Int))]) ∨ (q = some (.exit 0, ⟨18, T', L', m⟩) ∧ keepT [] [] T' = [] ∧ findI f s (k + 1) 1 = 0) := by
    intro T L q hq hk
    subst hq
    exact loop41 f s g m k 1 N T L hkN hn hend hf hk
  unfold fnEv a41
  simp only [codeEv, opsEv, oneEv, guardEv, opE_mov, St.opd, look_set, look_nil, look_cons, St.put, argsT, resEv, in_str, in_fn, keepL, List.map, List.length, Nat.reduceEqDiff, Nat.reduceAdd, Nat.reduceLT, if_true, if_false, Nat.succ_ne_self, keepT_setT, keepT_lit]
  generalize hq : codeEv (run A N) (ev A N).2 a41_L1 _ = q
  obtain ⟨T', L', h⟩ := hl _ _ _ hq (by simp only [keepT, List.map, look_set, look_cons, in_int, in_str, in_fn, Nat.reduceEqDiff, if_true, if_false])
  rcases h with ⟨rfl, e2⟩ | ⟨rfl, e2, e3⟩
  · have e4 : look T' 4 = .int .i64 (findI f s (k + 1) 1 : Int) := by
      simp only [keepT, List.map, List.cons.injEq, Prod.mk.injEq, true_and, and_true] at e2
      split at e2
      · exact e2
      · cases e2
    simp only [loc_int, if_false, Bool.false_eq_true, e4]
  · simp only [look_set, look_nil, loc_int, Nat.reduceLT, if_true, if_false, Bool.false_eq_true, e2, e3]
    rfl
theorem sign_no (n : Nat) (x : Int) (m : Mem) (h : ¬ (1 ≤ x ∧ x ≤ 19)) : run A (n + 2) 36 [.int .i64 x] m = some (.str ⟨#[]⟩, m) := by
  rw [run_36]
  have c := right_spec n x
  unfold fnEv a36
  have c' : (decide (1 ≤ x) && decide (x ≤ 19)) = false := by
    simp only [Bool.and_eq_false_iff, decide_eq_false_iff_not]
    omega
  rw [c'] at c
  exact by simp only [codeEv, opsEv, oneEv, guardEv, opEv, St.opd, look_nil, look_cons, setT_nil, setT_cons, St.put, argsT, resEv, in_int, loc_int, loc_str, unEv, callWith, keepT, keepL, List.map, List.length, List.any, Option.map_some, Nat.reduceEqDiff, Nat.reduceAdd, Nat.reduceLT, if_true, if_false, Bool.or_false, Bool.not_false, Bool.false_eq_true, c]
theorem name_no (n : Nat) (x : Int) (m : Mem) (h1 : ¬ x = 1) (h2 : ¬ x = 2) (h3 : ¬ x = 3) : run A (n + 1) 37 [.int .i64 x] m = some (.str ⟨#[]⟩, m) := by
  rw [run_37]
  unfold fnEv a37
  exact by simp only [codeEv, opsEv, oneEv, guardEv, opEv, St.opd, look_nil, look_cons, setT_nil, setT_cons, St.put, argsT, resEv, bin_ieq, in_int, loc_str, keepT, keepL, List.map, List.length, Option.map_some, Nat.reduceEqDiff, Nat.reduceAdd, Nat.reduceLT, if_true, if_false, Bool.false_eq_true, Nat.succ_ne_self, decide_false, h1, h2, h3]
def signF (j : Nat) : ByteArray := if 1 ≤ j ∧ j ≤ 19 then signB j else ⟨#[]⟩
theorem find_sign (s : ByteArray) (m : Mem) (hT : Tab m) (N : Nat) (hN : 30 ≤ N) : run A (N + 1) 41 [.str s, .fn 36 []] m = some (.int .i64 (findI signF s 20 1 : Int), m) := by
  refine find_gen signF s 36 19 m N (by omega) (by omega) no_nil fun M j h1 h2 h3 => ?_
  obtain ⟨M, rfl⟩ : ∃ n, M = n + 2 := ⟨M - 2, by omega⟩
  unfold signF
  by_cases h : 1 ≤ j ∧ j ≤ 19
  · rw [if_pos h]
    have := sign_at M (j : Int) m hT (by omega)
    rwa [Int.toNat_natCast] at this
  · rw [if_neg h]
    exact sign_no M j m (by omega)
theorem find_un (s : ByteArray) (m : Mem) (N : Nat) (hN : 30 ≤ N) : run A (N + 1) 41 [.str s, .fn 37 []] m = some (.int .i64 (findI unB s 4 1 : Int), m) := by
  refine find_gen unB s 37 3 m N (by omega) (by omega) (by decide +kernel) fun M j h1 h2 h3 => ?_
  obtain ⟨M, rfl⟩ : ∃ n, M = n + 1 := ⟨M - 1, by omega⟩
  by_cases h : j = 4
  · subst h
    exact name_no M 4 m (by omega) (by omega) (by omega)
  · have := un_at M (j : Int) m (by omega)
    rwa [Int.toNat_natCast] at this
theorem find_tabs : ((List.range 20).all fun i => i == 0 || findI signF (signB i) 20 1 == i) = true ∧ ((List.range 4).all fun i => i == 0 || findI unB (unB i) 4 1 == i) = true := by decide +kernel
theorem find_signB {i : Nat} (h1 : 1 ≤ i) (h : i < 20) : findI signF (signB i) 20 1 = i := by
  have := List.all_eq_true.1 find_tabs.1 i (List.mem_range.2 h)
  simp only [Bool.or_eq_true, beq_iff_eq] at this
  exact this.resolve_left (by omega)
theorem find_unB {i : Nat} (h1 : 1 ≤ i) (h : i < 4) : findI unB (unB i) 4 1 = i := by
  have := List.all_eq_true.1 find_tabs.2 i (List.mem_range.2 h)
  simp only [Bool.or_eq_true, beq_iff_eq] at this
  exact this.resolve_left (by omega)
/-- The last of the names from n on that is s. -/
def opOf (s : ByteArray) : Nat → Nat → Nat → Nat
  | 0, _, acc => acc
  | k + 1, n, acc => opOf s k (n + 1) (if ((nameB n).toList == s.toList) = true then n else acc)
theorem op_tab : ((List.range 25).all fun i => i == 0 || opOf (nameB i) 24 1 0 == i) = true := by decide +kernel
theorem opOf_name {i : Nat} (h1 : 1 ≤ i) (h : i < 25) : opOf (nameB i) 24 1 0 = i := by
  have := List.all_eq_true.1 op_tab i (List.mem_range.2 h)
  simp only [Bool.or_eq_true, beq_iff_eq] at this
  exact this.resolve_left (by omega)
end AG
