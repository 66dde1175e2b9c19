/- What the functions of sets and vectors compute, and the laws of that. -/
import Derived.Test.YtenhcejelicjfaaDoorAgLnI
namespace AG
open Go Go.Proofs.YtenhcejelicjfaaDoor
set_option maxRecDepth 100000
set_option maxHeartbeats 4000000



def outI (x : Int) : Bool := decide (x < 0) || decide (31 < x)
theorem ofL_bad : ∀ (l : List Int) (s : BitVec 32), l.any outI = true → ofL s l = (0#32, 2)
  | [], s, h => by simp at h
  | x :: r, s, h => by
    unfold ofL
    by_cases c1 : x < 0
    · rw [if_pos c1]
    · rw [if_neg c1]
      by_cases c2 : 31 < x
      · rw [if_pos c2]
      · rw [if_neg c2]
        refine ofL_bad r _ ?_
        rw [List.any_cons] at h
        simpa [outI, c1, c2] using h
theorem ofL_ok : ∀ (l : List Int) (s : BitVec 32), l.any outI = false → (ofL s l).2 = 0 ∧ ∀ k : Int, hasI (ofL s l).1 k = (hasI s k || l.contains k)
  | [], s, h => ⟨rfl, fun k => by simp [ofL]⟩
  | x :: r, s, h => by
    rw [List.any_cons, Bool.or_eq_false_iff] at h
    obtain ⟨h1, h2⟩ := h
    unfold outI at h1
    simp only [Bool.or_eq_false_iff, decide_eq_false_iff_not] at h1
    unfold ofL
    rw [if_neg h1.1, if_neg h1.2]
    obtain ⟨a, b⟩ := ofL_ok r (s ||| 1#32 <<< x.toNat) h2
    refine ⟨a, fun k => ?_⟩
    rw [b, hasI_or _ _ (by omega), List.contains_cons]
    have : decide (k = (x.toNat : Int)) = (k == x) := by
      rw [Bool.eq_iff_iff, decide_eq_true_eq, beq_iff_eq]
      omega
    rw [this, Bool.or_assoc]
theorem hasI_zero (k : Int) : hasI 0#32 k = false := by unfold hasI; simp
theorem hasI_ext {x y : BitVec 32} (h : ∀ k, hasI x k = hasI y k) : x = y := by
  apply BitVec.eq_of_getLsbD_eq
  intro i hi
  have := h (i : Int)
  unfold hasI at this
  have a1 : decide ((0 : Int) ≤ (i : Int)) = true := by simp
  have a2 : decide ((i : Int) < 32) = true := by simp; omega
  rw [a1, a2] at this
  simpa using this
theorem hasI_bits (x : BitVec 32) (k : Int) : hasI x k = (ints (bitsOf x)).contains k := by
  rw [Bool.eq_iff_iff, List.contains_iff_mem]
  unfold hasI ints
  simp only [Bool.and_eq_true, decide_eq_true_eq, List.mem_map, bits_mem]
  constructor
  · rintro ⟨h1, h2, h3⟩
    exact ⟨k.toNat, h3, by omega⟩
  · rintro ⟨j, hj, rfl⟩
    have : j < 32 := by
      rcases Nat.lt_or_ge j 32 with h1 | h1
      · exact h1
      · rw [BitVec.getLsbD_of_ge x j h1] at hj; cases hj
    exact ⟨by omega, by omega, by simpa using hj⟩
theorem bits_out (x : BitVec 32) : (ints (bitsOf x)).any outI = false := by
  rw [List.any_eq_false]
  intro y hy
  have : hasI x y = true := by rw [hasI_bits]; simpa using hy
  unfold hasI at this
  simp only [Bool.and_eq_true, decide_eq_true_eq] at this
  unfold outI
  simp only [Bool.or_eq_true, decide_eq_true_eq]
  omega
theorem ofL_bits (x : BitVec 32) : ofL 0#32 (ints (bitsOf x)) = (x, 0) := by
  obtain ⟨a, b⟩ := ofL_ok (ints (bitsOf x)) 0#32 (bits_out x)
  refine Prod.ext ?_ a
  exact hasI_ext fun k => by rw [b, hasI_zero, Bool.false_or, hasI_bits]
theorem ints_sorted (x : BitVec 32) : (ints (bitsOf x)).Pairwise (· < ·) := by
  unfold ints
  rw [List.pairwise_map]
  exact (bits_sorted x).imp fun h => by omega
theorem ints_get_lt {x : BitVec 32} {i : Nat} {y z : Int} (hy : (ints (bitsOf x))[i + 1]? = some y) (hz : (ints (bitsOf x))[i]? = some z) : z < y := by
  obtain ⟨h1, rfl⟩ := List.getElem?_eq_some_iff.1 hy
  obtain ⟨h2, rfl⟩ := List.getElem?_eq_some_iff.1 hz
  exact List.pairwise_iff_getElem.1 (ints_sorted x) i (i + 1) h2 h1 (by omega)

theorem bits_or_len (s : BitVec 32) (n : Nat) (hn : n < 32) : (bitsOf (s ||| 1#32 <<< n)).length ≤ (bitsOf s).length + 1 := by
  have hc : ∀ (l : List Nat), l.Nodup → l.countP (fun i => (s ||| 1#32 <<< n).getLsbD i) ≤ l.countP (fun i => s.getLsbD i) + 1 := by
    have e : ∀ i, (s ||| 1#32 <<< n).getLsbD i = (s.getLsbD i || decide (i = n)) := by
      intro i
      rw [BitVec.getLsbD_or, BitVec.getLsbD_shiftLeft, BitVec.getLsbD_one]
      congr 1
      rw [Bool.eq_iff_iff]
      simp only [Bool.and_eq_true, decide_eq_true_eq, Bool.not_eq_true', decide_eq_false_iff_not]
      omega
    intro l hl
    induction l with
    | nil => simp
    | cons a l ih =>
      rw [List.nodup_cons] at hl
      rw [List.countP_cons, List.countP_cons, e]
      by_cases ha : a = n
      · subst ha
        have same : l.countP (fun i => (s ||| 1#32 <<< a).getLsbD i) = l.countP (fun i => s.getLsbD i) := by
          refine List.countP_congr fun i hi => ?_
          rw [e]
          have : i ≠ a := fun h => hl.1 (h ▸ hi)
          simp [this]
        rw [same]
        simp only [decide_true, Bool.or_true, if_true]
        omega
      · simp only [ha, decide_false, Bool.or_false]
        have := ih hl.2
        omega
  unfold bitsOf
  rw [← List.countP_eq_length_filter, ← List.countP_eq_length_filter]
  exact hc _ List.nodup_range
theorem ofL_len : ∀ (l : List Int) (s : BitVec 32), (bitsOf (ofL s l).1).length ≤ (bitsOf s).length + l.length
  | [], s => by simp [ofL]
  | x :: r, s => by
    have z : (bitsOf (0#32)).length = 0 := by rw [bits_nil.2 rfl]; rfl
    unfold ofL
    by_cases c1 : x < 0
    · rw [if_pos c1]; simp only [z]; omega
    · rw [if_neg c1]
      by_cases c2 : 31 < x
      · rw [if_pos c2]; simp only [z]; omega
      · rw [if_neg c2]
        have h1 := ofL_len r (s ||| 1#32 <<< x.toNat)
        have h2 := bits_or_len s x.toNat (by omega)
        rw [List.length_cons]; omega

theorem sub_i (i : Nat) (h : i ≤ 1000000) : binEv .sub (.int .i64 ((i + 1 : Nat) : Int)) (.int .i64 1) = some (.int .i64 (i : Int)) := by
  simp only [binEv, if_true, intBin, IntKind.wrap, IntKind.bits]
  simp [IntKind.signed]
  omega
theorem get_flat {m : Mem} {b o : Nat} {l : List Int} (hm : ∀ (i : Nat) (x : Int), l[i]? = some x → ∃ cs own, m.get b = some (.cells cs own) ∧ cellsAt cs (o + i * 1) 1 = some (iC x)) {i j : Nat} {x y : Int} (hx : l[i]? = some x) (hy : l[j]? = some y) :
    ∃ cs own, m.get b = some (.cells cs own) ∧ cellsAt cs (o + i) 1 = some [.int .i64 x] ∧ cellsAt cs (o + j) 1 = some [.int .i64 y] := by
  obtain ⟨c, own, h1, h2⟩ := hm i x hx
  obtain ⟨c', own', h3, h4⟩ := hm j y hy
  rw [h1] at h3
  simp only [Option.some.injEq, ABlk.cells.injEq] at h3
  obtain ⟨rfl, rfl⟩ := h3
  rw [Nat.mul_one] at h2 h4
  exact ⟨c, own, h1, h2, h4⟩

theorem a4_R2_ok (m : Mem) (set : BitVec 32) (v1 v5 : AV) (h1 : ∀ ls, AV.locIn ls v1 = true) (l : List Int) (hv : IS m v5 l) (i : Nat) (y : Int) (hy : l[i]? = some y) (hh : hasI set y = true) (hlt : ∀ j z, i = j + 1 → l[j]? = some z → z < y) (hl : l.length ≤ 1000000) (N : Nat) (hN : 1 ≤ N) (again : AC → St → Option (Ex × St)) (T : List (Nat × AV)) (L : List (Nat × List AV)) (q : _)
    (hq : codeEv (run A N) again a4_R2 ⟨115, T, L, m⟩ = q) (hk : keepT [0, 1, 5, 8] [] T = [(0, U set), (1, v1), (5, v5), (8, .int .i64 (i : Int))]) :
    ∃ T', q = some (.norm, ⟨115, T', [], m⟩) ∧ keepT [0, 1, 5, 8] [] T' = [(0, U set), (1, v1), (5, v5), (8, .int .i64 (i : Int))] ∧ look T' 66 = .bool false := by
  subst hq
  have hi := idx_any hy
  have hs := has_spec N hN set y m
  rw [hh] at hs
  have lg : logOk [] = true := rfl
  rcases hv with ⟨rfl, rfl⟩ | ⟨b, o, cap, e, rfl, hm⟩
  · cases hy
  unfold a4_R2
  rw [codeEv_keep, hk, keepL_nil]
  cases i with
  | zero =>
    obtain ⟨c, own, g1, g2, _⟩ := get_flat hm hy hy
    have n0 : ¬ ((0 : Int) < ((0 : Nat) : Int)) := by omega
    exact ⟨_, (by simp only [codeEv, guardEv, opEv, St.opd, look_set, look_cons, St.put, St.read, bin_igt, loc_int, loc_U, unEv, callWith, careEv, dOneEv, dOpsEv, accOf, accEv, Option.toList_some, List.append_nil, List.map, List.any, Option.map_some, Nat.reduceEqDiff, Nat.reduceLT, if_true, if_false, Bool.and_true, Bool.and_false, Bool.or_false, Bool.not_true, Bool.not_false, beq_self_eq_true, Bool.false_eq_true, Nat.succ_ne_self, decide_false, beq_ft, lg, hi, and_self, Int.toNat_natCast, Nat.mul_one, g1, g2, hs, n0]; rfl), (by simp only [keepT, List.map, look_set, look_cons, in_int, in_U, in_slice, Nat.reduceEqDiff, if_true, if_false, h1]), (by simp only [look_set, look_cons, Nat.reduceEqDiff, if_true, if_false])⟩
  | succ j =>
    have hjl := (List.getElem?_eq_some_iff.1 hy).1
    obtain ⟨z, hz⟩ : ∃ z, l[j]? = some z := ⟨l[j]'(by omega), List.getElem?_eq_getElem _⟩
    have hzy := hlt j z rfl hz
    obtain ⟨c, own, g1, g2, g3⟩ := get_flat hm hy hz
    have hj := idx_any hz
    have n0 : (0 : Int) < ((j + 1 : Nat) : Int) := by omega
    have sb := sub_i j (by omega)
    have nz : ¬ (y ≤ z) := by omega
    exact ⟨_, (by simp only [codeEv, guardEv, opEv, St.opd, look_set, look_cons, St.put, St.read, bin_igt, bin_ige, loc_int, loc_U, unEv, callWith, careEv, dOneEv, dOpsEv, accOf, accEv, Option.toList_some, List.append_nil, List.map, List.any, Option.map_some, Nat.reduceEqDiff, Nat.reduceLT, if_true, if_false, Bool.and_true, Bool.and_false, Bool.or_false, Bool.not_true, Bool.not_false, beq_self_eq_true, Bool.false_eq_true, Nat.succ_ne_self, decide_true, decide_false, lg, hi, hj, and_self, Int.toNat_natCast, Nat.mul_one, g1, g2, g3, hs, n0, sb, nz]; rfl), (by simp only [keepT, List.map, look_set, look_cons, in_int, in_U, in_slice, Nat.reduceEqDiff, if_true, if_false, h1]), (by simp only [look_set, look_cons, Nat.reduceEqDiff, if_true, if_false])⟩

theorem sets_loop2 (m : Mem) (set : BitVec 32) (v1 v5 : AV) (h1 : ∀ ls, AV.locIn ls v1 = true) (hv : IS m v5 (ints (bitsOf set))) :
    ∀ (r : List Int) (i : Nat) (N : Nat) (T : List (Nat × AV)) (L : List (Nat × List AV)) (q : _), (ints (bitsOf set)).drop i = r → r.length + 2 ≤ N → codeEv (run A N) (ev A N).2 a4_L2 ⟨115, T, L, m⟩ = q → keepT [0, 1, 5, 8] [] T = [(0, U set), (1, v1), (5, v5), (8, .int .i64 (i : Int))] →
      ∃ T' L', q = some (.exit 0, ⟨115, T', L', m⟩) ∧ keepT [1] [] T' = [(1, v1)]
  | [], i, N, T, L, q, hd, hN, hq, hk => by
    subst hq
    have hi : ¬ ((i : Int) < ((ints (bitsOf set)).length : Int)) := by
      have := List.drop_eq_nil_iff.1 hd
      omega
    rw [a4_L2_step]
    unfold a4_B2
    rcases hv with ⟨rfl, h0⟩ | ⟨b, o, cap, e, rfl, hm⟩
    · have hi0 : ¬ ((i : Int) < 0) := by omega
      exact ⟨_, _, (by simp only [codeEv, opsEv, oneEv, guardEv, opEv, St.opd, look_set, look_cons, St.put, bin_ilt, keepL, Option.map_some, Nat.reduceEqDiff, Nat.reduceLT, if_true, if_false, Bool.false_eq_true, Nat.succ_ne_self, decide_false, hk, hi0]; rfl), (by simp only [keepT, List.map, look_set, look_cons, Nat.reduceEqDiff, if_true, if_false, h1])⟩
    · exact ⟨_, _, (by simp only [codeEv, opsEv, oneEv, guardEv, opEv, St.opd, look_set, look_cons, St.put, bin_ilt, keepL, Option.map_some, Nat.reduceEqDiff, Nat.reduceLT, if_true, if_false, Bool.false_eq_true, Nat.succ_ne_self, decide_false, hk, hi]; rfl), (by simp only [keepT, List.map, look_set, look_cons, Nat.reduceEqDiff, if_true, if_false, h1])⟩
  | y :: r, i, N, T, L, q, hd, hN, hq, hk => by
    subst hq
    obtain ⟨hg, hi, hd'⟩ := drop_cons_get hd
    obtain ⟨n, rfl⟩ : ∃ n, N = n + 1 := ⟨N - 1, by simp only [List.length_cons] at hN; omega⟩
    have hi' := idx_any hg
    have hlen : (ints (bitsOf set)).length ≤ 32 := by unfold ints; rw [List.length_map]; exact bits_len set
    have hadd := add_i i (by omega)
    have hh : hasI set y = true := by rw [hasI_bits, List.contains_iff_mem]; exact List.mem_of_getElem? hg
    have p1 := hv.plain.1
    rw [a4_L2_step]
    unfold a4_B2
    have hv0 := hv
    rcases hv0 with ⟨rfl, h0⟩ | ⟨b, o, cap, e, rfl, hm⟩
    · rw [h0] at hg; cases hg
    simp only [codeEv, opsEv, oneEv, guardEv, opEv, St.opd, look_set, look_cons, St.put, bin_ilt, keepL, Option.map_some, Nat.reduceEqDiff, Nat.reduceLT, if_true, if_false, Nat.succ_ne_self, decide_true, hk, hi'.2]
    generalize hq : codeEv (run A (n + 1)) (ev A (n + 1)).2 a4_R2 _ = q
    obtain ⟨T2, rfl, hk2, h66⟩ := a4_R2_ok m set v1 _ h1 _ hv i y hg hh (fun j z hj hz => by subst hj; exact ints_get_lt hg hz) (by omega) (n + 1) (by omega) _ _ _ q hq (by simp only [keepT, List.map, look_set, look_cons, in_int, in_U, in_slice, Nat.reduceEqDiff, if_true, if_false, h1])
    simp only [look_set, look_cons, Option.map_some, Nat.reduceEqDiff, Nat.reduceLT, if_true, if_false, Bool.false_eq_true, h66, hk2, hadd, again_of]
    exact sets_loop2 m set v1 _ h1 hv r (i + 1) n _ _ _ hd' (by simp only [List.length_cons] at hN; omega) rfl (by simp only [keepT, List.map, look_set, look_cons, in_int, in_U, in_slice, Nat.reduceEqDiff, if_true, if_false, h1])

end AG
