/- What the functions of sets and vectors compute, and the laws of that. -/
import Derived.Test.YtenhcejelicjfaaDoorAgFl
import Derived.Test.YtenhcejelicjfaaDoorAgArg2
namespace AG
open Go Go.Proofs.YtenhcejelicjfaaDoor
set_option maxRecDepth 100000
set_option maxHeartbeats 4000000


def hasI (s : BitVec 32) (k : Int) : Bool := decide (0 ≤ k) && (decide (k < 32) && s.getLsbD k.toNat)
theorem bit_and (s : BitVec 32) (k : Nat) : decide (s >>> k &&& 1#32 = 1#32) = s.getLsbD k := by
  rw [Bool.eq_iff_iff, decide_eq_true_eq]
  constructor
  · intro h
    have := congrArg (fun x => BitVec.getLsbD x 0) h
    simpa using this
  · intro h
    apply BitVec.eq_of_getLsbD_eq
    intro i hi
    by_cases h0 : i = 0
    · subst h0; simp [h]
    · simp [BitVec.getLsbD_one, h0]
theorem has_spec (N : Nat) (hN : 1 ≤ N) (s : BitVec 32) (k : Int) (m : Mem) : run A N 14 [U s, .int .i64 k] m = some (.bool (hasI s k), m) := by
  obtain ⟨n, rfl⟩ : ∃ n, N = n + 1 := ⟨N - 1, by omega⟩
  rw [run_14]
  unfold fnEv a14 hasI
  by_cases h1 : 0 ≤ k
  · have e := bin_shr s .i64 k h1
    by_cases h2 : k < 32
    · simp only [codeEv, opsEv, oneEv, guardEv, opEv, St.opd, look, setT, St.put, argsT, resEv, bin_and, bin_ueq, bin_ilt, bin_ige, in_int, in_U, loc_bool, keepT, keepL, List.map, List.length, Option.map_some, Nat.reduceEqDiff, Nat.reduceAdd, Nat.reduceLT, if_true, if_false, Bool.true_and, beq_self_eq_true, Bool.false_eq_true, Nat.succ_ne_self, decide_true, u_1, h1, h2, e, bit_and]
    · simp only [codeEv, opsEv, oneEv, guardEv, opEv, St.opd, look, setT, St.put, argsT, resEv, bin_ilt, bin_ige, in_int, in_U, loc_bool, keepT, keepL, List.map, List.length, Option.map_some, Nat.reduceEqDiff, Nat.reduceAdd, Nat.reduceLT, if_true, if_false, Bool.false_and, Bool.and_false, beq_self_eq_true, Bool.false_eq_true, Nat.succ_ne_self, decide_true, decide_false, beq_ft, h1, h2]
  · simp only [codeEv, opsEv, oneEv, guardEv, opEv, St.opd, look, setT, St.put, argsT, resEv, bin_ige, in_int, in_U, loc_bool, keepT, keepL, List.map, List.length, Option.map_some, Nat.reduceEqDiff, Nat.reduceAdd, Nat.reduceLT, if_true, if_false, Bool.false_and, Bool.false_eq_true, Nat.succ_ne_self, decide_false, beq_ft, h1]

structure V where
  line : Int
  prio : Int
  fn : Int
  deriving DecidableEq
def V.c (v : V) : List AV := [.int .i64 v.line, .int .i64 v.prio, .int .i64 v.fn]
theorem V.c_eq (v : V) : v.c = [.int .i64 v.line, .int .i64 v.prio, .int .i64 v.fn] := rfl
/-- A slice of vectors. -/
def VS (m : Mem) (v : AV) (l : List V) : Prop := (v = .nils ∧ l = []) ∨ ∃ b o cap e, v = .slice b o l.length cap e ∧ ∀ (i : Nat) (x : V), l[i]? = some x → ∃ c own, m.get b = some (.cells c own) ∧ cellsAt c (o + i * 3) 3 = some x.c

def okV (v : V) : Bool := !decide (v.line < 0) && (!decide (31 < v.line) && (!decide (v.prio < 1) && (!decide (15 < v.prio) && !decide (v.fn < 0))))
def checkL : BitVec 32 → List V → Bool
  | _, [] => true
  | s, v :: r => okV v && (!hasI s v.line && checkL (s ||| 1#32 <<< v.line.toNat) r)

theorem drop_cons_get {α : Type} {l r : List α} {i : Nat} {x : α} (h : l.drop i = x :: r) : l[i]? = some x ∧ i < l.length ∧ l.drop (i + 1) = r := by
  have h1 : l[i]? = some x := by
    have := congrArg (fun y => y[0]?) h
    simpa using this
  refine ⟨h1, (List.getElem?_eq_some_iff.1 h1).1, ?_⟩
  rw [← List.drop_drop, h]; rfl

theorem u_or (x : Int) (s : BitVec 32) (h : 0 ≤ x) : binEv .shl (U 1#32) (.int .i64 x) = some (U (1#32 <<< x.toNat)) := bin_shl _ _ _ h
theorem add_i (i : Nat) (h : i ≤ 1000000) : binEv .add (.int .i64 (i : Int)) (.int .i64 1) = some (.int .i64 ((i + 1 : Nat) : Int)) := by
  simp only [binEv, if_true, intBin, IntKind.wrap, IntKind.bits]
  simp [IntKind.signed]
  omega

theorem check_loop (b o cap e) (m : Mem) (l : List V) (hl : l.length ≤ 1000000) (hm : ∀ (i : Nat) (x : V), l[i]? = some x → ∃ c own, m.get b = some (.cells c own) ∧ cellsAt c (o + i * 3) 3 = some x.c) :
    ∀ (r : List V) (i : Nat) (s : BitVec 32) (N : Nat) (T : List (Nat × AV)) (L : List (Nat × List AV)) (q : _), l.drop i = r → r.length + 1 ≤ N → codeEv (run A N) (ev A N).2 a12_L1 { n := 50, t := T, l := L, m := m } = q → look T 3 = U s → look T 9 = .slice b o l.length cap e → look T 10 = .int .i64 l.length → look T 11 = .int .i64 (i : Int) →
      ∃ T' L', q = some (if checkL s r then .exit 0 else .ret, { n := 50, t := T', l := L', m := m }) ∧ (checkL s r = false → look T' 2 = .int .i64 2)
  | [], i, s, N, T, L, q, hd, hN, hq, h3, h9, h10, h11 => by
    subst hq
    have hi : ¬ ((i : Int) < (l.length : Int)) := by
      have := List.drop_eq_nil_iff.1 hd
      omega
    rw [a12_L1_step]
    unfold a12_B1 checkL
    simp only [codeEv, opsEv, oneEv, guardEv, opEv, St.opd, look_set, look_cons, St.put, bin_ilt, in_int, in_U, in_slice, keepT, keepL, List.map, Option.map_some, Nat.reduceEqDiff, Nat.reduceLT, if_true, if_false, Bool.false_eq_true, Bool.true_eq_false, Nat.succ_ne_self, decide_false, h3, h9, h10, h11, hi]
    exact ⟨_, _, rfl, fun h => by cases h⟩
  | v :: r, i, s, N, T, L, q, hd, hN, hq, h3, h9, h10, h11 => by
    subst hq
    obtain ⟨hg, hi, hd'⟩ := drop_cons_get hd
    obtain ⟨n, rfl⟩ : ∃ n, N = n + 1 := ⟨N - 1, by simp only [List.length_cons] at hN; omega⟩
    obtain ⟨c, own, hc, hc3⟩ := hm i v hg
    have hi' : (i : Int) < (l.length : Int) := by omega
    have h0 : (0 : Int) ≤ (i : Int) := by omega
    have hadd := add_i i (by omega)
    have hs := fun s k => has_spec (n + 1) (by omega) s k m
    have ih := fun s' T L q => check_loop b o cap e m l hl hm r (i + 1) s' n T L q hd' (by simp only [List.length_cons] at hN; omega)
    rw [a12_L1_step]
    unfold a12_B1 checkL okV
    by_cases c1 : v.line < 0
    · simp only [codeEv, opsEv, oneEv, guardEv, opEv, St.opd, look_set, look_cons, St.put, St.new, St.read, St.write, lookL, setL, cellsAt_cons, splice, bin_ilt, in_int, in_U, in_slice, in_loc, List.contains_cons, List.contains_nil, one_int, cells_agg, keepT, keepL, List.append_nil, List.map, List.length, List.take, List.drop, List.all, List.nil_append, List.take_succ_cons, List.drop_succ_cons, Option.map_some, Nat.reduceEqDiff, Nat.reduceAdd, Nat.reduceLeDiff, Nat.reduceLT, if_true, if_false, Bool.and_true, Bool.false_and, Bool.or_false, Bool.not_true, Bool.not_false, List.isEmpty_cons, beq_self_eq_true, Bool.false_eq_true, Nat.succ_ne_self, decide_true, beq_tf, h3, h9, h10, h11, hi', h0, hc, hc3, V.c_eq, Int.toNat_natCast, and_self, c1]
      exact ⟨_, _, rfl, fun _ => rfl⟩
    · skip
      by_cases c2 : 31 < v.line
      · simp only [codeEv, opsEv, oneEv, guardEv, opEv, St.opd, look_set, look_cons, St.put, St.new, St.read, St.write, lookL, setL, cellsAt_cons, splice, bin_ilt, bin_igt, in_int, in_U, in_slice, in_loc, List.contains_cons, List.contains_nil, one_int, cells_agg, keepT, keepL, List.append_nil, List.map, List.length, List.take, List.drop, List.all, List.nil_append, List.take_succ_cons, List.drop_succ_cons, Option.map_some, Nat.reduceEqDiff, Nat.reduceAdd, Nat.reduceLeDiff, Nat.reduceLT, if_true, if_false, Bool.and_true, Bool.false_and, Bool.and_false, Bool.or_false, Bool.not_true, Bool.not_false, List.isEmpty_cons, beq_self_eq_true, Bool.false_eq_true, Nat.succ_ne_self, decide_true, decide_false, beq_tf, h3, h9, h10, h11, hi', h0, hc, hc3, V.c_eq, Int.toNat_natCast, and_self, c1, c2]
        exact ⟨_, _, rfl, fun _ => rfl⟩
      · skip
        by_cases c3 : v.prio < 1
        · simp only [codeEv, opsEv, oneEv, guardEv, opEv, St.opd, look_set, look_cons, St.put, St.new, St.read, St.write, lookL, setL, cellsAt_cons, splice, bin_ilt, bin_igt, in_int, in_U, in_slice, in_loc, List.contains_cons, List.contains_nil, one_int, cells_agg, keepT, keepL, List.append_nil, List.map, List.length, List.take, List.drop, List.all, List.nil_append, List.take_succ_cons, List.drop_succ_cons, Option.map_some, Nat.reduceEqDiff, Nat.reduceAdd, Nat.reduceLeDiff, Nat.reduceLT, if_true, if_false, Bool.and_true, Bool.false_and, Bool.and_false, Bool.or_false, Bool.not_true, Bool.not_false, List.isEmpty_cons, beq_self_eq_true, Bool.false_eq_true, Nat.succ_ne_self, decide_true, decide_false, beq_tf, h3, h9, h10, h11, hi', h0, hc, hc3, V.c_eq, Int.toNat_natCast, and_self, c1, c2, c3]
          exact ⟨_, _, rfl, fun _ => rfl⟩
        · skip
          by_cases c4 : 15 < v.prio
          · simp only [codeEv, opsEv, oneEv, guardEv, opEv, St.opd, look_set, look_cons, St.put, St.new, St.read, St.write, lookL, setL, cellsAt_cons, splice, bin_ilt, bin_igt, in_int, in_U, in_slice, in_loc, List.contains_cons, List.contains_nil, one_int, cells_agg, keepT, keepL, List.append_nil, List.map, List.length, List.take, List.drop, List.all, List.nil_append, List.take_succ_cons, List.drop_succ_cons, Option.map_some, Nat.reduceEqDiff, Nat.reduceAdd, Nat.reduceLeDiff, Nat.reduceLT, if_true, if_false, Bool.and_true, Bool.false_and, Bool.and_false, Bool.or_false, Bool.not_true, Bool.not_false, List.isEmpty_cons, beq_self_eq_true, Bool.false_eq_true, Nat.succ_ne_self, decide_true, decide_false, beq_tf, h3, h9, h10, h11, hi', h0, hc, hc3, V.c_eq, Int.toNat_natCast, and_self, c1, c2, c3, c4]
            exact ⟨_, _, rfl, fun _ => rfl⟩
          · skip
            by_cases c5 : v.fn < 0
            · simp only [codeEv, opsEv, oneEv, guardEv, opEv, St.opd, look_set, look_cons, St.put, St.new, St.read, St.write, lookL, setL, cellsAt_cons, splice, bin_ilt, bin_igt, in_int, in_U, in_slice, in_loc, List.contains_cons, List.contains_nil, one_int, cells_agg, keepT, keepL, List.append_nil, List.map, List.length, List.take, List.drop, List.all, List.nil_append, List.take_succ_cons, List.drop_succ_cons, Option.map_some, Nat.reduceEqDiff, Nat.reduceAdd, Nat.reduceLeDiff, Nat.reduceLT, if_true, if_false, Bool.and_true, Bool.false_and, Bool.and_false, Bool.or_false, Bool.not_true, Bool.not_false, List.isEmpty_cons, beq_self_eq_true, Bool.false_eq_true, Nat.succ_ne_self, decide_true, decide_false, beq_tf, h3, h9, h10, h11, hi', h0, hc, hc3, V.c_eq, Int.toNat_natCast, and_self, c1, c2, c3, c4, c5]
              exact ⟨_, _, rfl, fun _ => rfl⟩
            · skip
              by_cases c6 : hasI s v.line = true
              · simp only [codeEv, opsEv, oneEv, guardEv, opEv, St.opd, look_set, look_cons, St.put, St.new, St.read, St.write, lookL, setL, cellsAt_cons, splice, bin_ilt, bin_igt, in_int, in_U, in_slice, in_loc, List.contains_cons, List.contains_nil, one_int, loc_int, cells_agg, loc_U, callWith, keepT, keepL, List.append_nil, List.map, List.length, List.take, List.drop, List.all, List.any, List.nil_append, List.take_succ_cons, List.drop_succ_cons, Option.map_some, Nat.reduceEqDiff, Nat.reduceAdd, Nat.reduceLeDiff, Nat.reduceLT, if_true, if_false, Bool.and_true, Bool.false_and, Bool.and_false, Bool.or_false, Bool.not_true, Bool.not_false, List.isEmpty_cons, beq_self_eq_true, Bool.false_eq_true, Nat.succ_ne_self, decide_true, decide_false, h3, h9, h10, h11, hi', h0, hc, hc3, hs, V.c_eq, Int.toNat_natCast, and_self, c1, c2, c3, c4, c5, c6]
                exact ⟨_, _, rfl, fun _ => rfl⟩
              · skip
                have hsh := u_or v.line s (by omega)
                simp only [codeEv, opsEv, oneEv, guardEv, opEv, St.opd, look_set, look_cons, St.put, St.new, St.read, St.write, lookL, setL, cellsAt_cons, splice, bin_or, bin_ilt, bin_igt, in_int, in_U, in_slice, in_loc, List.contains_cons, List.contains_nil, one_int, loc_int, cells_agg, loc_U, callWith, keepT, keepL, List.append_nil, List.map, List.length, List.take, List.drop, List.all, List.any, List.nil_append, List.take_succ_cons, List.drop_succ_cons, Option.map_some, Nat.reduceEqDiff, Nat.reduceAdd, Nat.reduceLeDiff, Nat.reduceLT, if_true, if_false, Bool.and_true, Bool.true_and, Bool.or_false, Bool.not_false, List.isEmpty_cons, beq_self_eq_true, Bool.false_eq_true, Nat.succ_ne_self, decide_true, decide_false, u_1, h3, h9, h10, h11, hi', h0, hc, hc3, hs, V.c_eq, Int.toNat_natCast, and_self, c1, c2, c3, c4, c5, c6, hsh, hadd, again_of]
                exact ih _ _ _ _ rfl rfl rfl rfl rfl

def checkV (l : List V) : Int := if 32 < l.length then 3 else if checkL 0#32 l then 0 else 2
theorem check_v (N : Nat) (hN : 34 ≤ N) (m : Mem) (v : AV) (l : List V) (hv : VS m v l) (hl : l.length ≤ 1000000) : run A N 12 [v] m = some (.int .i64 (checkV l), m) := by
  obtain ⟨n, rfl⟩ : ∃ n, N = n + 1 := ⟨N - 1, by omega⟩
  rw [run_12]
  unfold fnEv a12 checkV
  rcases hv with ⟨rfl, rfl⟩ | ⟨b, o, cap, e, rfl, hm⟩
  · simp only [codeEv, opsEv, oneEv, guardEv, opEv, St.opd, look_set, look_cons, St.put, argsT, resEv, bin_ilt, bin_igt, in_int, in_U, in_nils, loc_int, keepT, keepL, List.map, List.length, Option.map_some, Nat.reduceEqDiff, Nat.reduceAdd, Nat.reduceLT, if_true, if_false, Bool.false_eq_true, Nat.succ_ne_self, decide_false, u_0, u_1, a12_L1_step, a12_B1, checkL, Int.lt_irrefl, Nat.not_lt_zero, show ¬ ((32 : Int) < 0) by omega]
  · by_cases h : 32 < l.length
    · have h' : (32 : Int) < (l.length : Int) := by omega
      simp only [codeEv, opsEv, oneEv, guardEv, opEv, St.opd, look_set, look_cons, St.put, argsT, resEv, bin_igt, in_slice, loc_int, keepT, keepL, List.map, List.length, Option.map_some, Nat.reduceEqDiff, Nat.reduceAdd, Nat.reduceLT, if_true, if_false, Bool.false_eq_true, decide_true, h, h']
    · have h' : ¬ (32 : Int) < (l.length : Int) := by omega
      simp only [codeEv, opsEv, oneEv, guardEv, opEv, St.opd, look_set, look_cons, St.put, argsT, resEv, bin_igt, in_U, in_slice, keepT, keepL, List.map, List.length, Option.map_some, Nat.reduceEqDiff, Nat.reduceAdd, Nat.reduceLT, if_true, if_false, Bool.false_eq_true, decide_false, u_0, h, h']
      generalize hq : codeEv (run A n) (ev A n).2 a12_L1 _ = q
      obtain ⟨T', L', rfl, h2⟩ := check_loop b o cap e m l hl hm l 0 0#32 n _ _ q rfl (by omega) hq rfl rfl rfl rfl
      cases hc : checkL 0#32 l
      · simp only [loc_int, if_false, Bool.false_eq_true, h2 hc]
      · simp only [look_set, loc_int, Nat.reduceLT, if_true, if_false, Bool.false_eq_true]

end AG
