/- What the functions of instructions and their texts compute, and the laws of that. -/
import Derived.Test.YtekljfhfjncmjaaDoorAgFa
import Derived.Test.YtekljfhfjncmjaaDoorAgMkG
import Derived.Test.YtekljfhfjncmjaaDoorAgSym
namespace AG
open Go Go.Proofs.YtekljfhfjncmjaaDoor
set_option maxRecDepth 100000
set_option maxHeartbeats 4000000
/-- The listed tables. -/
def kinds : List AV := [.str ⟨#[]⟩, .int .i64 0, .int .i64 0, .int .i64 0, .int .i64 0, .int .i64 0, .str ⟨#[104, 97, 108, 116]⟩, .int .i64 0, .int .i64 0, .int .i64 0, .int .i64 0, .int .i64 0, .str ⟨#[112, 117, 115, 104]⟩, .int .i64 2, .int .i64 0, .int .i64 0, .int .i64 0, .int .i64 1, .str ⟨#[112, 111, 112]⟩, .int .i64 0, .int .i64 0, .int .i64 0, .int .i64 1, .int .i64 0, .str ⟨#[108, 100]⟩, .int .i64 1, .int .i64 0, .int .i64 0, .int .i64 0, .int .i64 1, .str ⟨#[115, 116]⟩, .int .i64 1, .int .i64 3, .int .i64 0, .int .i64 1, .int .i64 0, .str ⟨#[108, 100, 120]⟩, .int .i64 1, .int .i64 4, .int .i64 0, .int .i64 1, .int .i64 1, .str ⟨#[115, 116, 120]⟩, .int .i64 1, .int .i64 4, .int .i64 3, .int .i64 2, .int .i64 0, .str ⟨#[108, 100, 108]⟩, .int .i64 1, .int .i64 0, .int .i64 0, .int .i64 0, .int .i64 1, .str ⟨#[115, 116, 108]⟩, .int .i64 1, .int .i64 3, .int .i64 0, .int .i64 1, .int .i64 0, .str ⟨#[105, 110]⟩, .int .i64 1, .int .i64 0, .int .i64 0, .int .i64 0, .int .i64 1, .str ⟨#[111, 117, 116]⟩, .int .i64 1, .int .i64 0, .int .i64 0, .int .i64 1, .int .i64 0, .str ⟨#[98, 105, 110]⟩, .int .i64 7, .int .i64 0, .int .i64 0, .int .i64 2, .int .i64 1, .str ⟨#[117, 110]⟩, .int .i64 8, .int .i64 0, .int .i64 0, .int .i64 1, .int .i64 1, .str ⟨#[99, 117, 116]⟩, .int .i64 3, .int .i64 0, .int .i64 0, .int .i64 1, .int .i64 1, .str ⟨#[106, 109, 112]⟩, .int .i64 1, .int .i64 0, .int .i64 0, .int .i64 0, .int .i64 0, .str ⟨#[106, 122]⟩, .int .i64 1, .int .i64 0, .int .i64 0, .int .i64 1, .int .i64 0, .str ⟨#[99, 97, 108, 108]⟩, .int .i64 1, .int .i64 0, .int .i64 0, .int .i64 0, .int .i64 1, .str ⟨#[114, 101, 116]⟩, .int .i64 0, .int .i64 0, .int .i64 0, .int .i64 1, .int .i64 0, .str ⟨#[101, 110]⟩, .int .i64 5, .int .i64 0, .int .i64 0, .int .i64 0, .int .i64 0, .str ⟨#[100, 105, 115]⟩, .int .i64 5, .int .i64 0, .int .i64 0, .int .i64 0, .int .i64 0, .str ⟨#[108, 118, 108]⟩, .int .i64 6, .int .i64 0, .int .i64 0, .int .i64 0, .int .i64 0, .str ⟨#[112, 116]⟩, .int .i64 0, .int .i64 0, .int .i64 0, .int .i64 0, .int .i64 0, .str ⟨#[98, 101, 103]⟩, .int .i64 1, .int .i64 0, .int .i64 0, .int .i64 0, .int .i64 0, .str ⟨#[101, 110, 100]⟩, .int .i64 1, .int .i64 0, .int .i64 0, .int .i64 0, .int .i64 0]
def signs : List AV := [.str ⟨#[]⟩, .str ⟨#[43]⟩, .str ⟨#[45]⟩, .str ⟨#[42]⟩, .str ⟨#[47]⟩, .str ⟨#[37]⟩, .str ⟨#[115, 47]⟩, .str ⟨#[115, 37]⟩, .str ⟨#[38]⟩, .str ⟨#[124]⟩, .str ⟨#[94]⟩, .str ⟨#[60, 60]⟩, .str ⟨#[62, 62]⟩, .str ⟨#[115, 62, 62]⟩, .str ⟨#[61, 61]⟩, .str ⟨#[33, 61]⟩, .str ⟨#[60]⟩, .str ⟨#[60, 61]⟩, .str ⟨#[115, 60]⟩, .str ⟨#[115, 60, 61]⟩]


/-- The tables lie as they are laid. -/
structure Tab (m : Mem) : Prop where
  k : m.get 0 = some (.cells [.slice 12 0 25 (some 25) 6] false)
  s : m.get 2 = some (.cells signs false)
  t : m.get 12 = some (.cells kinds false)

theorem right_spec (n : Nat) (x : Int) (m : Mem) : run A (n + 1) 62 [.int .i64 x] m = some (.bool (decide (1 ≤ x) && decide (x ≤ 19)), m) := by
  rw [run_62]
  unfold fnEv a62
  by_cases h1 : 1 ≤ x
  · by_cases h2 : x ≤ 19
    · simp only [codeEv, opsEv, oneEv, guardEv, opEv, St.opd, look_nil, look_cons, setT_nil, setT_cons, St.put, argsT, resEv, bin_ile, bin_ige, in_int, loc_bool, keepT, keepL, List.map, List.length, Option.map_some, Nat.reduceEqDiff, Nat.reduceAdd, Nat.reduceLT, if_true, if_false, Bool.and_true, beq_self_eq_true, Bool.false_eq_true, Nat.succ_ne_self, decide_true, h1, h2]
    · simp only [codeEv, opsEv, oneEv, guardEv, opEv, St.opd, look_nil, look_cons, setT_nil, setT_cons, St.put, argsT, resEv, bin_ile, bin_ige, in_int, loc_bool, keepT, keepL, List.map, List.length, Option.map_some, Nat.reduceEqDiff, Nat.reduceAdd, Nat.reduceLT, if_true, if_false, Bool.and_false, beq_self_eq_true, Bool.false_eq_true, Nat.succ_ne_self, decide_true, decide_false, h1, h2]
  · simp only [codeEv, opsEv, oneEv, guardEv, opEv, St.opd, look_nil, look_cons, setT_nil, setT_cons, St.put, argsT, resEv, bin_ige, in_int, loc_bool, keepT, keepL, List.map, List.length, Option.map_some, Nat.reduceEqDiff, Nat.reduceAdd, Nat.reduceLT, if_true, if_false, Bool.false_and, Bool.false_eq_true, Nat.succ_ne_self, decide_false, beq_ft, h1]


theorem str_ne (x y : ByteArray) : binEv .neq (.str x) (.str y) = some (.bool (!(x.toList == y.toList))) := rfl
def isNo (s : ByteArray) : Bool := s.toList == (ByteArray.mk #[]).toList
theorem no_nil : isNo (ByteArray.mk #[]) = true := by decide +kernel
theorem signs_at : ∀ j, j < 20 → ∃ s, signs[j]? = some (.str s) ∧ isNo s = decide (j = 0) := by
  intro j hj
  have hall : (List.range 20).all (fun j => match signs[j]? with | some (.str s) => isNo s == decide (j = 0) | _ => false) = true := by decide +kernel
  have hv := List.all_eq_true.1 hall j (List.mem_range.2 hj)
  split at hv
  · rename_i s hs; exact ⟨s, hs, by simpa using hv⟩
  · cases hv
theorem sign_ex (n : Nat) (x : Int) (m : Mem) (hT : Tab m) : ∃ s, run A (n + 2) 36 [.int .i64 x] m = some (.str s, m) ∧ isNo s = !(decide (1 ≤ x) && decide (x ≤ 19)) := by
  rw [run_36]
  have c := right_spec n x
  unfold fnEv a36
  by_cases h : 1 ≤ x ∧ x ≤ 19
  · simp only [h.1, h.2, decide_true, Bool.and_true] at c ⊢
    obtain ⟨s, hs, hn⟩ := signs_at x.toNat (by omega)
    have hs' : signs[0 + x.toNat * 1]? = some (.str s) := by rw [Nat.zero_add, Nat.mul_one]; exact hs
    have hb : 0 ≤ x ∧ x < ((20 : Nat) : Int) := by omega
    refine ⟨s, by simp only [codeEv, opsEv, oneEv, guardEv, opEv, St.opd, look_nil, look_cons, setT_nil, setT_cons, St.put, St.read, argsT, resEv, in_int, loc_int, loc_str, unEv, callWith, keepT, keepL, List.map, List.length, List.any, Option.map_some, Nat.reduceEqDiff, Nat.reduceAdd, Nat.reduceLT, if_true, if_false, Bool.or_false, Bool.not_true, Bool.false_eq_true, c, hb, hT.s, cells_one hs', and_self], ?_⟩
    rw [hn]
    simp only [Bool.not_true, decide_eq_false_iff_not]
    omega
  · have c' : (decide (1 ≤ x) && decide (x ≤ 19)) = false := by
      simp only [Bool.and_eq_false_iff, decide_eq_false_iff_not]
      omega
    rw [c'] at c ⊢
    exact ⟨ByteArray.mk #[], by simp only [codeEv, opsEv, oneEv, guardEv, opEv, St.opd, look_nil, look_cons, setT_nil, setT_cons, St.put, argsT, resEv, in_int, loc_int, loc_str, unEv, callWith, keepT, keepL, List.map, List.length, List.any, Option.map_some, Nat.reduceEqDiff, Nat.reduceAdd, Nat.reduceLT, if_true, if_false, Bool.or_false, Bool.not_false, Bool.false_eq_true, c], no_nil⟩

theorem name_ex (n : Nat) (x : Int) (m : Mem) : ∃ s, run A (n + 1) 37 [.int .i64 x] m = some (.str s, m) ∧ isNo s = !(decide (1 ≤ x) && decide (x ≤ 3)) := by
  rw [run_37]
  unfold fnEv a37
  by_cases h1 : x = 1
  · exact ⟨_, by simp only [codeEv, opsEv, oneEv, guardEv, opEv, St.opd, look_nil, look_cons, setT_nil, setT_cons, St.put, argsT, resEv, bin_ieq, in_int, loc_str, keepT, keepL, List.map, List.length, Option.map_some, Nat.reduceEqDiff, Int.reduceEq, Nat.reduceAdd, Nat.reduceLT, if_true, if_false, Bool.false_eq_true, Nat.succ_ne_self, decide_true, decide_false, h1]; rfl, by subst h1; decide +kernel⟩
  · by_cases h2 : x = 2
    · exact ⟨_, by simp only [codeEv, opsEv, oneEv, guardEv, opEv, St.opd, look_nil, look_cons, setT_nil, setT_cons, St.put, argsT, resEv, bin_ieq, in_int, loc_str, keepT, keepL, List.map, List.length, Option.map_some, Nat.reduceEqDiff, Int.reduceEq, Nat.reduceAdd, Nat.reduceLT, if_true, if_false, Bool.false_eq_true, Nat.succ_ne_self, decide_true, decide_false, h2]; rfl, by subst h2; decide +kernel⟩
    · by_cases h3 : x = 3
      · exact ⟨_, by simp only [codeEv, opsEv, oneEv, guardEv, opEv, St.opd, look_nil, look_cons, setT_nil, setT_cons, St.put, argsT, resEv, bin_ieq, in_int, loc_str, keepT, keepL, List.map, List.length, Option.map_some, Nat.reduceEqDiff, Int.reduceEq, Nat.reduceAdd, Nat.reduceLT, if_true, if_false, Bool.false_eq_true, Nat.succ_ne_self, decide_true, decide_false, h3]; rfl, by subst h3; decide +kernel⟩
      · refine ⟨_, by simp only [codeEv, opsEv, oneEv, guardEv, opEv, St.opd, look_nil, look_cons, setT_nil, setT_cons, St.put, argsT, resEv, bin_ieq, in_int, loc_str, keepT, keepL, List.map, List.length, Option.map_some, Nat.reduceEqDiff, Nat.reduceAdd, Nat.reduceLT, if_true, if_false, Bool.false_eq_true, Nat.succ_ne_self, decide_false, h1, h2, h3]; rfl, ?_⟩
        have : (decide (1 ≤ x) && decide (x ≤ 3)) = false := by
          simp only [Bool.and_eq_false_iff, decide_eq_false_iff_not]
          omega
        rw [this]; exact no_nil

/-- May the number be, by the program's table? -/
def fitsI (w x : Int) : Bool :=
  if w = 0 then decide (x = 0) else if w = 1 then decide (0 ≤ x) && decide (x ≤ 1048576) else if w = 2 then decide (0 ≤ x) && decide (x ≤ 4294967295)
  else if w = 3 then decide (x = 8) || (decide (x = 16) || decide (x = 32)) else if w = 4 then decide (1 ≤ x) && decide (x ≤ 1048576) else if w = 5 then decide (0 ≤ x) && decide (x ≤ 31)
  else if w = 6 then decide (0 ≤ x) && decide (x ≤ 15) else if w = 7 then decide (1 ≤ x) && decide (x ≤ 19) else decide (1 ≤ x) && decide (x ≤ 3)
theorem and_ev (b c : Bool) : (if b = true then some (AV.bool c) else some (AV.bool false)) = some (.bool (b && c)) := by cases b <;> rfl
theorem fits_ex (n : Nat) (w x : Int) (m : Mem) (hT : Tab m) : run A (n + 3) 35 [.int .i64 w, .int .i64 x] m = some (.bool (fitsI w x), m) := by
  rw [run_35]
  obtain ⟨s1, c1, e1⟩ := sign_ex n x m hT
  obtain ⟨s2, c2, e2⟩ := name_ex (n + 1) x m
  unfold isNo at e1 e2
  unfold fnEv a35 fitsI
  by_cases h0 : w = 0
  · by_cases q : x = 0
    · have q := eq_true q
      simp only [codeEv, opsEv, oneEv, guardEv, opE_mov, opE_pick, opE_bin, opE_call, St.opd, look_set, look_cons, St.put, argsT, resEv, bin_ige, bin_ieq, in_int, loc_int, loc_bool, callWith, keepL, List.map, List.length, List.any, Option.map_some, Nat.reduceEqDiff, Int.reduceEq, Nat.reduceAdd, Nat.reduceLT, if_true, if_false, Bool.or_false, Bool.false_eq_true, Nat.succ_ne_self, decide_true, decide_false, keepT_setT, keepT_lit, h0, q]
    · simp only [codeEv, opsEv, oneEv, guardEv, opE_mov, opE_pick, opE_bin, opE_call, St.opd, look_set, look_cons, St.put, argsT, resEv, bin_ige, bin_ieq, in_int, loc_int, loc_bool, callWith, keepL, List.map, List.length, List.any, Option.map_some, Nat.reduceEqDiff, Int.reduceEq, Nat.reduceAdd, Nat.reduceLT, if_true, if_false, Bool.or_false, Bool.false_eq_true, Nat.succ_ne_self, decide_true, decide_false, keepT_setT, keepT_lit, h0, q]
  by_cases h1 : w = 1
  · by_cases q1 : 0 ≤ x
    · by_cases q2 : x ≤ 1048576
      · simp only [codeEv, opsEv, oneEv, guardEv, opE_mov, opE_pick, opE_bin, opE_call, St.opd, look_set, look_cons, St.put, argsT, resEv, bin_ile, bin_ige, bin_ieq, in_int, loc_int, loc_bool, callWith, keepL, List.map, List.length, List.any, Option.map_some, Nat.reduceEqDiff, Int.reduceEq, Nat.reduceAdd, Nat.reduceLT, if_true, if_false, Bool.and_true, Bool.true_and, Bool.or_false, beq_self_eq_true, Bool.false_eq_true, Nat.succ_ne_self, decide_true, decide_false, keepT_setT, keepT_lit, h1, q1, q2]
      · simp only [codeEv, opsEv, oneEv, guardEv, opE_mov, opE_pick, opE_bin, opE_call, St.opd, look_set, look_cons, St.put, argsT, resEv, bin_ile, bin_ige, bin_ieq, in_int, loc_int, loc_bool, callWith, keepL, List.map, List.length, List.any, Option.map_some, Nat.reduceEqDiff, Int.reduceEq, Nat.reduceAdd, Nat.reduceLT, if_true, if_false, Bool.true_and, Bool.and_false, Bool.or_false, beq_self_eq_true, Bool.false_eq_true, Nat.succ_ne_self, decide_true, decide_false, keepT_setT, keepT_lit, h1, q1, q2]
    · simp only [codeEv, opsEv, oneEv, guardEv, opE_mov, opE_pick, opE_bin, opE_call, St.opd, look_set, look_cons, St.put, argsT, resEv, bin_ige, bin_ieq, in_int, loc_int, loc_bool, callWith, keepL, List.map, List.length, List.any, Option.map_some, Nat.reduceEqDiff, Int.reduceEq, Nat.reduceAdd, Nat.reduceLT, if_true, if_false, Bool.false_and, Bool.or_false, Bool.false_eq_true, Nat.succ_ne_self, decide_true, decide_false, beq_ft, keepT_setT, keepT_lit, h1, q1]
  by_cases h2 : w = 2
  · by_cases q1 : 0 ≤ x
    · by_cases q2 : x ≤ 4294967295
      · simp only [codeEv, opsEv, oneEv, guardEv, opE_mov, opE_pick, opE_bin, opE_call, St.opd, look_set, look_cons, St.put, argsT, resEv, bin_ile, bin_ige, bin_ieq, in_int, loc_int, loc_bool, callWith, keepL, List.map, List.length, List.any, Option.map_some, Nat.reduceEqDiff, Int.reduceEq, Nat.reduceAdd, Nat.reduceLT, if_true, if_false, Bool.and_true, Bool.true_and, Bool.or_false, beq_self_eq_true, Bool.false_eq_true, Nat.succ_ne_self, decide_true, decide_false, keepT_setT, keepT_lit, h2, q1, q2]
      · simp only [codeEv, opsEv, oneEv, guardEv, opE_mov, opE_pick, opE_bin, opE_call, St.opd, look_set, look_cons, St.put, argsT, resEv, bin_ile, bin_ige, bin_ieq, in_int, loc_int, loc_bool, callWith, keepL, List.map, List.length, List.any, Option.map_some, Nat.reduceEqDiff, Int.reduceEq, Nat.reduceAdd, Nat.reduceLT, if_true, if_false, Bool.true_and, Bool.and_false, Bool.or_false, beq_self_eq_true, Bool.false_eq_true, Nat.succ_ne_self, decide_true, decide_false, keepT_setT, keepT_lit, h2, q1, q2]
    · simp only [codeEv, opsEv, oneEv, guardEv, opE_mov, opE_pick, opE_bin, opE_call, St.opd, look_set, look_cons, St.put, argsT, resEv, bin_ige, bin_ieq, in_int, loc_int, loc_bool, callWith, keepL, List.map, List.length, List.any, Option.map_some, Nat.reduceEqDiff, Int.reduceEq, Nat.reduceAdd, Nat.reduceLT, if_true, if_false, Bool.false_and, Bool.or_false, Bool.false_eq_true, Nat.succ_ne_self, decide_true, decide_false, beq_ft, keepT_setT, keepT_lit, h2, q1]
  by_cases h3 : w = 3
  · by_cases q1 : x = 8
    · have q1 := eq_true q1
      simp only [codeEv, opsEv, oneEv, guardEv, opE_mov, opE_pick, opE_bin, opE_call, St.opd, look_set, look_cons, St.put, argsT, resEv, bin_ige, bin_ieq, in_int, loc_int, loc_bool, callWith, keepL, List.map, List.length, List.any, Option.map_some, Nat.reduceEqDiff, Int.reduceEq, Nat.reduceAdd, Nat.reduceLT, if_true, if_false, Bool.or_false, Bool.true_or, Bool.false_eq_true, Nat.succ_ne_self, decide_true, decide_false, beq_tf, keepT_setT, keepT_lit, h3, q1]
    · by_cases q2 : x = 16
      · have q2 := eq_true q2
        simp only [codeEv, opsEv, oneEv, guardEv, opE_mov, opE_pick, opE_bin, opE_call, St.opd, look_set, look_cons, St.put, argsT, resEv, bin_ige, bin_ieq, in_int, loc_int, loc_bool, callWith, keepL, List.map, List.length, List.any, Option.map_some, Nat.reduceEqDiff, Int.reduceEq, Nat.reduceAdd, Nat.reduceLT, if_true, if_false, Bool.or_true, Bool.or_false, Bool.true_or, beq_self_eq_true, Bool.false_eq_true, Nat.succ_ne_self, decide_true, decide_false, beq_tf, keepT_setT, keepT_lit, h3, q1, q2]
      · by_cases q3 : x = 32
        · have q3 := eq_true q3
          simp only [codeEv, opsEv, oneEv, guardEv, opE_mov, opE_pick, opE_bin, opE_call, St.opd, look_set, look_cons, St.put, argsT, resEv, bin_ige, bin_ieq, in_int, loc_int, loc_bool, callWith, keepL, List.map, List.length, List.any, Option.map_some, Nat.reduceEqDiff, Int.reduceEq, Nat.reduceAdd, Nat.reduceLT, if_true, if_false, Bool.or_true, Bool.or_false, beq_self_eq_true, Bool.false_eq_true, Nat.succ_ne_self, decide_true, decide_false, keepT_setT, keepT_lit, h3, q1, q2, q3]
        · simp only [codeEv, opsEv, oneEv, guardEv, opE_mov, opE_pick, opE_bin, opE_call, St.opd, look_set, look_cons, St.put, argsT, resEv, bin_ige, bin_ieq, in_int, loc_int, loc_bool, callWith, keepL, List.map, List.length, List.any, Option.map_some, Nat.reduceEqDiff, Int.reduceEq, Nat.reduceAdd, Nat.reduceLT, if_true, if_false, Bool.or_false, beq_self_eq_true, Bool.false_eq_true, Nat.succ_ne_self, decide_true, decide_false, keepT_setT, keepT_lit, h3, q1, q2, q3]
  by_cases h4 : w = 4
  · by_cases q1 : 1 ≤ x
    · by_cases q2 : x ≤ 1048576
      · simp only [codeEv, opsEv, oneEv, guardEv, opE_mov, opE_pick, opE_bin, opE_call, St.opd, look_set, look_cons, St.put, argsT, resEv, bin_ile, bin_ige, bin_ieq, in_int, loc_int, loc_bool, callWith, keepL, List.map, List.length, List.any, Option.map_some, Nat.reduceEqDiff, Int.reduceEq, Nat.reduceAdd, Nat.reduceLT, if_true, if_false, Bool.and_true, Bool.true_and, Bool.or_false, beq_self_eq_true, Bool.false_eq_true, Nat.succ_ne_self, decide_true, decide_false, keepT_setT, keepT_lit, h4, q1, q2]
      · simp only [codeEv, opsEv, oneEv, guardEv, opE_mov, opE_pick, opE_bin, opE_call, St.opd, look_set, look_cons, St.put, argsT, resEv, bin_ile, bin_ige, bin_ieq, in_int, loc_int, loc_bool, callWith, keepL, List.map, List.length, List.any, Option.map_some, Nat.reduceEqDiff, Int.reduceEq, Nat.reduceAdd, Nat.reduceLT, if_true, if_false, Bool.true_and, Bool.and_false, Bool.or_false, beq_self_eq_true, Bool.false_eq_true, Nat.succ_ne_self, decide_true, decide_false, keepT_setT, keepT_lit, h4, q1, q2]
    · simp only [codeEv, opsEv, oneEv, guardEv, opE_mov, opE_pick, opE_bin, opE_call, St.opd, look_set, look_cons, St.put, argsT, resEv, bin_ige, bin_ieq, in_int, loc_int, loc_bool, callWith, keepL, List.map, List.length, List.any, Option.map_some, Nat.reduceEqDiff, Int.reduceEq, Nat.reduceAdd, Nat.reduceLT, if_true, if_false, Bool.false_and, Bool.or_false, Bool.false_eq_true, Nat.succ_ne_self, decide_true, decide_false, beq_ft, keepT_setT, keepT_lit, h4, q1]
  by_cases h5 : w = 5
  · by_cases q1 : 0 ≤ x
    · by_cases q2 : x ≤ 31
      · simp only [codeEv, opsEv, oneEv, guardEv, opE_mov, opE_pick, opE_bin, opE_call, St.opd, look_set, look_cons, St.put, argsT, resEv, bin_ile, bin_ige, bin_ieq, in_int, loc_int, loc_bool, callWith, keepL, List.map, List.length, List.any, Option.map_some, Nat.reduceEqDiff, Int.reduceEq, Nat.reduceAdd, Nat.reduceLT, if_true, if_false, Bool.and_true, Bool.true_and, Bool.or_false, beq_self_eq_true, Bool.false_eq_true, Nat.succ_ne_self, decide_true, decide_false, keepT_setT, keepT_lit, h5, q1, q2]
      · simp only [codeEv, opsEv, oneEv, guardEv, opE_mov, opE_pick, opE_bin, opE_call, St.opd, look_set, look_cons, St.put, argsT, resEv, bin_ile, bin_ige, bin_ieq, in_int, loc_int, loc_bool, callWith, keepL, List.map, List.length, List.any, Option.map_some, Nat.reduceEqDiff, Int.reduceEq, Nat.reduceAdd, Nat.reduceLT, if_true, if_false, Bool.true_and, Bool.and_false, Bool.or_false, beq_self_eq_true, Bool.false_eq_true, Nat.succ_ne_self, decide_true, decide_false, keepT_setT, keepT_lit, h5, q1, q2]
    · simp only [codeEv, opsEv, oneEv, guardEv, opE_mov, opE_pick, opE_bin, opE_call, St.opd, look_set, look_cons, St.put, argsT, resEv, bin_ige, bin_ieq, in_int, loc_int, loc_bool, callWith, keepL, List.map, List.length, List.any, Option.map_some, Nat.reduceEqDiff, Int.reduceEq, Nat.reduceAdd, Nat.reduceLT, if_true, if_false, Bool.false_and, Bool.or_false, Bool.false_eq_true, Nat.succ_ne_self, decide_true, decide_false, beq_ft, keepT_setT, keepT_lit, h5, q1]
  by_cases h6 : w = 6
  · by_cases q1 : 0 ≤ x
    · by_cases q2 : x ≤ 15
      · simp only [codeEv, opsEv, oneEv, guardEv, opE_mov, opE_pick, opE_bin, opE_call, St.opd, look_set, look_cons, St.put, argsT, resEv, bin_ile, bin_ige, bin_ieq, in_int, loc_int, loc_bool, callWith, keepL, List.map, List.length, List.any, Option.map_some, Nat.reduceEqDiff, Int.reduceEq, Nat.reduceAdd, Nat.reduceLT, if_true, if_false, Bool.and_true, Bool.true_and, Bool.or_false, beq_self_eq_true, Bool.false_eq_true, Nat.succ_ne_self, decide_true, decide_false, keepT_setT, keepT_lit, h6, q1, q2]
      · simp only [codeEv, opsEv, oneEv, guardEv, opE_mov, opE_pick, opE_bin, opE_call, St.opd, look_set, look_cons, St.put, argsT, resEv, bin_ile, bin_ige, bin_ieq, in_int, loc_int, loc_bool, callWith, keepL, List.map, List.length, List.any, Option.map_some, Nat.reduceEqDiff, Int.reduceEq, Nat.reduceAdd, Nat.reduceLT, if_true, if_false, Bool.true_and, Bool.and_false, Bool.or_false, beq_self_eq_true, Bool.false_eq_true, Nat.succ_ne_self, decide_true, decide_false, keepT_setT, keepT_lit, h6, q1, q2]
    · simp only [codeEv, opsEv, oneEv, guardEv, opE_mov, opE_pick, opE_bin, opE_call, St.opd, look_set, look_cons, St.put, argsT, resEv, bin_ige, bin_ieq, in_int, loc_int, loc_bool, callWith, keepL, List.map, List.length, List.any, Option.map_some, Nat.reduceEqDiff, Int.reduceEq, Nat.reduceAdd, Nat.reduceLT, if_true, if_false, Bool.false_and, Bool.or_false, Bool.false_eq_true, Nat.succ_ne_self, decide_true, decide_false, beq_ft, keepT_setT, keepT_lit, h6, q1]
  by_cases h7 : w = 7
  · simp only [codeEv, opsEv, oneEv, guardEv, opE_mov, opE_pick, opE_bin, opE_call, St.opd, look_set, look_cons, St.put, argsT, resEv, bin_ige, bin_ieq, in_int, loc_int, loc_bool, callWith, keepL, List.map, List.length, List.any, Option.map_some, Nat.reduceEqDiff, Int.reduceEq, Nat.reduceAdd, Nat.reduceLT, if_true, if_false, Bool.or_false, Bool.false_eq_true, Nat.succ_ne_self, decide_true, decide_false, keepT_setT, keepT_lit, h7, c1, str_ne, e1, Bool.not_not]
  · simp only [codeEv, opsEv, oneEv, guardEv, opE_mov, opE_pick, opE_bin, opE_call, St.opd, look_set, look_cons, St.put, argsT, resEv, bin_ige, bin_ieq, in_int, loc_int, loc_bool, callWith, keepL, List.map, List.length, List.any, Option.map_some, Nat.reduceEqDiff, Nat.reduceAdd, Nat.reduceLT, if_true, if_false, Bool.or_false, Bool.false_eq_true, Nat.succ_ne_self, decide_false, keepT_setT, keepT_lit, h0, h1, h2, h3, h4, h5, h6, h7, c2, str_ne, e2, Bool.not_not]


end AG
