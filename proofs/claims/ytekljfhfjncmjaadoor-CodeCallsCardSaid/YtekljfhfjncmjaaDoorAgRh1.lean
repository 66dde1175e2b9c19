/- What the functions of instructions and their texts compute, and the laws of that. -/
import Derived.Test.YtekljfhfjncmjaaDoorAgCh5
namespace AG
open Go Go.Proofs.YtekljfhfjncmjaaDoor
set_option maxRecDepth 100000
set_option maxHeartbeats 4000000
/-- What was there is there, and at most k blocks are new. -/
def Gr (m m' : Mem) (k : Nat) : Prop := Ext m m' ∧ m'.n ≤ m.n + k
theorem Gr.refl (m : Mem) : Gr m m 0 := ⟨Ext.refl m, Nat.le_refl _⟩
theorem Gr.trans {a b c : Mem} {j k : Nat} (h : Gr a b j) (i : Gr b c k) : Gr a c (j + k) := ⟨h.1.trans i.1, by have := h.2; have := i.2; omega⟩
theorem Gr.le {a b : Mem} {j k : Nat} (h : Gr a b j) (hk : j ≤ k) : Gr a b k := ⟨h.1, by have := h.2; omega⟩
theorem Gr.push (m : Mem) (b : ABlk) (hf : m.n < 2 ^ depth) : Gr m (m.push b) 1 := ⟨(Ext.refl m).push b hf, by rw [push_n]; omega⟩
def signI (x : Int) : ByteArray := if 1 ≤ x ∧ x < 20 then signB x.toNat else ⟨#[]⟩
def unI (x : Int) : ByteArray := if 1 ≤ x ∧ x < 4 then unB x.toNat else ⟨#[]⟩
def uns : List AV := [.str ⟨#[]⟩, .str ⟨#[110, 101, 103]⟩, .str ⟨#[110, 111, 116]⟩, .str ⟨#[122, 101, 114, 111]⟩]
theorem uns_at : ∀ j, j < 4 → uns[j]? = some (.str (unB j))
  | 0, _ => rfl
  | 1, _ => rfl
  | 2, _ => rfl
  | 3, _ => rfl
  | k + 4, h => absurd h (by omega)
theorem signs_at' (j : Nat) (h : j < 20) : signs[j]? = some (.str (signB j)) := by
  obtain ⟨s, h1, _⟩ := signs_at j h
  rw [h1]
  unfold signB strAt
  rw [h1]

theorem sgn_fill0 : fillEv (zerosEv [.str ⟨#[]⟩] (20 * 1)) [(0 * 1, 1, (.str ⟨#[]⟩)), (1 * 1, 1, (.str ⟨#[43]⟩)), (2 * 1, 1, (.str ⟨#[45]⟩)), (3 * 1, 1, (.str ⟨#[42]⟩)), (4 * 1, 1, (.str ⟨#[47]⟩)), (5 * 1, 1, (.str ⟨#[37]⟩)), (6 * 1, 1, (.str ⟨#[115, 47]⟩)), (7 * 1, 1, (.str ⟨#[115, 37]⟩)), (8 * 1, 1, (.str ⟨#[38]⟩)), (9 * 1, 1, (.str ⟨#[124]⟩)), (10 * 1, 1, (.str ⟨#[94]⟩)), (11 * 1, 1, (.str ⟨#[60, 60]⟩)), (12 * 1, 1, (.str ⟨#[62, 62]⟩)), (13 * 1, 1, (.str ⟨#[115, 62, 62]⟩)), (14 * 1, 1, (.str ⟨#[61, 61]⟩)), (15 * 1, 1, (.str ⟨#[33, 61]⟩)), (16 * 1, 1, (.str ⟨#[60]⟩)), (17 * 1, 1, (.str ⟨#[60, 61]⟩)), (18 * 1, 1, (.str ⟨#[115, 60]⟩)), (19 * 1, 1, (.str ⟨#[115, 60, 61]⟩))] = some signs := by kernel_rfl
theorem sgn_fill' (call : Caller) (s : St) : opEv call (.mkslc 1 20 [(.str ⟨#[]⟩)] [(0, (.val (.str ⟨#[]⟩))), (1, (.val (.str ⟨#[43]⟩))), (2, (.val (.str ⟨#[45]⟩))), (3, (.val (.str ⟨#[42]⟩))), (4, (.val (.str ⟨#[47]⟩))), (5, (.val (.str ⟨#[37]⟩))), (6, (.val (.str ⟨#[115, 47]⟩))), (7, (.val (.str ⟨#[115, 37]⟩))), (8, (.val (.str ⟨#[38]⟩))), (9, (.val (.str ⟨#[124]⟩))), (10, (.val (.str ⟨#[94]⟩))), (11, (.val (.str ⟨#[60, 60]⟩))), (12, (.val (.str ⟨#[62, 62]⟩))), (13, (.val (.str ⟨#[115, 62, 62]⟩))), (14, (.val (.str ⟨#[61, 61]⟩))), (15, (.val (.str ⟨#[33, 61]⟩))), (16, (.val (.str ⟨#[60]⟩))), (17, (.val (.str ⟨#[60, 61]⟩))), (18, (.val (.str ⟨#[115, 60]⟩))), (19, (.val (.str ⟨#[115, 60, 61]⟩)))]) s = if s.m.full then none else some (.slice s.m.n 0 20 (some 20) 1, { s with m := s.m.push (.cells signs true) }) := by
  rw [opE_mkslc, if_pos (by decide)]
  have h := sgn_fill0
  simp only [List.map, St.opd]
  rw [h]
theorem sgn_run (N : Nat) (hN : 1 ≤ N) (x : Int) (m : Mem) (hmn : m.n + 1 ≤ 2 ^ depth) : run A N 47 [.int .i64 x] m = some (.str (signI x), m.push (.cells signs true)) := by
  obtain ⟨n, rfl⟩ : ∃ n, N = n + 1 := ⟨N - 1, by omega⟩
  have hf : m.full = false := not_full (by omega)
  rw [run_47]
  unfold fnEv a47
  by_cases h1 : x < 1
  · have e : signI x = ⟨#[]⟩ := if_neg (by omega)
    rw [e]
    simp only [codeEv, opsEv, oneEv, guardEv, opE_mov, opE_pick, sgn_fill', opE_bin, St.opd, look_set, look_nil, look_cons, St.put, argsT, resEv, bin_ilt, in_int, in_slice, loc_str, keepL, List.map, List.length, Option.map_some, Nat.reduceEqDiff, Nat.reduceAdd, Nat.reduceLT, if_true, if_false, Bool.false_eq_true, Nat.succ_ne_self, decide_true, beq_tf, keepT_setT, keepT_lit, hf, h1]
  · by_cases h2 : x ≥ ((20 : Nat) : Int)
    · have e : signI x = ⟨#[]⟩ := if_neg (by omega)
      rw [e]
      simp only [codeEv, opsEv, oneEv, guardEv, opE_mov, opE_pick, sgn_fill', opE_bin, opE_lenL, lenR_slice, St.opd, look_set, look_nil, look_cons, St.put, argsT, resEv, bin_ilt, bin_ige, in_int, in_slice, loc_str, keepL, List.map, List.length, Option.map_some, Nat.reduceEqDiff, Nat.reduceAdd, Nat.reduceLT, if_true, if_false, beq_self_eq_true, Bool.false_eq_true, Nat.succ_ne_self, decide_true, decide_false, keepT_setT, keepT_lit, hf, h1, h2]
    · have e : signI x = signB x.toNat := if_pos (by omega)
      rw [e]
      have hb : 0 ≤ x ∧ x < ((20 : Nat) : Int) := by omega
      have hg : (m.push (.cells signs true)).get m.n = some (.cells signs true) := Mem.get_push_new _
      have hc : cellsAt signs (0 + x.toNat * 1) 1 = some [.str (signB x.toNat)] := by
        rw [Nat.zero_add, Nat.mul_one]
        exact cells_one (signs_at' _ (by omega))
      simp only [codeEv, opsEv, oneEv, guardEv, opE_mov, opE_pick, sgn_fill', opE_load1, opE_bin, opE_iaddrL, opE_lenL, lenR_slice, elemR_slice, St.opd, look_set, look_nil, look_cons, St.put, St.read, argsT, resEv, bin_ilt, bin_ige, in_int, in_slice, loc_str, keepL, List.map, List.length, Option.map_some, Nat.reduceEqDiff, Nat.reduceAdd, Nat.reduceLT, if_true, if_false, beq_self_eq_true, Bool.false_eq_true, Nat.succ_ne_self, decide_false, keepT_setT, keepT_lit, and_self, hf, h1, h2, hb, hg, hc]

theorem nam_fill0 : fillEv (zerosEv [.str ⟨#[]⟩] (4 * 1)) [(0 * 1, 1, (.str ⟨#[]⟩)), (1 * 1, 1, (.str ⟨#[110, 101, 103]⟩)), (2 * 1, 1, (.str ⟨#[110, 111, 116]⟩)), (3 * 1, 1, (.str ⟨#[122, 101, 114, 111]⟩))] = some uns := by kernel_rfl
theorem nam_fill' (call : Caller) (s : St) : opEv call (.mkslc 1 4 [(.str ⟨#[]⟩)] [(0, (.val (.str ⟨#[]⟩))), (1, (.val (.str ⟨#[110, 101, 103]⟩))), (2, (.val (.str ⟨#[110, 111, 116]⟩))), (3, (.val (.str ⟨#[122, 101, 114, 111]⟩)))]) s = if s.m.full then none else some (.slice s.m.n 0 4 (some 4) 1, { s with m := s.m.push (.cells uns true) }) := by
  rw [opE_mkslc, if_pos (by decide)]
  have h := nam_fill0
  simp only [List.map, St.opd]
  rw [h]
theorem nam_run (N : Nat) (hN : 1 ≤ N) (x : Int) (m : Mem) (hmn : m.n + 1 ≤ 2 ^ depth) : run A N 48 [.int .i64 x] m = some (.str (unI x), m.push (.cells uns true)) := by
  obtain ⟨n, rfl⟩ : ∃ n, N = n + 1 := ⟨N - 1, by omega⟩
  have hf : m.full = false := not_full (by omega)
  rw [run_48]
  unfold fnEv a48
  by_cases h1 : x < 1
  · have e : unI x = ⟨#[]⟩ := if_neg (by omega)
    rw [e]
    simp only [codeEv, opsEv, oneEv, guardEv, opE_mov, opE_pick, nam_fill', opE_bin, St.opd, look_set, look_nil, look_cons, St.put, argsT, resEv, bin_ilt, in_int, in_slice, loc_str, keepL, List.map, List.length, Option.map_some, Nat.reduceEqDiff, Nat.reduceAdd, Nat.reduceLT, if_true, if_false, Bool.false_eq_true, Nat.succ_ne_self, decide_true, beq_tf, keepT_setT, keepT_lit, hf, h1]
  · by_cases h2 : x ≥ ((4 : Nat) : Int)
    · have e : unI x = ⟨#[]⟩ := if_neg (by omega)
      rw [e]
      simp only [codeEv, opsEv, oneEv, guardEv, opE_mov, opE_pick, nam_fill', opE_bin, opE_lenL, lenR_slice, St.opd, look_set, look_nil, look_cons, St.put, argsT, resEv, bin_ilt, bin_ige, in_int, in_slice, loc_str, keepL, List.map, List.length, Option.map_some, Nat.reduceEqDiff, Nat.reduceAdd, Nat.reduceLT, if_true, if_false, beq_self_eq_true, Bool.false_eq_true, Nat.succ_ne_self, decide_true, decide_false, keepT_setT, keepT_lit, hf, h1, h2]
    · have e : unI x = unB x.toNat := if_pos (by omega)
      rw [e]
      have hb : 0 ≤ x ∧ x < ((4 : Nat) : Int) := by omega
      have hg : (m.push (.cells uns true)).get m.n = some (.cells uns true) := Mem.get_push_new _
      have hc : cellsAt uns (0 + x.toNat * 1) 1 = some [.str (unB x.toNat)] := by
        rw [Nat.zero_add, Nat.mul_one]
        exact cells_one (uns_at _ (by omega))
      simp only [codeEv, opsEv, oneEv, guardEv, opE_mov, opE_pick, nam_fill', opE_load1, opE_bin, opE_iaddrL, opE_lenL, lenR_slice, elemR_slice, St.opd, look_set, look_nil, look_cons, St.put, St.read, argsT, resEv, bin_ilt, bin_ige, in_int, in_slice, loc_str, keepL, List.map, List.length, Option.map_some, Nat.reduceEqDiff, Nat.reduceAdd, Nat.reduceLT, if_true, if_false, beq_self_eq_true, Bool.false_eq_true, Nat.succ_ne_self, decide_false, keepT_setT, keepT_lit, and_self, hf, h1, h2, hb, hg, hc]

/-- What a number of an instruction is, as the reference counts. -/
def refK (w : Int) : Int := if w = 0 then 0 else if w = 1 then 2 else if w = 2 then 1 else if w = 3 then 4 else if w = 4 then 3 else if w = 5 then 7 else if w = 6 then 8 else if w = 7 then 5 else 6
def hR (j : Nat) (op : Int) : Int := if 1 ≤ op ∧ op < 25 then refK (kx j op.toNat) else 0
theorem has_in (n : Nat) (m : Mem) : ∀ k : Nat, k < 25 → run A (n + 1) 44 [.int .i64 (k : Int)] m = some (.agg [.int .i64 (hR 1 k), .int .i64 (hR 2 k), .int .i64 (hR 3 k)], m)
  | 0, _ => by kernel_rfl
  | 1, _ => by kernel_rfl
  | 2, _ => by kernel_rfl
  | 3, _ => by kernel_rfl
  | 4, _ => by kernel_rfl
  | 5, _ => by kernel_rfl
  | 6, _ => by kernel_rfl
  | 7, _ => by kernel_rfl
  | 8, _ => by kernel_rfl
  | 9, _ => by kernel_rfl
  | 10, _ => by kernel_rfl
  | 11, _ => by kernel_rfl
  | 12, _ => by kernel_rfl
  | 13, _ => by kernel_rfl
  | 14, _ => by kernel_rfl
  | 15, _ => by kernel_rfl
  | 16, _ => by kernel_rfl
  | 17, _ => by kernel_rfl
  | 18, _ => by kernel_rfl
  | 19, _ => by kernel_rfl
  | 20, _ => by kernel_rfl
  | 21, _ => by kernel_rfl
  | 22, _ => by kernel_rfl
  | 23, _ => by kernel_rfl
  | 24, _ => by kernel_rfl
  | k + 25, h => absurd h (by omega)

theorem has_run (N : Nat) (hN : 1 ≤ N) (op : Int) (m : Mem) : run A N 44 [.int .i64 op] m = some (.agg [.int .i64 (hR 1 op), .int .i64 (hR 2 op), .int .i64 (hR 3 op)], m) := by
  obtain ⟨n, rfl⟩ : ∃ n, N = n + 1 := ⟨N - 1, by omega⟩
  by_cases h : 0 ≤ op ∧ op < 25
  · have := has_in n m op.toNat (by omega)
    have e : (op.toNat : Int) = op := by omega
    rw [e] at this
    exact this
  · have hz : ∀ j, hR j op = 0 := fun j => if_neg (by omega)
    rw [hz, hz, hz, run_44]
    unfold fnEv a44
    have h2 : ¬ op = 2 := by omega
    have h4 : ¬ op = 4 := by omega
    have h8 : ¬ op = 8 := by omega
    have h10 : ¬ op = 10 := by omega
    have h11 : ¬ op = 11 := by omega
    have h15 : ¬ op = 15 := by omega
    have h16 : ¬ op = 16 := by omega
    have h17 : ¬ op = 17 := by omega
    have h23 : ¬ op = 23 := by omega
    have h24 : ¬ op = 24 := by omega
    have h5 : ¬ op = 5 := by omega
    have h9 : ¬ op = 9 := by omega
    have h6 : ¬ op = 6 := by omega
    have h7 : ¬ op = 7 := by omega
    have h12 : ¬ op = 12 := by omega
    have h13 : ¬ op = 13 := by omega
    have h14 : ¬ op = 14 := by omega
    have h19 : ¬ op = 19 := by omega
    have h20 : ¬ op = 20 := by omega
    have h21 : ¬ op = 21 := by omega
    simp only [codeEv, opsEv, oneEv, guardEv, opE_mov, opE_alloc, opE_store, opE_bin, St.opd, look_set, look_nil, look_cons, St.put, St.new, St.read, St.write, lookL_nil, lookL_cons, setL_nil, setL_cons, cellsAt_cons, splice, argsT, resEv, bin_ieq, in_int, in_loc, List.contains_cons, List.contains_nil, one_int, cells_int, loc_agg, cells_agg, fillEv, keepL, List.append_nil, List.map, List.length, List.take, List.drop, List.all, List.cons_append, List.nil_append, List.take_succ_cons, List.drop_succ_cons, List.length_cons, Option.map_some, Nat.reduceEqDiff, Nat.reduceAdd, Nat.reduceLeDiff, Nat.reduceLT, if_true, if_false, Bool.and_true, Bool.or_false, Bool.not_false, List.isEmpty_cons, beq_self_eq_true, Bool.false_eq_true, Nat.succ_ne_self, decide_false, keepT_setT, keepT_lit, List.take_succ_cons, opE_build, h2, h4, h8, h10, h11, h15, h16, h17, h23, h24, h5, h9, h6, h7, h12, h13, h14, h19, h20, h21]
theorem signI_ne (x : Int) : (!((signI x).toList == (ByteArray.mk #[]).toList)) = (decide (1 ≤ x) && decide (x ≤ 19)) := by
  unfold signI
  by_cases h : 1 ≤ x ∧ x < 20
  · rw [if_pos h]
    obtain ⟨s, h1, h2⟩ := signs_at x.toNat (by omega)
    have e : signB x.toNat = s := by unfold signB strAt; rw [h1]
    unfold isNo at h2
    rw [e, h2, decide_eq_false (by omega), decide_eq_true h.1, decide_eq_true (by omega : x ≤ 19)]
    rfl
  · rw [if_neg h]
    have : (decide (1 ≤ x) && decide (x ≤ 19)) = false := by
      simp only [Bool.and_eq_false_iff, decide_eq_false_iff_not]; omega
    rw [this]
    decide +kernel
theorem unI_ne (x : Int) : (!((unI x).toList == (ByteArray.mk #[]).toList)) = (decide (1 ≤ x) && decide (x ≤ 3)) := by
  unfold unI
  by_cases h : 1 ≤ x ∧ x < 4
  · rw [if_pos h]
    have hh : x = 1 ∨ x = 2 ∨ x = 3 := by omega
    rcases hh with rfl | rfl | rfl <;> decide +kernel
  · rw [if_neg h]
    have : (decide (1 ≤ x) && decide (x ≤ 3)) = false := by
      simp only [Bool.and_eq_false_iff, decide_eq_false_iff_not]; omega
    rw [this]
    decide +kernel
theorem may_0 (n : Nat) (x : Int) (m : Mem) (_hmn : m.n + 1 ≤ 2 ^ depth) : ∃ m', run A (n + 2) 46 [.int .i64 0, .int .i64 x] m = some (.bool (fitsI 0 x), m') ∧ Gr m m' 1 := by
  by_cases q1 : x = 0
  · have q1' := eq_true q1
    refine ⟨m, ?_, (Gr.refl m).le (by omega)⟩
    have hF : fitsI 0 x = true := by simp [fitsI]; omega
    rw [hF, run_46]
    unfold fnEv a46
    simp only [codeEv, opsEv, oneEv, guardEv, opE_mov, opE_pick, opE_bin, opE_call, St.opd, look_set, look_nil, look_cons, St.put, argsT, resEv, bin_ige, bin_ieq, in_int, loc_int, loc_bool, callWith, keepL, List.map, List.length, List.any, Option.map_some, Nat.reduceEqDiff, Int.reduceEq, Nat.reduceAdd, Nat.reduceLT, if_true, if_false, Bool.or_false, Bool.false_eq_true, Nat.succ_ne_self, decide_true, decide_false, keepT_setT, keepT_lit, q1']
  · refine ⟨m, ?_, (Gr.refl m).le (by omega)⟩
    have hF : fitsI 0 x = false := by simp [fitsI]; omega
    rw [hF, run_46]
    unfold fnEv a46
    simp only [codeEv, opsEv, oneEv, guardEv, opE_mov, opE_pick, opE_bin, opE_call, St.opd, look_set, look_nil, look_cons, St.put, argsT, resEv, bin_ige, bin_ieq, in_int, loc_int, loc_bool, callWith, keepL, List.map, List.length, List.any, Option.map_some, Nat.reduceEqDiff, Int.reduceEq, Nat.reduceAdd, Nat.reduceLT, if_true, if_false, Bool.or_false, Bool.false_eq_true, Nat.succ_ne_self, decide_false, keepT_setT, keepT_lit, q1]
theorem may_1 (n : Nat) (x : Int) (m : Mem) (_hmn : m.n + 1 ≤ 2 ^ depth) : ∃ m', run A (n + 2) 46 [.int .i64 2, .int .i64 x] m = some (.bool (fitsI 1 x), m') ∧ Gr m m' 1 := by
  by_cases q1 : x ≥ 0
  · by_cases q2 : x ≤ 1048576
    · refine ⟨m, ?_, (Gr.refl m).le (by omega)⟩
      have hF : fitsI 1 x = true := by simp [fitsI]; omega
      rw [hF, run_46]
      unfold fnEv a46
      simp only [codeEv, opsEv, oneEv, guardEv, opE_mov, opE_pick, opE_bin, opE_call, St.opd, look_set, look_nil, look_cons, St.put, argsT, resEv, bin_ilt, bin_ile, bin_ige, bin_ieq, in_int, loc_int, loc_bool, callWith, keepL, List.map, List.length, List.any, Option.map_some, Nat.reduceEqDiff, Int.reduceEq, Nat.reduceAdd, Nat.reduceLT, if_true, if_false, Bool.or_false, beq_self_eq_true, Bool.false_eq_true, Nat.succ_ne_self, decide_true, decide_false, keepT_setT, keepT_lit, q1, q2]
    · refine ⟨m, ?_, (Gr.refl m).le (by omega)⟩
      have hF : fitsI 1 x = false := by simp [fitsI]; omega
      rw [hF, run_46]
      unfold fnEv a46
      simp only [codeEv, opsEv, oneEv, guardEv, opE_mov, opE_pick, opE_bin, opE_call, St.opd, look_set, look_nil, look_cons, St.put, argsT, resEv, bin_ilt, bin_ile, bin_ige, bin_ieq, in_int, loc_int, loc_bool, callWith, keepL, List.map, List.length, List.any, Option.map_some, Nat.reduceEqDiff, Int.reduceEq, Nat.reduceAdd, Nat.reduceLT, if_true, if_false, Bool.or_false, beq_self_eq_true, Bool.false_eq_true, Nat.succ_ne_self, decide_true, decide_false, keepT_setT, keepT_lit, q1, q2]
  · refine ⟨m, ?_, (Gr.refl m).le (by omega)⟩
    have hF : fitsI 1 x = false := by simp [fitsI]; omega
    rw [hF, run_46]
    unfold fnEv a46
    simp only [codeEv, opsEv, oneEv, guardEv, opE_mov, opE_pick, opE_bin, opE_call, St.opd, look_set, look_nil, look_cons, St.put, argsT, resEv, bin_ige, bin_ieq, in_int, loc_int, loc_bool, callWith, keepL, List.map, List.length, List.any, Option.map_some, Nat.reduceEqDiff, Int.reduceEq, Nat.reduceAdd, Nat.reduceLT, if_true, if_false, Bool.or_false, Bool.false_eq_true, Nat.succ_ne_self, decide_true, decide_false, beq_ft, keepT_setT, keepT_lit, q1]
theorem may_2 (n : Nat) (x : Int) (m : Mem) (_hmn : m.n + 1 ≤ 2 ^ depth) : ∃ m', run A (n + 2) 46 [.int .i64 1, .int .i64 x] m = some (.bool (fitsI 2 x), m') ∧ Gr m m' 1 := by
  by_cases q1 : x ≥ 0
  · by_cases q2 : x < 4294967296
    · refine ⟨m, ?_, (Gr.refl m).le (by omega)⟩
      have hF : fitsI 2 x = true := by simp [fitsI]; omega
      rw [hF, run_46]
      unfold fnEv a46
      simp only [codeEv, opsEv, oneEv, guardEv, opE_mov, opE_pick, opE_bin, opE_call, St.opd, look_set, look_nil, look_cons, St.put, argsT, resEv, bin_ilt, bin_ile, bin_ige, bin_ieq, in_int, loc_int, loc_bool, callWith, keepL, List.map, List.length, List.any, Option.map_some, Nat.reduceEqDiff, Int.reduceEq, Nat.reduceAdd, Nat.reduceLT, if_true, if_false, Bool.or_false, beq_self_eq_true, Bool.false_eq_true, Nat.succ_ne_self, decide_true, decide_false, keepT_setT, keepT_lit, q1, q2]
    · refine ⟨m, ?_, (Gr.refl m).le (by omega)⟩
      have hF : fitsI 2 x = false := by simp [fitsI]; omega
      rw [hF, run_46]
      unfold fnEv a46
      simp only [codeEv, opsEv, oneEv, guardEv, opE_mov, opE_pick, opE_bin, opE_call, St.opd, look_set, look_nil, look_cons, St.put, argsT, resEv, bin_ilt, bin_ile, bin_ige, bin_ieq, in_int, loc_int, loc_bool, callWith, keepL, List.map, List.length, List.any, Option.map_some, Nat.reduceEqDiff, Int.reduceEq, Nat.reduceAdd, Nat.reduceLT, if_true, if_false, Bool.or_false, beq_self_eq_true, Bool.false_eq_true, Nat.succ_ne_self, decide_true, decide_false, keepT_setT, keepT_lit, q1, q2]
  · refine ⟨m, ?_, (Gr.refl m).le (by omega)⟩
    have hF : fitsI 2 x = false := by simp [fitsI]; omega
    rw [hF, run_46]
    unfold fnEv a46
    simp only [codeEv, opsEv, oneEv, guardEv, opE_mov, opE_pick, opE_bin, opE_call, St.opd, look_set, look_nil, look_cons, St.put, argsT, resEv, bin_ige, bin_ieq, in_int, loc_int, loc_bool, callWith, keepL, List.map, List.length, List.any, Option.map_some, Nat.reduceEqDiff, Int.reduceEq, Nat.reduceAdd, Nat.reduceLT, if_true, if_false, Bool.or_false, Bool.false_eq_true, Nat.succ_ne_self, decide_true, decide_false, beq_ft, keepT_setT, keepT_lit, q1]
theorem may_3 (n : Nat) (x : Int) (m : Mem) (_hmn : m.n + 1 ≤ 2 ^ depth) : ∃ m', run A (n + 2) 46 [.int .i64 4, .int .i64 x] m = some (.bool (fitsI 3 x), m') ∧ Gr m m' 1 := by
  by_cases q1 : x = 8
  · have q1' := eq_true q1
    refine ⟨m, ?_, (Gr.refl m).le (by omega)⟩
    have hF : fitsI 3 x = true := by simp [fitsI]; omega
    rw [hF, run_46]
    unfold fnEv a46
    simp only [codeEv, opsEv, oneEv, guardEv, opE_mov, opE_pick, opE_bin, opE_call, St.opd, look_set, look_nil, look_cons, St.put, argsT, resEv, bin_ige, bin_ieq, in_int, loc_int, loc_bool, callWith, keepL, List.map, List.length, List.any, Option.map_some, Nat.reduceEqDiff, Int.reduceEq, Nat.reduceAdd, Nat.reduceLT, if_true, if_false, Bool.or_false, Bool.false_eq_true, Nat.succ_ne_self, decide_true, decide_false, beq_tf, keepT_setT, keepT_lit, q1']
  · by_cases q2 : x = 16
    · have q2' := eq_true q2
      refine ⟨m, ?_, (Gr.refl m).le (by omega)⟩
      have hF : fitsI 3 x = true := by simp [fitsI]; omega
      rw [hF, run_46]
      unfold fnEv a46
      simp only [codeEv, opsEv, oneEv, guardEv, opE_mov, opE_pick, opE_bin, opE_call, St.opd, look_set, look_nil, look_cons, St.put, argsT, resEv, bin_ige, bin_ieq, in_int, loc_int, loc_bool, callWith, keepL, List.map, List.length, List.any, Option.map_some, Nat.reduceEqDiff, Int.reduceEq, Nat.reduceAdd, Nat.reduceLT, if_true, if_false, Bool.or_false, beq_self_eq_true, Bool.false_eq_true, Nat.succ_ne_self, decide_true, decide_false, beq_tf, keepT_setT, keepT_lit, q1, q2']
    · by_cases q3 : x = 32
      · have q3' := eq_true q3
        refine ⟨m, ?_, (Gr.refl m).le (by omega)⟩
        have hF : fitsI 3 x = true := by simp [fitsI]; omega
        rw [hF, run_46]
        unfold fnEv a46
        simp only [codeEv, opsEv, oneEv, guardEv, opE_mov, opE_pick, opE_bin, opE_call, St.opd, look_set, look_nil, look_cons, St.put, argsT, resEv, bin_ige, bin_ieq, in_int, loc_int, loc_bool, callWith, keepL, List.map, List.length, List.any, Option.map_some, Nat.reduceEqDiff, Int.reduceEq, Nat.reduceAdd, Nat.reduceLT, if_true, if_false, Bool.or_false, beq_self_eq_true, Bool.false_eq_true, Nat.succ_ne_self, decide_true, decide_false, keepT_setT, keepT_lit, q1, q2, q3']
      · refine ⟨m, ?_, (Gr.refl m).le (by omega)⟩
        have hF : fitsI 3 x = false := by simp [fitsI]; omega
        rw [hF, run_46]
        unfold fnEv a46
        simp only [codeEv, opsEv, oneEv, guardEv, opE_mov, opE_pick, opE_bin, opE_call, St.opd, look_set, look_nil, look_cons, St.put, argsT, resEv, bin_ige, bin_ieq, in_int, loc_int, loc_bool, callWith, keepL, List.map, List.length, List.any, Option.map_some, Nat.reduceEqDiff, Int.reduceEq, Nat.reduceAdd, Nat.reduceLT, if_true, if_false, Bool.or_false, beq_self_eq_true, Bool.false_eq_true, Nat.succ_ne_self, decide_true, decide_false, keepT_setT, keepT_lit, q1, q2, q3]
theorem may_4 (n : Nat) (x : Int) (m : Mem) (_hmn : m.n + 1 ≤ 2 ^ depth) : ∃ m', run A (n + 2) 46 [.int .i64 3, .int .i64 x] m = some (.bool (fitsI 4 x), m') ∧ Gr m m' 1 := by
  by_cases q1 : x ≥ 1
  · by_cases q2 : x ≤ 1048576
    · refine ⟨m, ?_, (Gr.refl m).le (by omega)⟩
      have hF : fitsI 4 x = true := by simp [fitsI]; omega
      rw [hF, run_46]
      unfold fnEv a46
      simp only [codeEv, opsEv, oneEv, guardEv, opE_mov, opE_pick, opE_bin, opE_call, St.opd, look_set, look_nil, look_cons, St.put, argsT, resEv, bin_ile, bin_ige, bin_ieq, in_int, loc_int, loc_bool, callWith, keepL, List.map, List.length, List.any, Option.map_some, Nat.reduceEqDiff, Int.reduceEq, Nat.reduceAdd, Nat.reduceLT, if_true, if_false, Bool.or_false, beq_self_eq_true, Bool.false_eq_true, Nat.succ_ne_self, decide_true, decide_false, keepT_setT, keepT_lit, q1, q2]
    · refine ⟨m, ?_, (Gr.refl m).le (by omega)⟩
      have hF : fitsI 4 x = false := by simp [fitsI]; omega
      rw [hF, run_46]
      unfold fnEv a46
      simp only [codeEv, opsEv, oneEv, guardEv, opE_mov, opE_pick, opE_bin, opE_call, St.opd, look_set, look_nil, look_cons, St.put, argsT, resEv, bin_ile, bin_ige, bin_ieq, in_int, loc_int, loc_bool, callWith, keepL, List.map, List.length, List.any, Option.map_some, Nat.reduceEqDiff, Int.reduceEq, Nat.reduceAdd, Nat.reduceLT, if_true, if_false, Bool.or_false, beq_self_eq_true, Bool.false_eq_true, Nat.succ_ne_self, decide_true, decide_false, keepT_setT, keepT_lit, q1, q2]
  · refine ⟨m, ?_, (Gr.refl m).le (by omega)⟩
    have hF : fitsI 4 x = false := by simp [fitsI]; omega
    rw [hF, run_46]
    unfold fnEv a46
    simp only [codeEv, opsEv, oneEv, guardEv, opE_mov, opE_pick, opE_bin, opE_call, St.opd, look_set, look_nil, look_cons, St.put, argsT, resEv, bin_ige, bin_ieq, in_int, loc_int, loc_bool, callWith, keepL, List.map, List.length, List.any, Option.map_some, Nat.reduceEqDiff, Int.reduceEq, Nat.reduceAdd, Nat.reduceLT, if_true, if_false, Bool.or_false, Bool.false_eq_true, Nat.succ_ne_self, decide_true, decide_false, beq_ft, keepT_setT, keepT_lit, q1]
theorem may_5 (n : Nat) (x : Int) (m : Mem) (_hmn : m.n + 1 ≤ 2 ^ depth) : ∃ m', run A (n + 2) 46 [.int .i64 7, .int .i64 x] m = some (.bool (fitsI 5 x), m') ∧ Gr m m' 1 := by
  by_cases q1 : x ≥ 0
  · by_cases q2 : x ≤ 31
    · refine ⟨m, ?_, (Gr.refl m).le (by omega)⟩
      have hF : fitsI 5 x = true := by simp [fitsI]; omega
      rw [hF, run_46]
      unfold fnEv a46
      simp only [codeEv, opsEv, oneEv, guardEv, opE_mov, opE_pick, opE_bin, opE_call, St.opd, look_set, look_nil, look_cons, St.put, argsT, resEv, bin_ilt, bin_ile, bin_ige, bin_ieq, in_int, loc_int, loc_bool, callWith, keepL, List.map, List.length, List.any, Option.map_some, Nat.reduceEqDiff, Int.reduceEq, Nat.reduceAdd, Nat.reduceLT, if_true, if_false, Bool.or_false, beq_self_eq_true, Bool.false_eq_true, Nat.succ_ne_self, decide_true, decide_false, keepT_setT, keepT_lit, q1, q2]
    · refine ⟨m, ?_, (Gr.refl m).le (by omega)⟩
      have hF : fitsI 5 x = false := by simp [fitsI]; omega
      rw [hF, run_46]
      unfold fnEv a46
      simp only [codeEv, opsEv, oneEv, guardEv, opE_mov, opE_pick, opE_bin, opE_call, St.opd, look_set, look_nil, look_cons, St.put, argsT, resEv, bin_ilt, bin_ile, bin_ige, bin_ieq, in_int, loc_int, loc_bool, callWith, keepL, List.map, List.length, List.any, Option.map_some, Nat.reduceEqDiff, Int.reduceEq, Nat.reduceAdd, Nat.reduceLT, if_true, if_false, Bool.or_false, beq_self_eq_true, Bool.false_eq_true, Nat.succ_ne_self, decide_true, decide_false, keepT_setT, keepT_lit, q1, q2]
  · refine ⟨m, ?_, (Gr.refl m).le (by omega)⟩
    have hF : fitsI 5 x = false := by simp [fitsI]; omega
    rw [hF, run_46]
    unfold fnEv a46
    simp only [codeEv, opsEv, oneEv, guardEv, opE_mov, opE_pick, opE_bin, opE_call, St.opd, look_set, look_nil, look_cons, St.put, argsT, resEv, bin_ige, bin_ieq, in_int, loc_int, loc_bool, callWith, keepL, List.map, List.length, List.any, Option.map_some, Nat.reduceEqDiff, Int.reduceEq, Nat.reduceAdd, Nat.reduceLT, if_true, if_false, Bool.or_false, Bool.false_eq_true, Nat.succ_ne_self, decide_true, decide_false, beq_ft, keepT_setT, keepT_lit, q1]
theorem may_6 (n : Nat) (x : Int) (m : Mem) (_hmn : m.n + 1 ≤ 2 ^ depth) : ∃ m', run A (n + 2) 46 [.int .i64 8, .int .i64 x] m = some (.bool (fitsI 6 x), m') ∧ Gr m m' 1 := by
  by_cases q1 : x ≥ 0
  · by_cases q2 : x ≤ 15
    · refine ⟨m, ?_, (Gr.refl m).le (by omega)⟩
      have hF : fitsI 6 x = true := by simp [fitsI]; omega
      rw [hF, run_46]
      unfold fnEv a46
      simp only [codeEv, opsEv, oneEv, guardEv, opE_mov, opE_pick, opE_bin, opE_call, St.opd, look_set, look_nil, look_cons, St.put, argsT, resEv, bin_ilt, bin_ile, bin_ige, bin_ieq, in_int, loc_int, loc_bool, callWith, keepL, List.map, List.length, List.any, Option.map_some, Nat.reduceEqDiff, Int.reduceEq, Nat.reduceAdd, Nat.reduceLT, if_true, if_false, Bool.or_false, beq_self_eq_true, Bool.false_eq_true, Nat.succ_ne_self, decide_true, decide_false, keepT_setT, keepT_lit, q1, q2]
    · refine ⟨m, ?_, (Gr.refl m).le (by omega)⟩
      have hF : fitsI 6 x = false := by simp [fitsI]; omega
      rw [hF, run_46]
      unfold fnEv a46
      simp only [codeEv, opsEv, oneEv, guardEv, opE_mov, opE_pick, opE_bin, opE_call, St.opd, look_set, look_nil, look_cons, St.put, argsT, resEv, bin_ilt, bin_ile, bin_ige, bin_ieq, in_int, loc_int, loc_bool, callWith, keepL, List.map, List.length, List.any, Option.map_some, Nat.reduceEqDiff, Int.reduceEq, Nat.reduceAdd, Nat.reduceLT, if_true, if_false, Bool.or_false, beq_self_eq_true, Bool.false_eq_true, Nat.succ_ne_self, decide_true, decide_false, keepT_setT, keepT_lit, q1, q2]
  · refine ⟨m, ?_, (Gr.refl m).le (by omega)⟩
    have hF : fitsI 6 x = false := by simp [fitsI]; omega
    rw [hF, run_46]
    unfold fnEv a46
    simp only [codeEv, opsEv, oneEv, guardEv, opE_mov, opE_pick, opE_bin, opE_call, St.opd, look_set, look_nil, look_cons, St.put, argsT, resEv, bin_ige, bin_ieq, in_int, loc_int, loc_bool, callWith, keepL, List.map, List.length, List.any, Option.map_some, Nat.reduceEqDiff, Int.reduceEq, Nat.reduceAdd, Nat.reduceLT, if_true, if_false, Bool.or_false, Bool.false_eq_true, Nat.succ_ne_self, decide_true, decide_false, beq_ft, keepT_setT, keepT_lit, q1]
theorem may_7 (n : Nat) (x : Int) (m : Mem) (hmn : m.n + 1 ≤ 2 ^ depth) : ∃ m', run A (n + 2) 46 [.int .i64 5, .int .i64 x] m = some (.bool (fitsI 7 x), m') ∧ Gr m m' 1 := by
  have c := sgn_run (n + 1) (by omega) x m hmn
  have e := signI_ne x
  refine ⟨_, ?_, Gr.push m (.cells signs true) (by omega)⟩
  have hF : fitsI 7 x = (decide (1 ≤ x) && decide (x ≤ 19)) := rfl
  rw [hF, run_46]
  unfold fnEv a46
  simp only [codeEv, opsEv, oneEv, guardEv, opE_mov, opE_pick, opE_bin, opE_call, St.opd, look_set, look_nil, look_cons, St.put, argsT, resEv, bin_ige, bin_ieq, in_int, loc_int, loc_bool, callWith, keepL, List.map, List.length, List.any, Option.map_some, Nat.reduceEqDiff, Int.reduceEq, Nat.reduceAdd, Nat.reduceLT, if_true, if_false, Bool.or_false, Bool.false_eq_true, Nat.succ_ne_self, decide_true, decide_false, keepT_setT, keepT_lit, str_ne, c, e]
theorem may_8 (n : Nat) (x : Int) (m : Mem) (hmn : m.n + 1 ≤ 2 ^ depth) : ∃ m', run A (n + 2) 46 [.int .i64 6, .int .i64 x] m = some (.bool (fitsI 8 x), m') ∧ Gr m m' 1 := by
  have c := nam_run (n + 1) (by omega) x m hmn
  have e := unI_ne x
  refine ⟨_, ?_, Gr.push m (.cells uns true) (by omega)⟩
  have hF : fitsI 8 x = (decide (1 ≤ x) && decide (x ≤ 3)) := rfl
  rw [hF, run_46]
  unfold fnEv a46
  simp only [codeEv, opsEv, oneEv, guardEv, opE_mov, opE_pick, opE_bin, opE_call, St.opd, look_set, look_nil, look_cons, St.put, argsT, resEv, bin_ige, bin_ieq, in_int, loc_int, loc_bool, callWith, keepL, List.map, List.length, List.any, Option.map_some, Nat.reduceEqDiff, Int.reduceEq, Nat.reduceAdd, Nat.reduceLT, if_true, if_false, Bool.or_false, Bool.false_eq_true, Nat.succ_ne_self, decide_true, decide_false, keepT_setT, keepT_lit, str_ne, c, e]
theorem may_run (N : Nat) (hN : 2 ≤ N) (k x : Int) (hk : 0 ≤ k ∧ k ≤ 8) (m : Mem) (hmn : m.n + 1 ≤ 2 ^ depth) : ∃ m', run A N 46 [.int .i64 (refK k), .int .i64 x] m = some (.bool (fitsI k x), m') ∧ Gr m m' 1 := by
  obtain ⟨n, rfl⟩ : ∃ n, N = n + 2 := ⟨N - 2, by omega⟩
  have h : k = 0 ∨ k = 1 ∨ k = 2 ∨ k = 3 ∨ k = 4 ∨ k = 5 ∨ k = 6 ∨ k = 7 ∨ k = 8 := by omega
  rcases h with rfl | rfl | rfl | rfl | rfl | rfl | rfl | rfl | rfl
  · exact may_0 n x m hmn
  · exact may_1 n x m hmn
  · exact may_2 n x m hmn
  · exact may_3 n x m hmn
  · exact may_4 n x m hmn
  · exact may_5 n x m hmn
  · exact may_6 n x m hmn
  · exact may_7 n x m hmn
  · exact may_8 n x m hmn
theorem hR_in {op : Int} (j : Nat) (h1 : 1 ≤ op) (h2 : op < 25) : hR j op = refK (kx j op.toNat) := if_pos ⟨h1, h2⟩
theorem rcheck_run (N : Nat) (hN : 4 ≤ N) (op a b c : Int) (m : Mem) (hmn : m.n + 3 ≤ 2 ^ depth) : ∃ m', run A N 21 [.agg [.int .i64 op, .int .i64 a, .int .i64 b, .int .i64 c]] m = some (.int .i64 (if codeOk op a b c then 0 else 2), m') ∧ Gr m m' 3 := by
  obtain ⟨n, rfl⟩ : ∃ n, N = n + 1 := ⟨N - 1, by omega⟩
  have hh := has_run n (by omega) op m
  by_cases h1 : op < 1
  · have hk : codeOk op a b c = false := by unfold codeOk; rw [decide_eq_false (by omega)]; rfl
    rw [hk, run_21]
    refine ⟨m, ?_, (Gr.refl m).le (by omega)⟩
    unfold fnEv a21
    simp only [codeEv, opsEv, oneEv, guardEv, opE_mov, opE_pick, opE_alloc, opE_box, opE_load1, opE_store, opE_bin, opE_faddr, opE_call, St.opd, look_set, look_nil, look_cons, St.put, St.new, St.read, St.write, lookL_nil, lookL_cons, setL_nil, setL_cons, cellsAt_cons, splice, argsT, resEv, bin_ilt, in_agg, in_loc, List.contains_cons, List.contains_nil, one_int, loc_int, cells_agg, callWith, keepL, List.append_nil, List.map, List.length, List.take, List.drop, List.all, List.any, List.nil_append, List.take_succ_cons, List.drop_succ_cons, Option.map_some, Nat.reduceEqDiff, Nat.reduceAdd, Nat.reduceLeDiff, Nat.reduceLT, if_true, if_false, Bool.and_true, Bool.or_true, Bool.or_false, Bool.true_or, Bool.not_false, List.isEmpty_cons, beq_self_eq_true, Bool.false_eq_true, Nat.succ_ne_self, decide_true, beq_tf, keepT_setT, keepT_lit, List.take_succ_cons, hh, h1]
  by_cases h2 : op > 24
  · have hk : codeOk op a b c = false := by unfold codeOk; rw [decide_eq_true (by omega : 1 ≤ op), decide_eq_false (by omega : ¬ op < 25)]; rfl
    rw [hk, run_21]
    refine ⟨m, ?_, (Gr.refl m).le (by omega)⟩
    unfold fnEv a21
    simp only [codeEv, opsEv, oneEv, guardEv, opE_mov, opE_pick, opE_alloc, opE_box, opE_load1, opE_store, opE_bin, opE_faddr, opE_call, St.opd, look_set, look_nil, look_cons, St.put, St.new, St.read, St.write, lookL_nil, lookL_cons, setL_nil, setL_cons, cellsAt_cons, splice, argsT, resEv, bin_ilt, bin_igt, in_agg, in_loc, List.contains_cons, List.contains_nil, one_int, loc_int, cells_agg, callWith, keepL, List.append_nil, List.map, List.length, List.take, List.drop, List.all, List.any, List.nil_append, List.take_succ_cons, List.drop_succ_cons, Option.map_some, Nat.reduceEqDiff, Nat.reduceAdd, Nat.reduceLeDiff, Nat.reduceLT, if_true, if_false, Bool.and_true, Bool.or_true, Bool.or_false, Bool.true_or, Bool.not_false, List.isEmpty_cons, beq_self_eq_true, Bool.false_eq_true, Nat.succ_ne_self, decide_true, decide_false, beq_tf, keepT_setT, keepT_lit, List.take_succ_cons, hh, h1, h2]
  have hop : 1 ≤ op ∧ op < 25 := by omega
  have hk : codeOk op a b c = (fitsI (kx 1 op.toNat) a && (fitsI (kx 2 op.toNat) b && fitsI (kx 3 op.toNat) c)) := by
    unfold codeOk; rw [decide_eq_true hop.1, decide_eq_true hop.2]; rfl
  obtain ⟨m1, c1, g1⟩ := may_run n (by omega) (kx 1 op.toNat) a (kx_range hop.1 hop.2 1 (by simp)) m (by omega)
  rw [← hR_in 1 hop.1 hop.2] at c1
  cases f1 : fitsI (kx 1 op.toNat) a
  · rw [f1] at c1
    rw [hk, f1, run_21]
    refine ⟨m1, ?_, g1.le (by omega)⟩
    unfold fnEv a21
    simp only [codeEv, opsEv, oneEv, guardEv, opE_mov, opE_pick, opE_alloc, opE_box, opE_load1, opE_store, opE_bin, opE_un, opE_faddr, opE_call, St.opd, look_set, look_nil, look_cons, St.put, St.new, St.read, St.write, lookL_nil, lookL_cons, setL_nil, setL_cons, cellsAt_cons, splice, argsT, resEv, bin_ilt, bin_igt, in_agg, in_loc, List.contains_cons, List.contains_nil, one_int, loc_int, cells_agg, unEv, callWith, keepL, List.append_nil, List.map, List.length, List.take, List.drop, List.all, List.any, List.nil_append, List.take_succ_cons, List.drop_succ_cons, Option.map_some, Nat.reduceEqDiff, Int.reduceLT, Int.reduceLE, Nat.reduceAdd, Nat.reduceLeDiff, Nat.reduceLT, if_true, if_false, Bool.and_true, Bool.false_and, Bool.or_true, Bool.or_false, Bool.true_or, Bool.not_false, List.isEmpty_cons, beq_self_eq_true, Bool.false_eq_true, Nat.succ_ne_self, decide_false, beq_tf, keepT_setT, keepT_lit, List.take_succ_cons, and_self, Int.toNat_zero, n3, Nat.zero_mul, opE_iaddrA, iaR_loc, hh, h1, h2, c1]
  rw [f1] at c1
  obtain ⟨m2, c2, g2⟩ := may_run n (by omega) (kx 2 op.toNat) b (kx_range hop.1 hop.2 2 (by simp)) m1 (by have := g1.2; omega)
  rw [← hR_in 2 hop.1 hop.2] at c2
  have g12 := g1.trans g2
  cases f2 : fitsI (kx 2 op.toNat) b
  · rw [f2] at c2
    rw [hk, f1, f2, run_21]
    refine ⟨m2, ?_, g12.le (by omega)⟩
    unfold fnEv a21
    simp only [codeEv, opsEv, oneEv, guardEv, opE_mov, opE_pick, opE_alloc, opE_box, opE_load1, opE_store, opE_bin, opE_un, opE_faddr, opE_call, St.opd, look_set, look_nil, look_cons, St.put, St.new, St.read, St.write, lookL_nil, lookL_cons, setL_nil, setL_cons, cellsAt_cons, splice, argsT, resEv, bin_ilt, bin_igt, in_agg, in_loc, List.contains_cons, List.contains_nil, one_int, loc_int, cells_agg, unEv, callWith, keepL, List.append_nil, List.map, List.length, List.take, List.drop, List.all, List.any, List.nil_append, List.take_succ_cons, List.drop_succ_cons, Option.map_some, Nat.reduceEqDiff, Int.reduceLT, Int.reduceLE, Nat.reduceAdd, Nat.reduceLeDiff, Nat.reduceLT, if_true, if_false, Bool.and_true, Bool.false_and, Bool.and_false, Bool.or_true, Bool.or_false, Bool.true_or, Bool.not_true, Bool.not_false, List.isEmpty_cons, beq_self_eq_true, Bool.false_eq_true, Nat.succ_ne_self, decide_false, beq_tf, keepT_setT, keepT_lit, List.take_succ_cons, Int.reduceToNat, and_self, Int.toNat_zero, n3, Nat.zero_mul, Nat.one_mul, opE_iaddrA, iaR_loc, hh, h1, h2, c1, c2]
  rw [f2] at c2
  obtain ⟨m3, c3, g3⟩ := may_run n (by omega) (kx 3 op.toNat) c (kx_range hop.1 hop.2 3 (by simp)) m2 (by have := g12.2; omega)
  rw [← hR_in 3 hop.1 hop.2] at c3
  have g123 := g12.trans g3
  refine ⟨m3, ?_, g123.le (by omega)⟩
  rw [hk, f1, f2, run_21]
  cases f3 : fitsI (kx 3 op.toNat) c
  · rw [f3] at c3
    unfold fnEv a21
    simp only [codeEv, opsEv, oneEv, guardEv, opE_mov, opE_pick, opE_alloc, opE_box, opE_load1, opE_store, opE_bin, opE_un, opE_faddr, opE_call, St.opd, look_set, look_nil, look_cons, St.put, St.new, St.read, St.write, lookL_nil, lookL_cons, setL_nil, setL_cons, cellsAt_cons, splice, argsT, resEv, bin_ilt, bin_igt, in_agg, in_loc, List.contains_cons, List.contains_nil, one_int, loc_int, cells_agg, unEv, callWith, keepL, List.append_nil, List.map, List.length, List.take, List.drop, List.all, List.any, List.nil_append, List.take_succ_cons, List.drop_succ_cons, Option.map_some, Nat.reduceEqDiff, Int.reduceLT, Int.reduceLE, Nat.reduceAdd, Nat.reduceLeDiff, Nat.reduceLT, Nat.reduceMul, if_true, if_false, Bool.and_true, Bool.and_false, Bool.or_true, Bool.or_false, Bool.true_or, Bool.not_true, Bool.not_false, List.isEmpty_cons, beq_self_eq_true, Bool.false_eq_true, Nat.succ_ne_self, decide_false, keepT_setT, keepT_lit, List.take_succ_cons, Int.reduceToNat, and_self, Int.toNat_zero, n3, Nat.zero_mul, Nat.one_mul, opE_iaddrA, iaR_loc, hh, h1, h2, c1, c2, c3]
  · rw [f3] at c3
    unfold fnEv a21
    simp only [codeEv, opsEv, oneEv, guardEv, opE_mov, opE_pick, opE_alloc, opE_box, opE_load1, opE_store, opE_bin, opE_un, opE_faddr, opE_call, St.opd, look_set, look_nil, look_cons, St.put, St.new, St.read, St.write, lookL_nil, lookL_cons, setL_nil, setL_cons, cellsAt_cons, splice, argsT, resEv, bin_ilt, bin_igt, in_agg, in_loc, List.contains_cons, List.contains_nil, one_int, loc_int, cells_agg, unEv, callWith, keepL, List.append_nil, List.map, List.length, List.take, List.drop, List.all, List.any, List.nil_append, List.take_succ_cons, List.drop_succ_cons, Option.map_some, Nat.reduceEqDiff, Int.reduceLT, Int.reduceLE, Nat.reduceAdd, Nat.reduceLeDiff, Nat.reduceLT, Nat.reduceMul, if_true, if_false, Bool.and_true, Bool.or_true, Bool.or_false, Bool.true_or, Bool.not_true, Bool.not_false, List.isEmpty_cons, beq_self_eq_true, Bool.false_eq_true, Nat.succ_ne_self, decide_false, keepT_setT, keepT_lit, List.take_succ_cons, Int.reduceToNat, and_self, Int.toNat_zero, n3, Nat.zero_mul, Nat.one_mul, opE_iaddrA, iaR_loc, hh, h1, h2, c1, c2, c3]
theorem rjumps_run (N : Nat) (hN : 5 ≤ N) (op a b c : Int) (m : Mem) (hmn : m.n + 3 ≤ 2 ^ depth) : ∃ m', run A N 19 [.agg [.int .i64 op, .int .i64 a, .int .i64 b, .int .i64 c]] m = some (jumpsI op a b c, m') ∧ Gr m m' 3 := by
  obtain ⟨n, rfl⟩ : ∃ n, N = n + 1 := ⟨N - 1, by omega⟩
  obtain ⟨m1, c1, g1⟩ := rcheck_run n (by omega) op a b c m hmn
  refine ⟨m1, ?_, g1⟩
  rw [run_19]
  unfold jumpsI
  unfold fnEv a19
  cases hk : codeOk op a b c
  · rw [hk] at c1
    simp only [Bool.false_eq_true, if_false] at c1
    simp only [codeEv, opsEv, oneEv, guardEv, opE_mov, opE_box, opE_loadk, opE_bin, opE_call, St.opd, look_set, look_nil, look_cons, St.put, St.new, St.read, lookL_nil, lookL_cons, setL_nil, cellsAt_cons, argsT, resEv, bin_ine, in_agg, in_loc, List.contains_cons, List.contains_nil, loc_int, loc_bool, loc_agg, cells_agg, callWith, keepL, List.map, List.length, List.take, List.drop, List.any, List.take_succ_cons, Option.map_some, Nat.reduceEqDiff, Int.reduceEq, Nat.reduceAdd, Nat.reduceLeDiff, Nat.reduceLT, if_true, if_false, Bool.or_false, Bool.not_false, beq_self_eq_true, Bool.false_eq_true, Nat.succ_ne_self, decide_false, keepT_setT, keepT_lit, List.take_succ_cons, c1]
  · rw [hk] at c1
    simp only [if_true] at c1
    by_cases q1 : op = 1
    · subst q1
      simp only [codeEv, opsEv, oneEv, guardEv, opE_mov, opE_box, opE_load1, opE_loadk, opE_bin, opE_faddr, opE_call, St.opd, look_set, look_nil, look_cons, St.put, St.new, St.read, lookL_nil, lookL_cons, setL_nil, cellsAt_cons, argsT, resEv, bin_ieq, bin_ine, in_int, in_agg, in_loc, List.contains_cons, List.contains_nil, loc_int, loc_bool, loc_agg, cells_agg, callWith, keepL, List.map, List.length, List.take, List.drop, List.any, List.take_succ_cons, Option.map_some, Nat.reduceEqDiff, Int.reduceEq, Nat.reduceAdd, Nat.reduceLeDiff, Nat.reduceLT, if_true, if_false, Bool.or_false, Bool.not_true, beq_self_eq_true, Bool.false_eq_true, Nat.succ_ne_self, decide_true, decide_false, keepT_setT, keepT_lit, List.take_succ_cons, c1, true_or]
    · by_cases q2 : op = 18
      · subst q2
        simp only [codeEv, opsEv, oneEv, guardEv, opE_mov, opE_box, opE_load1, opE_loadk, opE_bin, opE_faddr, opE_call, St.opd, look_set, look_nil, look_cons, St.put, St.new, St.read, lookL_nil, lookL_cons, setL_nil, cellsAt_cons, argsT, resEv, bin_ieq, bin_ine, in_int, in_agg, in_loc, List.contains_cons, List.contains_nil, loc_int, loc_bool, loc_agg, cells_agg, callWith, keepL, List.map, List.length, List.take, List.drop, List.any, List.take_succ_cons, Option.map_some, Nat.reduceEqDiff, Int.reduceEq, Nat.reduceAdd, Nat.reduceLeDiff, Nat.reduceLT, if_true, if_false, Bool.or_false, Bool.not_true, beq_self_eq_true, Bool.false_eq_true, Nat.succ_ne_self, decide_true, decide_false, keepT_setT, keepT_lit, List.take_succ_cons, c1, or_true]
      · by_cases q3 : op = 15
        · subst q3
          simp only [codeEv, opsEv, oneEv, guardEv, opE_mov, opE_box, opE_load1, opE_loadk, opE_bin, opE_faddr, opE_call, St.opd, look_set, look_nil, look_cons, St.put, St.new, St.read, lookL_nil, lookL_cons, setL_nil, cellsAt_cons, argsT, resEv, bin_ieq, bin_ine, in_int, in_agg, in_loc, List.contains_cons, List.contains_nil, loc_int, loc_bool, loc_agg, cells_agg, callWith, keepL, List.map, List.length, List.take, List.drop, List.any, List.take_succ_cons, Option.map_some, Nat.reduceEqDiff, Int.reduceEq, Nat.reduceAdd, Nat.reduceLeDiff, Nat.reduceLT, if_true, if_false, Bool.or_false, Bool.not_true, beq_self_eq_true, Bool.false_eq_true, Nat.succ_ne_self, decide_true, decide_false, keepT_setT, keepT_lit, List.take_succ_cons, c1, q1, q2, or_self]
        · by_cases q4 : op = 16
          · subst q4
            simp only [codeEv, opsEv, oneEv, guardEv, opE_mov, opE_box, opE_load1, opE_loadk, opE_bin, opE_faddr, opE_call, St.opd, look_set, look_nil, look_cons, St.put, St.new, St.read, lookL_nil, lookL_cons, setL_nil, cellsAt_cons, argsT, resEv, bin_ieq, bin_ine, in_int, in_agg, in_loc, List.contains_cons, List.contains_nil, loc_int, loc_bool, loc_agg, cells_agg, callWith, keepL, List.map, List.length, List.take, List.drop, List.any, List.take_succ_cons, Option.map_some, Nat.reduceEqDiff, Nat.reduceAdd, Nat.reduceLeDiff, Nat.reduceLT, if_true, if_false, Bool.or_false, Bool.not_true, beq_self_eq_true, Bool.false_eq_true, Nat.succ_ne_self, decide_true, decide_false, keepT_setT, keepT_lit, List.take_succ_cons, c1, q1, q2, q3, or_self]
          · simp only [codeEv, opsEv, oneEv, guardEv, opE_mov, opE_box, opE_load1, opE_loadk, opE_bin, opE_faddr, opE_call, St.opd, look_set, look_nil, look_cons, St.put, St.new, St.read, lookL_nil, lookL_cons, setL_nil, cellsAt_cons, argsT, resEv, bin_ieq, bin_ine, in_int, in_agg, in_loc, List.contains_cons, List.contains_nil, loc_int, loc_bool, loc_agg, cells_agg, callWith, keepL, List.map, List.length, List.take, List.drop, List.any, List.take_succ_cons, Option.map_some, Nat.reduceEqDiff, Nat.reduceAdd, Nat.reduceLeDiff, Nat.reduceLT, if_true, if_false, Bool.or_false, Bool.not_true, beq_self_eq_true, Bool.false_eq_true, Nat.succ_ne_self, decide_true, decide_false, keepT_setT, keepT_lit, List.take_succ_cons, c1, q1, q2, q3, q4, or_self]
end AG
