/- What the functions of masks and sets compute, and the laws of that. -/
import Derived.Test.YtenhcejelicjfaaDoorAgMc4
namespace AG
open Go Go.Proofs.YtenhcejelicjfaaDoor
set_option maxRecDepth 100000
set_option maxHeartbeats 4000000



def rsignL : List AV := [.str ⟨#[]⟩, .str ⟨#[43]⟩, .str ⟨#[45]⟩, .str ⟨#[42]⟩, .str ⟨#[47]⟩, .str ⟨#[37]⟩, .str ⟨#[115, 47]⟩, .str ⟨#[115, 37]⟩, .str ⟨#[38]⟩, .str ⟨#[124]⟩, .str ⟨#[94]⟩, .str ⟨#[60, 60]⟩, .str ⟨#[62, 62]⟩, .str ⟨#[115, 62, 62]⟩, .str ⟨#[61, 61]⟩, .str ⟨#[33, 61]⟩, .str ⟨#[60]⟩, .str ⟨#[60, 61]⟩, .str ⟨#[115, 60]⟩, .str ⟨#[115, 60, 61]⟩]
theorem rsign_fill : fillEv (zerosEv [AV.str ⟨#[]⟩] 20) [(0, 1, AV.str ⟨#[]⟩), (1, 1, AV.str ⟨#[43]⟩), (2, 1, AV.str ⟨#[45]⟩), (3, 1, AV.str ⟨#[42]⟩), (4, 1, AV.str ⟨#[47]⟩), (5, 1, AV.str ⟨#[37]⟩), (6, 1, AV.str ⟨#[115, 47]⟩), (7, 1, AV.str ⟨#[115, 37]⟩), (8, 1, AV.str ⟨#[38]⟩), (9, 1, AV.str ⟨#[124]⟩), (10, 1, AV.str ⟨#[94]⟩), (11, 1, AV.str ⟨#[60, 60]⟩), (12, 1, AV.str ⟨#[62, 62]⟩), (13, 1, AV.str ⟨#[115, 62, 62]⟩), (14, 1, AV.str ⟨#[61, 61]⟩), (15, 1, AV.str ⟨#[33, 61]⟩), (16, 1, AV.str ⟨#[60]⟩), (17, 1, AV.str ⟨#[60, 61]⟩), (18, 1, AV.str ⟨#[115, 60]⟩), (19, 1, AV.str ⟨#[115, 60, 61]⟩)] = some rsignL := rfl
theorem rsign_le : (20 ≤ 2 ^ 24) = True := by simp
theorem rsign_at : ∀ j, j < 20 → ∃ s, rsignL[j]? = some (.str s) ∧ isNo s = decide (j = 0) := by
  intro j hj
  have hall : (List.range 20).all (fun j => match rsignL[j]? with | some (.str s) => isNo s == decide (j = 0) | _ => false) = true := by decide +kernel
  have hv := List.all_eq_true.1 hall j (List.mem_range.2 hj)
  split at hv
  · rename_i s hs; exact ⟨s, hs, by simpa using hv⟩
  · cases hv
theorem rsign_ex (N : Nat) (hN : 1 ≤ N) (x : Int) (m : Mem) (hmn : m.n + 1 ≤ 2 ^ depth) : ∃ s m', run A N 60 [.int .i64 x] m = some (.str s, m') ∧ isNo s = !(decide (1 ≤ x) && decide (x ≤ 19)) ∧ Ext m m' ∧ m'.n ≤ m.n + 1 := by
  obtain ⟨n, rfl⟩ : ∃ n, N = n + 1 := ⟨N - 1, by omega⟩
  rw [run_60]
  have hf := not_full (m := m) (by omega)
  have g := Mem.get_push_new (m := m) (.cells rsignL true)
  have x1 : Ext m (m.push (.cells rsignL true)) := (Ext.refl m).push _ (by omega)
  have hn : (m.push (.cells rsignL true)).n ≤ m.n + 1 := by rw [push_n]; omega
  unfold fnEv a60
  by_cases h1 : x < 1
  · refine ⟨ByteArray.mk #[], _, by simp only [codeEv, opsEv, oneEv, guardEv, opE_mov, opE_pick, opE_mkslc, opE_bin, St.opd, look_set, look_cons, St.put, argsT, resEv, bin_ilt, in_int, in_slice, loc_str, keepL, List.map, List.length, Option.map_some, Nat.reduceEqDiff, Nat.reduceAdd, Nat.reduceLT, Nat.reduceMul, if_true, if_false, Bool.false_eq_true, Nat.succ_ne_self, decide_true, beq_tf, keepT_setT, keepT_lit, rsign_fill, rsign_le, hf, h1], ?_, x1, hn⟩
    have : decide (1 ≤ x) = false := decide_eq_false (by omega)
    rw [this]; exact no_nil
  · by_cases h2 : ((20 : Nat) : Int) ≤ x
    · refine ⟨ByteArray.mk #[], _, by simp only [codeEv, opsEv, oneEv, guardEv, opE_mov, opE_pick, opE_mkslc, opE_bin, opE_lenL, lenR_slice, St.opd, look_set, look_cons, St.put, argsT, resEv, bin_ilt, bin_ige, in_int, in_slice, loc_str, keepL, List.map, List.length, Option.map_some, Nat.reduceEqDiff, Nat.reduceAdd, Nat.reduceLT, Nat.reduceMul, if_true, if_false, beq_self_eq_true, Bool.false_eq_true, Nat.succ_ne_self, decide_true, decide_false, keepT_setT, keepT_lit, rsign_fill, rsign_le, hf, h1, h2], ?_, x1, hn⟩
      have : decide (x ≤ 19) = false := decide_eq_false (by omega)
      rw [this, Bool.and_false]; exact no_nil
    · obtain ⟨s, hs, he⟩ := rsign_at x.toNat (by omega)
      have hb : 0 ≤ x ∧ x < ((20 : Nat) : Int) := by omega
      have hs' : rsignL[0 + x.toNat * 1]? = some (.str s) := by rw [Nat.zero_add, Nat.mul_one]; exact hs
      refine ⟨s, _, by simp only [codeEv, opsEv, oneEv, guardEv, opE_mov, opE_pick, opE_mkslc, opE_load1, opE_bin, opE_iaddrL, opE_lenL, lenR_slice, elemR_slice, St.opd, look_set, look_cons, St.put, St.read, argsT, resEv, bin_ilt, bin_ige, in_int, in_slice, loc_str, keepL, List.map, List.length, Option.map_some, Nat.reduceEqDiff, Nat.reduceAdd, Nat.reduceLT, Nat.reduceMul, if_true, if_false, beq_self_eq_true, Bool.false_eq_true, Nat.succ_ne_self, decide_false, keepT_setT, keepT_lit, rsign_fill, rsign_le, hf, h1, h2, hb, and_self, g, cells_one hs'], ?_, x1, hn⟩
      have a1 : decide (1 ≤ x) = true := decide_eq_true (by omega)
      have a2 : decide (x ≤ 19) = true := decide_eq_true (by omega)
      rw [he, a1, a2]
      simp only [Bool.and_self, Bool.not_true, decide_eq_false_iff_not]
      omega

def rnameL : List AV := [.str ⟨#[]⟩, .str ⟨#[110, 101, 103]⟩, .str ⟨#[110, 111, 116]⟩, .str ⟨#[122, 101, 114, 111]⟩]
theorem rname_fill : fillEv (zerosEv [AV.str ⟨#[]⟩] 4) [(0, 1, AV.str ⟨#[]⟩), (1, 1, AV.str ⟨#[110, 101, 103]⟩), (2, 1, AV.str ⟨#[110, 111, 116]⟩), (3, 1, AV.str ⟨#[122, 101, 114, 111]⟩)] = some rnameL := rfl
theorem rname_le : (4 ≤ 2 ^ 24) = True := by simp
theorem rname_at : ∀ j, j < 4 → ∃ s, rnameL[j]? = some (.str s) ∧ isNo s = decide (j = 0) := by
  intro j hj
  have hall : (List.range 4).all (fun j => match rnameL[j]? with | some (.str s) => isNo s == decide (j = 0) | _ => false) = true := by decide +kernel
  have hv := List.all_eq_true.1 hall j (List.mem_range.2 hj)
  split at hv
  · rename_i s hs; exact ⟨s, hs, by simpa using hv⟩
  · cases hv
theorem rname_ex (N : Nat) (hN : 1 ≤ N) (x : Int) (m : Mem) (hmn : m.n + 1 ≤ 2 ^ depth) : ∃ s m', run A N 61 [.int .i64 x] m = some (.str s, m') ∧ isNo s = !(decide (1 ≤ x) && decide (x ≤ 3)) ∧ Ext m m' ∧ m'.n ≤ m.n + 1 := by
  obtain ⟨n, rfl⟩ : ∃ n, N = n + 1 := ⟨N - 1, by omega⟩
  rw [run_61]
  have hf := not_full (m := m) (by omega)
  have g := Mem.get_push_new (m := m) (.cells rnameL true)
  have x1 : Ext m (m.push (.cells rnameL true)) := (Ext.refl m).push _ (by omega)
  have hn : (m.push (.cells rnameL true)).n ≤ m.n + 1 := by rw [push_n]; omega
  unfold fnEv a61
  by_cases h1 : x < 1
  · refine ⟨ByteArray.mk #[], _, by simp only [codeEv, opsEv, oneEv, guardEv, opE_mov, opE_pick, opE_mkslc, opE_bin, St.opd, look_set, look_cons, St.put, argsT, resEv, bin_ilt, in_int, in_slice, loc_str, keepL, List.map, List.length, Option.map_some, Nat.reduceEqDiff, Nat.reduceAdd, Nat.reduceLT, Nat.reduceMul, if_true, if_false, Bool.false_eq_true, Nat.succ_ne_self, decide_true, beq_tf, keepT_setT, keepT_lit, rname_fill, rname_le, hf, h1], ?_, x1, hn⟩
    have : decide (1 ≤ x) = false := decide_eq_false (by omega)
    rw [this]; exact no_nil
  · by_cases h2 : ((4 : Nat) : Int) ≤ x
    · refine ⟨ByteArray.mk #[], _, by simp only [codeEv, opsEv, oneEv, guardEv, opE_mov, opE_pick, opE_mkslc, opE_bin, opE_lenL, lenR_slice, St.opd, look_set, look_cons, St.put, argsT, resEv, bin_ilt, bin_ige, in_int, in_slice, loc_str, keepL, List.map, List.length, Option.map_some, Nat.reduceEqDiff, Nat.reduceAdd, Nat.reduceLT, Nat.reduceMul, if_true, if_false, beq_self_eq_true, Bool.false_eq_true, Nat.succ_ne_self, decide_true, decide_false, keepT_setT, keepT_lit, rname_fill, rname_le, hf, h1, h2], ?_, x1, hn⟩
      have : decide (x ≤ 3) = false := decide_eq_false (by omega)
      rw [this, Bool.and_false]; exact no_nil
    · obtain ⟨s, hs, he⟩ := rname_at x.toNat (by omega)
      have hb : 0 ≤ x ∧ x < ((4 : Nat) : Int) := by omega
      have hs' : rnameL[0 + x.toNat * 1]? = some (.str s) := by rw [Nat.zero_add, Nat.mul_one]; exact hs
      refine ⟨s, _, by simp only [codeEv, opsEv, oneEv, guardEv, opE_mov, opE_pick, opE_mkslc, opE_load1, opE_bin, opE_iaddrL, opE_lenL, lenR_slice, elemR_slice, St.opd, look_set, look_cons, St.put, St.read, argsT, resEv, bin_ilt, bin_ige, in_int, in_slice, loc_str, keepL, List.map, List.length, Option.map_some, Nat.reduceEqDiff, Nat.reduceAdd, Nat.reduceLT, Nat.reduceMul, if_true, if_false, beq_self_eq_true, Bool.false_eq_true, Nat.succ_ne_self, decide_false, keepT_setT, keepT_lit, rname_fill, rname_le, hf, h1, h2, hb, and_self, g, cells_one hs'], ?_, x1, hn⟩
      have a1 : decide (1 ≤ x) = true := decide_eq_true (by omega)
      have a2 : decide (x ≤ 3) = true := decide_eq_true (by omega)
      rw [he, a1, a2]
      simp only [Bool.and_self, Bool.not_true, decide_eq_false_iff_not]
      omega

def kx (j i : Nat) : Int := match kinds[i * 6 + j]? with | some (.int _ v) => v | _ => 0
theorem kind_ex (op : Int) (h1 : 1 ≤ op) (h2 : op < 25) : ∃ s p q, cellsAt kinds (0 + op.toNat * 6) 6 = some [.str s, .int .i64 (kx 1 op.toNat), .int .i64 (kx 2 op.toNat), .int .i64 (kx 3 op.toNat), .int .i64 p, .int .i64 q] := by
  have hall : (List.range 25).all (fun j => match cellsAt kinds (0 + j * 6) 6 with
      | some [.str _, .int .i64 x, .int .i64 y, .int .i64 z, .int .i64 _, .int .i64 _] => x == kx 1 j && (y == kx 2 j && z == kx 3 j)
      | _ => false) = true := by decide +kernel
  have hv := List.all_eq_true.1 hall op.toNat (List.mem_range.2 (by omega))
  split at hv
  · rename_i s x y z p q hs
    simp only [Bool.and_eq_true, beq_iff_eq] at hv
    obtain ⟨rfl, rfl, rfl⟩ := hv
    exact ⟨s, p, q, hs⟩
  · cases hv
def insA (op a b c : Int) : AV := .agg [.int .i64 op, .int .i64 a, .int .i64 b, .int .i64 c]
/-- May the instruction be? -/
def codeOk (op a b c : Int) : Bool := decide (1 ≤ op) && (decide (op < 25) && (fitsI (kx 1 op.toNat) a && (fitsI (kx 2 op.toNat) b && fitsI (kx 3 op.toNat) c)))
theorem code_ex (n : Nat) (op a b c : Int) (m : Mem) (hT : Tab m) : run A (n + 4) 50 [insA op a b c] m = some (.int .i64 (if codeOk op a b c then 0 else 2), m) := by
  rw [run_50]
  unfold fnEv a50 insA codeOk
  by_cases h1 : op < 1
  · have h1' : ¬ 1 ≤ op := by omega
    simp only [codeEv, opsEv, oneEv, guardEv, opE_mov, opE_pick, opE_box, opE_load1, opE_bin, opE_faddr, St.opd, look_set, look_cons, St.put, St.new, St.read, lookL, setL, cellsAt_cons, argsT, resEv, bin_ilt, in_agg, in_loc, List.contains_cons, List.contains_nil, loc_int, cells_agg, keepL, List.map, List.length, List.take, List.drop, List.take_succ_cons, Option.map_some, Nat.reduceEqDiff, Nat.reduceAdd, Nat.reduceLeDiff, Nat.reduceLT, if_true, if_false, Bool.false_and, Bool.or_false, beq_self_eq_true, Bool.false_eq_true, Nat.succ_ne_self, decide_true, decide_false, beq_tf, keepT_setT, keepT_lit, h1, h1']
  · have h1' : 1 ≤ op := by omega
    by_cases h2 : 25 ≤ op
    · have h2' : ((25 : Nat) : Int) ≤ op := h2
      have h2'' : ¬ op < 25 := by omega
      simp only [codeEv, opsEv, oneEv, guardEv, opE_mov, opE_pick, opE_box, opE_load1, opE_bin, opE_faddr, opE_lenL, lenR_slice, St.opd, look_set, look_cons, St.put, St.new, St.read, lookL, setL, cellsAt_cons, argsT, resEv, bin_ilt, bin_ige, in_agg, in_loc, List.contains_cons, List.contains_nil, loc_int, cells_agg, keepL, List.map, List.length, List.take, List.drop, List.take_succ_cons, Option.map_some, Nat.reduceEqDiff, Nat.reduceAdd, Nat.reduceLeDiff, Nat.reduceLT, if_true, if_false, Bool.false_and, Bool.and_false, Bool.or_false, beq_self_eq_true, Bool.false_eq_true, Nat.succ_ne_self, decide_true, decide_false, keepT_setT, keepT_lit, h1, h1', h2', h2'', hT.k]
    · have h2' : ¬ ((25 : Nat) : Int) ≤ op := h2
      have h2'' : op < 25 := by omega
      have hb : 0 ≤ op ∧ op < ((25 : Nat) : Int) := by omega
      obtain ⟨s, p, q, hk⟩ := kind_ex op h1' h2''
      have f1 := fits_ex n (kx 1 op.toNat) a m hT
      have f2 := fits_ex n (kx 2 op.toNat) b m hT
      have f3 := fits_ex n (kx 3 op.toNat) c m hT
      generalize fitsI (kx 1 op.toNat) a = b1 at *
      generalize fitsI (kx 2 op.toNat) b = b2 at *
      generalize fitsI (kx 3 op.toNat) c = b3 at *
      cases b1
      · simp only [codeEv, opsEv, oneEv, guardEv, opE_mov, opE_pick, opE_alloc, opE_box, opE_load1, opE_loadk, opE_store, opE_bin, opE_un, opE_faddr, opE_iaddrL, opE_call, opE_lenL, lenR_slice, elemR_slice, St.opd, look_set, look_cons, St.put, St.new, St.read, St.write, lookL, setL, cellsAt_cons, splice, argsT, resEv, bin_ilt, bin_ige, in_agg, in_loc, List.contains_cons, List.contains_nil, one_int, loc_int, one_str, cells_agg, unEv, callWith, keepL, List.append_nil, List.map, List.length, List.take, List.drop, List.all, List.any, List.nil_append, List.take_succ_cons, List.drop_succ_cons, Option.map_some, Nat.reduceEqDiff, Nat.reduceAdd, Nat.reduceLeDiff, Nat.reduceLT, if_true, if_false, Bool.and_true, Bool.false_and, Bool.and_false, Bool.or_true, Bool.or_false, Bool.true_or, Bool.not_false, List.isEmpty_cons, beq_self_eq_true, Bool.false_eq_true, Nat.succ_ne_self, decide_true, decide_false, beq_tf, keepT_setT, keepT_lit, h1, h1', h2', h2'', hb, and_self, hT.k, hT.t, hk, f1]
      · cases b2
        · simp only [codeEv, opsEv, oneEv, guardEv, opE_mov, opE_pick, opE_alloc, opE_box, opE_load1, opE_loadk, opE_store, opE_bin, opE_un, opE_faddr, opE_iaddrL, opE_call, opE_lenL, lenR_slice, elemR_slice, St.opd, look_set, look_cons, St.put, St.new, St.read, St.write, lookL, setL, cellsAt_cons, splice, argsT, resEv, bin_ilt, bin_ige, in_agg, in_loc, List.contains_cons, List.contains_nil, one_int, loc_int, one_str, cells_agg, unEv, callWith, keepL, List.append_nil, List.map, List.length, List.take, List.drop, List.all, List.any, List.nil_append, List.take_succ_cons, List.drop_succ_cons, Option.map_some, Nat.reduceEqDiff, Nat.reduceAdd, Nat.reduceLeDiff, Nat.reduceLT, if_true, if_false, Bool.and_true, Bool.false_and, Bool.and_false, Bool.or_true, Bool.or_false, Bool.true_or, Bool.not_true, Bool.not_false, List.isEmpty_cons, beq_self_eq_true, Bool.false_eq_true, Nat.succ_ne_self, decide_true, decide_false, beq_tf, keepT_setT, keepT_lit, h1, h1', h2', h2'', hb, and_self, hT.k, hT.t, hk, f1, f2]
        · cases b3
          · simp only [codeEv, opsEv, oneEv, guardEv, opE_mov, opE_pick, opE_alloc, opE_box, opE_load1, opE_loadk, opE_store, opE_bin, opE_un, opE_faddr, opE_iaddrL, opE_call, opE_lenL, lenR_slice, elemR_slice, St.opd, look_set, look_cons, St.put, St.new, St.read, St.write, lookL, setL, cellsAt_cons, splice, argsT, resEv, bin_ilt, bin_ige, in_agg, in_loc, List.contains_cons, List.contains_nil, one_int, loc_int, one_str, cells_agg, unEv, callWith, keepL, List.append_nil, List.map, List.length, List.take, List.drop, List.all, List.any, List.nil_append, List.take_succ_cons, List.drop_succ_cons, Option.map_some, Nat.reduceEqDiff, Nat.reduceAdd, Nat.reduceLeDiff, Nat.reduceLT, if_true, if_false, Bool.and_true, Bool.and_false, Bool.or_true, Bool.or_false, Bool.true_or, Bool.not_true, Bool.not_false, List.isEmpty_cons, beq_self_eq_true, Bool.false_eq_true, Nat.succ_ne_self, decide_true, decide_false, keepT_setT, keepT_lit, h1, h1', h2', h2'', hb, and_self, hT.k, hT.t, hk, f1, f2, f3]
          · simp only [codeEv, opsEv, oneEv, guardEv, opE_mov, opE_pick, opE_alloc, opE_box, opE_load1, opE_loadk, opE_store, opE_bin, opE_un, opE_faddr, opE_iaddrL, opE_call, opE_lenL, lenR_slice, elemR_slice, St.opd, look_set, look_cons, St.put, St.new, St.read, St.write, lookL, setL, cellsAt_cons, splice, argsT, resEv, bin_ilt, bin_ige, in_agg, in_loc, List.contains_cons, List.contains_nil, one_int, loc_int, one_str, cells_agg, unEv, callWith, keepL, List.append_nil, List.map, List.length, List.take, List.drop, List.all, List.any, List.nil_append, List.take_succ_cons, List.drop_succ_cons, Option.map_some, Nat.reduceEqDiff, Nat.reduceAdd, Nat.reduceLeDiff, Nat.reduceLT, if_true, if_false, Bool.and_true, Bool.or_true, Bool.or_false, Bool.true_or, Bool.not_true, Bool.not_false, List.isEmpty_cons, beq_self_eq_true, Bool.false_eq_true, Nat.succ_ne_self, decide_true, decide_false, keepT_setT, keepT_lit, h1, h1', h2', h2'', hb, and_self, hT.k, hT.t, hk, f1, f2, f3]

end AG
