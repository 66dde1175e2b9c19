/- What the functions of sets and vectors compute, and the laws of that. -/
import Derived.Test.YtenhcejelicjfaaDoorAgLnA
namespace AG
open Go Go.Proofs.YtenhcejelicjfaaDoor
set_option maxRecDepth 100000
set_option maxHeartbeats 4000000


theorem push_n (m : Mem) (b : ABlk) : (m.push b).n = m.n + 1 := rfl
theorem set_n (m : Mem) (i : Nat) (b : ABlk) : (m.set i b).n = m.n := rfl
theorem not_full {m : Mem} (h : m.n < 2 ^ depth) : m.full = false := by
  unfold Mem.full
  exact decide_eq_false (by omega)
/-- What was there is there still. -/
def Ext (m m' : Mem) : Prop := m.n ≤ m'.n ∧ ∀ i, i < m.n → m'.get i = m.get i
theorem Ext.refl (m : Mem) : Ext m m := ⟨Nat.le_refl _, fun _ _ => rfl⟩
theorem Ext.trans {a b c : Mem} (h : Ext a b) (k : Ext b c) : Ext a c := ⟨Nat.le_trans h.1 k.1, fun i hi => (k.2 i (Nat.lt_of_lt_of_le hi h.1)).trans (h.2 i hi)⟩
theorem Ext.push {a m : Mem} (h : Ext a m) (b : ABlk) (hf : m.n < 2 ^ depth) : Ext a (m.push b) :=
  ⟨Nat.le_trans h.1 (by rw [push_n]; omega), fun i hi => (Mem.get_push_old b (not_full hf) (by have := h.1; omega)).trans (h.2 i hi)⟩
theorem Ext.set {a m : Mem} (h : Ext a m) (i : Nat) (b : ABlk) (hm : m.n ≤ 2 ^ depth) (hi : a.n ≤ i) (hi' : i < m.n) : Ext a (m.set i b) :=
  ⟨by rw [set_n]; exact h.1, fun j hj => (Mem.get_set_ne b hm hi' (by omega)).trans (h.2 j hj)⟩
theorem VS.ext {m m' : Mem} {v : AV} {l : List V} (h : VS m v l) (k : Ext m m') : VS m' v l := by
  rcases h with h | ⟨b, o, cap, e, rfl, h⟩
  · exact .inl h
  · refine .inr ⟨b, o, cap, e, rfl, fun i x hx => ?_⟩
    obtain ⟨c, own, h1, h2⟩ := h i x hx
    exact ⟨c, own, (k.2 b (Mem.get_lt h1)).trans h1, h2⟩
theorem max_i (x y : Int) : maxEv (.int .i64 x) [.int .i64 y] = some (.int .i64 (max x y)) := by
  simp only [maxEv, Option.some.injEq, AV.int.injEq, true_and]; omega
theorem min_i (x y : Int) : minEv (.int .i64 x) [.int .i64 y] = some (.int .i64 (min x y)) := by
  simp only [minEv, Option.some.injEq, AV.int.injEq, true_and]; omega

def gt (a b : V) : Bool := decide (b.prio < a.prio) || (decide (a.prio = b.prio) && decide (a.line < b.line))
def bI : Option (Nat × V) → Int
  | none => -1
  | some (k, _) => k
def better (best : Option (Nat × V)) (v : V) : Bool := match best with
  | none => true
  | some (_, w) => gt v w
theorem logOk_loc {l : List Acc} (h : ∀ a ∈ l, (a.2.2 = true ∧ ∃ t o, a.1 = .loc t o) ∨ (a.2.2 = false ∧ ∃ b o, a.1 = .ptr b o)) : logOk l = true := by
  unfold logOk
  rw [List.all_eq_true]
  intro a ha
  rw [List.all_eq_true]
  intro b hb
  rcases h a ha with ⟨h1, t, o, h2⟩ | ⟨h1, t, o, h2⟩ <;> rcases h b hb with ⟨k1, t', o', k2⟩ | ⟨k1, t', o', k2⟩ <;> simp [h1, h2, k1, k2, disj]

theorem cells_fld {c : List AV} {p : Nat} {v : V} (h : cellsAt c p 3 = some v.c) : cellsAt c (p + 1) 1 = some [.int .i64 v.prio] ∧ cellsAt c (p + 0) 1 = some [.int .i64 v.line] ∧ cellsAt c (p + 2) 1 = some [.int .i64 v.fn] := by
  unfold cellsAt at h
  split at h
  · rename_i hle
    simp only [Option.some.injEq] at h
    have g : ∀ i, i < 3 → c[p + i]? = v.c[i]? := by
      intro i hi
      rw [← h, List.getElem?_take, if_pos hi, List.getElem?_drop]
    exact ⟨cells_one (g 1 (by omega)), cells_one (g 0 (by omega)), cells_one (g 2 (by omega))⟩
  · cases h

theorem better_spec (N : Nat) (hN : 1 ≤ N) (m : Mem) (b o : Nat) (cap : Option Nat) (e : Nat) (l : List V) (hm : ∀ (i : Nat) (x : V), l[i]? = some x → ∃ c own, m.get b = some (.cells c own) ∧ cellsAt c (o + i * 3) 3 = some x.c)
    (pl pb : Nat) (own1 own2 : Bool) (best : Option (Nat × V)) (hb : ∀ k w, best = some (k, w) → l[k]? = some w) (h1 : m.get pl = some (.cells [.slice b o l.length cap e] own1)) (h2 : m.get pb = some (.cells [.int .i64 (bI best)] own2))
    (i : Nat) (v : V) (hv : l[i]? = some v) : run A N 47 [.int .i64 (i : Int), .ptr pb 0, .ptr pl 0] m = some (.bool (better best v), m) := by
  obtain ⟨n, rfl⟩ : ∃ n, N = n + 1 := ⟨N - 1, by omega⟩
  rw [run_47]
  unfold fnEv a47
  cases best with
  | none =>
    simp only [bI] at h2
    simp only [codeEv, opsEv, oneEv, guardEv, opEv, St.opd, look_set, look_cons, St.put, St.read, cellsAt_cons, argsT, resEv, bin_ilt, in_int, in_ptr, loc_bool, keepT, keepL, List.map, List.length, List.take, List.drop, List.take_succ_cons, Option.map_some, Nat.reduceEqDiff, Int.reduceLT, Nat.reduceAdd, Nat.reduceLeDiff, Nat.reduceLT, if_true, if_false, Bool.false_eq_true, Nat.succ_ne_self, decide_true, h2, better]
  | some kw =>
    obtain ⟨k, w⟩ := kw
    have hw := hb k w rfl
    simp only [bI] at h2
    obtain ⟨c, own, c1, c2⟩ := hm i v hv
    obtain ⟨c', own', c3, c4⟩ := hm k w hw
    rw [c1] at c3
    simp only [Option.some.injEq, ABlk.cells.injEq] at c3
    obtain ⟨rfl, rfl⟩ := c3
    have hi := (List.getElem?_eq_some_iff.1 hv).1
    have hk := (List.getElem?_eq_some_iff.1 hw).1
    have i1 : (0 : Int) ≤ i := by omega
    have i2 : (i : Int) < l.length := by omega
    have k1 : (0 : Int) ≤ k := by omega
    have k2 : (k : Int) < l.length := by omega
    have k3 : ¬ ((k : Int) < 0) := by omega
    unfold better gt
    by_cases q1 : w.prio < v.prio
    · simp only [codeEv, opsEv, oneEv, guardEv, opEv, St.opd, look_set, look_cons, St.put, St.new, St.read, St.write, lookL, setL, cellsAt_cons, splice, argsT, resEv, bin_ilt, bin_igt, in_int, in_ptr, in_loc, List.contains_cons, List.contains_nil, one_int, loc_bool, cells_agg, keepT, keepL, careEv, dOneEv, dOpsEv, accOf, accEv, Option.toList_some, List.append_nil, List.map, List.length, List.take, List.drop, List.all, List.cons_append, List.nil_append, List.take_succ_cons, List.drop_succ_cons, Option.map_some, Nat.reduceEqDiff, Nat.reduceAdd, Nat.reduceLeDiff, Nat.reduceLT, if_true, if_false, Bool.and_true, Bool.and_false, Bool.or_true, Bool.or_false, Bool.true_or, Bool.false_or, Bool.not_true, Bool.not_false, List.isEmpty_cons, beq_self_eq_true, Bool.false_eq_true, Nat.succ_ne_self, decide_true, decide_false, beq_tf, beq_ft, logOk, disj, h1, h2, i1, i2, k1, k2, k3, and_self, Int.toNat_natCast, c1, c2, c4, V.c_eq, q1]
    · by_cases q2 : v.prio = w.prio
      · simp only [codeEv, opsEv, oneEv, guardEv, opEv, St.opd, look_set, look_cons, St.put, St.new, St.read, St.write, lookL, setL, cellsAt_cons, splice, argsT, resEv, bin_ilt, bin_igt, bin_ieq, in_int, in_ptr, in_loc, List.contains_cons, List.contains_nil, one_int, loc_bool, cells_agg, keepT, keepL, careEv, dOneEv, dOpsEv, accOf, accEv, Option.toList_some, List.append_nil, List.map, List.length, List.take, List.drop, List.all, List.cons_append, List.nil_append, List.take_succ_cons, List.drop_succ_cons, Option.map_some, Nat.reduceEqDiff, Nat.reduceAdd, Nat.reduceLeDiff, Nat.reduceLT, if_true, if_false, Bool.and_true, Bool.true_and, Bool.and_false, Bool.or_true, Bool.or_false, Bool.true_or, Bool.false_or, Bool.not_true, Bool.not_false, List.isEmpty_cons, beq_self_eq_true, Bool.false_eq_true, Nat.succ_ne_self, decide_true, decide_false, beq_tf, beq_ft, logOk, disj, h1, h2, i1, i2, k1, k2, k3, and_self, Int.toNat_natCast, c1, c2, c4, V.c_eq, q2, Int.lt_irrefl]
      · simp only [codeEv, opsEv, oneEv, guardEv, opEv, St.opd, look_set, look_cons, St.put, St.new, St.read, St.write, lookL, setL, cellsAt_cons, splice, argsT, resEv, bin_ilt, bin_igt, bin_ieq, in_int, in_ptr, in_loc, List.contains_cons, List.contains_nil, one_int, loc_bool, cells_agg, keepT, keepL, careEv, dOneEv, dOpsEv, accOf, accEv, Option.toList_some, List.append_nil, List.map, List.length, List.take, List.drop, List.all, List.cons_append, List.nil_append, List.take_succ_cons, List.drop_succ_cons, Option.map_some, Nat.reduceEqDiff, Nat.reduceAdd, Nat.reduceLeDiff, Nat.reduceLT, if_true, if_false, Bool.and_true, Bool.false_and, Bool.and_false, Bool.or_true, Bool.or_false, Bool.true_or, Bool.false_or, Bool.not_true, Bool.not_false, List.isEmpty_cons, beq_self_eq_true, Bool.false_eq_true, Nat.succ_ne_self, decide_false, beq_tf, beq_ft, logOk, disj, h1, h2, i1, i2, k1, k2, k3, and_self, Int.toNat_natCast, c1, c2, c4, V.c_eq, q1, q2]

def takeL (e : V → Bool) : List V → Nat → Option (Nat × V) → Option (Nat × V)
  | [], _, b => b
  | v :: r, i, b => takeL e r (i + 1) (if e v && better b v then some (i, v) else b)
def elig (P E : BitVec 32) (lv ac : Int) (v : V) : Bool := hasI (P &&& E) v.line && decide (max lv ac < v.prio)

theorem take_loop (b o : Nat) (cap : Option Nat) (e : Nat) (l : List V) (hl : l.length ≤ 1000000) (P E : BitVec 32) (lv ac : Int) (pl pb : Nat) (hpl : pl ≠ pb) (hbb : b ≠ pb) (own1 : Bool) :
    ∀ (r : List V) (i : Nat) (best : Option (Nat × V)) (m : Mem) (N : Nat) (T : List (Nat × AV)) (L : List (Nat × List AV)) (q : _), l.drop i = r → r.length + 3 ≤ N → m.n ≤ 2 ^ depth → 
      (∀ (i : Nat) (x : V), l[i]? = some x → ∃ c own, m.get b = some (.cells c own) ∧ cellsAt c (o + i * 3) 3 = some x.c) → (∀ k w, best = some (k, w) → l[k]? = some w) → m.get pl = some (.cells [.slice b o l.length cap e] own1) → m.get pb = some (.cells [.int .i64 (bI best)] true) →
      codeEv (run A N) (ev A N).2 a13_L1 { n := 52, t := T, l := L, m := m } = q → look T 0 = U P → look T 1 = U E → look T 2 = .int .i64 lv → look T 3 = .int .i64 ac → look T 12 = .ptr pb 0 → look T 13 = .fn 47 [.ptr pb 0, .ptr pl 0] →
      look T 20 = .slice b o l.length cap e → look T 21 = .int .i64 l.length → look T 22 = .int .i64 (i : Int) →
      ∃ T' L' m', q = some (.exit 0, { n := 52, t := T', l := L', m := m' }) ∧ look T' 12 = .ptr pb 0 ∧ m'.get pb = some (.cells [.int .i64 (bI (takeL (elig P E lv ac) r i best))] true) ∧ m'.n = m.n ∧ (∀ j, j ≠ pb → m'.get j = m.get j) ∧ (∀ k w, takeL (elig P E lv ac) r i best = some (k, w) → l[k]? = some w)
  | [], i, best, m, N, T, L, q, hd, hN, hmn, hm, hb, g1, g2, hq, h0, h1, h2, h3, h12, h13, h20, h21, h22 => by
    subst hq
    have hi : ¬ ((i : Int) < (l.length : Int)) := by
      have := List.drop_eq_nil_iff.1 hd
      omega
    rw [a13_L1_step]
    unfold a13_B1
    simp only [codeEv, opsEv, oneEv, guardEv, opEv, St.opd, look_set, look_cons, St.put, bin_ilt, in_int, in_U, in_ptr, in_slice, in_fn, keepT, keepL, List.map, Option.map_some, Nat.reduceEqDiff, Nat.reduceLT, if_true, if_false, Bool.false_eq_true, Nat.succ_ne_self, decide_false, h0, h1, h2, h3, h12, h13, h20, h21, h22, hi]
    exact ⟨_, _, _, rfl, rfl, g2, rfl, fun _ _ => rfl, hb⟩
  | v :: r, i, best, m, N, T, L, q, hd, hN, hmn, hm, hb, g1, g2, hq, h0, h1, h2, h3, h12, h13, h20, h21, h22 => by
    subst hq
    obtain ⟨hg, hi, hd'⟩ := drop_cons_get hd
    obtain ⟨n, rfl⟩ : ∃ n, N = n + 1 := ⟨N - 1, by simp only [List.length_cons] at hN; omega⟩
    obtain ⟨c, own, hc, hc3⟩ := hm i v hg
    have hi' : (i : Int) < (l.length : Int) := by omega
    have hi0 : (0 : Int) ≤ (i : Int) := by omega
    have hadd := add_i i (by omega)
    have hs := has_spec (n + 1) (by omega) (P &&& E) v.line m
    have hbt := better_spec (n + 1) (by omega) m b o cap e l hm pl pb own1 true best hb g1 g2 i v hg
    have hmx := max_i lv ac
    have hpb := Mem.get_lt g2
    have ih := fun best m T L q => take_loop b o cap e l hl P E lv ac pl pb hpl hbb own1 r (i + 1) best m n T L q hd' (by simp only [List.length_cons] at hN; omega)
    rw [a13_L1_step]
    unfold a13_B1 takeL
    by_cases c1 : hasI (P &&& E) v.line = true
    · by_cases c2 : max lv ac < v.prio
      · have ce : elig P E lv ac v = true := by simp [elig, c1, c2]
        by_cases c3 : better best v = true
        · simp only [codeEv, opsEv, oneEv, guardEv, opEv, St.opd, look_set, look_cons, St.put, St.new, St.read, St.write, lookL, setL, cellsAt_cons, splice, bin_and, bin_ilt, bin_igt, in_int, in_U, in_ptr, in_slice, in_fn, in_loc, List.contains_cons, List.contains_nil, one_int, loc_int, cells_int, loc_ptr, cells_agg, loc_U, callWith, keepT, keepL, List.append_nil, List.map, List.length, List.take, List.drop, List.all, List.any, List.cons_append, List.nil_append, List.take_succ_cons, List.drop_succ_cons, Option.map_some, Nat.reduceEqDiff, Nat.reduceAdd, Nat.reduceLeDiff, Nat.reduceLT, if_true, if_false, Bool.and_true, Bool.or_false, Bool.not_false, List.isEmpty_cons, beq_self_eq_true, Bool.false_eq_true, Nat.succ_ne_self, decide_true, h0, h1, h2, h3, h12, h13, h20, h21, h22, hi', hi0, hc, hc3, hs, hbt, hmx, V.c_eq, Int.toNat_natCast, and_self, c1, c2, c3, ce, g2, hadd, again_of]
          generalize hq : codeEv (run A n) (ev A n).2 a13_L1 _ = q
          obtain ⟨T', L', m', e1, e2, e3, e4, e5, e6⟩ := ih (some (i, v)) (m.set pb (.cells [.int .i64 (i : Int)] true)) _ _ q hmn
            (fun j x hx => by
              obtain ⟨c, own, k1, k2⟩ := hm j x hx
              exact ⟨c, own, (Mem.get_set_ne _ hmn hpb (fun h => hbb h.symm)).trans k1, k2⟩)
            (fun k w hk => by cases hk; exact hg) ((Mem.get_set_ne _ hmn hpb (fun h => hpl h.symm)).trans g1) (Mem.get_set_same _ hpb) hq rfl rfl rfl rfl rfl rfl rfl rfl rfl
          exact ⟨T', L', m', e1, e2, e3, e4, fun j hj => (e5 j hj).trans (Mem.get_set_ne _ hmn hpb (fun h => hj h.symm)), e6⟩
        · simp only [codeEv, opsEv, oneEv, guardEv, opEv, St.opd, look_set, look_cons, St.put, St.new, St.read, St.write, lookL, setL, cellsAt_cons, splice, bin_and, bin_ilt, bin_igt, in_int, in_U, in_ptr, in_slice, in_fn, in_loc, List.contains_cons, List.contains_nil, one_int, loc_int, cells_int, loc_ptr, cells_agg, loc_U, callWith, keepT, keepL, List.append_nil, List.map, List.length, List.take, List.drop, List.all, List.any, List.cons_append, List.nil_append, List.take_succ_cons, List.drop_succ_cons, Option.map_some, Nat.reduceEqDiff, Nat.reduceAdd, Nat.reduceLeDiff, Nat.reduceLT, if_true, if_false, Bool.and_true, Bool.and_false, Bool.or_false, Bool.not_false, List.isEmpty_cons, beq_self_eq_true, Bool.false_eq_true, Nat.succ_ne_self, decide_true, h0, h1, h2, h3, h12, h13, h20, h21, h22, hi', hi0, hc, hc3, hs, hbt, hmx, V.c_eq, Int.toNat_natCast, and_self, c1, c2, c3, ce, hadd, again_of]
          exact ih best m _ _ _ hmn hm hb g1 g2 rfl rfl rfl rfl rfl rfl rfl rfl rfl rfl
      · have ce : elig P E lv ac v = false := by simp [elig, c2]
        simp only [codeEv, opsEv, oneEv, guardEv, opEv, St.opd, look_set, look_cons, St.put, St.new, St.read, St.write, lookL, setL, cellsAt_cons, splice, bin_and, bin_ilt, bin_igt, in_int, in_U, in_ptr, in_slice, in_fn, in_loc, List.contains_cons, List.contains_nil, one_int, loc_int, cells_int, cells_agg, loc_U, callWith, keepT, keepL, List.append_nil, List.map, List.length, List.take, List.drop, List.all, List.any, List.cons_append, List.nil_append, List.take_succ_cons, List.drop_succ_cons, Option.map_some, Nat.reduceEqDiff, Nat.reduceAdd, Nat.reduceLeDiff, Nat.reduceLT, if_true, if_false, Bool.and_true, Bool.false_and, Bool.or_false, Bool.not_false, List.isEmpty_cons, beq_self_eq_true, Bool.false_eq_true, Nat.succ_ne_self, decide_true, decide_false, beq_ft, h0, h1, h2, h3, h12, h13, h20, h21, h22, hi', hi0, hc, hc3, hs, hmx, V.c_eq, Int.toNat_natCast, and_self, c1, c2, ce, hadd, again_of]
        exact ih best m _ _ _ hmn hm hb g1 g2 rfl rfl rfl rfl rfl rfl rfl rfl rfl rfl
    · have ce : elig P E lv ac v = false := by simp [elig, c1]
      simp only [codeEv, opsEv, oneEv, guardEv, opEv, St.opd, look_set, look_cons, St.put, St.new, St.read, St.write, lookL, setL, cellsAt_cons, splice, bin_and, bin_ilt, in_int, in_U, in_ptr, in_slice, in_fn, in_loc, List.contains_cons, List.contains_nil, one_int, loc_int, cells_int, cells_agg, loc_U, callWith, keepT, keepL, List.append_nil, List.map, List.length, List.take, List.drop, List.all, List.any, List.cons_append, List.nil_append, List.take_succ_cons, List.drop_succ_cons, Option.map_some, Nat.reduceEqDiff, Nat.reduceAdd, Nat.reduceLeDiff, Nat.reduceLT, if_true, if_false, Bool.and_true, Bool.false_and, Bool.or_false, Bool.not_false, List.isEmpty_cons, beq_self_eq_true, Bool.false_eq_true, Nat.succ_ne_self, decide_true, beq_ft, h0, h1, h2, h3, h12, h13, h20, h21, h22, hi', hi0, hc, hc3, hs, V.c_eq, Int.toNat_natCast, and_self, c1, ce, hadd, again_of]
      exact ih best m _ _ _ hmn hm hb g1 g2 rfl rfl rfl rfl rfl rfl rfl rfl rfl rfl

def takeR (P E : BitVec 32) (lv ac : Int) (l : List V) : Option (Nat × V) := if checkV l = 0 then takeL (elig P E lv ac) l 0 none else none
def takeAV (r : Option (Nat × V)) : AV := .tup [.int .i64 (max 0 (bI r)), .bool (decide (0 ≤ bI r))]

theorem VS.plain {m : Mem} {v : AV} {l : List V} (hv : VS m v l) : (∀ ls, AV.locIn ls v = true) ∧ v.isLoc = false ∧ AV.one v = true ∧ v.cells? = some [v] := by
  rcases hv with ⟨rfl, _⟩ | ⟨b, o, cap, e, rfl, _⟩ <;> exact ⟨fun _ => rfl, rfl, rfl, rfl⟩
theorem take_spec (N : Nat) (hN : 40 ≤ N) (P E : BitVec 32) (lv ac : Int) (m : Mem) (v : AV) (l : List V) (hv : VS m v l) (hl : l.length ≤ 1000000) (hmn : m.n + 2 ≤ 2 ^ depth) :
    ∃ m', run A N 13 [U P, U E, .int .i64 lv, .int .i64 ac, v] m = some (takeAV (takeR P E lv ac l), m') ∧ Ext m m' ∧ m'.n ≤ m.n + 2 := by
  obtain ⟨n, rfl⟩ : ∃ n, N = n + 1 := ⟨N - 1, by omega⟩
  rw [run_13]
  unfold fnEv a13 takeR
  have hf := not_full (m := m) (by omega)
  have hf1 := not_full (m := m.push (.cells [v] true)) (by rw [push_n]; omega)
  have x1 : Ext m (m.push (.cells [v] true)) := (Ext.refl m).push _ (by omega)
  have ck := check_v n (by omega) (m.push (.cells [v] true)) v l (hv.ext x1) hl
  have g1 : (m.push (.cells [v] true)).get m.n = some (.cells [v] true) := Mem.get_push_new _
  obtain ⟨p1, p2, p3, p4⟩ := hv.plain
  by_cases hc : checkV l = 0
  · have g2 : ((m.push (.cells [v] true)).push (.cells [.int .i64 0] true)).get (m.n + 1) = some (.cells [.int .i64 0] true) := Mem.get_push_new _
    have g3 : ((m.push (.cells [v] true)).push (.cells [.int .i64 0] true)).get m.n = some (.cells [v] true) := (Mem.get_push_old _ hf1 (by rw [push_n]; omega)).trans g1
    have g4 : (((m.push (.cells [v] true)).push (.cells [.int .i64 0] true)).set (m.n + 1) (.cells [.int .i64 (-1)] true)).get (m.n + 1) = some (.cells [.int .i64 (-1)] true) := Mem.get_set_same _ (by simp only [push_n]; omega)
    have g5 : (((m.push (.cells [v] true)).push (.cells [.int .i64 0] true)).set (m.n + 1) (.cells [.int .i64 (-1)] true)).get m.n = some (.cells [v] true) := (Mem.get_set_ne _ (by simp only [push_n]; omega) (by simp only [push_n]; omega) (by omega)).trans g3
    have xx : Ext m (((m.push (.cells [v] true)).push (.cells [.int .i64 0] true)).set (m.n + 1) (.cells [.int .i64 (-1)] true)) := (x1.push _ (by rw [push_n]; omega)).set _ _ (by simp only [push_n]; omega) (by omega) (by simp only [push_n]; omega)
    have hxn : (((m.push (.cells [v] true)).push (.cells [.int .i64 0] true)).set (m.n + 1) (.cells [.int .i64 (-1)] true)).n = m.n + 2 := by simp only [push_n, set_n]
    rcases hv with ⟨rfl, rfl⟩ | ⟨b, o, cap, e, rfl, hm⟩
    · simp only [codeEv, opsEv, oneEv, guardEv, opEv, St.opd, look_set, look_cons, St.put, St.new, St.read, St.write, cellsAt_cons, splice, argsT, resEv, bin_ilt, bin_ige, bin_ine, in_int, in_U, in_ptr, in_nils, in_fn, one_int, loc_int, cells_int, loc_bool, loc_ptr, loc_nils, cells_nils, callWith, keepT, keepL, careEv, dOneEv, dOpsEv, accOf, accEv, Option.toList_some, List.append_nil, List.map, List.length, List.take, List.drop, List.all, List.any, List.nil_append, List.take_succ_cons, List.drop_succ_cons, Option.map_some, Nat.reduceEqDiff, Nat.reduceAdd, Nat.reduceLeDiff, Nat.reduceLT, if_true, if_false, Bool.and_true, Bool.and_false, Bool.or_false, Bool.not_true, Bool.not_false, List.isEmpty_cons, Bool.false_eq_true, Nat.succ_ne_self, decide_true, decide_false, hf, hf1, ck, g1, g2, g4, g5, hc, push_n, a13_L1_step, a13_B1, takeL, max_i, logOk, Int.lt_irrefl, show ¬ ((0 : Int) ≤ -1) by omega]
      exact ⟨_, rfl, xx, by rw [hxn]; omega⟩
    · by_cases hl0 : l = []
      · subst hl0
        simp only [List.length_nil] at ck g1 g2 g3 g4 g5 xx hf1 hxn ⊢
        simp only [codeEv, opsEv, oneEv, guardEv, opEv, St.opd, look_set, look_cons, St.put, St.new, St.read, St.write, cellsAt_cons, splice, argsT, resEv, bin_ilt, bin_ige, bin_ine, in_int, in_U, in_ptr, in_slice, in_fn, one_int, loc_int, cells_int, loc_bool, loc_ptr, loc_slice, cells_slice, callWith, keepT, keepL, careEv, dOneEv, dOpsEv, accOf, accEv, Option.toList_some, List.append_nil, List.map, List.length, List.take, List.drop, List.all, List.any, List.nil_append, List.take_succ_cons, List.drop_succ_cons, Option.map_some, Nat.reduceEqDiff, Nat.reduceAdd, Nat.reduceLeDiff, Nat.reduceLT, if_true, if_false, Bool.and_true, Bool.and_false, Bool.or_false, Bool.not_true, Bool.not_false, List.isEmpty_cons, Bool.false_eq_true, Nat.succ_ne_self, decide_true, decide_false, hf, hf1, ck, g1, g2, g4, g5, hc, push_n, a13_L1_step, a13_B1, takeL, max_i, logOk, Int.lt_irrefl, show ¬ ((0 : Int) ≤ -1) by omega, show ((0 : Nat) : Int) = 0 from rfl]
        exact ⟨_, rfl, xx, by rw [hxn]; omega⟩
      · obtain ⟨v0, h0⟩ : ∃ v0, l[0]? = some v0 := by
          cases l with
          | nil => exact absurd rfl hl0
          | cons v r => exact ⟨v, rfl⟩
        obtain ⟨c, own, k1, _⟩ := hm 0 v0 h0
        have hbm := Mem.get_lt k1
        simp only [codeEv, opsEv, oneEv, guardEv, opEv, St.opd, look_set, look_cons, St.put, St.new, St.read, St.write, lookL, cellsAt_cons, splice, argsT, resEv, bin_ine, in_int, in_U, in_ptr, in_slice, in_fn, one_int, loc_int, cells_int, loc_ptr, loc_slice, cells_slice, callWith, keepT, keepL, careEv, dOneEv, dOpsEv, accOf, accEv, Option.toList_some, List.append_nil, List.map, List.length, List.take, List.drop, List.all, List.any, List.nil_append, List.take_succ_cons, List.drop_succ_cons, Option.map_some, Nat.reduceEqDiff, Nat.reduceAdd, Nat.reduceLeDiff, Nat.reduceLT, if_true, if_false, Bool.and_true, Bool.false_and, Bool.and_false, Bool.or_false, Bool.false_or, Bool.not_true, Bool.not_false, List.isEmpty_cons, Bool.false_eq_true, Nat.succ_ne_self, decide_true, hf, hf1, ck, g1, g2, g5, hc, push_n]
        generalize hq : codeEv (run A n) (ev A n).2 a13_L1 _ = q
        have h32 : l.length ≤ 32 := by
          unfold checkV at hc
          split at hc
          · cases hc
          · omega
        obtain ⟨T', L', m', rfl, e2, e3, e4, e5, e6⟩ := take_loop b o cap e l hl P E lv ac m.n (m.n + 1) (by omega) (by omega) true l 0 none _ n _ _ q rfl (by omega) (by rw [hxn]; omega)
          (fun i x hx => by
            obtain ⟨c, own, k1, k2⟩ := hm i x hx
            exact ⟨c, own, (xx.2 b (Mem.get_lt k1)).trans k1, k2⟩) (fun k w h => by cases h) g5 g4 hq (by rfl) (by rfl) (by rfl) (by rfl) (by rfl) (by rfl) (by rfl) (by rfl) (by rfl)
        simp only [look_set, look_cons, cellsAt_cons, bin_ige, in_ptr, loc_int, loc_bool, List.length, List.take, List.drop, List.all, List.take_succ_cons, Option.map_some, Nat.reduceEqDiff, Nat.reduceAdd, Nat.reduceLeDiff, Nat.reduceLT, if_true, if_false, Bool.or_false, Bool.false_eq_true, Nat.succ_ne_self, e2, e3, max_i, logOk]
        refine ⟨_, rfl, ⟨by rw [e4, hxn]; omega, fun i hi => (e5 i (by omega)).trans (xx.2 i hi)⟩, by rw [e4, hxn]; omega⟩
  · simp only [codeEv, opsEv, oneEv, guardEv, opEv, St.opd, look_set, look_cons, St.put, St.new, St.read, cellsAt_cons, argsT, resEv, bin_ine, in_int, in_U, in_ptr, loc_int, loc_bool, callWith, keepT, keepL, List.map, List.length, List.take, List.drop, List.any, List.take_succ_cons, Option.map_some, Nat.reduceEqDiff, Nat.reduceAdd, Nat.reduceLeDiff, Nat.reduceLT, if_true, if_false, Bool.or_false, Bool.not_false, Bool.false_eq_true, Nat.succ_ne_self, decide_false, hf, ck, g1, p1, p2, p4, hc]
    exact ⟨_, rfl, x1, by rw [push_n]; omega⟩

end AG
