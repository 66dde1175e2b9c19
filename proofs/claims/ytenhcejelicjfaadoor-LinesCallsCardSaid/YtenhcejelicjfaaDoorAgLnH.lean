/- What the functions of sets and vectors compute, and the laws of that. -/
import Derived.Test.YtenhcejelicjfaaDoorAgLnG
namespace AG
open Go Go.Proofs.YtenhcejelicjfaaDoor
set_option maxRecDepth 100000
set_option maxHeartbeats 4000000



theorem idx_any {α : Type} {l : List α} {i : Nat} {x : α} (h : l[i]? = some x) : (0 : Int) ≤ i ∧ (i : Int) < l.length := by
  have := (List.getElem?_eq_some_iff.1 h).1
  omega
theorem z1 : zerosEv [AV.int .i64 0] 1 = [.int .i64 0] := rfl
theorem p24 : (1 ≤ 2 ^ 24) = True := by simp
def ints (r : List Nat) : List Int := r.map fun (k : Nat) => (k : Int)

theorem list_loop (n0 : Nat) (h00 : 0 < n0) : ∀ (r : List Nat) (x : BitVec 32) (N : Nat) (T : List (Nat × AV)) (L : List (Nat × List AV)) (m : Mem) (v : AV) (d : List Int) (q : _), bitsOf x = r → r.length + 2 ≤ N → m.n + 2 * r.length ≤ 2 ^ depth → n0 ≤ m.n → m.get 0 = some (.cells tab32 false) →
      OS 1 n0 m v (d.flatMap iC) d.length → d.length + r.length ≤ 100 → codeEv (run A N) (ev A N).2 a15_L1 ⟨15, T, L, m⟩ = q → keepT [0, 2] [] T = [(0, U x), (2, v)] →
      ∃ T' L' m' v', q = some (.exit 0, ⟨15, T', L', m'⟩) ∧ keepT [2] [] T' = [(2, v')] ∧ OS 1 n0 m' v' ((d ++ ints r).flatMap iC) (d ++ ints r).length ∧ (∀ i, i < n0 → m'.get i = m.get i) ∧ m.n ≤ m'.n ∧ m'.n ≤ m.n + 2 * r.length
  | [], x, N, T, L, m, v, d, q, hx, hN, hmn, hn0, hm, hv, hd, hq, hk => by
    subst hq
    have h0 := eq_true (bits_nil.1 hx)
    obtain ⟨p1, p2, p3, p4⟩ := hv.plain
    rw [a15_L1_step]
    unfold a15_B1
    refine ⟨_, _, m, v, (by simp only [codeEv, opsEv, oneEv, guardEv, opEv, St.opd, look_set, look_cons, St.put, bin_une, keepL, Option.map_some, Nat.reduceEqDiff, Nat.reduceLT, if_true, if_false, Bool.not_true, Bool.false_eq_true, decide_true, u_0, hk, h0]; rfl), (by simp only [keepT, List.map, look_set, look_cons, Nat.reduceEqDiff, if_true, if_false, p1]), ?_, fun _ _ => rfl, Nat.le_refl _, by omega⟩
    simp only [ints, List.map_nil, List.append_nil]
    exact hv
  | k :: r, x, N, T, L, m, v, d, q, hx, hN, hmn, hn0, hm, hv, hd, hq, hk => by
    subst hq
    obtain ⟨n, rfl⟩ : ∃ n, N = n + 1 := ⟨N - 1, by simp only [List.length_cons] at hN; omega⟩
    obtain ⟨b1, b2, b3, b4⟩ := bits_cons hx
    rw [List.length_cons] at hN hmn hd
    have h0 : ¬ x = 0#32 := fun h => by rw [h] at b1; simp at b1
    have tz := tz_spec (n + 1) (by omega) x k r hx m hm
    have hf := not_full (m := m) (by omega)
    obtain ⟨p1, p2, p3, p4⟩ := hv.plain
    have g0 : (m.push (.cells [.int .i64 (k : Int)] true)).get 0 = some (.cells tab32 false) := (Mem.get_push_old _ hf (by have := Mem.get_lt hm; omega)).trans hm
    obtain ⟨v', m', ap, o1, o2, o3⟩ := app_spec (bytes := 8) (by decide) (hv.push (.cells [.int .i64 (k : Int)] true) (by omega)) (cp := some 1) (Mem.get_push_new _) rfl (by simp [AV.one]) (by rw [push_n]; omega) (by rw [push_n]; omega) (by omega) (Nat.le_trans (show d.length + 1 ≤ 1000 by omega) (by decide))
    rw [push_n] at o2
    have g1 : m'.get 0 = some (.cells tab32 false) := (o3 0 h00).trans g0
    have keep : ∀ i, i < n0 → m'.get i = m.get i := fun i hi => (o3 i hi).trans (Mem.get_push_old _ hf (by omega))
    have ov : OS 1 n0 m' v' ((d ++ [(k : Int)]).flatMap iC) (d ++ [(k : Int)]).length := by
      rw [List.flatMap_append, List.length_append]
      exact o1
    obtain ⟨p1', _, _, _⟩ := ov.plain
    rw [a15_L1_step]
    unfold a15_B1
    simp only [codeEv, opsEv, oneEv, guardEv, opEv, St.opd, look_set, look_cons, St.put, splice, bin_and, bin_une, in_U, cells_int, loc_U, fillEv, callWith, keepL, List.append_nil, List.map, List.length, List.take, List.drop, List.any, List.nil_append, List.drop_succ_cons, Option.map_some, Nat.reduceEqDiff, Nat.reduceAdd, Nat.reduceLeDiff, Nat.reduceLT, Nat.reduceMul, if_true, if_false, Bool.or_false, Bool.not_false, Bool.false_eq_true, Nat.succ_ne_self, decide_false, u_0, u_1, keepT_setT, hk, h0, tz, z1, p24, hf, ap, p1, p1', bin_subU, again_of]
    generalize hq : codeEv (run A n) (ev A n).2 a15_L1 _ = q
    obtain ⟨T', L', m2, v2, e1, e2, e3, e4, e5, e6⟩ := list_loop n0 h00 r (x &&& (x - 1#32)) n _ _ m' v' (d ++ [(k : Int)]) q b4 (by omega) (by omega) (by omega) g1 ov (by simp only [List.length_append, List.length_cons, List.length_nil]; omega) hq (by simp only [keepT, List.map, look_set, look_cons, in_U, Nat.reduceEqDiff, if_true, if_false, p1'])
    refine ⟨T', L', m2, v2, e1, e2, ?_, fun i hi => (e4 i hi).trans (keep i hi), by omega, by first | omega | (simp only [List.length_cons]; omega)⟩
    have e : d ++ ints (k :: r) = d ++ [(k : Int)] ++ ints r := by simp [ints]
    rw [e]; exact e3

theorem bits_len (x : BitVec 32) : (bitsOf x).length ≤ 32 := by
  have := List.length_filter_le (fun i => x.getLsbD i) (List.range 32)
  rw [List.length_range] at this
  exact this

theorem list_spec (N : Nat) (hN : 40 ≤ N) (x : BitVec 32) (m : Mem) (hm : m.get 0 = some (.cells tab32 false)) (hmn : m.n + 64 ≤ 2 ^ depth) :
    ∃ v m', run A N 15 [U x] m = some (v, m') ∧ Ext m m' ∧ m'.n ≤ m.n + 64 ∧ IS m' v (ints (bitsOf x)) := by
  obtain ⟨n, rfl⟩ : ∃ n, N = n + 1 := ⟨N - 1, by omega⟩
  rw [run_15]
  unfold fnEv a15
  have hl := bits_len x
  simp only [codeEv, opsEv, oneEv, guardEv, opEv, St.opd, look_cons, St.put, argsT, resEv, in_U, keepL, List.map, List.length, Nat.reduceAdd, Nat.reduceLT, if_true, keepT_lit]
  generalize hq : codeEv (run A n) (ev A n).2 a15_L1 _ = q
  obtain ⟨T', L', m2, v2, rfl, e2, e3, e4, e5, e6⟩ := list_loop m.n (Nat.lt_of_le_of_lt (Nat.zero_le _) (Mem.get_lt hm)) (bitsOf x) x n _ _ m .nils [] q rfl (by omega) (by omega) (Nat.le_refl _) hm (.inl ⟨rfl, rfl, rfl⟩) (by simp only [List.length_nil]; omega) hq (by simp only [keepT, List.map, look_set, look_cons, in_U, in_nils, Nat.reduceEqDiff, if_true, if_false])
  obtain ⟨p1, p2, p3, p4⟩ := e3.plain
  refine ⟨v2, m2, (by simp only [look_set, look_cons, Nat.reduceEqDiff, Nat.reduceLT, if_true, if_false, Bool.false_eq_true, e2, p2]), ⟨e5, e4⟩, by omega, ?_⟩
  rw [List.nil_append] at e3
  exact OS.rs (f := iC) (fun _ => rfl) e3

/-- The set of some lines. -/
def ofL : BitVec 32 → List Int → BitVec 32 × Int
  | s, [] => (s, 0)
  | s, x :: r => if x < 0 then (0#32, 2) else if 31 < x then (0#32, 2) else ofL (s ||| 1#32 <<< x.toNat) r

theorem of_loop (b o : Nat) (cap : Option Nat) (e : Nat) (m : Mem) (l : List Int) (hl : l.length ≤ 1000000) (hm : ∀ (i : Nat) (x : Int), l[i]? = some x → ∃ cs own, m.get b = some (.cells cs own) ∧ cellsAt cs (o + i * 1) 1 = some (iC x)) :
    ∀ (r : List Int) (i : Nat) (s : BitVec 32) (N : Nat) (T : List (Nat × AV)) (L : List (Nat × List AV)) (q : _), l.drop i = r → r.length + 1 ≤ N → codeEv (run A N) (ev A N).2 a16_L1 ⟨24, T, L, m⟩ = q → keepT [2, 6, 7, 8] [] T = [(2, U s), (6, .slice b o l.length cap e), (7, .int .i64 l.length), (8, .int .i64 (i : Int))] →
      ∃ T' L', (q = some (.exit 0, ⟨24, T', L', m⟩) ∧ (ofL s r).2 = 0 ∧ keepT [2] [] T' = [(2, U (ofL s r).1)]) ∨ (q = some (.ret, ⟨24, T', L', m⟩) ∧ (ofL s r) = (0#32, 2) ∧ look T' 2 = U 0#32 ∧ look T' 3 = .int .i64 2)
  | [], i, s, N, T, L, q, hd, hN, hq, hk => by
    subst hq
    have hi : ¬ ((i : Int) < (l.length : Int)) := by
      have := List.drop_eq_nil_iff.1 hd
      omega
    rw [a16_L1_step]
    unfold a16_B1 ofL
    exact ⟨_, _, .inl ⟨(by simp only [codeEv, opsEv, oneEv, guardEv, opEv, St.opd, look_set, look_cons, St.put, bin_ilt, keepL, Option.map_some, Nat.reduceEqDiff, Nat.reduceLT, if_true, if_false, Bool.false_eq_true, Nat.succ_ne_self, decide_false, hk, hi]; rfl), rfl, (by simp only [keepT, List.map, look_set, look_cons, in_U, Nat.reduceEqDiff, if_true, if_false])⟩⟩
  | x :: r, i, s, N, T, L, q, hd, hN, hq, hk => by
    subst hq
    obtain ⟨hg, hi, hd'⟩ := drop_cons_get hd
    obtain ⟨n, rfl⟩ : ∃ n, N = n + 1 := ⟨N - 1, by simp only [List.length_cons] at hN; omega⟩
    obtain ⟨c, own, hc, hc3⟩ := hm i x hg
    rw [Nat.mul_one] at hc3
    have hi' := idx_any hg
    have hadd := add_i i (by omega)
    rw [a16_L1_step]
    unfold a16_B1 ofL
    by_cases c1 : x < 0
    · exact ⟨_, _, .inr ⟨(by simp only [codeEv, opsEv, oneEv, guardEv, opEv, St.opd, look_set, look_cons, St.put, St.read, bin_ilt, in_int, in_U, in_slice, keepL, List.map, Option.map_some, Nat.reduceEqDiff, Nat.reduceLT, if_true, if_false, Nat.succ_ne_self, decide_true, beq_tf, u_0, keepT_setT, hk, hi', and_self, Int.toNat_natCast, Nat.mul_one, hc, hc3, iC_eq, c1]; rfl), (by simp only [c1, if_true]), (by simp only [look_set, Nat.reduceEqDiff, if_true, if_false]), (by simp only [look_set, Nat.reduceEqDiff, if_true, if_false])⟩⟩
    · by_cases c2 : 31 < x
      · exact ⟨_, _, .inr ⟨(by simp only [codeEv, opsEv, oneEv, guardEv, opEv, St.opd, look_set, look_cons, St.put, St.read, bin_ilt, bin_igt, in_int, in_U, in_slice, keepL, List.map, Option.map_some, Nat.reduceEqDiff, Nat.reduceLT, if_true, if_false, beq_self_eq_true, Bool.false_eq_true, Nat.succ_ne_self, decide_true, decide_false, u_0, keepT_setT, hk, hi', and_self, Int.toNat_natCast, Nat.mul_one, hc, hc3, iC_eq, c1, c2]; rfl), (by simp only [c1, c2, if_true, if_false]), (by simp only [look_set, Nat.reduceEqDiff, if_true, if_false]), (by simp only [look_set, Nat.reduceEqDiff, if_true, if_false])⟩⟩
      · have hsh := u_or x s (by omega)
        simp only [codeEv, opsEv, oneEv, guardEv, opEv, St.opd, look_set, look_cons, St.put, St.read, bin_or, bin_ilt, bin_igt, in_int, in_U, in_slice, keepL, List.map, Option.map_some, Nat.reduceEqDiff, Nat.reduceLT, if_true, if_false, beq_self_eq_true, Bool.false_eq_true, Nat.succ_ne_self, decide_true, decide_false, u_0, u_1, keepT_setT, hk, hi', and_self, Int.toNat_natCast, Nat.mul_one, hc, hc3, iC_eq, c1, c2, hsh, hadd, again_of]
        exact of_loop b o cap e m l hl hm r (i + 1) (s ||| 1#32 <<< x.toNat) n _ _ _ hd' (by simp only [List.length_cons] at hN; omega) rfl (by simp only [keepT, List.map, look_set, look_cons, in_int, in_U, in_slice, Nat.reduceEqDiff, if_true, if_false])

theorem of_spec (N : Nat) (m : Mem) (v : AV) (l : List Int) (hv : IS m v l) (hl : l.length ≤ 1000000) (hN : l.length + 3 ≤ N) : run A N 16 [v] m = some (.tup [U (ofL 0#32 l).1, .int .i64 (ofL 0#32 l).2], m) := by
  obtain ⟨n, rfl⟩ : ∃ n, N = n + 1 := ⟨N - 1, by omega⟩
  rw [run_16]
  unfold fnEv a16
  rcases hv with ⟨rfl, rfl⟩ | ⟨b, o, cap, e, rfl, hm⟩
  · simp only [codeEv, opsEv, oneEv, guardEv, opEv, St.opd, look_set, look_cons, St.put, argsT, resEv, bin_ilt, in_int, in_U, in_nils, loc_int, loc_U, keepL, List.map, List.length, List.any, Option.map_some, Nat.reduceEqDiff, Nat.reduceAdd, Nat.reduceLT, if_true, if_false, Bool.or_false, Bool.false_eq_true, Nat.succ_ne_self, decide_false, u_0, u_1, keepT_setT, keepT_lit, a16_L1_step, a16_B1, ofL, Int.lt_irrefl]
  · simp only [codeEv, opsEv, oneEv, guardEv, opEv, St.opd, look_set, look_cons, St.put, argsT, resEv, in_U, in_slice, keepL, List.map, List.length, List.any, Nat.reduceEqDiff, Nat.reduceAdd, Nat.reduceLT, if_true, if_false, Bool.or_false, Nat.succ_ne_self, u_0, keepT_setT, keepT_lit]
    generalize hq : codeEv (run A n) (ev A n).2 a16_L1 _ = q
    obtain ⟨T', L', ⟨rfl, h1, h2⟩ | ⟨rfl, h1, h2, h3⟩⟩ := of_loop b o cap e m l hl hm l 0 0#32 n _ _ q rfl (by omega) hq (by simp only [keepT, List.map, look_set, look_cons, in_int, in_U, in_slice, Nat.reduceEqDiff, if_true, if_false, Int.ofNat_zero])
    · simp only [look_set, look_cons, loc_int, loc_U, Nat.reduceEqDiff, Nat.reduceLT, if_true, if_false, Bool.or_false, Bool.false_eq_true, Nat.succ_ne_self, h2, h1]
    · simp only [loc_int, loc_U, if_false, Bool.or_false, Bool.false_eq_true, h2, h1, h3]

end AG
