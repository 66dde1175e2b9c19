/- What the functions of masks and sets compute, and the laws of that. -/
import Derived.Test.YtenhcejelicjfaaAgFm
import Derived.Test.YtenhcejelicjfaaAgMkG
namespace AG
open Go Go.Proofs.Ytenhcejelicjfaa
set_option maxRecDepth 100000
set_option maxHeartbeats 4000000



def uC (x : BitVec 32) : List AV := [U x]
theorem uC_eq (x : BitVec 32) : uC x = [U x] := rfl
abbrev US := RS uC 1
theorem get_u {m : Mem} {b o : Nat} {l : List (BitVec 32)} (hm : ∀ (i : Nat) (x : BitVec 32), l[i]? = some x → ∃ cs own, m.get b = some (.cells cs own) ∧ cellsAt cs (o + i * 1) 1 = some (uC x)) {i : Nat} {x : BitVec 32} (hx : l[i]? = some x) :
    ∃ cs own, m.get b = some (.cells cs own) ∧ cellsAt cs (o + i) 1 = some [U x] := by
  obtain ⟨c, own, h1, h2⟩ := hm i x hx
  rw [Nat.mul_one] at h2
  exact ⟨c, own, h1, h2⟩

theorem flat_u (l : List (BitVec 32)) : l.flatMap uC = l.map U := by
  induction l with
  | nil => rfl
  | cons x l ih => rw [List.flatMap_cons, ih]; rfl
theorem RS.elems {m : Mem} {v : AV} {l : List (BitVec 32)} (hv : US m v l) (sn : Nat) (t : List (Nat × AV)) (ll : List (Nat × List AV)) : v.elems ⟨sn, t, ll, m⟩ 1 = some (l.length, l.flatMap uC) := by
  rcases hv with ⟨rfl, rfl⟩ | ⟨b, o, cap, e, rfl, hm⟩
  · rfl
  · by_cases h0 : l.length = 0
    · have : l = [] := List.length_eq_zero_iff.1 h0
      subst this; rfl
    · obtain ⟨x0, hx0⟩ : ∃ x, l[0]? = some x := ⟨l[0]'(by omega), List.getElem?_eq_getElem _⟩
      obtain ⟨c, own, h1, _⟩ := get_u hm hx0
      have cell : ∀ i x, l[i]? = some x → c[o + i]? = some (U x) := by
        intro i x hx
        obtain ⟨c', own', h3, h4⟩ := get_u hm hx
        rw [h1] at h3
        simp only [Option.some.injEq, ABlk.cells.injEq] at h3
        obtain ⟨rfl, rfl⟩ := h3
        unfold cellsAt at h4
        split at h4
        · simp only [Option.some.injEq] at h4
          have := congrArg (fun y => y[0]?) h4
          simpa [List.getElem?_take] using this
        · cases h4
      have hlast : o + (l.length - 1) < c.length := by
        have hx := List.getElem?_eq_getElem (l := l) (i := l.length - 1) (by omega)
        exact (List.getElem?_eq_some_iff.1 (cell _ _ hx)).1
      have hc : cellsAt c o (l.length * 1) = some (l.flatMap uC) := by
        unfold cellsAt
        rw [Nat.mul_one, if_pos (by omega), flat_u]
        congr 1
        apply List.ext_getElem?
        intro i
        rw [List.getElem?_take, List.getElem?_map, List.getElem?_drop]
        by_cases hi : i < l.length
        · rw [if_pos hi, List.getElem?_eq_getElem hi, cell i _ (List.getElem?_eq_getElem hi)]; rfl
        · rw [if_neg hi, List.getElem?_eq_none (by omega)]; rfl
      simp only [AV.elems, h1, hc]
      rw [if_neg h0]

theorem zu0 : zerosEv [U 0#32] 0 = [] := rfl
theorem le24 : (0 ≤ 2 ^ 24) = True := by simp
theorem words_spec (N : Nat) (hN : 1 ≤ N) (m : Mem) (v : AV) (l : List (BitVec 32)) (hv : US m v l) (hl : l.length ≤ 40) (hmn : m.n + 2 ≤ 2 ^ depth) :
    ∃ v' m', run A N 7 [v] m = some (v', m') ∧ Ext m m' ∧ m'.n ≤ m.n + 2 ∧ US m' v' l := by
  obtain ⟨n, rfl⟩ : ∃ n, N = n + 1 := ⟨N - 1, by omega⟩
  rw [run_7]
  obtain ⟨p1, p2, p3, p4⟩ := hv.plain
  have hf := not_full (m := m) (by omega)
  have x1 : Ext m (m.push (.cells [] true)) := (Ext.refl m).push _ (by omega)
  have hf1 := not_full (m := m.push (.cells [] true)) (by rw [push_n]; omega)
  have g1 : (m.push (.cells [] true)).get m.n = some (.cells [] true) := Mem.get_push_new _
  have hel := (hv.ext x1).elems
  have hone : (l.flatMap uC).all AV.one = true := by
    rw [flat_u, List.all_map, List.all_eq_true]; intro x _; rfl
  have app : ∃ v' m', (∀ sn t ll, appEv ⟨sn, t, ll, m.push (.cells [] true)⟩ 1 4 (.slice m.n 0 0 (some 0) 1) v = some (v', ⟨sn, t, ll, m'⟩)) ∧ Ext m m' ∧ m'.n ≤ m.n + 2 ∧ US m' v' l := by
    by_cases h0 : l.length = 0
    · have : l = [] := List.length_eq_zero_iff.1 h0
      subst this
      refine ⟨.slice m.n 0 0 (some 0) 1, (m.push (.cells [] true)).set m.n (.cells [] true), fun sn t ll => ?_, x1.set _ _ (by rw [push_n]; omega) (Nat.le_refl _) (by rw [push_n]; omega), (by rw [set_n, push_n]; omega), .inr ⟨m.n, 0, some 0, 1, rfl, fun i x hx => by cases hx⟩⟩
      simp only [appEv, hel, hone, hf1, g1]
      rfl
    · refine ⟨.slice (m.n + 1) 0 l.length none 1, (m.push (.cells [] true)).push (.cells (l.flatMap uC) true), fun sn t ll => ?_, x1.push _ (by rw [push_n]; omega), (by rw [push_n, push_n]; omega), .inr ⟨m.n + 1, 0, none, 1, rfl, fun i x hx => ⟨_, _, Mem.get_push_new _, flat_cells uC 1 (fun _ => rfl) hx⟩⟩⟩
      simp only [appEv, hel, hone, hf1, g1]
      have c0 : cellsAt ([] : List AV) 0 (0 * 1) = some [] := rfl
      have m1 : l.length ≤ maxLen := Nat.le_trans (show l.length ≤ 1000 by omega) (by decide)
      rw [if_pos trivial, if_neg (by decide), if_neg (by omega), c0]
      simp only [List.nil_append, Nat.zero_add]
      rw [if_pos ⟨by omega, m1⟩]
      rfl
  obtain ⟨v', m', ap, y1, y2, y3⟩ := app
  obtain ⟨q1, q2, q3, q4⟩ := y3.plain
  unfold fnEv a7
  exact ⟨v', m', (by simp only [codeEv, opsEv, oneEv, guardEv, opE_mov, opE_mkslc, opE_app, St.opd, look_set, look_cons, St.put, argsT, resEv, fillEv, keepL, List.map, List.length, Nat.reduceEqDiff, Nat.reduceAdd, Nat.reduceLT, if_true, if_false, Bool.false_eq_true, Nat.succ_ne_self, u_0, keepT_setT, keepT_lit, Nat.zero_mul, zu0, le24, hf, p1, ap, q2]), y1, y2, y3⟩

/-- One round of the closure: what may come to one of the set. -/
def stepF (was : BitVec 32) : List (BitVec 32) → Nat → BitVec 32 → BitVec 32
  | [], _, acc => acc
  | x :: r, k, acc => stepF was r (k + 1) (if was.getLsbD k then acc ||| x else acc)
def stepB (l : List (BitVec 32)) (s : BitVec 32) : BitVec 32 := stepF s (l.take 32) 0 s
def closeN (l : List (BitVec 32)) : Nat → BitVec 32 → BitVec 32
  | 0, s => s
  | d + 1, s => if stepB l s = s then s else closeN l d (stepB l s)

theorem bit_and' (s : BitVec 32) (k : Nat) : decide (s >>> k &&& 1#32 = 1#32) = s.getLsbD k := bit_and s k

theorem close_in (v : AV) (m : Mem) (l : List (BitVec 32)) (hl : l.length ≤ 40) (hv : US m v l) (was : BitVec 32) :
    ∀ (r : List (BitVec 32)) (k : Nat) (acc : BitVec 32) (N : Nat) (T : List (Nat × AV)) (L : List (Nat × List AV)) (q : _), (l.take 32).drop k = r → r.length + 1 ≤ N → codeEv (run A N) (ev A N).2 a6_L1 ⟨30, T, L, m⟩ = q →
      keepT [0, 1, 5, 10, 11] [] T = [(0, U acc), (1, v), (5, U was), (10, .int .i64 ((l.take 32).length : Int)), (11, .int .i64 (k : Int))] →
      ∃ T' L', q = some (.exit 2, ⟨30, T', L', m⟩) ∧ keepT [0, 1, 5] [] T' = [(0, U (stepF was r k acc)), (1, v), (5, U was)]
  | [], k, acc, N, T, L, q, hd, hN, hq, hk => by
    subst hq
    obtain ⟨p1, p2, p3, p4⟩ := hv.plain
    have hi : ¬ ((k : Int) < ((l.take 32).length : Int)) := by
      have := List.drop_eq_nil_iff.1 hd
      omega
    rw [a6_L1_step]
    unfold a6_B1 stepF
    exact ⟨_, _, (by simp only [codeEv, opsEv, oneEv, guardEv, opE_bin, St.opd, look_set, look_cons, St.put, bin_ilt, keepL, Option.map_some, Nat.reduceEqDiff, Nat.reduceLT, if_true, if_false, Bool.false_eq_true, Nat.succ_ne_self, decide_false, hk, hi]; rfl), (by simp only [keepT, List.map, look_set, look_cons, in_U, Nat.reduceEqDiff, if_true, if_false, p1])⟩
  | x :: r, k, acc, N, T, L, q, hd, hN, hq, hk => by
    subst hq
    obtain ⟨hg, hi, hd'⟩ := drop_cons_get hd
    obtain ⟨n, rfl⟩ : ∃ n, N = n + 1 := ⟨N - 1, by simp only [List.length_cons] at hN; omega⟩
    have hi1 : (k : Int) < ((l.take 32).length : Int) := by omega
    have hlt : k < 32 := by rw [List.length_take] at hi; omega
    have hg' : l[k]? = some x := by rw [List.getElem?_take, if_pos hlt] at hg; exact hg
    have hi' := idx_any hg'
    have hadd := add_i k (by omega)
    have hsh := bin_shr was .i64 (k : Int) (by omega)
    rw [Int.toNat_natCast] at hsh
    have hv0 := hv
    rcases hv0 with ⟨rfl, h0⟩ | ⟨b, o, cap, e, rfl, hm⟩
    · rw [h0] at hg'; cases hg'
    obtain ⟨c, own, hc, hc3⟩ := get_u hm hg'
    rw [a6_L1_step]
    unfold a6_B1 stepF
    by_cases c1 : was.getLsbD k = true
    · simp only [codeEv, opsEv, oneEv, guardEv, opE_mov, opE_load1, opE_bin, opE_iaddrL, elemR_slice, St.opd, look_set, look_cons, St.put, St.read, bin_and, bin_or, bin_ueq, bin_ilt, in_int, in_U, in_slice, keepL, List.map, Option.map_some, Nat.reduceEqDiff, Nat.reduceLT, if_true, if_false, Nat.succ_ne_self, decide_true, u_1, keepT_setT, hk, hi1, hi', and_self, Int.toNat_natCast, Nat.mul_one, hsh, bit_and', c1, hc, hc3, hadd, again_of]
      exact close_in _ m l hl hv was r (k + 1) (acc ||| x) n _ _ _ hd' (by simp only [List.length_cons] at hN; omega) rfl (by simp only [keepT, List.map, look_set, look_cons, in_int, in_U, in_slice, Nat.reduceEqDiff, if_true, if_false])
    · simp only [codeEv, opsEv, oneEv, guardEv, opE_mov, opE_load1, opE_bin, opE_iaddrL, elemR_slice, St.opd, look_set, look_cons, St.put, St.read, bin_and, bin_ueq, bin_ilt, in_int, in_U, in_slice, keepL, List.map, Option.map_some, Nat.reduceEqDiff, Nat.reduceLT, if_true, if_false, Bool.false_eq_true, Nat.succ_ne_self, decide_true, u_1, keepT_setT, hk, hi1, hsh, bit_and', c1, hadd, again_of]
      exact close_in _ m l hl hv was r (k + 1) acc n _ _ _ hd' (by simp only [List.length_cons] at hN; omega) rfl (by simp only [keepT, List.map, look_set, look_cons, in_int, in_U, in_slice, Nat.reduceEqDiff, if_true, if_false])

theorem close_out (v : AV) (m : Mem) (l : List (BitVec 32)) (hl : l.length ≤ 40) (hv : US m v l) :
    ∀ (d : Nat) (s : BitVec 32) (N : Nat) (T : List (Nat × AV)) (L : List (Nat × List AV)) (q : _), stepB l (closeN l d s) = closeN l d s → d + 45 ≤ N → codeEv (run A N) (ev A N).2 a6_L2 ⟨30, T, L, m⟩ = q → keepT [0, 1] [] T = [(0, U s), (1, v)] →
      ∃ T' L', q = some (.ret, ⟨30, T', L', m⟩) ∧ look T' 4 = U (closeN l d s) := by
  intro d s N T L q hfix hN hq hk
  subst hq
  obtain ⟨p1, p2, p3, p4⟩ := hv.plain
  have hln := hv.lenR
  have hmin := min_i (l.length : Int) 32
  have hmin' : min (l.length : Int) 32 = ((l.take 32).length : Int) := by rw [List.length_take]; omega
  rw [hmin'] at hmin
  have inner := fun T L q hq hk => close_in v m l hl hv s (l.take 32) 0 s N T L q rfl (by rw [List.length_take]; omega) hq hk
  rw [a6_L2_step]
  unfold a6_B2
  simp only [codeEv, opsEv, oneEv, guardEv, opE_mov, opE_bin, opE_lenL, opE_min, St.opd, look_set, look_cons, St.put, in_U, loc_int, keepL, List.map, List.any, Option.map_some, Nat.reduceEqDiff, Nat.reduceLT, if_true, if_false, Bool.or_false, Bool.false_eq_true, Nat.succ_ne_self, keepT_setT, hk, p1, hln, hmin]
  generalize hq : codeEv (run A N) (ev A N).2 a6_L1 _ = q
  obtain ⟨T2, L2, rfl, hk2⟩ := inner _ _ q hq (by simp only [keepT, List.map, look_set, look_cons, in_int, in_U, Nat.reduceEqDiff, if_true, if_false, p1, Int.ofNat_zero])
  have hst : stepF s (l.take 32) 0 s = stepB l s := rfl
  rw [hst] at hk2
  match d with
  | 0 =>
    have c : stepB l s = s := hfix
    simp only [look_set, look_cons, bin_ueq, in_U, List.map, Option.map_some, Nat.reduceEqDiff, Nat.reduceLT, if_true, if_false, Nat.succ_ne_self, decide_true, keepT_setT, hk2, c]
    exact ⟨_, _, rfl, (by simp only [look_set, look_cons, Nat.reduceEqDiff, if_true, if_false, closeN])⟩
  | d + 1 =>
    by_cases c : stepB l s = s
    · have cn : closeN l (d + 1) s = s := by rw [closeN, if_pos c]
      rw [cn]
      simp only [look_set, look_cons, bin_ueq, in_U, List.map, Option.map_some, Nat.reduceEqDiff, Nat.reduceLT, if_true, if_false, Nat.succ_ne_self, decide_true, keepT_setT, hk2, c]
      exact ⟨_, _, rfl, (by simp only [look_set, look_cons, Nat.reduceEqDiff, if_true, if_false])⟩
    · have cn : closeN l (d + 1) s = closeN l d (stepB l s) := by rw [closeN, if_neg c]
      rw [cn] at hfix ⊢
      obtain ⟨n, rfl⟩ : ∃ n, N = n + 1 := ⟨N - 1, by omega⟩
      simp only [look_set, look_cons, bin_ueq, in_U, List.map, Option.map_some, Nat.reduceEqDiff, Nat.reduceLT, if_true, if_false, Bool.false_eq_true, Nat.succ_ne_self, decide_false, keepT_setT, hk2, c, again_of]
      exact close_out v m l hl hv d (stepB l s) n _ _ _ hfix (by omega) rfl (by simp only [keepT, List.map, look_set, look_cons, in_U, Nat.reduceEqDiff, if_true, if_false, p1])

end AG
