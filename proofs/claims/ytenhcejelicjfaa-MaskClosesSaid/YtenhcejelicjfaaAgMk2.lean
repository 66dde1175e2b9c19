/- What the functions of masks and sets compute, and the laws of that. -/
import Derived.Test.YtenhcejelicjfaaAgMk1
namespace AG
open Go Go.Proofs.Ytenhcejelicjfaa
set_option maxRecDepth 100000
set_option maxHeartbeats 4000000



def Sub (a b : BitVec 32) : Prop := ∀ i, a.getLsbD i = true → b.getLsbD i = true
theorem Sub.refl (a : BitVec 32) : Sub a a := fun _ h => h
theorem Sub.trans {a b c : BitVec 32} (h : Sub a b) (k : Sub b c) : Sub a c := fun i hi => k i (h i hi)
theorem Sub.antisymm {a b : BitVec 32} (h : Sub a b) (k : Sub b a) : a = b := by
  apply BitVec.eq_of_getLsbD_eq
  intro i hi
  rw [Bool.eq_iff_iff]
  exact ⟨h i, k i⟩
theorem Sub.or_l (a b : BitVec 32) : Sub a (a ||| b) := fun i h => by rw [BitVec.getLsbD_or, h]; rfl
theorem Sub.or_r (a b : BitVec 32) : Sub b (a ||| b) := fun i h => by rw [BitVec.getLsbD_or, h, Bool.or_true]
theorem Sub.or {a b c : BitVec 32} (h : Sub a c) (k : Sub b c) : Sub (a ||| b) c := fun i hi => by
  rw [BitVec.getLsbD_or, Bool.or_eq_true] at hi
  exact hi.elim (h i) (k i)
theorem Sub.andNot {a b : BitVec 32} (h : Sub a b) : a &&& ~~~b = 0#32 := by
  apply BitVec.eq_of_getLsbD_eq
  intro i hi
  rw [BitVec.getLsbD_and, BitVec.getLsbD_not]
  cases ha : a.getLsbD i
  · simp
  · simp [h i ha]

theorem stepF_acc (was : BitVec 32) : ∀ (r : List (BitVec 32)) (k : Nat) (acc : BitVec 32), Sub acc (stepF was r k acc)
  | [], _, acc => Sub.refl acc
  | x :: r, k, acc => by
    unfold stepF
    refine Sub.trans ?_ (stepF_acc was r (k + 1) _)
    split
    · exact Sub.or_l _ _
    · exact Sub.refl _
theorem stepF_mono {was was' : BitVec 32} (hw : Sub was was') : ∀ (r : List (BitVec 32)) (k : Nat) (acc acc' : BitVec 32), Sub acc acc' → Sub (stepF was r k acc) (stepF was' r k acc')
  | [], _, _, _, h => h
  | x :: r, k, acc, acc', h => by
    unfold stepF
    refine stepF_mono hw r (k + 1) _ _ ?_
    by_cases c : was.getLsbD k = true
    · rw [if_pos c, if_pos (hw k c)]
      exact Sub.or (h.trans (Sub.or_l _ _)) (Sub.or_r _ _)
    · rw [if_neg c]
      split
      · exact h.trans (Sub.or_l _ _)
      · exact h
theorem stepF_mem (was : BitVec 32) : ∀ (r : List (BitVec 32)) (k : Nat) (acc : BitVec 32) (j : Nat) (x : BitVec 32), r[j]? = some x → was.getLsbD (k + j) = true → Sub x (stepF was r k acc)
  | [], _, _, _, _, h, _ => by simp at h
  | y :: r, k, acc, 0, x, h, hw => by
    simp only [List.getElem?_cons_zero, Option.some.injEq] at h
    subst h
    unfold stepF
    rw [Nat.add_zero] at hw
    rw [if_pos hw]
    exact (Sub.or_r _ _).trans (stepF_acc was r (k + 1) _)
  | y :: r, k, acc, j + 1, x, h, hw => by
    simp only [List.getElem?_cons_succ] at h
    unfold stepF
    exact stepF_mem was r (k + 1) _ j x h (by rw [show k + 1 + j = k + (j + 1) by omega]; exact hw)
/-- A round in place. -/
def gsF : List (BitVec 32) → Nat → BitVec 32 → BitVec 32
  | [], _, acc => acc
  | x :: r, k, acc => gsF r (k + 1) (if acc.getLsbD k then acc ||| x else acc)
def gsB (l : List (BitVec 32)) (s : BitVec 32) : BitVec 32 := gsF (l.take 32) 0 s
def gsN (l : List (BitVec 32)) : Nat → BitVec 32 → BitVec 32
  | 0, s => s
  | r + 1, s => gsN l r (gsB l s)
theorem gsF_step {was : BitVec 32} : ∀ (r : List (BitVec 32)) (k : Nat) (acc acc' : BitVec 32), Sub was acc' → Sub acc acc' → Sub (stepF was r k acc) (gsF r k acc')
  | [], _, _, _, _, h => h
  | x :: r, k, acc, acc', hw, h => by
    unfold stepF gsF
    by_cases c : was.getLsbD k = true
    · rw [if_pos c, if_pos (hw k c)]
      exact gsF_step r (k + 1) _ _ (hw.trans (Sub.or_l _ _)) (Sub.or (h.trans (Sub.or_l _ _)) (Sub.or_r _ _))
    · rw [if_neg c]
      refine gsF_step r (k + 1) _ _ ?_ ?_ <;> split
      · exact hw.trans (Sub.or_l _ _)
      · exact hw
      · exact h.trans (Sub.or_l _ _)
      · exact h
theorem gsF_in {c : BitVec 32} : ∀ (r : List (BitVec 32)) (k : Nat) (acc : BitVec 32), Sub acc c → (∀ (j : Nat) (x : BitVec 32), r[j]? = some x → c.getLsbD (k + j) = true → Sub x c) → Sub (gsF r k acc) c
  | [], _, _, h, _ => h
  | x :: r, k, acc, h, hm => by
    unfold gsF
    refine gsF_in r (k + 1) _ ?_ (fun j y hj hc => hm (j + 1) y (by rw [List.getElem?_cons_succ]; exact hj) (by rw [show k + (j + 1) = k + 1 + j by omega]; exact hc))
    split
    · rename_i hk
      exact Sub.or h (hm 0 x rfl (by rw [Nat.add_zero]; exact h k hk))
    · exact h
theorem gsN_sub (l : List (BitVec 32)) : ∀ (r : Nat) (s : BitVec 32), Sub s (gsN l r s)
  | 0, s => Sub.refl s
  | r + 1, s => (Sub.trans (stepF_acc s (l.take 32) 0 s) (gsF_step (l.take 32) 0 s s (Sub.refl s) (Sub.refl s))).trans (gsN_sub l r (gsB l s))
theorem close_gs (l : List (BitVec 32)) : ∀ (d r : Nat) (s t : BitVec 32), Sub s t → d ≤ r → Sub (closeN l d s) (gsN l r t)
  | 0, r, s, t, h, _ => h.trans (gsN_sub l r t)
  | d + 1, 0, _, _, _, hr => by omega
  | d + 1, r + 1, s, t, h, hr => by
    unfold closeN
    split
    · exact h.trans (gsN_sub l (r + 1) t)
    · exact close_gs l d r _ _ (gsF_step (l.take 32) 0 s t h h) (by omega)
theorem close_sub (l : List (BitVec 32)) : ∀ (d : Nat) (s : BitVec 32), Sub s (closeN l d s)
  | 0, s => Sub.refl s
  | d + 1, s => by
    unfold closeN
    split
    · exact Sub.refl s
    · exact Sub.trans (stepF_acc s (l.take 32) 0 s) (close_sub l d _)
theorem close_least (l : List (BitVec 32)) {t : BitVec 32} (ht : stepB l t = t) : ∀ (d : Nat) (s : BitVec 32), Sub s t → Sub (closeN l d s) t
  | 0, _, h => h
  | d + 1, s, h => by
    unfold closeN
    split
    · exact h
    · refine close_least l ht d _ ?_
      have := stepF_mono h (l.take 32) 0 s t h
      unfold stepB at ht
      rw [ht] at this
      exact this
theorem close_same (l : List (BitVec 32)) {c : BitVec 32} (h : stepB l c = c) (d : Nat) : closeN l d c = c := by
  cases d with
  | zero => rfl
  | succ d => rw [closeN, if_pos h]

def cnt (s : BitVec 32) : Nat := (List.range 32).countP fun i => s.getLsbD i
theorem countP_lt {p q : Nat → Bool} (hpq : ∀ i, p i = true → q i = true) : ∀ (l : List Nat), (∃ i ∈ l, q i = true ∧ p i = false) → l.countP p < l.countP q
  | [], ⟨i, hi, _⟩ => by cases hi
  | a :: l, ⟨i, hi, h1, h2⟩ => by
    have hle : l.countP p ≤ l.countP q := List.countP_mono_left fun x _ => hpq x
    rw [List.countP_cons, List.countP_cons]
    rcases List.mem_cons.1 hi with rfl | hi
    · rw [h1, h2]; simp; omega
    · have := countP_lt hpq l ⟨i, hi, h1, h2⟩
      cases hp : p a
      · simp; split <;> omega
      · rw [hpq a hp]; simp; exact this
theorem cnt_lt {s t : BitVec 32} (h : Sub s t) (hne : t ≠ s) : cnt s < cnt t := by
  refine countP_lt h _ ?_
  apply Classical.byContradiction
  intro hn
  apply hne
  refine Sub.antisymm (fun i hi => ?_) h
  cases hs : s.getLsbD i
  · exfalso
    refine hn ⟨i, List.mem_range.2 ?_, hi, hs⟩
    rcases Nat.lt_or_ge i 32 with h1 | h1
    · exact h1
    · rw [BitVec.getLsbD_of_ge t i h1] at hi; cases hi
  · rfl
theorem cnt_le (s : BitVec 32) : cnt s ≤ 32 := by
  have := List.countP_le_length (p := fun i => s.getLsbD i) (l := List.range 32)
  rw [List.length_range] at this
  exact this
theorem close_fix (l : List (BitVec 32)) : ∀ (d : Nat) (s : BitVec 32), 32 - cnt s ≤ d → stepB l (closeN l d s) = closeN l d s
  | 0, s, h => by
    unfold closeN
    apply Classical.byContradiction
    intro hne
    have := cnt_lt (stepF_acc s (l.take 32) 0 s) hne
    have := cnt_le (stepF s (l.take 32) 0 s)
    omega
  | d + 1, s, h => by
    unfold closeN
    split
    · assumption
    · rename_i hne
      have := cnt_lt (stepF_acc s (l.take 32) 0 s) hne
      exact close_fix l d _ (by unfold stepB; omega)

theorem close_spec (N : Nat) (hN : 100 ≤ N) (m : Mem) (v : AV) (l : List (BitVec 32)) (hv : US m v l) (hl : l.length ≤ 40) (s : BitVec 32) : run A N 6 [U s, v] m = some (U (closeN l 32 s), m) := by
  obtain ⟨n, rfl⟩ : ∃ n, N = n + 1 := ⟨N - 1, by omega⟩
  rw [run_6]
  unfold fnEv a6
  obtain ⟨p1, p2, p3, p4⟩ := hv.plain
  simp only [codeEv, opsEv, oneEv, guardEv, opE_mov, St.opd, look_cons, St.put, argsT, resEv, in_U, keepL, List.map, List.length, Nat.reduceEqDiff, Nat.reduceAdd, Nat.reduceLT, if_true, if_false, Nat.succ_ne_self, u_0, keepT_lit, p1]
  generalize hq : codeEv (run A n) (ev A n).2 a6_L2 _ = q
  obtain ⟨T', L', rfl, h4⟩ := close_out v m l hl hv 32 s n _ _ q (close_fix l 32 s (by omega)) (by omega) hq (by simp only [keepT, List.map, look_set, look_cons, in_U, Nat.reduceEqDiff, if_true, if_false, p1])
  simp only [loc_U, if_false, Bool.false_eq_true, h4]

theorem u64_small (k : Int) (h1 : 0 ≤ k) (h2 : k < 32) : IntKind.u64.wrap k = k := by
  simp only [IntKind.wrap, IntKind.bits]
  simp [IntKind.signed]
  omega

theorem gs_in (v : AV) (m : Mem) (l : List (BitVec 32)) (hl : l.length ≤ 40) (hv : US m v l) (c : BitVec 32) (hc : ∀ (j : Nat) (x : BitVec 32), j < 32 → l[j]? = some x → c.getLsbD j = true → Sub x c) (rd : Nat) :
    ∀ (r : List (BitVec 32)) (k : Nat) (acc : BitVec 32) (N : Nat) (T : List (Nat × AV)) (L : List (Nat × List AV)) (q : _), (l.take 32).drop k = r → r.length + 1 ≤ N → codeEv (run A N) (ev A N).2 a3_L1 ⟨86, T, L, m⟩ = q →
      keepT [2, 7, 8, 9, 10] [] T = [(2, v), (7, U c), (8, U acc), (9, .int .i64 (rd : Int)), (10, .int .i64 (k : Int))] → k ≤ 32 →
      ∃ T' L', q = some (.exit 2, ⟨86, T', L', m⟩) ∧ keepT [2, 7, 8, 9] [] T' = [(2, v), (7, U c), (8, U (gsF r k acc)), (9, .int .i64 (rd : Int))]
  | [], k, acc, N, T, L, q, hd, hN, hq, hk, hk32 => by
    subst hq
    obtain ⟨p1, p2, p3, p4⟩ := hv.plain
    have hln := hv.lenR
    have hi := List.drop_eq_nil_iff.1 hd
    rw [List.length_take] at hi
    rw [a3_L1_step]
    unfold a3_B1 a3_R2 gsF
    by_cases h32 : (k : Int) < 32
    · have hi2 : ¬ ((k : Int) < (l.length : Int)) := by omega
      exact ⟨_, _, (by simp only [codeEv, opsEv, oneEv, guardEv, opE_mov, opE_pick, opE_bin, opE_lenL, St.opd, look_set, look_cons, St.put, bin_ilt, keepL, Option.map_some, Nat.reduceEqDiff, Nat.reduceLT, if_true, if_false, beq_self_eq_true, Bool.false_eq_true, Nat.succ_ne_self, decide_true, decide_false, hk, hln, h32, hi2]; rfl), (by simp only [keepT, List.map, look_set, look_cons, in_int, in_U, Nat.reduceEqDiff, if_true, if_false, p1])⟩
    · exact ⟨_, _, (by simp only [codeEv, opsEv, oneEv, guardEv, opE_mov, opE_pick, opE_bin, St.opd, look_set, look_cons, St.put, bin_ilt, keepL, Option.map_some, Nat.reduceEqDiff, Nat.reduceLT, if_true, if_false, Bool.false_eq_true, Nat.succ_ne_self, decide_false, beq_ft, hk, h32]; rfl), (by simp only [keepT, List.map, look_set, look_cons, in_int, in_U, Nat.reduceEqDiff, if_true, if_false, p1])⟩
  | x :: r, k, acc, N, T, L, q, hd, hN, hq, hk, hk32 => by
    subst hq
    obtain ⟨hg, hi, hd'⟩ := drop_cons_get hd
    obtain ⟨n, rfl⟩ : ∃ n, N = n + 1 := ⟨N - 1, by simp only [List.length_cons] at hN; omega⟩
    have hlt : k < 32 := by rw [List.length_take] at hi; omega
    have hg' : l[k]? = some x := by rw [List.getElem?_take, if_pos hlt] at hg; exact hg
    have h32 : (k : Int) < 32 := by omega
    have hi' := idx_any hg'
    have hadd := add_i k (by omega)
    have w := u64_small (k : Int) (by omega) h32
    have hsh := bin_shr c .u64 (k : Int) (by omega)
    have hsf := bin_shr acc .u64 (k : Int) (by omega)
    rw [Int.toNat_natCast] at hsh hsf
    have hv0 := hv
    rcases hv0 with ⟨rfl, h0⟩ | ⟨b, o, cap, e, rfl, hm⟩
    · rw [h0] at hg'; cases hg'
    obtain ⟨cc, own, h1, h2⟩ := get_u hm hg'
    have ih := fun acc T L q => gs_in _ m l hl hv c hc rd r (k + 1) acc n T L q hd' (by simp only [List.length_cons] at hN; omega)
    rw [a3_L1_step]
    unfold a3_B1 a3_R2 a3_R3 gsF
    have cin : c.getLsbD k = true → x &&& ~~~c = 0#32 := fun h => (hc k x hlt hg' h).andNot
    cases hcb : c.getLsbD k with
    | false =>
      by_cases c2 : acc.getLsbD k = true
      · simp only [codeEv, opsEv, oneEv, guardEv, opE_mov, opE_pick, opE_load1, opE_bin, opE_conv, opE_iaddrL, opE_lenL, lenR_slice, elemR_slice, St.opd, look_set, look_cons, St.put, St.read, bin_and, bin_or, bin_ueq, bin_ilt, in_int, in_U, in_slice, keepL, List.map, Option.map_some, Nat.reduceEqDiff, Nat.reduceLT, if_true, if_false, beq_self_eq_true, Bool.false_eq_true, Nat.succ_ne_self, decide_true, beq_ft, u_1, keepT_setT, hk, h32, hi', and_self, Int.toNat_natCast, Nat.mul_one, w, hsh, hsf, bit_and', hcb, c2, h1, h2, hadd, again_of]
        exact ih _ _ _ _ rfl (by simp only [keepT, List.map, look_set, look_cons, in_int, in_U, in_slice, Nat.reduceEqDiff, if_true, if_false]) (by omega)
      · simp only [codeEv, opsEv, oneEv, guardEv, opE_mov, opE_pick, opE_load1, opE_bin, opE_conv, opE_iaddrL, opE_lenL, lenR_slice, elemR_slice, St.opd, look_set, look_cons, St.put, St.read, bin_and, bin_or, bin_ueq, bin_ilt, in_int, in_U, in_slice, keepL, List.map, Option.map_some, Nat.reduceEqDiff, Nat.reduceLT, if_true, if_false, beq_self_eq_true, Bool.false_eq_true, Nat.succ_ne_self, decide_true, beq_ft, u_1, keepT_setT, hk, h32, hi', and_self, Int.toNat_natCast, Nat.mul_one, w, hsh, hsf, bit_and', hcb, c2, h1, h2, hadd, again_of]
        exact ih _ _ _ _ rfl (by simp only [keepT, List.map, look_set, look_cons, in_int, in_U, in_slice, Nat.reduceEqDiff, if_true, if_false]) (by omega)
    | true =>
      have c0 := cin hcb
      have c00 := eq_true (rfl : (0#32 : BitVec 32) = 0#32)
      by_cases c2 : acc.getLsbD k = true
      · simp only [codeEv, opsEv, oneEv, guardEv, opE_mov, opE_pick, opE_load1, opE_bin, opE_conv, opE_iaddrL, opE_lenL, lenR_slice, elemR_slice, St.opd, look_set, look_cons, St.put, St.read, bin_and, bin_or, bin_andNot, bin_ueq, bin_une, bin_ilt, in_int, in_U, in_slice, keepL, List.map, Option.map_some, Nat.reduceEqDiff, Nat.reduceLT, if_true, if_false, Bool.not_true, beq_self_eq_true, Bool.false_eq_true, Nat.succ_ne_self, decide_true, u_0, u_1, keepT_setT, hk, h32, hi', and_self, Int.toNat_natCast, Nat.mul_one, w, hsh, hsf, bit_and', hcb, c2, h1, h2, c0, hadd, again_of]
        exact ih _ _ _ _ rfl (by simp only [keepT, List.map, look_set, look_cons, in_int, in_U, in_slice, Nat.reduceEqDiff, if_true, if_false]) (by omega)
      · simp only [codeEv, opsEv, oneEv, guardEv, opE_mov, opE_pick, opE_load1, opE_bin, opE_conv, opE_iaddrL, opE_lenL, lenR_slice, elemR_slice, St.opd, look_set, look_cons, St.put, St.read, bin_and, bin_or, bin_andNot, bin_ueq, bin_une, bin_ilt, in_int, in_U, in_slice, keepL, List.map, Option.map_some, Nat.reduceEqDiff, Nat.reduceLT, if_true, if_false, Bool.not_true, beq_self_eq_true, Bool.false_eq_true, Nat.succ_ne_self, decide_true, u_0, u_1, keepT_setT, hk, h32, hi', and_self, Int.toNat_natCast, Nat.mul_one, w, hsh, hsf, bit_and', hcb, c2, h1, h2, c0, hadd, again_of]
        exact ih _ _ _ _ rfl (by simp only [keepT, List.map, look_set, look_cons, in_int, in_U, in_slice, Nat.reduceEqDiff, if_true, if_false]) (by omega)

theorem gs_out (v : AV) (m : Mem) (l : List (BitVec 32)) (hl : l.length ≤ 40) (hv : US m v l) (c : BitVec 32) (hc : ∀ (j : Nat) (x : BitVec 32), j < 32 → l[j]? = some x → c.getLsbD j = true → Sub x c) :
    ∀ (d : Nat) (rd : Nat) (s : BitVec 32) (N : Nat) (T : List (Nat × AV)) (L : List (Nat × List AV)) (q : _), rd + d = 33 → d + 45 ≤ N → codeEv (run A N) (ev A N).2 a3_L2 ⟨86, T, L, m⟩ = q → keepT [2, 7, 8, 9] [] T = [(2, v), (7, U c), (8, U s), (9, .int .i64 (rd : Int))] →
      ∃ T' L', q = some (.exit 0, ⟨86, T', L', m⟩) ∧ keepT [7, 8] [] T' = [(7, U c), (8, U (gsN l d s))]
  | 0, rd, s, N, T, L, q, hd, hN, hq, hk => by
    subst hq
    obtain ⟨p1, p2, p3, p4⟩ := hv.plain
    have hi : ¬ ((rd : Int) < 33) := by omega
    rw [a3_L2_step]
    unfold a3_B2 gsN
    exact ⟨_, _, (by simp only [codeEv, opsEv, oneEv, guardEv, opE_mov, opE_bin, St.opd, look_set, look_cons, St.put, bin_ilt, keepL, Option.map_some, Nat.reduceEqDiff, Nat.reduceLT, if_true, if_false, Bool.false_eq_true, decide_false, hk, hi]; rfl), (by simp only [keepT, List.map, look_set, look_cons, in_U, Nat.reduceEqDiff, if_true, if_false])⟩
  | d + 1, rd, s, N, T, L, q, hd, hN, hq, hk => by
    subst hq
    obtain ⟨n, rfl⟩ : ∃ n, N = n + 1 := ⟨N - 1, by omega⟩
    obtain ⟨p1, p2, p3, p4⟩ := hv.plain
    have hi : (rd : Int) < 33 := by omega
    have hadd := add_i rd (by omega)
    rw [a3_L2_step]
    unfold a3_B2 gsN
    simp only [codeEv, opsEv, oneEv, guardEv, opE_mov, opE_bin, St.opd, look_set, look_cons, St.put, bin_ilt, in_int, in_U, keepL, List.map, Option.map_some, Nat.reduceEqDiff, Nat.reduceLT, if_true, if_false, Nat.succ_ne_self, decide_true, keepT_setT, hk, hi, p1]
    generalize hq : codeEv (run A (n + 1)) (ev A (n + 1)).2 a3_L1 _ = q
    obtain ⟨T2, L2, rfl, hk2⟩ := gs_in v m l hl hv c hc rd (l.take 32) 0 s (n + 1) _ _ q rfl (by rw [List.length_take]; omega) hq (by simp only [keepT, List.map, look_set, look_cons, in_int, in_U, Nat.reduceEqDiff, if_true, if_false, p1, Int.ofNat_zero]) (by omega)
    have hg : gsF (l.take 32) 0 s = gsB l s := rfl
    rw [hg] at hk2
    simp only [look_set, look_cons, Option.map_some, Nat.reduceEqDiff, Nat.reduceLT, if_true, if_false, hk2, hadd, again_of]
    exact gs_out v m l hl hv c hc d (rd + 1) (gsB l s) n _ _ _ (by omega) (by omega) rfl (by simp only [keepT, List.map, look_set, look_cons, in_int, in_U, Nat.reduceEqDiff, if_true, if_false, p1])

theorem closes_run (n : Nat) (hn : 200 ≤ n) (set more : BitVec 32) (m0 m : Mem) (hl0 : run A n 5 [] m0 = some (.bool true, m)) (v : AV) (l : List (BitVec 32)) (hv : US m v l) (hmn : m.n + 10 ≤ 2 ^ depth) :
    ∃ m', run A (n + 1) 3 [U set, U more, v] m0 = some (.bool true, m') := by
  rw [run_3]
  unfold fnEv a3
  obtain ⟨p1, p2, p3, p4⟩ := hv.plain
  have hln := hv.lenR
  by_cases hc40 : 40 < l.length
  · have h' : (40 : Int) < (l.length : Int) := by omega
    exact ⟨m, by simp only [codeEv, opsEv, oneEv, guardEv, opE_mov, opE_bin, opE_un, opE_call, opE_lenL, St.opd, look_set, look_cons, St.put, argsT, resEv, bin_igt, in_U, loc_bool, unEv, callWith, keepL, List.map, List.length, List.any, Option.map_some, Nat.reduceEqDiff, Nat.reduceAdd, Nat.reduceLT, if_true, if_false, Bool.not_true, Bool.false_eq_true, Nat.succ_ne_self, decide_true, keepT_setT, keepT_lit, hl0, p1, hln, h']⟩
  have h' : ¬ (40 : Int) < (l.length : Int) := by omega
  obtain ⟨v1, m1, ws, x1, n1, hv1⟩ := words_spec n (by omega) m v l hv (by omega) (by omega)
  obtain ⟨q1, q2, q3, q4⟩ := hv1.plain
  have hvm := hv.ext x1
  have c1 := close_spec n (by omega) m1 v1 l hv1 (by omega) set
  have fx := close_fix l 32 set (by omega)
  have s1 := close_sub l 32 set
  have c2 := close_spec n (by omega) m1 v l hvm (by omega) (closeN l 32 set)
  rw [close_same l fx] at c2
  have c3 := close_spec n (by omega) m1 v l hvm (by omega) (set ||| more)
  have fx3 := close_fix l 32 (set ||| more) (by omega)
  have s3 : Sub (closeN l 32 set) (closeN l 32 (set ||| more)) := close_least l fx3 32 set ((Sub.or_l _ _).trans (close_sub l 32 _))
  have hfin : closeN l 32 set = gsN l 33 set := by
    refine Sub.antisymm (close_gs l 32 33 set set (Sub.refl _) (by omega)) ?_
    have hin : ∀ (r : Nat) (s : BitVec 32), Sub s (closeN l 32 set) → Sub (gsN l r s) (closeN l 32 set) := by
      intro r
      induction r with
      | zero => exact fun s h => h
      | succ r ih =>
        intro s h
        refine ih _ (gsF_in (l.take 32) 0 s h fun j x hj hb => ?_)
        have := stepF_mem (closeN l 32 set) (l.take 32) 0 (closeN l 32 set) j x hj hb
        unfold stepB at fx
        rw [fx] at this
        exact this
    exact hin 33 set s1
  have hcm : ∀ (j : Nat) (x : BitVec 32), j < 32 → l[j]? = some x → (closeN l 32 set).getLsbD j = true → Sub x (closeN l 32 set) := fun j x hj hx hb => by
    have := stepF_mem (closeN l 32 set) (l.take 32) 0 (closeN l 32 set) j x (by rw [List.getElem?_take, if_pos hj]; exact hx) (by rw [Nat.zero_add]; exact hb)
    unfold stepB at fx
    rw [fx] at this
    exact this
  have e1 := s1.andNot
  have e3 := s3.andNot
  generalize closeN l 32 (set ||| more) = c' at *
  generalize closeN l 32 set = c at *
  have z0 := eq_true (rfl : (0#32 : BitVec 32) = 0#32)
  have tt := eq_true (rfl : c = c)
  unfold a3_R1
  simp only [codeEv, opsEv, oneEv, guardEv, opE_mov, opE_pick, opE_bin, opE_un, opE_call, opE_lenL, St.opd, look_set, look_cons, St.put, argsT, resEv, bin_or, bin_andNot, bin_une, bin_igt, in_U, loc_U, unEv, callWith, keepL, List.map, List.length, List.any, Option.map_some, Nat.reduceEqDiff, Nat.reduceAdd, Nat.reduceLT, if_true, if_false, Bool.or_false, Bool.not_true, beq_self_eq_true, Bool.false_eq_true, Nat.succ_ne_self, decide_true, decide_false, u_0, keepT_setT, keepT_lit, hl0, p1, p2, hln, h', ws, q2, c1, c2, c3, e1, e3]
  generalize hq : codeEv (run A n) (ev A n).2 a3_L2 _ = q
  obtain ⟨T', L', rfl, h1⟩ := gs_out v m1 l (by omega) hvm c hcm 33 0 set n _ _ q (by omega) (by omega) hq (by simp only [keepT, List.map, look_set, look_cons, in_int, in_U, Nat.reduceEqDiff, if_true, if_false, p1, Int.ofNat_zero])
  rw [← hfin] at h1
  exact ⟨m1, by simp only [look_set, look_cons, bin_ueq, loc_bool, Option.map_some, Nat.reduceEqDiff, Nat.reduceLT, if_true, if_false, Bool.false_eq_true, Nat.succ_ne_self, decide_true, h1]⟩

end AG
