/- What the functions of masks and sets compute, and the laws of that. -/
import Derived.Test.YtenhcejelicjfaaDoorAgMc8
namespace AG
open Go Go.Proofs.YtenhcejelicjfaaDoor
set_option maxRecDepth 100000
set_option maxHeartbeats 4000000


theorem stepF_mono {was was' : BitVec 32} (hw : SubU was was') : ∀ (r : List (BitVec 32)) (k : Nat) (acc acc' : BitVec 32), SubU acc acc' → SubU (stepF was r k acc) (stepF was' r k acc')
  | [], _, _, _, h => h
  | x :: r, k, acc, acc', h => by
    unfold stepF
    refine stepF_mono hw r (k + 1) _ _ ?_
    by_cases c : was.getLsbD k = true
    · rw [if_pos c, if_pos (hw k c)]
      exact SubU.or (h.trans (SubU.or_l _ _)) (SubU.or_r _ _)
    · rw [if_neg c]
      split
      · exact h.trans (SubU.or_l _ _)
      · exact h
theorem stepF_mem (was : BitVec 32) : ∀ (r : List (BitVec 32)) (k : Nat) (acc : BitVec 32) (j : Nat) (x : BitVec 32), r[j]? = some x → was.getLsbD (k + j) = true → SubU x (stepF was r k acc)
  | [], _, _, _, _, h, _ => by simp at h
  | y :: r, k, acc, 0, x, h, hw => by
    simp only [List.getElem?_cons_zero, Option.some.injEq] at h
    subst h
    unfold stepF
    rw [Nat.add_zero] at hw
    rw [if_pos hw]
    exact (SubU.or_r _ _).trans (stepF_acc was r (k + 1) _)
  | y :: r, k, acc, j + 1, x, h, hw => by
    simp only [List.getElem?_cons_succ] at h
    unfold stepF
    exact stepF_mem was r (k + 1) _ j x h (by rw [show k + 1 + j = k + (j + 1) by omega]; exact hw)
/-- A round in place. -/
def gsF : List (BitVec 32) → Nat → BitVec 32 → BitVec 32
  | [], _, acc => acc
  | x :: r, k, acc => gsF r (k + 1) (if acc.getLsbD k then acc ||| x else acc)
def gsB (l : List (BitVec 32)) (s : BitVec 32) : BitVec 32 := gsF (l.take 32) 0 s
theorem gsF_step {was : BitVec 32} : ∀ (r : List (BitVec 32)) (k : Nat) (acc acc' : BitVec 32), SubU was acc' → SubU acc acc' → SubU (stepF was r k acc) (gsF r k acc')
  | [], _, _, _, _, h => h
  | x :: r, k, acc, acc', hw, h => by
    unfold stepF gsF
    by_cases c : was.getLsbD k = true
    · rw [if_pos c, if_pos (hw k c)]
      exact gsF_step r (k + 1) _ _ (hw.trans (SubU.or_l _ _)) (SubU.or (h.trans (SubU.or_l _ _)) (SubU.or_r _ _))
    · rw [if_neg c]
      refine gsF_step r (k + 1) _ _ ?_ ?_ <;> split
      · exact hw.trans (SubU.or_l _ _)
      · exact hw
      · exact h.trans (SubU.or_l _ _)
      · exact h
theorem gsF_in {c : BitVec 32} : ∀ (r : List (BitVec 32)) (k : Nat) (acc : BitVec 32), SubU acc c → (∀ (j : Nat) (x : BitVec 32), r[j]? = some x → c.getLsbD (k + j) = true → SubU x c) → SubU (gsF r k acc) c
  | [], _, _, h, _ => h
  | x :: r, k, acc, h, hm => by
    unfold gsF
    refine gsF_in r (k + 1) _ ?_ (fun j y hj hc => hm (j + 1) y (by rw [List.getElem?_cons_succ]; exact hj) (by rw [show k + (j + 1) = k + 1 + j by omega]; exact hc))
    split
    · rename_i hk
      exact SubU.or h (hm 0 x rfl (by rw [Nat.add_zero]; exact h k hk))
    · exact h
theorem close_sub (l : List (BitVec 32)) : ∀ (d : Nat) (s : BitVec 32), SubU s (closeN l d s)
  | 0, s => SubU.refl s
  | d + 1, s => by
    unfold closeN
    split
    · exact SubU.refl s
    · exact SubU.trans (stepF_acc s (l.take 32) 0 s) (close_sub l d _)
theorem close_least (l : List (BitVec 32)) {t : BitVec 32} (ht : stepB l t = t) : ∀ (d : Nat) (s : BitVec 32), SubU s t → SubU (closeN l d s) t
  | 0, _, h => h
  | d + 1, s, h => by
    unfold closeN
    split
    · exact h
    · refine close_least l ht d _ ?_
      have := stepF_mono h (l.take 32) 0 s t h
      unfold stepB at ht
      rw [ht] at this
      exact this
theorem close_same (l : List (BitVec 32)) {c : BitVec 32} (h : stepB l c = c) (d : Nat) : closeN l d c = c := by
  cases d with
  | zero => rfl
  | succ d => rw [closeN, if_pos h]


def closeG (l : List (BitVec 32)) : Nat → BitVec 32 → BitVec 32
  | 0, s => s
  | d + 1, s => if gsB l s = s then s else closeG l d (gsB l s)
theorem gs_sub (l : List (BitVec 32)) (s : BitVec 32) : SubU s (gsB l s) := (stepF_acc s (l.take 32) 0 s).trans (gsF_step (l.take 32) 0 s s (SubU.refl s) (SubU.refl s))
theorem closeG_fix (l : List (BitVec 32)) : ∀ (d : Nat) (s : BitVec 32), 32 - cnt s ≤ d → gsB l (closeG l d s) = closeG l d s
  | 0, s, h => by
    unfold closeG
    apply Classical.byContradiction
    intro hne
    have := cnt_lt (gs_sub l s) hne
    have := cnt_le (gsB l s)
    omega
  | d + 1, s, h => by
    unfold closeG
    split
    · assumption
    · rename_i hne
      have := cnt_lt (gs_sub l s) hne
      exact closeG_fix l d _ (by omega)
theorem closeG_sub (l : List (BitVec 32)) : ∀ (d : Nat) (s : BitVec 32), SubU s (closeG l d s)
  | 0, s => SubU.refl s
  | d + 1, s => by
    unfold closeG
    split
    · exact SubU.refl s
    · exact (gs_sub l s).trans (closeG_sub l d _)
theorem closeG_in (l : List (BitVec 32)) {c : BitVec 32} (hc : ∀ (j : Nat) (x : BitVec 32), j < 32 → l[j]? = some x → c.getLsbD j = true → SubU x c) : ∀ (d : Nat) (s : BitVec 32), SubU s c → SubU (closeG l d s) c
  | 0, _, h => h
  | d + 1, s, h => by
    unfold closeG
    split
    · exact h
    · refine closeG_in l hc d _ (gsF_in (l.take 32) 0 s h fun j x hj hb => ?_)
      rw [Nat.zero_add] at hb
      rw [List.getElem?_take] at hj
      split at hj
      · exact hc j x (by assumption) hj hb
      · cases hj
/-- The reference's closure is the program's. -/
theorem close_eq (l : List (BitVec 32)) (s : BitVec 32) : closeG l 32 s = closeN l 32 s := by
  have f1 := closeG_fix l 32 s (by omega)
  have f2 := close_fix l 32 s (by omega)
  refine SubU.antisymm (closeG_in l (fun j x hj hx hb => ?_) 32 s (close_sub l 32 s)) (close_least l ?_ 32 s (closeG_sub l 32 s))
  · have := stepF_mem (closeN l 32 s) (l.take 32) 0 (closeN l 32 s) j x (by rw [List.getElem?_take, if_pos hj]; exact hx) (by rw [Nat.zero_add]; exact hb)
    unfold stepB at f2
    rw [f2] at this
    exact this
  · refine SubU.antisymm ?_ (stepF_acc _ _ _ _)
    have := gsF_step (l.take 32) 0 (closeG l 32 s) (closeG l 32 s) (SubU.refl (closeG l 32 s)) (SubU.refl _)
    unfold gsB at f1
    rw [f1] at this
    exact this

theorem rclose_in (v : AV) (m : Mem) (l : List (BitVec 32)) (hl : l.length ≤ 40) (hv : US m v l) (was : BitVec 32) :
    ∀ (r : List (BitVec 32)) (k : Nat) (acc : BitVec 32) (N : Nat) (T : List (Nat × AV)) (L : List (Nat × List AV)) (q : _), (l.take 32).drop k = r → r.length + 1 ≤ N → k ≤ 32 → codeEv (run A N) (ev A N).2 a45_L1 ⟨34, T, L, m⟩ = q → keepT [0, 1, 5, 6] [] T = [(0, U acc), (1, v), (5, U was), (6, .int .i64 (k : Int))] →
      ∃ T' L', q = some (.exit 2, ⟨34, T', L', m⟩) ∧ keepT [0, 1, 5] [] T' = [(0, U (gsF r k acc)), (1, v), (5, U was)]
  | [], k, acc, N, T, L, q, hd, hN, hk32, hq, hk => by
    subst hq
    obtain ⟨p1, p2, p3, p4⟩ := hv.plain
    have hln := hv.lenR
    have hi := List.drop_eq_nil_iff.1 hd
    rw [List.length_take] at hi
    rw [a45_L1_step]
    unfold a45_B1 gsF
    by_cases h32 : (k : Int) < 32
    · have hi2 : ¬ ((k : Int) < (l.length : Int)) := by omega
      exact ⟨_, _, (by simp only [codeEv, opsEv, oneEv, guardEv, opE_mov, opE_pick, opE_bin, opE_lenL, St.opd, look_set, look_cons, St.put, bin_ilt, keepL, Option.map_some, Nat.reduceEqDiff, Nat.reduceLT, if_true, if_false, beq_self_eq_true, Bool.false_eq_true, Nat.succ_ne_self, decide_true, decide_false, hk, hln, h32, hi2]; rfl), (by simp only [keepT, List.map, look_set, look_cons, in_U, Nat.reduceEqDiff, if_true, if_false, p1])⟩
    · exact ⟨_, _, (by simp only [codeEv, opsEv, oneEv, guardEv, opE_mov, opE_pick, opE_bin, St.opd, look_set, look_cons, St.put, bin_ilt, keepL, Option.map_some, Nat.reduceEqDiff, Nat.reduceLT, if_true, if_false, Bool.false_eq_true, Nat.succ_ne_self, decide_false, beq_ft, hk, h32]; rfl), (by simp only [keepT, List.map, look_set, look_cons, in_U, Nat.reduceEqDiff, if_true, if_false, p1])⟩
  | x :: r, k, acc, N, T, L, q, hd, hN, hk32, hq, hk => by
    subst hq
    obtain ⟨hg, hi, hd'⟩ := drop_cons_get hd
    obtain ⟨n, rfl⟩ : ∃ n, N = n + 1 := ⟨N - 1, by simp only [List.length_cons] at hN; omega⟩
    have hlt : k < 32 := by rw [List.length_take] at hi; omega
    have hg' : l[k]? = some x := by rw [List.getElem?_take, if_pos hlt] at hg; exact hg
    have h32 : (k : Int) < 32 := by omega
    have hi' := idx_any hg'
    have hadd := add_i k (by omega)
    have w := u64_small (k : Int) (by omega) h32
    have hsh := bin_shr acc .u64 (k : Int) (by omega)
    rw [Int.toNat_natCast] at hsh
    have hv0 := hv
    rcases hv0 with ⟨rfl, h0⟩ | ⟨b, o, cap, e, rfl, hm⟩
    · rw [h0] at hg'; cases hg'
    obtain ⟨cc, own, h1, h2⟩ := get_u hm hg'
    have ih := fun acc T L q => rclose_in _ m l hl hv was r (k + 1) acc n T L q hd' (by simp only [List.length_cons] at hN; omega) (by omega)
    rw [a45_L1_step]
    unfold a45_B1 gsF
    by_cases c2 : acc.getLsbD k = true
    · simp only [codeEv, opsEv, oneEv, guardEv, opE_mov, opE_pick, opE_load1, opE_bin, opE_conv, opE_iaddrL, opE_lenL, lenR_slice, elemR_slice, St.opd, look_set, look_cons, St.put, St.read, bin_and, bin_or, bin_ueq, bin_ilt, in_int, in_U, in_slice, keepL, List.map, Option.map_some, Nat.reduceEqDiff, Nat.reduceLT, if_true, if_false, beq_self_eq_true, Nat.succ_ne_self, decide_true, u_1, keepT_setT, hk, h32, hi', and_self, Int.toNat_natCast, Nat.mul_one, w, hsh, bit_and, c2, h1, h2, hadd, again_of]
      exact ih _ _ _ _ rfl (by simp only [keepT, List.map, look_set, look_cons, in_int, in_U, in_slice, Nat.reduceEqDiff, if_true, if_false])
    · simp only [codeEv, opsEv, oneEv, guardEv, opE_mov, opE_pick, opE_load1, opE_bin, opE_conv, opE_iaddrL, opE_lenL, lenR_slice, elemR_slice, St.opd, look_set, look_cons, St.put, St.read, bin_and, bin_or, bin_ueq, bin_ilt, in_int, in_U, in_slice, keepL, List.map, Option.map_some, Nat.reduceEqDiff, Nat.reduceLT, if_true, if_false, beq_self_eq_true, Bool.false_eq_true, Nat.succ_ne_self, decide_true, u_1, keepT_setT, hk, h32, hi', and_self, Int.toNat_natCast, Nat.mul_one, w, hsh, bit_and, c2, h1, h2, hadd, again_of]
      exact ih _ _ _ _ rfl (by simp only [keepT, List.map, look_set, look_cons, in_int, in_U, in_slice, Nat.reduceEqDiff, if_true, if_false])

theorem rclose_out (v : AV) (m : Mem) (l : List (BitVec 32)) (hl : l.length ≤ 40) (hv : US m v l) :
    ∀ (d : Nat) (s : BitVec 32) (N : Nat) (T : List (Nat × AV)) (L : List (Nat × List AV)) (q : _), gsB l (closeG l d s) = closeG l d s → d + 45 ≤ N → codeEv (run A N) (ev A N).2 a45_L2 ⟨34, T, L, m⟩ = q → keepT [0, 1] [] T = [(0, U s), (1, v)] →
      ∃ T' L', q = some (.ret, ⟨34, T', L', m⟩) ∧ look T' 4 = U (closeG l d s) := by
  intro d s N T L q hfix hN hq hk
  subst hq
  obtain ⟨p1, p2, p3, p4⟩ := hv.plain
  rw [a45_L2_step]
  unfold a45_B2
  simp only [codeEv, opsEv, oneEv, guardEv, opE_mov, opE_bin, St.opd, look_set, look_cons, St.put, in_U, keepL, List.map, Nat.reduceEqDiff, Nat.reduceLT, if_true, if_false, Nat.succ_ne_self, keepT_setT, hk, p1]
  generalize hq : codeEv (run A N) (ev A N).2 a45_L1 _ = q
  obtain ⟨T2, L2, rfl, hk2⟩ := rclose_in v m l hl hv s (l.take 32) 0 s N _ _ q rfl (by rw [List.length_take]; omega) (by omega) hq (by simp only [keepT, List.map, look_set, look_cons, in_int, in_U, Nat.reduceEqDiff, if_true, if_false, p1, Int.ofNat_zero])
  have hst : gsF (l.take 32) 0 s = gsB l s := rfl
  rw [hst] at hk2
  match d with
  | 0 =>
    have c : gsB l s = s := hfix
    simp only [look_set, look_cons, bin_ueq, in_U, List.map, Option.map_some, Nat.reduceEqDiff, Nat.reduceLT, if_true, if_false, Nat.succ_ne_self, decide_true, keepT_setT, hk2, c]
    exact ⟨_, _, rfl, (by simp only [look_set, look_cons, Nat.reduceEqDiff, if_true, if_false, closeG])⟩
  | d + 1 =>
    by_cases c : gsB l s = s
    · have cn : closeG l (d + 1) s = s := by rw [closeG, if_pos c]
      rw [cn]
      simp only [look_set, look_cons, bin_ueq, in_U, List.map, Option.map_some, Nat.reduceEqDiff, Nat.reduceLT, if_true, if_false, Nat.succ_ne_self, decide_true, keepT_setT, hk2, c]
      exact ⟨_, _, rfl, (by simp only [look_set, look_cons, Nat.reduceEqDiff, if_true, if_false])⟩
    · have cn : closeG l (d + 1) s = closeG l d (gsB l s) := by rw [closeG, if_neg c]
      rw [cn] at hfix ⊢
      obtain ⟨n, rfl⟩ : ∃ n, N = n + 1 := ⟨N - 1, by omega⟩
      simp only [look_set, look_cons, bin_ueq, in_U, List.map, Option.map_some, Nat.reduceEqDiff, Nat.reduceLT, if_true, if_false, Bool.false_eq_true, Nat.succ_ne_self, decide_false, keepT_setT, hk2, c, again_of]
      exact rclose_out v m l hl hv d (gsB l s) n _ _ _ hfix (by omega) rfl (by simp only [keepT, List.map, look_set, look_cons, in_U, Nat.reduceEqDiff, if_true, if_false, p1])

theorem rclose_spec (N : Nat) (hN : 100 ≤ N) (m : Mem) (v : AV) (l : List (BitVec 32)) (hv : US m v l) (hl : l.length ≤ 40) (s : BitVec 32) : run A N 45 [U s, v] m = some (U (closeN l 32 s), m) := by
  obtain ⟨n, rfl⟩ : ∃ n, N = n + 1 := ⟨N - 1, by omega⟩
  rw [run_45, ← close_eq]
  unfold fnEv a45
  obtain ⟨p1, p2, p3, p4⟩ := hv.plain
  simp only [codeEv, opsEv, oneEv, guardEv, opE_mov, St.opd, look_cons, St.put, argsT, resEv, in_U, keepL, List.map, List.length, Nat.reduceEqDiff, Nat.reduceAdd, Nat.reduceLT, if_true, if_false, Nat.succ_ne_self, u_0, keepT_lit, p1]
  generalize hq : codeEv (run A n) (ev A n).2 a45_L2 _ = q
  obtain ⟨T', L', rfl, h4⟩ := rclose_out v m l hl hv 32 s n _ _ q (closeG_fix l 32 s (by omega)) (by omega) hq (by simp only [keepT, List.map, look_set, look_cons, in_U, Nat.reduceEqDiff, if_true, if_false, p1])
  simp only [loc_U, if_false, Bool.false_eq_true, h4]

end AG
