/- What the functions of sets and vectors compute, and the laws of that. -/
import Derived.Test.YtenhcejelicjfaaDoorAgLnK
namespace AG
open Go Go.Proofs.YtenhcejelicjfaaDoor
set_option maxRecDepth 100000
set_option maxHeartbeats 4000000



theorem checkL_of : ∀ (l : List V) (s : BitVec 32), (∀ v ∈ l, okV v = true ∧ hasI s v.line = false) → l.Pairwise (fun a b => a.line ≠ b.line) → checkL s l = true
  | [], _, _, _ => rfl
  | v :: r, s, h, hp => by
    obtain ⟨h1, h2⟩ := h v (List.mem_cons_self ..)
    rw [List.pairwise_cons] at hp
    have ho := okV_law h1
    unfold checkL
    rw [h1, h2, checkL_of r _ (fun x hx => ⟨(h x (List.mem_cons_of_mem _ hx)).1, ?_⟩) hp.2]
    · rfl
    · rw [hasI_or _ _ (by omega), (h x (List.mem_cons_of_mem _ hx)).2, Bool.false_or, decide_eq_false_iff_not]
      have := hp.1 x hx
      omega
theorem checkV_of {l : List V} (h1 : ∀ v ∈ l, okV v = true) (h2 : l.Pairwise (fun a b => a.line ≠ b.line)) (h3 : l.length ≤ 32) : checkV l = 0 := by
  unfold checkV
  rw [if_neg (by omega), if_pos (checkL_of l _ (fun v hv => ⟨h1 v hv, hasI_zero _⟩) h2)]
theorem checkV_rev {l : List V} (h : checkV l = 0) : checkV l.reverse = 0 := by
  obtain ⟨h1, h2, h3⟩ := checkV_law h
  refine checkV_of (fun v hv => h1 v (List.mem_reverse.1 hv)) ?_ (by rw [List.length_reverse]; exact h3)
  rw [List.pairwise_reverse]
  exact h2.imp fun h => h.symm

theorem best_mem {e : V → Bool} {l : List V} {k : Nat} {w : V} (h : Best e l (some (k, w))) : w ∈ l ∧ e w = true ∧ ∀ x ∈ l, e x = true → x = w ∨ gt w x = true := by
  obtain ⟨h1, h2, h3⟩ := h
  refine ⟨List.mem_of_getElem? h1, h2, fun x hx he => ?_⟩
  obtain ⟨j, hj⟩ := List.getElem?_of_mem hx
  by_cases hjk : j = k
  · subst hjk; rw [h1] at hj; cases hj; exact .inl rfl
  · exact .inr (h3 j x hj he hjk)
theorem gt_irrefl (a : V) : gt a a = false := by
  unfold gt
  simp
/-- The order does not matter. -/
theorem best_rev {e : V → Bool} {l : List V} {r r' : Option (Nat × V)} (h : Best e l r) (h' : Best e l.reverse r') : (r = none ∧ r' = none) ∨ ∃ k k' w, r = some (k, w) ∧ r' = some (k', w) ∧ l[k]? = some w ∧ l.reverse[k']? = some w := by
  cases r with
  | none =>
    cases r' with
    | none => exact .inl ⟨rfl, rfl⟩
    | some kw =>
      obtain ⟨k, w⟩ := kw
      obtain ⟨a, b, _⟩ := best_mem h'
      obtain ⟨j, hj⟩ := List.getElem?_of_mem (List.mem_reverse.1 a)
      rw [h j w hj] at b; cases b
  | some kw =>
    obtain ⟨k, w⟩ := kw
    obtain ⟨a, b, c⟩ := best_mem h
    cases r' with
    | none =>
      obtain ⟨j, hj⟩ := List.getElem?_of_mem (List.mem_reverse.2 a)
      rw [h' j w hj] at b; cases b
    | some kw' =>
      obtain ⟨k', w'⟩ := kw'
      obtain ⟨a', b', c'⟩ := best_mem h'
      have : w' = w := by
        rcases c w' (List.mem_reverse.1 a') b' with h1 | h1
        · exact h1
        · rcases c' w (List.mem_reverse.2 a) b with h2 | h2
          · exact h2.symm
          · rw [gt_asymm h1] at h2; cases h2
      subst this
      exact .inr ⟨k, k', w', rfl, rfl, h.1, h'.1⟩

theorem findL_ok {x : Int} : ∀ (l : List V) (i k : Nat) (w : V), l.Pairwise (fun a b => a.line ≠ b.line) → l[k]? = some w → w.line = x → findL x l i = some (i + k)
  | [], i, k, w, _, h, _ => by simp at h
  | v :: r, i, 0, w, hp, h, hx => by
    simp only [List.getElem?_cons_zero, Option.some.injEq] at h
    subst h
    unfold findL
    rw [if_pos hx]; rfl
  | v :: r, i, k + 1, w, hp, h, hx => by
    rw [List.pairwise_cons] at hp
    simp only [List.getElem?_cons_succ] at h
    unfold findL
    rw [if_neg (fun e => hp.1 w (List.mem_of_getElem? h) (e.trans hx.symm)), findL_ok r (i + 1) k w hp.2 h hx]
    congr 1; omega

theorem hasI_one (n : Nat) (hn : n < 32) (k : Int) : hasI (1#32 <<< n) k = decide (k = n) := by
  have := hasI_or 0#32 n hn k
  rw [hasI_zero, Bool.false_or] at this
  rw [← this]
  congr 1
  apply BitVec.eq_of_getLsbD_eq
  intro i hi; simp
theorem hasI_andNot (P M : BitVec 32) (k : Int) : hasI (P &&& ~~~M) k = (hasI P k && !hasI M k) := by
  unfold hasI
  by_cases h1 : 0 ≤ k
  · by_cases h2 : k < 32
    · have h3 : k.toNat < 32 := by omega
      simp only [h1, h2, decide_true, Bool.true_and, BitVec.getLsbD_and, BitVec.getLsbD_not, h3]
    · simp [h2]
  · simp [h1]
/-- Without its line the next one is not greater. -/
theorem less_law {l : List V} (hok : ∀ v ∈ l, okV v = true) {P E : BitVec 32} {lv ac : Int} {k : Nat} {w : V} (h1 : Best (elig P E lv ac) l (some (k, w))) {k3 : Nat} {x : V} (h3 : Best (elig (P &&& ~~~(1#32 <<< w.line.toNat)) E lv ac) l (some (k3, x))) :
    l[k3]? = some x ∧ k3 ≠ k ∧ x.prio ≤ w.prio := by
  obtain ⟨a1, a2, a3⟩ := h1
  obtain ⟨b1, b2, b3⟩ := h3
  have ho := okV_law (hok w (List.mem_of_getElem? a1))
  rw [elig_iff, hasI_andNot, hasI_one _ (by omega)] at b2
  simp only [Bool.and_eq_true, Bool.not_eq_true', decide_eq_false_iff_not] at b2
  have hne : k3 ≠ k := by
    rintro rfl
    rw [a1] at b1; cases b1
    exact b2.1.2 (by omega)
  exact ⟨b1, hne, gt_prio (a3 k3 x b1 (by rw [elig_iff]; exact ⟨b2.1.1, b2.2⟩) hne)⟩

theorem sub_int (x : Int) (h1 : -1000000 ≤ x) (h2 : x ≤ 1000000) : binEv .sub (.int .i64 x) (.int .i64 1) = some (.int .i64 (x - 1)) := by
  simp only [binEv, if_true, intBin, IntKind.wrap, IntKind.bits]
  simp [IntKind.signed]
  omega
theorem VS.lenR {m : Mem} {v : AV} {l : List V} (hv : VS m v l) (s : St) : AG.lenR v s = some (.int .i64 l.length, s) := RS.lenR (f := V.c) (c := 3) hv s
theorem VS.rs {m : Mem} {v : AV} {l : List V} (hv : VS m v l) : RS V.c 3 m v l := hv
theorem z3 : zerosEv [AV.int .i64 0, .int .i64 0, .int .i64 0] 3 = [.int .i64 0, .int .i64 0, .int .i64 0] := rfl
theorem p243 : (3 ≤ 2 ^ 24) = True := by simp

theorem turn_loop (v : AV) (l : List V) (m : Mem) (hv : VS m v l) (P E : BitVec 32) (lv ac : Int) (hlen : l.length ≤ 40) (n0 : Nat) (hn00 : m.n ≤ n0) :
    ∀ (i : Nat) (N : Nat) (T : List (Nat × AV)) (L : List (Nat × List AV)) (m1 : Mem) (v11 : AV) (q : _), i ≤ l.length → i + 2 ≤ N → Ext m m1 → n0 ≤ m1.n → m1.n + 2 * i ≤ 2 ^ depth → OS 3 n0 m1 v11 ((l.drop i).reverse.flatMap V.c) (l.drop i).length →
      codeEv (run A N) (ev A N).2 a5_L1 ⟨155, T, L, m1⟩ = q → keepT [0, 1, 2, 3, 4, 11, 12] [] T = [(0, U P), (1, U E), (2, .int .i64 lv), (3, .int .i64 ac), (4, v), (11, v11), (12, .int .i64 ((i : Int) - 1))] →
      ∃ T' L' m2 v2, q = some (.exit 0, ⟨155, T', L', m2⟩) ∧ Ext m m2 ∧ m1.n ≤ m2.n ∧ m2.n ≤ m1.n + 2 * i ∧ OS 3 n0 m2 v2 (l.reverse.flatMap V.c) l.length ∧ keepT [0, 1, 2, 3, 4, 11] [] T' = [(0, U P), (1, U E), (2, .int .i64 lv), (3, .int .i64 ac), (4, v), (11, v2)]
  | 0, N, T, L, m1, v11, q, hi, hN, x1, hn0, hmn, ho, hq, hk => by
    subst hq
    obtain ⟨p1, p2, p3, p4⟩ := hv.plain
    obtain ⟨q1, q2, q3, q4⟩ := ho.plain
    have c : ¬ ((0 : Int) ≤ ((0 : Nat) : Int) - 1) := by omega
    rw [a5_L1_step]
    unfold a5_B1
    rw [List.drop_zero] at ho
    refine ⟨_, _, m1, v11, (by simp only [codeEv, opsEv, oneEv, guardEv, opE_mov, opE_bin, St.opd, look_set, look_cons, St.put, bin_ige, keepL, Option.map_some, Nat.reduceEqDiff, Nat.reduceLT, if_true, if_false, Bool.false_eq_true, decide_false, hk, c]; rfl), x1, Nat.le_refl _, by omega, ho, (by simp only [keepT, List.map, look_set, look_cons, in_int, in_U, Nat.reduceEqDiff, if_true, if_false, p1, q1])⟩
  | i + 1, N, T, L, m1, v11, q, hi, hN, x1, hn0, hmn, ho, hq, hk => by
    subst hq
    obtain ⟨n, rfl⟩ : ∃ n, N = n + 1 := ⟨N - 1, by omega⟩
    obtain ⟨p1, p2, p3, p4⟩ := hv.plain
    obtain ⟨q1, q2, q3, q4⟩ := ho.plain
    have c : (0 : Int) ≤ ((i + 1 : Nat) : Int) - 1 := by omega
    have ci : ((i + 1 : Nat) : Int) - 1 = (i : Int) := by omega
    rw [ci] at hk c
    have hx : l[i]? = some (l[i]'(by omega)) := List.getElem?_eq_getElem _
    generalize (l[i]'(by omega)) = x at hx
    have hi' := idx_ok hx
    have hf := not_full (m := m1) (by omega)
    have hv1 := hv.ext x1
    have hsub := sub_int (i : Int) (by omega) (by omega)
    obtain ⟨v2, m2, ap, o1, o2, o3⟩ := app_spec (bytes := 24) (by decide) (ho.push (.cells x.c true) (by omega)) (cp := some 1) (Mem.get_push_new _) rfl (by simp [V.c, AV.one]) (by rw [push_n]; omega) (by rw [push_n]; omega) (by rw [List.length_drop]; omega) (Nat.le_trans (show (l.drop (i + 1)).length + 1 ≤ 1000 by rw [List.length_drop]; omega) (by decide))
    rw [push_n] at o2
    have hdr : l.drop i = x :: l.drop (i + 1) := by
      obtain ⟨h1, h2⟩ := List.getElem?_eq_some_iff.1 hx
      rw [List.drop_eq_getElem_cons h1, h2]
    have ov : OS 3 n0 m2 v2 ((l.drop i).reverse.flatMap V.c) (l.drop i).length := by
      rw [hdr, List.reverse_cons, List.flatMap_append, List.length_cons]
      simpa using o1
    have x2 : Ext m m2 := ⟨by have := x1.1; omega, fun j hj => (o3 j (by omega)).trans ((Mem.get_push_old _ hf (by have := x1.1; omega)).trans (x1.2 j hj))⟩
    obtain ⟨r1, _, _, _⟩ := ov.plain
    rw [a5_L1_step]
    unfold a5_B1 a5_R2
    have hv0 := hv1
    rcases hv0 with ⟨rfl, h0⟩ | ⟨b, o, cap, e, rfl, hm⟩
    · rw [h0] at hx; cases hx
    obtain ⟨cc, own, g1, g2⟩ := hm i x hx
    simp only [V.c_eq] at ap
    simp only [codeEv, opsEv, oneEv, guardEv, opE_mov, opE_mkslc, opE_loadk, opE_bin, opE_iaddrL, opE_app, elemR_slice, St.opd, look_set, look_cons, St.put, St.read, splice, bin_ige, in_int, in_U, cells_agg, fillEv, keepL, List.append_nil, List.map, List.length, List.take, List.drop, List.nil_append, List.drop_succ_cons, Option.map_some, Nat.reduceEqDiff, Nat.reduceAdd, Nat.reduceLeDiff, Nat.reduceLT, Nat.reduceMul, if_true, if_false, Bool.false_eq_true, Nat.succ_ne_self, decide_true, keepT_setT, hk, c, p1, q1, hi', and_self, Int.toNat_natCast, g1, g2, z3, p243, hf, ap, V.c_eq, r1, hsub, again_of]
    generalize hq : codeEv (run A n) (ev A n).2 a5_L1 _ = q
    obtain ⟨T', L', m3, v3, e1, e2, e3, e4, e5, e6⟩ := turn_loop _ l m hv P E lv ac hlen n0 hn00 i n _ _ m2 v2 q (by omega) (by omega) x2 (by omega) (by omega) ov hq (by simp only [keepT, List.map, look_set, look_cons, in_int, in_U, Nat.reduceEqDiff, if_true, if_false, p1, r1])
    exact ⟨T', L', m3, v3, e1, e2, by omega, by omega, e5, e6⟩

end AG
