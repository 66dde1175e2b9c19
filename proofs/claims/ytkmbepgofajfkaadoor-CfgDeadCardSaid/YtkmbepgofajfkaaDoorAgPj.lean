/- What the functions that read images and paths compute, and the laws of that. -/
import Derived.Test.YtkmbepgofajfkaaDoorAgPi
namespace AG
open Go Go.Proofs.YtkmbepgofajfkaaDoor
set_option maxRecDepth 100000
set_option maxHeartbeats 4000000
theorem row_run (N : Nat) (m : Mem) (I : ImV) (M : Img) (hm : IM m I M) (hT : Tab m) (m0 : Mem) (NC KC : Nat) (hck : CkOk m0 I M NC KC 54 0) (he : Ext m0 m) (hco : CodesOk M) (hin : NextIn M) (hlc : M.code.length ≤ 20000) (f : Nat) (hf : f < M.funcs.length) (hfr : 0 ≤ fromP M f ∧ fromP M f < (M.code.length : Int)) (hmn : m.n + KC + 40 * M.code.length + 70 ≤ 2 ^ depth) (hN : NC + 9 * M.code.length + 80 ≤ N) :
    ∃ v m', run A N 43 [.agg [I.c, I.f, I.v, .int .i64 M.main, I.i, I.p, .int .i64 M.stack, I.a], .int .i64 (f : Int)] m = some (v, m') ∧ IS m.n m' v (wayS M (fromP M f).toNat).l.reverse ∧ Gr m m' (KC + 40 * M.code.length + 12) := by
  obtain ⟨n, rfl⟩ : ∃ n, N = n + 1 := ⟨N - 1, by omega⟩
  obtain ⟨pc1, pc2, pc3, pc4⟩ := hm.c.plain
  have lc := hm.c.lenR
  obtain ⟨pf1, pf2, pf3, pf4⟩ := hm.f.plain
  have lf := hm.f.lenR
  obtain ⟨pv1, pv2, pv3, pv4⟩ := hm.v.plain
  have lv := hm.v.lenR
  obtain ⟨pi1, pi2, pi3, pi4⟩ := hm.i.plain
  have li := hm.i.lenR
  obtain ⟨pp1, pp2, pp3, pp4⟩ := hm.p.plain
  have lp := hm.p.lenR
  obtain ⟨pa1, pa2, pa3, pa4⟩ := hm.a.plain
  have la := hm.a.lenR
  have f0 := not_full (m := m) (by omega)
  have x1 : Ext m (m.push (.cells [I.c, I.f, I.v, .int .i64 M.main, I.i, I.p, .int .i64 M.stack, I.a] true)) := (Ext.refl m).push _ (by omega)
  have f1 := not_full (m := m.push (.cells [I.c, I.f, I.v, .int .i64 M.main, I.i, I.p, .int .i64 M.stack, I.a] true)) (by rw [push_n]; omega)
  have x2 : Ext m ((m.push (.cells [I.c, I.f, I.v, .int .i64 M.main, I.i, I.p, .int .i64 M.stack, I.a] true)).push (.cells [.nils] true)) := x1.push _ (by rw [push_n]; omega)
  have g0 : ((m.push (.cells [I.c, I.f, I.v, .int .i64 M.main, I.i, I.p, .int .i64 M.stack, I.a] true)).push (.cells [.nils] true)).get m.n = some (.cells [I.c, I.f, I.v, .int .i64 M.main, I.i, I.p, .int .i64 M.stack, I.a] true) := (Mem.get_push_old _ f1 (by rw [push_n]; omega)).trans (Mem.get_push_new _)
  have g1 : ((m.push (.cells [I.c, I.f, I.v, .int .i64 M.main, I.i, I.p, .int .i64 M.stack, I.a] true)).push (.cells [.nils] true)).get (m.n + 1) = some (.cells [.nils] true) := by
    have := Mem.get_push_new (m := m.push (.cells [I.c, I.f, I.v, .int .i64 M.main, I.i, I.p, .int .i64 M.stack, I.a] true)) (.cells [.nils] true)
    rw [push_n] at this
    exact this
  have n1 : ((m.push (.cells [I.c, I.f, I.v, .int .i64 M.main, I.i, I.p, .int .i64 M.stack, I.a] true)).push (.cells [.nils] true)).n = m.n + 2 := by rw [push_n, push_n]
  generalize hm1 : (m.push (.cells [I.c, I.f, I.v, .int .i64 M.main, I.i, I.p, .int .i64 M.stack, I.a] true)).push (.cells [.nils] true) = m1 at *
  obtain ⟨va, vb, m2, hr, ha, hb, hab, hg, hl1, hl2⟩ := walk_run n m1 I M (hm.ext x2) (hT.ext x2) m0 NC KC hck (he.trans x2) hco hin hlc f hf hfr (by omega) (by omega)
  have hgn := hg.2
  have hg1 := hg.1.1
  obtain ⟨a1, a2, a3, a4⟩ := ha.plain
  obtain ⟨b1, b2, b3, b4⟩ := hb.plain
  have hab' := ha.blk
  have k1 := (hg.1.2 (m.n + 1) (by omega)).trans g1
  have l1 : m.n + 1 < m2.n := by omega
  have hle : m2.n ≤ 2 ^ depth := by omega
  have k2 := Mem.get_set_same (m := m2) (.cells [va] true) l1
  have l2 : m.n + 1 < (m2.set (m.n + 1) (.cells [va] true)).n := by rw [set_n]; exact l1
  have k3 := Mem.get_set_same (m := m2.set (m.n + 1) (.cells [va] true)) (.cells [va] true) l2
  have hn3 : ((m2.set (m.n + 1) (.cells [va] true)).set (m.n + 1) (.cells [va] true)).n = m2.n := by rw [set_n, set_n]
  have ks : ∀ j, j ≠ m.n + 1 → ((m2.set (m.n + 1) (.cells [va] true)).set (m.n + 1) (.cells [va] true)).get j = m2.get j := fun j hj => (Mem.get_set_ne _ (by rw [set_n]; exact hle) l2 (fun e => hj e.symm)).trans (Mem.get_set_ne _ hle l1 (fun e => hj e.symm))
  have ha3 : IS m1.n ((m2.set (m.n + 1) (.cells [va] true)).set (m.n + 1) (.cells [va] true)) va (wayS M (fromP M f).toNat).l := ha.keep fun b hb => ks b (by have := (hab' b hb).1; omega)
  generalize hm3 : (m2.set (m.n + 1) (.cells [va] true)).set (m.n + 1) (.cells [va] true) = m3 at *
  obtain ⟨m4, hrv, hi4, n4, k4⟩ := reverse_run n m3 m1.n va (wayS M (fromP M f).toNat).l ha3 (by omega) (by omega) (by omega)
  have k5 := (k4 (m.n + 1) (fun e => by have := (hab' _ e).1; omega)).trans k3
  obtain ⟨T0, cA, p1, p2, p4⟩ : ∃ T0, codeEv (run A n) noAgain d43.A ⟨13, argsT 0 [.agg [I.c, I.f, I.v, .int .i64 M.main, I.i, I.p, .int .i64 M.stack, I.a], .int .i64 (f : Int)], [], m⟩ = some (.norm, ⟨13, T0, [], m1⟩) ∧ look T0 1 = .int .i64 (f : Int) ∧ look T0 2 = .ptr m.n 0 ∧ look T0 4 = .ptr (m.n + 1) 0 :=
    ⟨_, by simp only [KK, d43, Nat.reduceEqDiff, Nat.reduceAdd, Nat.reduceLT, push_n, f0, f1, push_n, hm1]; rfl, by simp only [look_set, look_cons, Nat.reduceEqDiff, if_true, if_false], by simp only [look_set, look_cons, Nat.reduceEqDiff, if_true, if_false], by simp only [look_set, look_cons, Nat.reduceEqDiff, if_true, if_false]⟩
  obtain ⟨T1, cP, q1, q2, q4, q5⟩ : ∃ T1, opsEv (run A n) d43.pre ⟨13, T0, [], m1⟩ = some ⟨13, T1, [], m1⟩ ∧ look T1 1 = .int .i64 (f : Int) ∧ look T1 2 = .ptr m.n 0 ∧ look T1 4 = .ptr (m.n + 1) 0 ∧ look T1 5 = .fn 83 [.ptr (m.n + 1) 0] :=
    ⟨_, by simp only [KK, d43, Nat.reduceLT, p4]; rfl, by simp only [look_set, Nat.reduceEqDiff, if_false, p1], by simp only [look_set, Nat.reduceEqDiff, if_false, p2], by simp only [look_set, Nat.reduceEqDiff, if_false, p4], by simp only [look_set, if_true]⟩
  have hkq : keepT [1, 2, 4] [] T1 = [(1, .int .i64 (f : Int)), (2, .ptr m.n 0), (4, .ptr (m.n + 1) 0)] := by simp only [keepT, List.map, q1, q2, q4, keepT, List.map, in_int, in_ptr, if_true]
  obtain ⟨T2, cC, r4⟩ : ∃ T2, codeEv (run A n) (lpEv (run A n) 1000) d43.C ⟨13, T1, [], m1⟩ = some (.ret, ⟨13, T2, [], m3⟩) ∧ look T2 4 = .ptr (m.n + 1) 0 :=
    ⟨_, by simp only [KK, d43, Nat.reduceEqDiff, Nat.reduceAdd, Nat.reduceLeDiff, Nat.reduceLT, hkq, g0, hr, a3, a4, k1, k2, hm3]; rfl, by simp only [look_set, look_cons, Nat.reduceEqDiff, if_true, if_false]⟩
  have cD : fnEv (run A n) noAgain d43.D [.ptr (m.n + 1) 0] m3 = some (.tup [], m4) := by
    unfold fnEv
    simp only [KK, d43, a83, Nat.reduceEqDiff, Nat.reduceAdd, Nat.reduceLeDiff, Nat.reduceLT, k3, a2, hrv]
  refine ⟨va, m4, ?_, by
    rcases hi4 with h | ⟨b, h0, h1, h2⟩
    · exact .inl h
    · exact .inr ⟨b, by omega, h1, h2⟩, ⟨⟨by omega, fun i hi => (k4 i (fun e => by have := (hab' _ e).1; omega)).trans ((ks i (by omega)).trans ((hg.1.2 i (by omega)).trans (x2.2 i hi)))⟩, by omega⟩⟩
  rw [run_43]
  unfold fnEv a43 primFn
  dsimp only
  unfold deferEv
  rw [if_pos (show ([.agg [I.c, I.f, I.v, .int .i64 M.main, I.i, I.p, .int .i64 M.stack, I.a], .int .i64 (f : Int)] : List AV).length = d43.np from rfl), show d43.n = 13 from rfl, cA]
  dsimp only
  rw [cP]
  dsimp only
  rw [show d43.g = 5 from rfl, q5]
  dsimp only
  rw [if_pos (show 83 = d43.fD from rfl), show d43.post = [] from rfl]
  simp only [opsEv]
  rw [cC]
  dsimp only
  rw [cD]
  simp only [KK, d43, Nat.reduceAdd, Nat.reduceLeDiff, r4, k5, a2]
theorem flat_prow : ∀ l : List (Int × Int), l.flatMap prow = (flatP l).map fun z => AV.int .i64 z
  | [] => rfl
  | p :: r => by rw [List.flatMap_cons, flat_prow r]; rfl
theorem sortf_at (n : Nat) {n0 : Nat} {m : Mem} {v : AV} {ps : List (Int × Int)} (h : OS 2 n0 m v (ps.flatMap prow) ps.length) (hm : m.n ≤ 2 ^ depth) (hz6 : ps.length ≤ 1000000) :
    ∃ m', run A (n + 1) 80 [v, .fn 81 []] m = some (.tup [], m') ∧ OS 2 n0 m' v ((sortP ps).flatMap prow) (sortP ps).length ∧ m'.n = m.n ∧ (∀ i, i < n0 → m'.get i = m.get i) := by
  rw [run_80]
  unfold fnEv a80 primFn
  try dsimp only
  rcases h with ⟨rfl, h1, h2⟩ | ⟨b, h0, rfl, h1, h2⟩
  · have : ps = [] := List.length_eq_zero_iff.1 h2
    subst this
    exact ⟨m, rfl, .inl ⟨rfl, by unfold sortP; simp, by unfold sortP; simp⟩, rfl, fun _ _ => rfl⟩
  · have hb := Mem.get_lt h1
    by_cases hz : ps.length = 0
    · have : ps = [] := List.length_eq_zero_iff.1 hz
      subst this
      exact ⟨m, rfl, .inr ⟨b, h0, by rw [sortP_len], by unfold sortP; simpa using h1, by unfold sortP; simp⟩, rfl, fun _ _ => rfl⟩
    · rw [flat_prow] at h1
      have hc : cellsAt ((flatP ps).map fun z => AV.int .i64 z) 0 (2 * ps.length) = some ((flatP ps).map fun z => AV.int .i64 z) := by
        unfold cellsAt
        rw [if_pos (by rw [List.length_map, flatP_len]; omega), List.drop_zero, List.take_of_length_le (by rw [List.length_map, flatP_len]; omega)]
      refine ⟨m.set b (.cells ((flatP (sortP ps)).map fun z => AV.int .i64 z) true), ?_, .inr ⟨b, h0, by rw [sortP_len], by rw [flat_prow]; exact Mem.get_set_same _ hb, by rw [flat_prow, List.length_map, flatP_len]; omega⟩, rfl, fun i hi => Mem.get_set_ne _ hm hb (by omega)⟩
      unfold sortfEv ownInts
      have hz7 : ¬ 1000000 < ps.length := by omega
      simp only [and_self, if_true, hz, hz7, if_false, h1, hc, intsOf_map, Option.map_some, pairs_flat]
      congr 3
      unfold splice
      have e : ((flatP (sortP ps)).map fun z => AV.int .i64 z).length = ((flatP ps).map fun z => AV.int .i64 z).length := by
        rw [List.length_map, List.length_map, flatP_len, flatP_len, sortP_len]
      rw [List.take_zero, List.nil_append, Nat.zero_add, e, List.drop_length, List.append_nil]
theorem backs_run (N : Nat) (m : Mem) (I : ImV) (M : Img) (hm : IM m I M) (hT : Tab m) (m0 : Mem) (NC KC : Nat) (hck : CkOk m0 I M NC KC 54 0) (he : Ext m0 m) (hco : CodesOk M) (hin : NextIn M) (hlc : M.code.length ≤ 20000) (f : Nat) (hf : f < M.funcs.length) (hfr : 0 ≤ fromP M f ∧ fromP M f < (M.code.length : Int)) (hmn : m.n + KC + 40 * M.code.length + 70 ≤ 2 ^ depth) (hN : NC + 8 * M.code.length + 70 ≤ N) :
    ∃ v m', run A N 41 [.agg [I.c, I.f, I.v, .int .i64 M.main, I.i, I.p, .int .i64 M.stack, I.a], .int .i64 (f : Int)] m = some (v, m') ∧ OS 2 m.n m' v ((sortP (wayS M (fromP M f).toNat).b).flatMap prow) (sortP (wayS M (fromP M f).toNat).b).length ∧ (sortP (wayS M (fromP M f).toNat).b).length ≤ 2 * M.code.length ∧ Gr m m' (KC + 40 * M.code.length + 10) := by
  obtain ⟨n, rfl⟩ : ∃ n, N = n + 1 := ⟨N - 1, by omega⟩
  obtain ⟨pc1, pc2, pc3, pc4⟩ := hm.c.plain
  have lc := hm.c.lenR
  obtain ⟨pf1, pf2, pf3, pf4⟩ := hm.f.plain
  have lf := hm.f.lenR
  obtain ⟨pv1, pv2, pv3, pv4⟩ := hm.v.plain
  have lv := hm.v.lenR
  obtain ⟨pi1, pi2, pi3, pi4⟩ := hm.i.plain
  have li := hm.i.lenR
  obtain ⟨pp1, pp2, pp3, pp4⟩ := hm.p.plain
  have lp := hm.p.lenR
  obtain ⟨pa1, pa2, pa3, pa4⟩ := hm.a.plain
  have la := hm.a.lenR
  obtain ⟨va, vb, m1, hr, ha, hb, hab, hg, hl1, hl2⟩ := walk_run n m I M hm hT m0 NC KC hck he hco hin hlc f hf hfr (by omega) (by omega)
  have hgn := hg.2
  obtain ⟨m2, hs, o2, n2, k2⟩ := sortf_at (n - 1) hb (by omega) (by omega)
  rw [show n - 1 + 1 = n by omega] at hs
  obtain ⟨a1, a2, a3, a4⟩ := ha.plain
  obtain ⟨b1, b2, b3, b4⟩ := hb.plain
  refine ⟨vb, m2, ?_, o2, by rw [sortP_len]; exact hl2, ⟨⟨by have := hg.1.1; omega, fun i hi => (k2 i hi).trans (hg.1.2 i hi)⟩, by omega⟩⟩
  rw [run_41]
  unfold fnEv a41
  simp only [KK, Nat.reduceEqDiff, Nat.reduceAdd, Nat.reduceLeDiff, Nat.reduceLT, hr, b1, b2, hs]
theorem vis_mono (nx : Nat → List Int) : ∀ (k a : Nat) (s : DS), ∃ r, (visP nx k a s).l = s.l ++ r
  | 0, _, s => ⟨[], (List.append_nil _).symm⟩
  | k + 1, a, s => by
    have step : ∀ (x : Int) (t : DS), ∃ r, (visStep (visP nx k) a x t).l = t.l ++ r := by
      intro x t
      unfold visStep
      split
      · exact vis_mono nx k _ t
      · exact ⟨[], (List.append_nil _).symm⟩
      · exact ⟨[], (List.append_nil _).symm⟩
    have fold : ∀ (l : List Int) (t : DS), ∃ r, (l.foldr (visStep (visP nx k) a) t).l = t.l ++ r := by
      intro l
      induction l with
      | nil => exact fun t => ⟨[], (List.append_nil _).symm⟩
      | cons x r ih =>
        intro t
        obtain ⟨r1, h1⟩ := ih t
        obtain ⟨r2, h2⟩ := step x (r.foldr (visStep (visP nx k) a) t)
        exact ⟨r1 ++ r2, by rw [List.foldr_cons, h2, h1, List.append_assoc]⟩
    obtain ⟨r, h⟩ := fold (nx a) (greyS a s)
    exact ⟨r ++ [(a : Int)], by rw [visP, endS]; dsimp only; rw [h, greyS]; dsimp only; rw [List.append_assoc]⟩
theorem vis_congr (nx nx' : Nat → List Int) (z : Nat) (he : ∀ a, a ≠ z → nx a = nx' a) : ∀ (k a : Nat) (s : DS), (z : Int) ∉ (visP nx k a s).l → visP nx k a s = visP nx' k a s
  | 0, _, _, _ => rfl
  | k + 1, a, s, h => by
    rw [visP, endS] at h
    dsimp only at h
    rw [List.mem_append, not_or] at h
    obtain ⟨h1, h2⟩ := h
    have haz : a ≠ z := fun e => h2 (by rw [e]; simp)
    have mono : ∀ (x : Int) (t : DS), (z : Int) ∉ (visStep (visP nx k) a x t).l → (z : Int) ∉ t.l := by
      intro x t ht hz
      apply ht
      unfold visStep
      split
      · obtain ⟨r, hr⟩ := vis_mono nx k x.toNat t
        rw [hr]
        exact List.mem_append_left _ hz
      · exact hz
      · exact hz
    have step : ∀ (x : Int) (t : DS), (z : Int) ∉ (visStep (visP nx k) a x t).l → visStep (visP nx k) a x t = visStep (visP nx' k) a x t := by
      intro x t ht
      unfold visStep at ht ⊢
      split
      · rename_i h0
        rw [h0] at ht
        exact vis_congr nx nx' z he k x.toNat t ht
      · rfl
      · rfl
    have fold : ∀ (l : List Int) (t : DS), (z : Int) ∉ (l.foldr (visStep (visP nx k) a) t).l → l.foldr (visStep (visP nx k) a) t = l.foldr (visStep (visP nx' k) a) t := by
      intro l
      induction l with
      | nil => exact fun t _ => rfl
      | cons x r ih =>
        intro t ht
        rw [List.foldr_cons] at ht
        rw [List.foldr_cons, List.foldr_cons, ← ih t (mono x _ ht)]
        exact step x _ ht
    rw [visP, visP, fold (nx a) (greyS a s) h1, he a haz]
def putC (M : Img) (z : Nat) (y : II) : Img := { M with code := M.code.set z y }
theorem nextAt_put (M : Img) (z : Nat) (y : II) (a : Nat) (h : a ≠ z) : nextAt M a = nextAt (putC M z y) a := by
  unfold nextAt putC
  dsimp only
  rw [List.getElem?_set_ne (fun e => h e.symm)]
theorem way_congr (M : Img) (z : Nat) (y : II) (e : Nat) (h : (z : Int) ∉ (wayS M e).l) : wayS M e = wayS (putC M z y) e := by
  unfold wayS at h ⊢
  have hl : (putC M z y).code.length = M.code.length := by unfold putC; simp
  rw [hl]
  exact vis_congr _ _ z (fun a ha => nextAt_put M z y a ha) _ _ _ h
theorem mem_sortZ (l : List Int) (x : Int) : x ∈ sortZ l ↔ x ∈ l := by
  unfold sortZ
  exact List.mem_mergeSort
def findS (z : Int) (_ : Nat) (y : Int) (_ : Unit) : Stp Unit Unit := if y = z then .ret () else .go ()
theorem fold_find (z : Int) : ∀ (l : List Int) (i : Nat), foldS (findS z) l i () = if l.contains z then .inr () else .inl ()
  | [], _ => rfl
  | y :: r, i => by
    rw [foldS]
    by_cases h : y = z
    · subst h
      simp [findS]
    · have e : findS z i y () = .go () := by unfold findS; rw [if_neg h]
      rw [e]
      dsimp only
      rw [fold_find z r (i + 1), List.contains_cons, beq_eq_false_iff_ne.2 (fun e => h e.symm), Bool.false_or]
theorem find_loop (m : Mem) (z : Nat) (f e : Int) (v : AV) (l : List Int) (hv : RE m v l) (hl : l.length ≤ 100000) (C : List AV) (N : Nat) (T : List (Nat × AV)) (L : List (Nat × List AV)) (hN : l.length + 1 ≤ N) (hk : keepT [1, 2, 5, 8, 9, 10] [2] T = [(1, .int .i64 (z : Int)), (2, .loc 2 0), (5, .int .i64 f), (8, .int .i64 e), (9, v), (10, .int .i64 0)]) (hL : lookL L 2 = some C) {q : Option (Ex × St)} (hq : codeEv (run A N) (ev A N).2 a7_L2 ⟨117, T, L, m⟩ = q) :
    if l.contains (z : Int) then ∃ T' L', q = some (.ret, ⟨117, T', L', m⟩) ∧ look T' 4 = .bool true else ∃ T' L', q = some (.exit 0, ⟨117, T', L', m⟩) ∧ keepT [1, 2, 5, 8, 9] [2] T' = [(1, .int .i64 (z : Int)), (2, .loc 2 0), (5, .int .i64 f), (8, .int .i64 e), (9, v)] ∧ lookL L' 2 = some C := by
  obtain ⟨v1, v2, v3, v4⟩ := hv.plain
  have lb := hv.lenR
  have h := scan0 (A := A) a7_L2 a7_B2 a7_L2_step (fun x (_ : Unit) s => ∃ T L, s = ⟨117, T, L, m⟩ ∧ keepT [1, 2, 5, 8, 9, 10] [2] T = [(1, .int .i64 (z : Int)), (2, .loc 2 0), (5, .int .i64 f), (8, .int .i64 e), (9, v), (10, .int .i64 (x : Int))] ∧ lookL L 2 = some C) (fun _ s => ∃ T L, s = ⟨117, T, L, m⟩ ∧ keepT [1, 2, 5, 8, 9] [2] T = [(1, .int .i64 (z : Int)), (2, .loc 2 0), (5, .int .i64 f), (8, .int .i64 e), (9, v)] ∧ lookL L 2 = some C) (fun (_ : Unit) s => ∃ T L, s = ⟨117, T, L, m⟩ ∧ look T 4 = .bool true) 0 1 (findS z) l
    (fun N b s hN ⟨T, L, hs, hk, hL⟩ => by
      subst hs
      have h' : ¬ (l.length : Int) < (l.length : Int) := by omega
      unfold a7_B2
      exact ⟨_, by simp only [KK, Nat.reduceEqDiff, Nat.reduceLT, hk, hL, h', lb]; rfl, _, _, rfl, by simp only [keepT, List.map, look_set, look_cons, in_int, in_loc, Nat.reduceEqDiff, if_true, if_false, List.contains_cons, List.contains_nil, beq_self_eq_true, Bool.or_false, v1], by simp only [lookL_cons, if_true]⟩)
    (fun N x y b s hN hx ⟨T, L, hs, hk, hL⟩ => by
      subst hs
      have hlt := (List.getElem?_eq_some_iff.1 hx).1
      have h' : (x : Int) < (l.length : Int) := by omega
      obtain ⟨b2, o2, cs2, ow2, g1, g2, g3⟩ := hv.i1 hx
      have a1 := add_i x (by omega)
      unfold findS
      unfold a7_B2
      by_cases hy : y = (z : Int)
      · rw [if_pos hy]
        dsimp only
        have hd : decide (y = (z : Int)) = true := decide_eq_true hy
        exact ⟨_, by simp only [KK, Nat.reduceEqDiff, Nat.reduceLT, hk, hL, h', v1, lb, g1, g2, g3, hd]; rfl, _, _, rfl, by simp only [look_set, look_nil, if_true]⟩
      · rw [if_neg hy]
        dsimp only
        have hd : decide (y = (z : Int)) = false := decide_eq_false hy
        exact ⟨_, by simp only [KK, Nat.reduceEqDiff, Nat.reduceLT, hk, hL, h', v1, lb, g1, g2, g3, hd, a1]; rfl, _, _, rfl, by simp only [keepT, List.map, look_set, look_cons, in_int, in_loc, Nat.reduceEqDiff, if_true, if_false, List.contains_cons, List.contains_nil, beq_self_eq_true, Bool.or_false, v1], by simp only [lookL_cons, if_true]⟩)
    N () ⟨117, T, L, m⟩ (by omega) ⟨T, L, rfl, hk, hL⟩ hq
  rw [fold_find] at h
  split
  · rename_i hc
    rw [if_pos hc] at h
    obtain ⟨s', e, T', L', rfl, h2⟩ := h
    exact ⟨T', L', e, h2⟩
  · rename_i hc
    rw [if_neg hc] at h
    obtain ⟨s', e, T', L', rfl, h2, h3⟩ := h
    exact ⟨T', L', e, h2, h3⟩
theorem same_loop (m : Mem) (f : Int) (v wa wb : AV) (hpv : (∀ ls, AV.locIn ls v = true) ∧ v.isLoc = false) (ps : List (Int × Int)) (ha : RS prow 2 m wa ps) (hb : RS prow 2 m wb ps) (hl : ps.length ≤ 100000) (C D : List AV) (N : Nat) (T : List (Nat × AV)) (L : List (Nat × List AV)) (hN : ps.length + 1 ≤ N) (hk : keepT [2, 5, 9, 11, 12, 13, 14] [2, 11] T = [(2, .loc 2 0), (5, .int .i64 f), (9, v), (11, .loc 11 0), (12, wa), (13, wb), (14, .int .i64 0)]) (hL : lookL L 2 = some C) (hL2 : lookL L 11 = some D) {q : Option (Ex × St)} (hq : codeEv (run A N) (ev A N).2 a7_L1 ⟨117, T, L, m⟩ = q) :
    ∃ T' L', q = some (.exit 2, ⟨117, T', L', m⟩) ∧ keepT [2, 5, 9, 11] [2, 11] T' = [(2, .loc 2 0), (5, .int .i64 f), (9, v), (11, .loc 11 0)] ∧ lookL L' 2 = some C ∧ lookL L' 11 = some D := by
  obtain ⟨c1, c2⟩ := hpv
  obtain ⟨v1, v2, v3, v4⟩ := ha.plain
  obtain ⟨w1, w2, w3, w4⟩ := hb.plain
  have la := ha.lenR
  have lb := hb.lenR
  have h := scan0 (A := A) a7_L1 a7_B1 a7_L1_step (fun x (_ : Unit) s => ∃ T L, s = ⟨117, T, L, m⟩ ∧ keepT [2, 5, 9, 11, 12, 13, 14] [2, 11] T = [(2, .loc 2 0), (5, .int .i64 f), (9, v), (11, .loc 11 0), (12, wa), (13, wb), (14, .int .i64 (x : Int))] ∧ lookL L 2 = some C ∧ lookL L 11 = some D) (fun _ s => ∃ T L, s = ⟨117, T, L, m⟩ ∧ keepT [2, 5, 9, 11] [2, 11] T = [(2, .loc 2 0), (5, .int .i64 f), (9, v), (11, .loc 11 0)] ∧ lookL L 2 = some C ∧ lookL L 11 = some D) (fun (_ : Unit) _ => False) 2 1 (fun _ _ b => Stp.go b) ps
    (fun N b s hN ⟨T, L, hs, hk, hL, hL2⟩ => by
      subst hs
      have h' : ¬ (ps.length : Int) < (ps.length : Int) := by omega
      unfold a7_B1
      exact ⟨_, by simp only [KK, Nat.reduceEqDiff, Nat.reduceLT, hk, hL, hL2, h', la]; rfl, _, _, rfl, by simp only [keepT, List.map, look_set, look_cons, in_int, in_loc, Nat.reduceEqDiff, if_true, if_false, List.contains_cons, List.contains_nil, beq_self_eq_true, Bool.or_false, Bool.or_true, Bool.true_or, c1], by simp only [lookL_cons, Nat.reduceEqDiff, if_true, if_false], by simp only [lookL_cons, Nat.reduceEqDiff, if_true, if_false]⟩)
    (fun N x y b s hN hx ⟨T, L, hs, hk, hL, hL2⟩ => by
      subst hs
      have hlt := (List.getElem?_eq_some_iff.1 hx).1
      have h' : (x : Int) < (ps.length : Int) := by omega
      obtain ⟨b2, o2, cs2, ow2, g1, g2, g3⟩ := ha.at hx
      obtain ⟨b3, o3, cs3, ow3, h1, h2, h3⟩ := hb.at hx
      have a1 := add_i x (by omega)
      have hne : eqEv (.agg [(0, 0), (1, 0)]) (.agg (prow y)) (.agg (prow y)) = some true := by
        simp [eqEv, leavesEq, leafEq, prow]
      unfold a7_B1
      exact ⟨_, by simp only [KK, Nat.reduceEqDiff, Nat.reduceLT, AOp.kd, kd_rm, logOk_nil', hk, hL, hL2, h', c1, v1, w1, la, g1, g2, g3, h1, h2, h3, hne, a1]; rfl, _, _, rfl, by simp only [keepT, List.map, look_set, look_cons, in_int, in_loc, Nat.reduceEqDiff, if_true, if_false, List.contains_cons, List.contains_nil, beq_self_eq_true, Bool.or_false, Bool.or_true, Bool.true_or, c1, v1, w1], by simp only [lookL_cons, Nat.reduceEqDiff, if_true, if_false], by simp only [lookL_cons, Nat.reduceEqDiff, if_true, if_false]⟩)
    N () ⟨117, T, L, m⟩ (by omega) ⟨T, L, rfl, hk, hL, hL2⟩ hq
  rw [foldS_go] at h
  obtain ⟨s', e, T', L', rfl, h2, h3, h4⟩ := h
  exact ⟨T', L', e, h2, h3, h4⟩
theorem cells_two {cs : List AV} {a n k : Nat} {x y : List AV} (h1 : cellsAt cs a n = some x) (h2 : cellsAt cs (a + n) k = some y) : cellsAt cs a (n + k) = some (x ++ y) := by
  unfold cellsAt at *
  split at h1
  rotate_left
  · cases h1
  split at h2
  rotate_left
  · cases h2
  simp only [Option.some.injEq] at h1 h2
  rw [if_pos (by omega), ← h1, ← h2, List.take_add, List.drop_drop]
theorem rows_cells {α : Type} (f : α → List AV) (c : Nat) (cs : List AV) (o : Nat) : ∀ (l : List α) (k : Nat), (∀ (i : Nat) (x : α), l[i]? = some x → cellsAt cs (o + (k + i) * c) c = some (f x)) → 0 < l.length → cellsAt cs (o + k * c) (l.length * c) = some (l.flatMap f)
  | [], _, _, h => by cases h
  | [x], k, h, _ => by
    have := h 0 x rfl
    rw [Nat.add_zero] at this
    simpa using this
  | x :: y :: r, k, h, _ => by
    have h1 := h 0 x rfl
    rw [Nat.add_zero] at h1
    have h2 := rows_cells f c cs o (y :: r) (k + 1) (fun i w hw => by
      have := h (i + 1) w (by simpa using hw)
      rwa [show k + (i + 1) = k + 1 + i by omega] at this) (by simp)
    rw [show o + (k + 1) * c = o + k * c + c by rw [Nat.add_mul, Nat.one_mul]; omega] at h2
    have h3 := cells_two h1 h2
    rw [List.flatMap_cons]
    rw [show (x :: y :: r).length * c = c + (y :: r).length * c by rw [List.length_cons, Nat.add_mul, Nat.one_mul]; omega]
    exact h3
theorem RS.elems {α : Type} {f : α → List AV} {c : Nat} {m : Mem} {v : AV} {l : List α} (h : RS f c m v l) (sn : Nat) (t : List (Nat × AV)) (q : List (Nat × List AV)) : v.elems ⟨sn, t, q, m⟩ c = some (l.length, l.flatMap f) := by
  rcases h with ⟨rfl, rfl⟩ | ⟨b, o, cap, e, rfl, h⟩
  · rfl
  · by_cases hl : l.length = 0
    · have : l = [] := List.length_eq_zero_iff.1 hl
      subst this
      rfl
    · simp only [AV.elems, hl, if_false]
      obtain ⟨cs, ow, g1, _⟩ := h 0 l[0] (by rw [List.getElem?_eq_getElem (by omega)])
      rw [g1]
      dsimp only
      have hc := rows_cells f c cs o l 0 (fun i x hx => by
        obtain ⟨cs', ow', g1', g2'⟩ := h i x hx
        rw [g1] at g1'
        cases g1'
        rw [Nat.zero_add]
        exact g2') (by omega)
      rw [Nat.zero_mul, Nat.add_zero] at hc
      rw [hc]
theorem flat_cs_len (l : List II) : (l.flatMap II.cs).length = l.length * 4 := by
  induction l with
  | nil => rfl
  | cons x r ih => rw [List.flatMap_cons, List.length_append, ih, List.length_cons, Nat.add_mul, Nat.one_mul]; show 4 + _ = _; omega
theorem flat_cs_one (l : List II) : (l.flatMap II.cs).all AV.one = true := by
  rw [List.all_eq_true]
  intro x hx
  obtain ⟨y, _, h⟩ := List.mem_flatMap.1 hx
  simp only [II.cs, List.mem_cons, List.not_mem_nil, or_false] at h
  rcases h with rfl | rfl | rfl | rfl <;> rfl
theorem flat_cs_set : ∀ (l : List II) (z : Nat) (y : II), z < l.length → splice (l.flatMap II.cs) (0 + z * 4) (II.cs y) = (l.set z y).flatMap II.cs
  | [], z, _, h => by simp at h
  | x :: r, 0, y, _ => by
    rw [List.set_cons_zero, List.flatMap_cons, List.flatMap_cons]
    rfl
  | x :: r, z + 1, y, h => by
    have ih := flat_cs_set r z y (by simpa using h)
    rw [List.set_cons_succ, List.flatMap_cons, List.flatMap_cons, ← ih]
    unfold splice
    have hx : (II.cs x).length = 4 := rfl
    have hy : (II.cs y).length = 4 := rfl
    rw [show 0 + (z + 1) * 4 = (II.cs x).length + (0 + z * 4) by rw [hx]; omega, List.take_length_add_append, Nat.add_assoc, List.drop_length_add_append, List.append_assoc, List.append_assoc, List.append_assoc]
theorem copy_code (m : Mem) (I : ImV) (M : Img) (hm : IM m I M) (hlc : M.code.length ≤ 100000) (hpos : 0 < M.code.length) (hmn : m.n + 3 ≤ 2 ^ depth) :
    ∃ m2, (∀ sn t q, appEv ⟨sn, t, q, m.push (.cells [] true)⟩ none 4 32 (.slice m.n 0 0 (some 0) 4) I.c = some (.slice (m.n + 1) 0 M.code.length none 4, ⟨sn, t, q, m2⟩)) ∧ m2.get (m.n + 1) = some (.cells (M.code.flatMap II.cs) true) ∧ Gr m m2 2 ∧ m2.n = m.n + 2 := by
  have hf := not_full (m := m) (by omega)
  have x1 : Ext m (m.push (.cells [] true)) := (Ext.refl m).push _ (by omega)
  have hf1 := not_full (m := m.push (.cells [] true)) (by rw [push_n]; omega)
  have hel := (hm.c.ext x1).elems
  have x2 : Ext m ((m.push (.cells [] true)).push (.cells (M.code.flatMap II.cs) true)) := x1.push _ (by rw [push_n]; omega)
  refine ⟨(m.push (.cells [] true)).push (.cells (M.code.flatMap II.cs) true), fun sn t q => ?_, ?_, ⟨x2, by rw [push_n, push_n]; omega⟩, by rw [push_n, push_n]⟩
  · have c0 : cellsAt ([] : List AV) 0 (0 * 4) = some [] := rfl
    simp only [appEv, hel sn t q, flat_cs_one, if_true, hf1, Bool.false_eq_true, if_false, Mem.get_push_new, c0, push_n]
    rw [if_neg (by omega), if_pos ⟨by omega, Nat.le_trans (show 0 + M.code.length ≤ 100000 by omega) (by decide)⟩]
    simp only [Mem.noteO, List.nil_append, Nat.zero_add]
  · have := Mem.get_push_new (m := m.push (.cells [] true)) (.cells (M.code.flatMap II.cs) true)
    rw [push_n] at this
    exact this
theorem put_code (m : Mem) (I : ImV) (M : Img) (_hm : IM m I M) (b : Nat) (_hb : m.get b = some (.cells (M.code.flatMap II.cs) true)) (z : Nat) (_hz : z < M.code.length) (y : II) (m3 : Mem) (h3 : m3.get b = some (.cells ((M.code.set z y).flatMap II.cs) true)) (hI : IM m3 I M) :
    IM m3 ⟨.slice b 0 M.code.length none 4, I.f, I.v, I.i, I.p, I.a⟩ (putC M z y) := by
  have hl : (M.code.set z y).length = M.code.length := by simp
  refine ⟨?_, hI.f, hI.v, hI.i, hI.p, hI.a⟩
  have := OX.rs (f := II.cs) (c := 4) (n0 := 0) (m := m3) (v := .slice b 0 M.code.length none 4) (l := M.code.set z y) (fun _ => rfl) (.inr ⟨b, none, by omega, by rw [hl], .inl rfl, h3, by rw [flat_cs_len]⟩)
  exact this
theorem CkOk.le {m0 : Mem} {I : ImV} {M : Img} {NC KC NC' KC' f : Nat} {c : Int} (h : CkOk m0 I M NC KC f c) (h1 : NC ≤ NC') (h2 : KC ≤ KC') : CkOk m0 I M NC' KC' f c := fun N m a b d => by
  obtain ⟨m', hr, hg⟩ := h N m (by omega) b (by omega)
  exact ⟨m', hr, hg.le h2⟩
theorem cks (m : Mem) (h : LV m) (I : ImV) (M : Img) (hm : IM m I M) (hcs : CapS I.c 4) (h1 : M.code.length ≤ 60) (h2 : M.funcs.length ≤ 80) (h3 : M.vecs.length ≤ 40) (h4 : M.atoms.length ≤ 80) : CkOk m I M 10000 8000 54 (checkI M) ∧ CkOk m I M 10000 30000 37 (checkI M) := by
  refine ⟨(ick_ok m h I M hm hcs (by omega)).le (by omega) (by omega), fun N m1 hN he hmn => ?_⟩
  have e1 := Nat.mul_le_mul (show 3 * M.code.length ≤ 180 by omega) h2
  have e2 := Nat.mul_le_mul (show 2 * M.funcs.length + 2 ≤ 162 by omega) h2
  obtain ⟨m', hr, hg⟩ := r4check_run N m1 I M (hm.ext he) (by omega) (fun _ => by omega) (by omega)
  rw [check_eq] at hr
  exact ⟨m', hr, hg.le (by omega)⟩
theorem dead_run (N : Nat) (hN : 40000 ≤ N) (m : Mem) (hlv : LV m) (I : ImV) (M : Img) (hm : IM m I M) (hcs : CapS I.c 4) (hmn : m.n + 20000000 ≤ 2 ^ depth) (at' : Int) : ∃ m', run A N 7 [.agg [I.c, I.f, I.v, .int .i64 M.main, I.i, I.p, .int .i64 M.stack, I.a], .int .i64 at'] m = some (.bool true, m') := by
  obtain ⟨n, rfl⟩ : ∃ n, N = n + 1 := ⟨N - 1, by omega⟩
  obtain ⟨pc1, pc2, pc3, pc4⟩ := hm.c.plain
  have lc := hm.c.lenR
  obtain ⟨pf1, pf2, pf3, pf4⟩ := hm.f.plain
  have lf := hm.f.lenR
  obtain ⟨pv1, pv2, pv3, pv4⟩ := hm.v.plain
  have lv := hm.v.lenR
  obtain ⟨pi1, pi2, pi3, pi4⟩ := hm.i.plain
  have li := hm.i.lenR
  obtain ⟨pp1, pp2, pp3, pp4⟩ := hm.p.plain
  have lp := hm.p.lenR
  obtain ⟨pa1, pa2, pa3, pa4⟩ := hm.a.plain
  have la := hm.a.lenR
  have hli := lives_run n (by omega) m hlv
  have hlight := light_run n m I M hm 60 (by omega)
  rw [run_7]
  unfold fnEv a7
  cases hL : lightP M 60
  · rw [hL] at hlight
    exact ⟨m, by simp only [KK, Nat.reduceEqDiff, Nat.reduceAdd, Nat.reduceLeDiff, Nat.reduceLT, hli, hlight]⟩
  rw [hL] at hlight
  obtain ⟨l1, l2, l3, l4, l5, l6, l7⟩ := light_law (k := 60) hL
  obtain ⟨hck, hrk⟩ := cks m hlv I M hm hcs l1 l2 l3 l6
  obtain ⟨m1, hrc, hg1⟩ := hrk n m (by omega) (Ext.refl m) (by omega)
  have hn1 := hg1.2
  have hm1 := hm.ext hg1.1
  by_cases hc : checkI M = 0
  rotate_left
  · have hd : decide (checkI M = 0) = false := decide_eq_false hc
    exact ⟨m1, by simp only [KK, Nat.reduceEqDiff, Nat.reduceAdd, Nat.reduceLeDiff, Nat.reduceLT, hli, hlight, hrc, hd]⟩
  have hd : decide (checkI M = 0) = true := decide_eq_true hc
  have ht := tiles_of (check_zero hc).2.1
  have hpos := ht.pos
  have hsp0 := ht.sp 0 hpos
  have hcp : 0 < M.code.length := by omega
  have hp := pick_run n (by omega) m1 at' (M.code.length : Int) (by omega)
  obtain ⟨hp1, hp2⟩ := pick_law at' (show (1 : Int) ≤ (M.code.length : Int) by omega)
  obtain ⟨z, hz⟩ : ∃ z : Nat, pickP at' (M.code.length : Int) = (z : Int) := ⟨(pickP at' (M.code.length : Int)).toNat, by omega⟩
  rw [hz] at hp hp1 hp2
  obtain ⟨m2, hof, hg2⟩ := rof_run n m1 I M hm1 (by omega) m _ 10000 30000 hrk hg1.1 (by omega) (by omega) (z : Int)
  have hn2 := hg2.2
  obtain ⟨fk, hfk, hfo, hfr⟩ := ht.of hp1 hp2
  have hofP : rofP M (checkI M) (z : Int) = ((fk : Int), true) := by
    rw [← of_eq, ofP, if_pos ⟨hc, hp1, hp2⟩, hfo]
  rw [hofP] at hof
  dsimp only at hof
  have hm2 := hm1.ext hg2.1
  obtain ⟨m3, hra, hg3⟩ := rrange_run n m2 I M hm2 (by omega) m _ 10000 30000 hrk (hg1.1.trans hg2.1) (by omega) (by omega) (fk : Int)
  have hn3 := hg3.2
  have hraP : rangeP M (checkI M) (fk : Int) = (fromP M fk, toP M fk) := by
    rw [rangeP, if_pos hc, spanP, if_neg (by omega), Int.toNat_natCast]
  rw [hraP] at hra
  dsimp only at hra
  have hm3 := hm2.ext hg3.1
  have e3 : Ext m m3 := hg1.1.trans (hg2.1.trans hg3.1)
  have hsf := ht.sp fk hfk
  rw [hc] at hck
  have hfr0 : 0 ≤ fromP M fk ∧ fromP M fk < (M.code.length : Int) := ⟨hsf.1, by omega⟩
  obtain ⟨v, m4, hre, hv, hg4, hwl⟩ := reached_run n m3 I M hm3 (hlv.ext e3).tab.1 m 10000 8000 hck e3 (codes_ok hc) (next_in hc) (by omega) fk hfk hfr0 (by omega) (by omega)
  have hn4 := hg4.2
  have e4 : Ext m m4 := e3.trans hg4.1
  have hm4 := hm.ext e4
  obtain ⟨v1, v2, v3, v4⟩ := hv.pl
  have hvl : (sortZ (wayS M (fromP M fk).toNat).l).length ≤ 60 := by rw [len_sort]; omega
  simp only [KK, opE_mkslc, Nat.reduceEqDiff, Nat.reduceAdd, Nat.reduceLeDiff, Nat.reduceLT, Nat.reducePow, AOp.kd, kd_rm, lc, hli, hlight, hrc, hd, hp, hof, hra, hre, v1]
  generalize hq : codeEv (run A n) (ev A n).2 a7_L2 _ = q
  have hfl := find_loop m4 z (fk : Int) (toP M fk) v _ hv.re (by omega) [I.c, I.f, I.v, .int .i64 M.main, I.i, I.p, .int .i64 M.stack, I.a] n _ _ (by omega) (by simp only [keepT, List.map, look_set, look_cons, in_int, in_loc, Nat.reduceEqDiff, if_true, if_false, List.contains_cons, List.contains_nil, beq_self_eq_true, Bool.or_false, v1]) (by simp only [lookL_cons, if_true]) hq
  split at hfl
  · obtain ⟨T', L', rfl, h4⟩ := hfl
    exact ⟨m4, by simp only [loc_bool, if_false, Bool.false_eq_true, h4]⟩
  · rename_i hnc
    obtain ⟨T', L', rfl, hk, hL⟩ := hfl
    have hzn : (z : Int) ∉ (wayS M (fromP M fk).toNat).l := fun h => hnc (by rw [List.contains_iff_mem]; exact (mem_sortZ _ _).2 h)
    have hwc := way_congr M z ⟨22, 0, 0, 0⟩ (fromP M fk).toNat hzn
    have hzl : z < M.code.length := by omega
    have f4 := not_full (m := m4) (by omega)
    obtain ⟨m5, happ, g5, hg5, n5⟩ := copy_code m4 I M hm4 (by omega) hcp (by omega)
    have hm5 := hm4.ext hg5.1
    have hb5 : m4.n + 1 < m5.n := by omega
    have hle5 : m5.n ≤ 2 ^ depth := by omega
    have g6 := Mem.get_set_same (m := m5) (.cells ((M.code.set z ⟨22, 0, 0, 0⟩).flatMap II.cs) true) hb5
    have k6 : ∀ i, i ≠ m4.n + 1 → (m5.set (m4.n + 1) (.cells ((M.code.set z ⟨22, 0, 0, 0⟩).flatMap II.cs) true)).get i = m5.get i := fun i hi => Mem.get_set_ne _ hle5 hb5 (fun e => hi e.symm)
    have n6 : (m5.set (m4.n + 1) (.cells ((M.code.set z ⟨22, 0, 0, 0⟩).flatMap II.cs) true)).n = m4.n + 2 := by rw [set_n]; omega
    have hst : List.take (0 + z * 4) (M.code.flatMap II.cs) ++ [AV.int .i64 22, .int .i64 0, .int .i64 0, .int .i64 0] ++ List.drop (0 + z * 4 + 4) (M.code.flatMap II.cs) = (M.code.set z ⟨22, 0, 0, 0⟩).flatMap II.cs := flat_cs_set M.code z ⟨22, 0, 0, 0⟩ hzl
    have hsl : 0 + z * 4 + 4 ≤ (M.code.flatMap II.cs).length := by rw [flat_cs_len]; omega
    have hz0 : 0 ≤ (z : Int) ∧ (z : Int) < (M.code.length : Int) := ⟨hp1, hp2⟩
    generalize hm6 : m5.set (m4.n + 1) (.cells ((M.code.set z ⟨22, 0, 0, 0⟩).flatMap II.cs) true) = m6 at *
    have e46 : Ext m4 m6 := ⟨by omega, fun i hi => (k6 i (by omega)).trans (hg5.1.2 i hi)⟩
    have hmi := put_code m5 I M hm5 (m4.n + 1) g5 z hzl ⟨22, 0, 0, 0⟩ m6 g6 (hm4.ext e46)
    have hcl : (putC M z ⟨22, 0, 0, 0⟩).code.length = M.code.length := by unfold putC; simp
    have e6 := e4.trans e46
    obtain ⟨hck', hrk'⟩ := cks m6 (hlv.ext e6) _ _ hmi (.inr ⟨_, _, _, none, 4, rfl, .inr ⟨rfl, rfl, by omega⟩⟩) (by omega) l2 l3 l6
    obtain ⟨te, hte⟩ : ∃ k : Nat, toP M fk = (k : Int) := ⟨(toP M fk).toNat, by omega⟩
    rw [hte] at hk hfr hsf
    have hsb := sub_1 te (by omega) (by omega)
    have zer40 : zerosEv [AV.int .i64 0, .int .i64 0, .int .i64 0, .int .i64 0] 0 = [] := rfl
    cases d5 : decide ((z : Int) = ((te - 1 : Nat) : Int))
    rotate_left
    · exact ⟨m6, by simp only [KK, Nat.reduceEqDiff, Nat.reduceAdd, Nat.reduceLeDiff, Nat.reduceLT, Int.toNat_natCast, pc3, pf3, pv3, pi3, pp3, pa3, hk, hL, v1, f4, zer40, happ, g5, hz0, hsl, hst, hm6, hsb, d5]⟩
    obtain ⟨m7, hr7, hg7⟩ := hrk' n m6 (by omega) (Ext.refl m6) (by omega)
    have hn7 := hg7.2
    have hr7' : run A n 37 [.agg [.slice (m4.n + 1) 0 M.code.length none 4, I.f, I.v, .int .i64 M.main, I.i, I.p, .int .i64 M.stack, I.a]] m6 = some (.int .i64 (checkI (putC M z ⟨22, 0, 0, 0⟩)), m7) := hr7
    by_cases hc' : checkI (putC M z ⟨22, 0, 0, 0⟩) = 0
    rotate_left
    · have hd' : decide (checkI (putC M z ⟨22, 0, 0, 0⟩) = 0) = false := decide_eq_false hc'
      exact ⟨m7, by simp only [KK, Nat.reduceEqDiff, Nat.reduceAdd, Nat.reduceLeDiff, Nat.reduceLT, Int.toNat_natCast, pc3, pf3, pv3, pi3, pp3, pa3, hk, hL, v1, f4, zer40, happ, g5, hz0, hsl, hst, hm6, hsb, d5, hr7', hd']⟩
    have hd' : decide (checkI (putC M z ⟨22, 0, 0, 0⟩) = 0) = true := decide_eq_true hc'
    rw [hc'] at hck'
    have e47 := e46.trans hg7.1
    have e7 := e4.trans e47
    obtain ⟨va, m8, hb8, ha8, hl8, hg8⟩ := backs_run n m7 I M (hm.ext e7) (hlv.ext e7).tab.1 m 10000 8000 hck e7 (codes_ok hc) (next_in hc) (by omega) fk hfk hfr0 (by omega) (by omega)
    have hn8 := hg8.2
    have e68 := hg7.1.trans hg8.1
    obtain ⟨vb, m9, hb9, ha9, hl9, hg9⟩ := backs_run n m8 _ _ (hmi.ext e68) ((hlv.ext e7).ext hg8.1).tab.1 m6 10000 8000 hck' e68 (codes_ok hc') (next_in hc') (by omega) fk hfk (by rw [hcl]; exact hfr0) (by omega) (by omega)
    have hn9 := hg9.2
    have hb9' : run A n 41 [.agg [.slice (m4.n + 1) 0 M.code.length none 4, I.f, I.v, .int .i64 M.main, I.i, I.p, .int .i64 M.stack, I.a], .int .i64 (fk : Int)] m8 = some (vb, m9) := hb9
    have hfe : fromP (putC M z ⟨22, 0, 0, 0⟩) fk = fromP M fk := rfl
    rw [hfe, ← hwc] at ha9 hl9
    have hra := (OS.rs (f := prow) (fun _ => rfl) (ha8.ext hg9.1))
    have hrb := (OS.rs (f := prow) (fun _ => rfl) ha9)
    obtain ⟨a1, a2, a3, a4⟩ := hra.plain
    obtain ⟨b1, b2, b3, b4⟩ := hrb.plain
    have la := hra.lenR
    have lb := hrb.lenR
    have hlog : logOk [Acc.eff m7 m8, Acc.rw (.loc 11 0) 8 false] = true := by simp [logOk, accFit, sameRead]
    have hde : ∀ k : Nat, decide ((k : Int) = (k : Int)) = true := fun _ => decide_eq_true rfl
    simp only [KK, Nat.reduceEqDiff, Nat.reduceAdd, Nat.reduceLeDiff, Nat.reduceLT, Int.toNat_natCast, pc3, pf3, pv3, pi3, pp3, pa3, hk, hL, v1, f4, zer40, happ, g5, hz0, hsl, hst, hm6, hsb, d5, hr7', hd', hb8, hb9', a1, b1, la, lb, hlog]
    generalize hq2 : codeEv (run A n) (ev A n).2 a7_L1 _ = q
    obtain ⟨T2, L2, rfl, hk2, hL2, hL3⟩ := same_loop m9 (fk : Int) v va vb ⟨v1, v2⟩ _ hra hrb (by omega) [I.c, I.f, I.v, .int .i64 M.main, I.i, I.p, .int .i64 M.stack, I.a] [.slice (m4.n + 1) 0 M.code.length none 4, I.f, I.v, .int .i64 M.main, I.i, I.p, .int .i64 M.stack, I.a] n _ _ (by omega) (by simp only [keepT, List.map, look_set, look_cons, in_int, in_loc, Nat.reduceEqDiff, if_true, if_false, List.contains_cons, List.contains_nil, beq_self_eq_true, Bool.or_false, Bool.or_true, Bool.true_or, v1, a1, b1]) (by simp only [lookL_cons, Nat.reduceEqDiff, if_true, if_false]) (by simp only [lookL_cons, Nat.reduceEqDiff, if_true, if_false]) hq2
    have e89 := e68.trans hg9.1
    have e9 : Ext m m9 := e6.trans e89
    obtain ⟨v', m10, hre', hv', hg10, hwl'⟩ := reached_run n m9 _ _ (hmi.ext e89) (hlv.ext e9).tab.1 m6 10000 8000 hck' e89 (codes_ok hc') (next_in hc') (by omega) fk hfk (by rw [hcl]; exact hfr0) (by omega) (by omega)
    have hn10 := hg10.2
    rw [hfe, ← hwc] at hv'
    have hre2 : run A n 40 [.agg [.slice (m4.n + 1) 0 M.code.length none 4, I.f, I.v, .int .i64 M.main, I.i, I.p, .int .i64 M.stack, I.a], .int .i64 (fk : Int)] m9 = some (v', m10) := hre'
    have e410 : Ext m4 m10 := e46.trans (e89.trans hg10.1)
    have hi1 := ints_run n m10 v v' _ _ (hv.ext e410).re hv'.re (by omega) (by omega)
    have e10 : Ext m m10 := e9.trans hg10.1
    obtain ⟨r1, m11, hw1, hx1, hg11⟩ := row_run n m10 I M (hm.ext e10) (hlv.ext e10).tab.1 m 10000 8000 hck e10 (codes_ok hc) (next_in hc) (by omega) fk hfk hfr0 (by omega) (by omega)
    have hn11 := hg11.2
    have e11 := e89.trans (hg10.1.trans hg11.1)
    obtain ⟨r2, m12, hw2, hx2, hg12⟩ := row_run n m11 _ _ (hmi.ext e11) (hlv.ext (e10.trans hg11.1)).tab.1 m6 10000 8000 hck' e11 (codes_ok hc') (next_in hc') (by omega) fk hfk (by rw [hcl]; exact hfr0) (by omega) (by omega)
    rw [hfe, ← hwc] at hx2
    have hw2' : run A n 43 [.agg [.slice (m4.n + 1) 0 M.code.length none 4, I.f, I.v, .int .i64 M.main, I.i, I.p, .int .i64 M.stack, I.a], .int .i64 (fk : Int)] m11 = some (r2, m12) := hw2
    have hwl2 : (wayS M (fromP M fk).toNat).l.reverse.length ≤ 60 := by rw [List.length_reverse]; omega
    have hi2 := ints_run n m12 r1 r2 _ _ (hx1.ext hg12.1).re hx2.re (by omega) (by omega)
    obtain ⟨p1, p2, p3, p4⟩ := hv'.pl
    obtain ⟨s1, s2, s3, s4⟩ := hx1.pl
    obtain ⟨t1, t2, t3, t4⟩ := hx2.pl
    have hlog2 : logOk [Acc.eff m10 m11, Acc.rw (.loc 11 0) 8 false] = true := by simp [logOk, accFit, sameRead]
    have hdd : ∀ l : List Int, decide (l = l) = true := fun _ => decide_eq_true rfl
    exact ⟨m12, by simp only [KK, Nat.reduceEqDiff, Nat.reduceAdd, Nat.reduceLeDiff, Nat.reduceLT, hk2, hL2, hL3, v2, hre2, hi1, hw1, hw2', hi2, p2, s2, t2, hlog2]⟩
end AG
