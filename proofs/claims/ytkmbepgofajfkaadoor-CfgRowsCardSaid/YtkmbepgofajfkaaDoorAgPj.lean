/- What the functions that read images and paths compute, and the laws of that. -/
import Derived.Test.YtkmbepgofajfkaaDoorAgPi
namespace AG
open Go Go.Proofs.YtkmbepgofajfkaaDoor
set_option maxRecDepth 100000
set_option maxHeartbeats 4000000
theorem ints_at {l : List Int} {i : Nat} {x : Int} (h : l[i]? = some x) : cellsAt (l.map fun z => AV.int .i64 z) (0 + i) 1 = some [.int .i64 x] := by
 rw [Nat.zero_add]
 exact cells_one (by rw [List.getElem?_map, h]; rfl)
theorem ints_set (l : List Int) (i : Nat) (x : Int) (h : i < l.length) : List.take (0 + i) (l.map fun z => AV.int .i64 z) ++ [AV.int .i64 x] ++ List.drop (0 + i + 1) (l.map fun z => AV.int .i64 z) = (l.set i x).map fun z => AV.int .i64 z := by
 rw [Nat.zero_add, List.map_set, List.set_eq_take_append_cons_drop, if_pos (by simpa using h)]
 simp
def revI (l : List Int) (i : Nat) : List Int := (List.range l.length).map fun p => if p < i ∨ l.length - 1 - p < i then l.getD (l.length - 1 - p) 0 else l.getD p 0
theorem revI_len (l : List Int) (i : Nat) : (revI l i).length = l.length := by simp [revI]
theorem revI_get (l : List Int) (i p : Nat) (h : p < l.length) : (revI l i)[p]? = some (if p < i ∨ l.length - 1 - p < i then l.getD (l.length - 1 - p) 0 else l.getD p 0) := by
 unfold revI
 rw [List.getElem?_map, List.getElem?_range h]
 rfl
theorem revI_zero (l : List Int) : revI l 0 = l := by
 apply List.ext_getElem?
 intro p
 by_cases h : p < l.length
 ·rw [revI_get l 0 p h, if_neg (by omega), List.getElem?_eq_getElem h]
  simp [List.getD, h]
 ·rw [List.getElem?_eq_none (by rw [revI_len]; omega), List.getElem?_eq_none (by omega)]
theorem revI_end (l : List Int) : revI l (l.length / 2) = l.reverse := by
 apply List.ext_getElem?
 intro p
 by_cases h : p < l.length
 ·rw [revI_get l _ p h, List.getElem?_reverse h]
  split
  ·simp [List.getD, show l.length - 1 - p < l.length by omega]
  ·have e : l.length - 1 - p = p := by omega
   rw [e]
   simp [List.getD, h]
 ·rw [List.getElem?_eq_none (by rw [revI_len]; omega), List.getElem?_eq_none (by simp; omega)]
theorem revI_step (l : List Int) (i : Nat) (x y : Int) (h : i < l.length - 1 - i) (hx : (revI l i)[i]? = some x) (hy : (revI l i)[l.length - 1 - i]? = some y) : ((revI l i).set i y).set (l.length - 1 - i) x = revI l (i + 1) := by
 rw [revI_get l i i (by omega), if_neg (by omega)] at hx
 rw [revI_get l i _ (by omega), if_neg (by omega)] at hy
 simp only [Option.some.injEq] at hx hy
 apply List.ext_getElem?
 intro p
 rw [List.getElem?_set, List.getElem?_set]
 by_cases hp : p < l.length
 ·rw [revI_get l (i + 1) p hp]
  by_cases h1 : l.length - 1 - i = p
  ·subst h1
   rw [if_pos rfl, if_pos (by rw [List.length_set, revI_len]; omega), if_pos (by omega), show l.length - 1 - (l.length - 1 - i) = i by omega, hx]
  ·rw [if_neg h1]
   by_cases h2 : i = p
   ·subst h2
    rw [if_pos rfl, if_pos (by rw [revI_len]; omega), if_pos (by omega), hy]
   ·rw [if_neg h2, revI_get l i p hp]
    congr 1
    by_cases h3 : p < i ∨ l.length - 1 - p < i
    ·rw [if_pos h3, if_pos (by omega)]
    ·rw [if_neg h3, if_neg (by omega)]
 ·rw [if_neg (by omega), if_neg (by omega), List.getElem?_eq_none (by rw [revI_len]; omega), List.getElem?_eq_none (by rw [revI_len]; omega)]
theorem reverse_run (N : Nat) (m : Mem) (n0 : Nat) (v : AV) (l : List Int) (hv : IS n0 m v l) (hl : l.length ≤ 100000) (hm : m.n ≤ 2 ^ depth) (hN : l.length + 10 ≤ N) :
  ∃ m', run A N 84 [v] m = some (.tup [], m') ∧ IS n0 m' v l.reverse ∧ m'.n = m.n ∧ (∀ i, blkOf v ≠ some i → m'.get i = m.get i) := by
 obtain ⟨n, rfl⟩ : ∃ n, N = n + 1 := ⟨N - 1, by omega⟩
 rcases hv with ⟨rfl, h1, h2⟩ | ⟨b, h0, rfl, hg, hcl⟩
 ·have hl0 : l = [] := List.length_eq_zero_iff.1 h2
  subst hl0
  have hsb : binEv .sub (.int .i64 0) (.int .i64 1) = some (.int .i64 (-1)) := rfl
  have hlt : ¬ ((0 : Int) < -1) := by omega
  refine ⟨m, ?_, IS.nil n0 m, rfl, fun _ _ => rfl⟩
  rw [run_84]
  unfold fnEv a84
  simp only [KK, Nat.reduceEqDiff, Nat.reduceAdd, Nat.reduceLT, hsb]
  rw [a84_L1_step]
  unfold a84_B1
  simp only [KK, Nat.reduceEqDiff, Nat.reduceLT, hlt]
 ·have _h' := hcl
  by_cases hl0 : l.length = 0
  ·have hl1 : l = [] := List.length_eq_zero_iff.1 hl0
   subst hl1
   have hsb : binEv .sub (.int .i64 ((0 : Nat) : Int)) (.int .i64 1) = some (.int .i64 (-1)) := rfl
   have hlt : ¬ ((0 : Int) < -1) := by omega
   refine ⟨m, ?_, .inr ⟨b, h0, rfl, hg, hcl⟩, rfl, fun _ _ => rfl⟩
   rw [run_84]
   unfold fnEv a84
   simp only [KK, Nat.reduceEqDiff, Nat.reduceAdd, Nat.reduceLT, hsb]
   rw [a84_L1_step]
   unfold a84_B1
   simp only [KK, Nat.reduceEqDiff, Nat.reduceLT, hlt]
  ·have hsb := sub_1 l.length hl0 (by omega)
   have hblt := Mem.get_lt hg
   rw [run_84]
   unfold fnEv a84
   simp only [KK, Nat.reduceEqDiff, Nat.reduceAdd, Nat.reduceLT, hsb]
   generalize hq : codeEv (run A n) (ev A n).2 a84_L1 _ = q
   have h := scan0 (A := A) a84_L1 a84_B1 a84_L1_step (fun i (_ : Unit) s => ∃ T L m', s = ⟨28, T, L, m'⟩ ∧ keepT [0, 2, 3] [] T = [(0, .slice b 0 l.length none 1), (2, .int .i64 (i : Int)), (3, .int .i64 ((l.length - 1 - i : Nat) : Int))] ∧ m'.get b = some (.cells ((revI l i).map fun z => AV.int .i64 z) true) ∧ m'.n = m.n ∧ ∀ j, j ≠ b → m'.get j = m.get j)
    (fun _ s => ∃ T L m', s = ⟨28, T, L, m'⟩ ∧ m'.get b = some (.cells (l.reverse.map fun z => AV.int .i64 z) true) ∧ m'.n = m.n ∧ ∀ j, j ≠ b → m'.get j = m.get j) (fun (_ : Unit) _ => False) 0 1 (fun _ (_ : Nat) (_ : Unit) => Stp.go ()) (List.range (l.length / 2))
    (fun N _ s hN ⟨T, L, m', hs, hk, hb, hn, ho⟩ => by
     subst hs
     rw [List.length_range] at hk hb
     rw [revI_end] at hb
     have h' : ¬ (((l.length / 2 : Nat) : Int) < ((l.length - 1 - l.length / 2 : Nat) : Int)) := by omega
     unfold a84_B1
     exact ⟨_, by simp only [KK, Nat.reduceEqDiff, Nat.reduceLT, hk, h']; rfl, _, _, m', rfl, hb, hn, ho⟩)
    (fun N i x _ s hN hx ⟨T, L, m', hs, hk, hb, hn, ho⟩ => by
     subst hs
     have hi : i < l.length / 2 := by have := (List.getElem?_eq_some_iff.1 hx).1; rwa [List.length_range] at this
     have hij : i < l.length - 1 - i := by omega
     have h' : (i : Int) < ((l.length - 1 - i : Nat) : Int) := by omega
     have hi0 : 0 ≤ (i : Int) ∧ (i : Int) < (l.length : Int) := by omega
     have hj0 : 0 ≤ ((l.length - 1 - i : Nat) : Int) ∧ ((l.length - 1 - i : Nat) : Int) < (l.length : Int) := by omega
     obtain ⟨x, hx⟩ : ∃ x, (revI l i)[i]? = some x := ⟨_, revI_get l i i (by omega)⟩
     obtain ⟨y, hy⟩ : ∃ y, (revI l i)[l.length - 1 - i]? = some y := ⟨_, revI_get l i _ (by omega)⟩
     have c1 := ints_at hx
     have c2 := ints_at hy
     have e1 := ints_set (revI l i) i y (by rw [revI_len]; omega)
     have e2 := ints_set ((revI l i).set i y) (l.length - 1 - i) x (by rw [List.length_set, revI_len]; omega)
     rw [revI_step l i x y hij hx hy] at e2
     have l1 : 0 + i + 1 ≤ ((revI l i).map fun z => AV.int .i64 z).length := by rw [List.length_map, revI_len]; omega
     have l2 : 0 + (l.length - 1 - i) + 1 ≤ (((revI l i).set i y).map fun z => AV.int .i64 z).length := by rw [List.length_map, List.length_set, revI_len]; omega
     have a1 := add_i i (by omega)
     have a2 := sub_1 (l.length - 1 - i) (by omega) (by omega)
     have e3 : l.length - 1 - i - 1 = l.length - 1 - (i + 1) := by omega
     rw [e3] at a2
     have hbm : b < m'.n := Mem.get_lt hb
     have hle : m'.n ≤ 2 ^ depth := by omega
     have g1 := Mem.get_set_same (m := m') (.cells (((revI l i).set i y).map fun z => AV.int .i64 z) true) hbm
     have g2 := Mem.get_set_same (m := m'.set b (.cells (((revI l i).set i y).map fun z => AV.int .i64 z) true)) (.cells ((revI l (i + 1)).map fun z => AV.int .i64 z) true) (by rw [set_n]; exact hbm)
     unfold a84_B1
     exact ⟨_, by simp only [KK, Nat.reduceEqDiff, Nat.reduceAdd, Nat.reduceLT, Int.toNat_natCast, Nat.mul_one, AOp.kd, kd_rm, kd_sm, logOk_nil', hk, h', hi0, hj0, hb, c1, c2, l1, e1, g1, l2, e2, a1, a2]; rfl, _, _, _, rfl, by simp only [keepT, List.map, look_set, look_cons, in_int, in_slice, Nat.reduceEqDiff, if_true, if_false], g2, by rw [set_n, set_n]; exact hn, fun j hj => (Mem.get_set_ne _ (by rw [set_n]; exact hle) (by rw [set_n]; exact hbm) (fun e => hj e.symm)).trans ((Mem.get_set_ne _ hle hbm (fun e => hj e.symm)).trans (ho j hj))⟩)
    n () _ (by rw [List.length_range]; omega) ⟨_, _, m, rfl, by simp only [keepT, List.map, look_set, look_cons, in_int, in_slice, Nat.reduceEqDiff, if_true, if_false]; rfl, by rw [revI_zero]; exact hg, rfl, fun _ _ => rfl⟩ hq
   have hfold : ∀ (L : List Nat) (k : Nat), foldS (fun _ (_ : Nat) (_ : Unit) => (Stp.go () : Stp Unit Unit)) L k () = .inl () := by
    intro L
    induction L with
    | nil => intro k; rfl
    | cons a r ih => intro k; exact ih (k + 1)
   rw [hfold] at h
   obtain ⟨s', rfl, T, L, m', rfl, hb, hn, ho⟩ := h
   exact ⟨m', by simp only [if_true], .inr ⟨b, h0, by rw [List.length_reverse], hb, by simp⟩, hn, fun i hi => ho i (fun e => hi (by rw [e]; rfl))⟩
theorem row_run (N : Nat) (m : Mem) (I : ImV) (M : Img) (hm : IM m I M) (hT : Tab m) (m0 : Mem) (NC KC : Nat) (hck : CkOk m0 I M NC KC 54 0) (he : Ext m0 m) (hco : CodesOk M) (hin : NextIn M) (hlc : M.code.length ≤ 20000) (f : Nat) (hf : f < M.funcs.length) (hfr : 0 ≤ fromP M f ∧ fromP M f < (M.code.length : Int)) (hmn : m.n + KC + 40 * M.code.length + 70 ≤ 2 ^ depth) (hN : NC + 9 * M.code.length + 80 ≤ N) :
  ∃ v m', run A N 43 [.agg [I.c, I.f, I.v, .int .i64 M.main, I.i, I.p, .int .i64 M.stack, I.a], .int .i64 (f : Int)] m = some (v, m') ∧ IS m.n m' v (wayS M (fromP M f).toNat).l.reverse ∧ Gr m m' (KC + 40 * M.code.length + 12) := by
 obtain ⟨n, rfl⟩ : ∃ n, N = n + 1 := ⟨N - 1, by omega⟩
 obtain ⟨pc1, pc2, pc3, pc4⟩ := hm.c.plain
 have lc := hm.c.lenR
 obtain ⟨pf1, pf2, pf3, pf4⟩ := hm.f.plain
 have lf := hm.f.lenR
 obtain ⟨pv1, pv2, pv3, pv4⟩ := hm.v.plain
 have lv := hm.v.lenR
 obtain ⟨pi1, pi2, pi3, pi4⟩ := hm.i.plain
 have li := hm.i.lenR
 obtain ⟨pp1, pp2, pp3, pp4⟩ := hm.p.plain
 have lp := hm.p.lenR
 obtain ⟨pa1, pa2, pa3, pa4⟩ := hm.a.plain
 have la := hm.a.lenR
 have f0 := not_full (m := m) (by omega)
 have x1 : Ext m (m.push (.cells [I.c, I.f, I.v, .int .i64 M.main, I.i, I.p, .int .i64 M.stack, I.a] true)) := (Ext.refl m).push _ (by omega)
 have f1 := not_full (m := m.push (.cells [I.c, I.f, I.v, .int .i64 M.main, I.i, I.p, .int .i64 M.stack, I.a] true)) (by rw [push_n]; omega)
 have x2 : Ext m ((m.push (.cells [I.c, I.f, I.v, .int .i64 M.main, I.i, I.p, .int .i64 M.stack, I.a] true)).push (.cells [.nils] true)) := x1.push _ (by rw [push_n]; omega)
 have g0 : ((m.push (.cells [I.c, I.f, I.v, .int .i64 M.main, I.i, I.p, .int .i64 M.stack, I.a] true)).push (.cells [.nils] true)).get m.n = some (.cells [I.c, I.f, I.v, .int .i64 M.main, I.i, I.p, .int .i64 M.stack, I.a] true) := (Mem.get_push_old _ f1 (by rw [push_n]; omega)).trans (Mem.get_push_new _)
 have g1 : ((m.push (.cells [I.c, I.f, I.v, .int .i64 M.main, I.i, I.p, .int .i64 M.stack, I.a] true)).push (.cells [.nils] true)).get (m.n + 1) = some (.cells [.nils] true) := by
  have := Mem.get_push_new (m := m.push (.cells [I.c, I.f, I.v, .int .i64 M.main, I.i, I.p, .int .i64 M.stack, I.a] true)) (.cells [.nils] true)
  rw [push_n] at this
  exact this
 have n1 : ((m.push (.cells [I.c, I.f, I.v, .int .i64 M.main, I.i, I.p, .int .i64 M.stack, I.a] true)).push (.cells [.nils] true)).n = m.n + 2 := by rw [push_n, push_n]
 generalize hm1 : (m.push (.cells [I.c, I.f, I.v, .int .i64 M.main, I.i, I.p, .int .i64 M.stack, I.a] true)).push (.cells [.nils] true) = m1 at *
 obtain ⟨va, vb, m2, hr, ha, hb, hab, hg, hl1, hl2⟩ := walk_run n m1 I M (hm.ext x2) (hT.ext x2) m0 NC KC hck (he.trans x2) hco hin hlc f hf hfr (by omega) (by omega)
 have hgn := hg.2
 have hg1 := hg.1.1
 obtain ⟨a1, a2, a3, a4⟩ := ha.plain
 obtain ⟨b1, b2, b3, b4⟩ := hb.plain
 have hab' := ha.blk
 have k1 := (hg.1.2 (m.n + 1) (by omega)).trans g1
 have l1 : m.n + 1 < m2.n := by omega
 have hle : m2.n ≤ 2 ^ depth := by omega
 have k2 := Mem.get_set_same (m := m2) (.cells [va] true) l1
 have l2 : m.n + 1 < (m2.set (m.n + 1) (.cells [va] true)).n := by rw [set_n]; exact l1
 have k3 := Mem.get_set_same (m := m2.set (m.n + 1) (.cells [va] true)) (.cells [va] true) l2
 have hn3 : ((m2.set (m.n + 1) (.cells [va] true)).set (m.n + 1) (.cells [va] true)).n = m2.n := by rw [set_n, set_n]
 have ks : ∀ j, j ≠ m.n + 1 → ((m2.set (m.n + 1) (.cells [va] true)).set (m.n + 1) (.cells [va] true)).get j = m2.get j := fun j hj => (Mem.get_set_ne _ (by rw [set_n]; exact hle) l2 (fun e => hj e.symm)).trans (Mem.get_set_ne _ hle l1 (fun e => hj e.symm))
 have ha3 : IS m1.n ((m2.set (m.n + 1) (.cells [va] true)).set (m.n + 1) (.cells [va] true)) va (wayS M (fromP M f).toNat).l := ha.keep fun b hb => ks b (by have := (hab' b hb).1; omega)
 generalize hm3 : (m2.set (m.n + 1) (.cells [va] true)).set (m.n + 1) (.cells [va] true) = m3 at *
 obtain ⟨m4, hrv, hi4, n4, k4⟩ := reverse_run n m3 m1.n va (wayS M (fromP M f).toNat).l ha3 (by omega) (by omega) (by omega)
 have k5 := (k4 (m.n + 1) (fun e => by have := (hab' _ e).1; omega)).trans k3
 obtain ⟨T0, cA, p1, p2, p4⟩ : ∃ T0, codeEv (run A n) noAgain d43.A ⟨13, argsT 0 [.agg [I.c, I.f, I.v, .int .i64 M.main, I.i, I.p, .int .i64 M.stack, I.a], .int .i64 (f : Int)], [], m⟩ = some (.norm, ⟨13, T0, [], m1⟩) ∧ look T0 1 = .int .i64 (f : Int) ∧ look T0 2 = .ptr m.n 0 ∧ look T0 4 = .ptr (m.n + 1) 0 :=
  ⟨_, by simp only [KK, d43, Nat.reduceEqDiff, Nat.reduceAdd, Nat.reduceLT, push_n, f0, f1, push_n, hm1]; rfl, by simp only [look_set, look_cons, Nat.reduceEqDiff, if_true, if_false], by simp only [look_set, look_cons, Nat.reduceEqDiff, if_true, if_false], by simp only [look_set, look_cons, Nat.reduceEqDiff, if_true, if_false]⟩
 obtain ⟨T1, cP, q1, q2, q4, q5⟩ : ∃ T1, opsEv (run A n) d43.pre ⟨13, T0, [], m1⟩ = some ⟨13, T1, [], m1⟩ ∧ look T1 1 = .int .i64 (f : Int) ∧ look T1 2 = .ptr m.n 0 ∧ look T1 4 = .ptr (m.n + 1) 0 ∧ look T1 5 = .fn 83 [.ptr (m.n + 1) 0] :=
  ⟨_, by simp only [KK, d43, Nat.reduceLT, p4]; rfl, by simp only [look_set, Nat.reduceEqDiff, if_false, p1], by simp only [look_set, Nat.reduceEqDiff, if_false, p2], by simp only [look_set, Nat.reduceEqDiff, if_false, p4], by simp only [look_set, if_true]⟩
 have hkq : keepT [1, 2, 4] [] T1 = [(1, .int .i64 (f : Int)), (2, .ptr m.n 0), (4, .ptr (m.n + 1) 0)] := by simp only [keepT, List.map, q1, q2, q4, keepT, List.map, in_int, in_ptr, if_true]
 obtain ⟨T2, cC, r4⟩ : ∃ T2, codeEv (run A n) (lpEv (run A n) 1000) d43.C ⟨13, T1, [], m1⟩ = some (.ret, ⟨13, T2, [], m3⟩) ∧ look T2 4 = .ptr (m.n + 1) 0 :=
  ⟨_, by simp only [KK, d43, Nat.reduceEqDiff, Nat.reduceAdd, Nat.reduceLeDiff, Nat.reduceLT, hkq, g0, hr, a3, a4, k1, k2, hm3]; rfl, by simp only [look_set, look_cons, Nat.reduceEqDiff, if_true, if_false]⟩
 have cD : fnEv (run A n) noAgain d43.D [.ptr (m.n + 1) 0] m3 = some (.tup [], m4) := by
  unfold fnEv
  simp only [KK, d43, a83, Nat.reduceEqDiff, Nat.reduceAdd, Nat.reduceLeDiff, Nat.reduceLT, k3, a2, hrv]
 refine ⟨va, m4, ?_, by
  rcases hi4 with h | ⟨b, h0, h1, h2⟩
  ·exact .inl h
  ·exact .inr ⟨b, by omega, h1, h2⟩, ⟨⟨by omega, fun i hi => (k4 i (fun e => by have := (hab' _ e).1; omega)).trans ((ks i (by omega)).trans ((hg.1.2 i (by omega)).trans (x2.2 i hi)))⟩, by omega⟩⟩
 rw [run_43]
 unfold fnEv a43 primFn
 dsimp only
 unfold deferEv
 rw [if_pos (show ([.agg [I.c, I.f, I.v, .int .i64 M.main, I.i, I.p, .int .i64 M.stack, I.a], .int .i64 (f : Int)] : List AV).length = d43.np from rfl), show d43.n = 13 from rfl, cA]
 dsimp only
 rw [cP]
 dsimp only
 rw [show d43.g = 5 from rfl, q5]
 dsimp only
 rw [if_pos (show 83 = d43.fD from rfl), show d43.post = [] from rfl]
 simp only [opsEv]
 rw [cC]
 dsimp only
 rw [cD]
 simp only [KK, d43, Nat.reduceAdd, Nat.reduceLeDiff, r4, k5, a2]
theorem flat_prow : ∀ l : List (Int × Int), l.flatMap prow = (flatP l).map fun z => AV.int .i64 z
 | [] => rfl
 | p :: r => by rw [List.flatMap_cons, flat_prow r]; rfl
theorem sortf_at (n : Nat) {n0 : Nat} {m : Mem} {v : AV} {ps : List (Int × Int)} (h : OS 2 n0 m v (ps.flatMap prow) ps.length) (hm : m.n ≤ 2 ^ depth) (hz6 : ps.length ≤ 1000000) :
  ∃ m', run A (n + 1) 80 [v, .fn 81 []] m = some (.tup [], m') ∧ OS 2 n0 m' v ((sortP ps).flatMap prow) (sortP ps).length ∧ m'.n = m.n ∧ (∀ i, i < n0 → m'.get i = m.get i) := by
 rw [run_80]
 unfold fnEv a80 primFn
 try dsimp only
 rcases h with ⟨rfl, h1, h2⟩ | ⟨b, h0, rfl, h1, h2⟩
 ·have : ps = [] := List.length_eq_zero_iff.1 h2
  subst this
  exact ⟨m, rfl, .inl ⟨rfl, by unfold sortP; simp, by unfold sortP; simp⟩, rfl, fun _ _ => rfl⟩
 ·have hb := Mem.get_lt h1
  by_cases hz : ps.length = 0
  ·have : ps = [] := List.length_eq_zero_iff.1 hz
   subst this
   exact ⟨m, rfl, .inr ⟨b, h0, by rw [sortP_len], by unfold sortP; simpa using h1, by unfold sortP; simp⟩, rfl, fun _ _ => rfl⟩
  ·rw [flat_prow] at h1
   have hc : cellsAt ((flatP ps).map fun z => AV.int .i64 z) 0 (2 * ps.length) = some ((flatP ps).map fun z => AV.int .i64 z) := by
    unfold cellsAt
    rw [if_pos (by rw [List.length_map, flatP_len]; omega), List.drop_zero, List.take_of_length_le (by rw [List.length_map, flatP_len]; omega)]
   refine ⟨m.set b (.cells ((flatP (sortP ps)).map fun z => AV.int .i64 z) true), ?_, .inr ⟨b, h0, by rw [sortP_len], by rw [flat_prow]; exact Mem.get_set_same _ hb, by rw [flat_prow, List.length_map, flatP_len]; omega⟩, rfl, fun i hi => Mem.get_set_ne _ hm hb (by omega)⟩
   unfold sortfEv ownInts
   have hz7 : ¬ 1000000 < ps.length := by omega
   simp only [and_self, if_true, hz, hz7, if_false, h1, hc, intsOf_map, Option.map_some, pairs_flat]
   congr 3
   unfold splice
   have e : ((flatP (sortP ps)).map fun z => AV.int .i64 z).length = ((flatP ps).map fun z => AV.int .i64 z).length := by
    rw [List.length_map, List.length_map, flatP_len, flatP_len, sortP_len]
   rw [List.take_zero, List.nil_append, Nat.zero_add, e, List.drop_length, List.append_nil]
theorem backs_run (N : Nat) (m : Mem) (I : ImV) (M : Img) (hm : IM m I M) (hT : Tab m) (m0 : Mem) (NC KC : Nat) (hck : CkOk m0 I M NC KC 54 0) (he : Ext m0 m) (hco : CodesOk M) (hin : NextIn M) (hlc : M.code.length ≤ 20000) (f : Nat) (hf : f < M.funcs.length) (hfr : 0 ≤ fromP M f ∧ fromP M f < (M.code.length : Int)) (hmn : m.n + KC + 40 * M.code.length + 70 ≤ 2 ^ depth) (hN : NC + 8 * M.code.length + 70 ≤ N) :
  ∃ v m', run A N 41 [.agg [I.c, I.f, I.v, .int .i64 M.main, I.i, I.p, .int .i64 M.stack, I.a], .int .i64 (f : Int)] m = some (v, m') ∧ OS 2 m.n m' v ((sortP (wayS M (fromP M f).toNat).b).flatMap prow) (sortP (wayS M (fromP M f).toNat).b).length ∧ (sortP (wayS M (fromP M f).toNat).b).length ≤ 2 * M.code.length ∧ Gr m m' (KC + 40 * M.code.length + 10) := by
 obtain ⟨n, rfl⟩ : ∃ n, N = n + 1 := ⟨N - 1, by omega⟩
 obtain ⟨pc1, pc2, pc3, pc4⟩ := hm.c.plain
 have lc := hm.c.lenR
 obtain ⟨pf1, pf2, pf3, pf4⟩ := hm.f.plain
 have lf := hm.f.lenR
 obtain ⟨pv1, pv2, pv3, pv4⟩ := hm.v.plain
 have lv := hm.v.lenR
 obtain ⟨pi1, pi2, pi3, pi4⟩ := hm.i.plain
 have li := hm.i.lenR
 obtain ⟨pp1, pp2, pp3, pp4⟩ := hm.p.plain
 have lp := hm.p.lenR
 obtain ⟨pa1, pa2, pa3, pa4⟩ := hm.a.plain
 have la := hm.a.lenR
 obtain ⟨va, vb, m1, hr, ha, hb, hab, hg, hl1, hl2⟩ := walk_run n m I M hm hT m0 NC KC hck he hco hin hlc f hf hfr (by omega) (by omega)
 have hgn := hg.2
 obtain ⟨m2, hs, o2, n2, k2⟩ := sortf_at (n - 1) hb (by omega) (by omega)
 rw [show n - 1 + 1 = n by omega] at hs
 obtain ⟨a1, a2, a3, a4⟩ := ha.plain
 obtain ⟨b1, b2, b3, b4⟩ := hb.plain
 refine ⟨vb, m2, ?_, o2, by rw [sortP_len]; exact hl2, ⟨⟨by have := hg.1.1; omega, fun i hi => (k2 i hi).trans (hg.1.2 i hi)⟩, by omega⟩⟩
 rw [run_41]
 unfold fnEv a41
 simp only [KK, Nat.reduceEqDiff, Nat.reduceAdd, Nat.reduceLeDiff, Nat.reduceLT, hr, b1, b2, hs]
theorem mem_sortZ (l : List Int) (x : Int) : x ∈ sortZ l ↔ x ∈ l := by
 unfold sortZ
 exact List.mem_mergeSort
open Go
theorem cells_two {cs : List AV} {a n k : Nat} {x y : List AV} (h1 : cellsAt cs a n = some x) (h2 : cellsAt cs (a + n) k = some y) : cellsAt cs a (n + k) = some (x ++ y) := by
 unfold cellsAt at *
 split at h1
 rotate_left
 ·cases h1
 split at h2
 rotate_left
 ·cases h2
 simp only [Option.some.injEq] at h1 h2
 rw [if_pos (by omega), ← h1, ← h2, List.take_add, List.drop_drop]
theorem rows_cells {α : Type} (f : α → List AV) (c : Nat) (cs : List AV) (o : Nat) : ∀ (l : List α) (k : Nat), (∀ (i : Nat) (x : α), l[i]? = some x → cellsAt cs (o + (k + i) * c) c = some (f x)) → 0 < l.length → cellsAt cs (o + k * c) (l.length * c) = some (l.flatMap f)
 | [], _, _, h => by cases h
 | [x], k, h, _ => by
  have := h 0 x rfl
  rw [Nat.add_zero] at this
  simpa using this
 | x :: y :: r, k, h, _ => by
  have h1 := h 0 x rfl
  rw [Nat.add_zero] at h1
  have h2 := rows_cells f c cs o (y :: r) (k + 1) (fun i w hw => by
   have := h (i + 1) w (by simpa using hw)
   rwa [show k + (i + 1) = k + 1 + i by omega] at this) (by simp)
  rw [show o + (k + 1) * c = o + k * c + c by rw [Nat.add_mul, Nat.one_mul]; omega] at h2
  have h3 := cells_two h1 h2
  rw [List.flatMap_cons]
  rw [show (x :: y :: r).length * c = c + (y :: r).length * c by rw [List.length_cons, Nat.add_mul, Nat.one_mul]; omega]
  exact h3
theorem RS.elems {α : Type} {f : α → List AV} {c : Nat} {m : Mem} {v : AV} {l : List α} (h : RS f c m v l) (sn : Nat) (t : List (Nat × AV)) (q : List (Nat × List AV)) : v.elems ⟨sn, t, q, m⟩ c = some (l.length, l.flatMap f) := by
 rcases h with ⟨rfl, rfl⟩ | ⟨b, o, cap, e, rfl, h⟩
 ·rfl
 ·by_cases hl : l.length = 0
  ·have : l = [] := List.length_eq_zero_iff.1 hl
   subst this
   rfl
  ·simp only [AV.elems, hl, if_false]
   obtain ⟨cs, ow, g1, _⟩ := h 0 l[0] (by rw [List.getElem?_eq_getElem (by omega)])
   rw [g1]
   dsimp only
   have hc := rows_cells f c cs o l 0 (fun i x hx => by
    obtain ⟨cs', ow', g1', g2'⟩ := h i x hx
    rw [g1] at g1'
    cases g1'
    rw [Nat.zero_add]
    exact g2') (by omega)
   rw [Nat.zero_mul, Nat.add_zero] at hc
   rw [hc]
theorem CkOk.le {m0 : Mem} {I : ImV} {M : Img} {NC KC NC' KC' f : Nat} {c : Int} (h : CkOk m0 I M NC KC f c) (h1 : NC ≤ NC') (h2 : KC ≤ KC') : CkOk m0 I M NC' KC' f c := fun N m a b d => by
 obtain ⟨m', hr, hg⟩ := h N m (by omega) b (by omega)
 exact ⟨m', hr, hg.le h2⟩
theorem cks (m : Mem) (h : LV m) (I : ImV) (M : Img) (hm : IM m I M) (hcs : CapS I.c 4) (h1 : M.code.length ≤ 60) (h2 : M.funcs.length ≤ 80) (h3 : M.vecs.length ≤ 40) (h4 : M.atoms.length ≤ 80) : CkOk m I M 10000 8000 54 (checkI M) ∧ CkOk m I M 10000 30000 37 (checkI M) := by
 refine ⟨(ick_ok m h I M hm hcs (by omega)).le (by omega) (by omega), fun N m1 hN he hmn => ?_⟩
 have e1 := Nat.mul_le_mul (show 3 * M.code.length ≤ 180 by omega) h2
 have e2 := Nat.mul_le_mul (show 2 * M.funcs.length + 2 ≤ 162 by omega) h2
 obtain ⟨m', hr, hg⟩ := r4check_run N m1 I M (hm.ext he) (by omega) (fun _ => by omega) (by omega)
 rw [check_eq] at hr
 exact ⟨m', hr, hg.le (by omega)⟩
abbrev CE := List (Nat × Nat × Nat)
def mE : CE → List (AV × AV × Nat)
 | [] => []
 | (u, v, b) :: r => (.int .i64 (u : Int), .int .i64 (v : Int), b) :: mE r
def valE (x : Nat) : CE → Nat
 | [] => 0
 | (u, v, _) :: r => if x = u then v else valE x r
def repE (x k : Nat) : CE → CE
 | [] => []
 | (u, v, b) :: r => if x = u then (x, k, b) :: r else (u, v, b) :: repE x k r
theorem find_mE (x : Nat) : ∀ (l : CE) (j : Nat), (valE x l = 0 ∧ findK .int (.int .i64 (x : Int)) (mE l) j = some none ∧ (∀ k c y : Nat, valE y (l ++ [(x, k, c)]) = if y = x then k else valE y l)) ∨ ∃ i, findK .int (.int .i64 (x : Int)) (mE l) j = some (some (j + i, .int .i64 (valE x l : Int))) ∧ (∀ k : Nat, setE (mE l) i (.int .i64 (x : Int)) (.int .i64 (k : Int)) = mE (repE x k l)) ∧ ∀ k y : Nat, valE y (repE x k l) = if y = x then k else valE y l
 | [], j => .inl ⟨rfl, rfl, fun k c y => by simp only [List.nil_append, valE]⟩
 | (u, v, b) :: r, j => by
  by_cases h : x = u
  ·subst h
   refine .inr ⟨0, ?_, fun k => ?_, fun k y => ?_⟩
   ·simp only [mE, findK, keyEq, if_true, valE, Nat.add_zero, beq_self_eq_true]
   ·simp only [mE, setE, repE, if_true]
   ·simp only [repE, if_true, valE]
    split <;> rfl
  ·have hb : ((x : Int) == (u : Int)) = false := by rw [beq_eq_false_iff_ne]; omega
   rcases find_mE x r (j + 1) with ⟨h0, h1, h2⟩ | ⟨i, h1, h2, h3⟩
   ·refine .inl ⟨by simp only [valE, h, if_false, h0], by simp only [mE, findK, keyEq, if_true, hb, h1], fun k c y => ?_⟩
    simp only [List.cons_append, valE, h2 k c y]
    by_cases hy : y = u
    ·have : y ≠ x := fun e => h (e.symm.trans hy)
     rw [if_pos hy, if_neg this, if_pos hy]
    ·rw [if_neg hy, if_neg hy]
   ·refine .inr ⟨i + 1, ?_, fun k => ?_, fun k y => ?_⟩
    ·simp only [mE, findK, keyEq, if_true, hb, h1, valE, h, if_false]
     congr 3; omega
    ·simp only [mE, setE, repE, h, if_false, h2 k]
    ·simp only [repE, h, if_false, valE, h3 k y]
     by_cases hy : y = u
     ·have : y ≠ x := fun e => h (e.symm.trans hy)
      rw [if_pos hy, if_neg this, if_pos hy]
     ·rw [if_neg hy, if_neg hy]
def ColE (l : CE) (c : List Nat) : Prop := ∀ i k : Nat, c[i]? = some k → valE i l = k
theorem ColE.init (n : Nat) : ColE [] (List.replicate n 0) := fun i k h => by
 rw [List.getElem?_replicate] at h
 split at h
 ·cases h; rfl
 ·cases h
theorem col_put {m : Mem} {K c : Nat} {l : CE} {cs : List Nat} (h : m.get K = some (.map (mE l) c)) (hc : ColE l cs) (x k : Nat) : ∃ l' c', xmEv (.mup .int) [.map K, .int .i64 (x : Int), .int .i64 (k : Int)] m = some (.unk, m.set K (.map (mE l') c')) ∧ ColE l' (cs.set x k) := by
 have fin : ∀ l', (∀ y, valE y l' = if y = x then k else valE y l) → ColE l' (cs.set x k) := fun l' hv i z hz => by
  rw [hv]
  by_cases hi : i = x
  ·subst hi
   rw [if_pos rfl]
   rw [List.getElem?_set] at hz
   simp only [if_true] at hz
   split at hz
   ·exact Option.some.inj hz
   ·cases hz
  ·rw [if_neg hi]
   rw [List.getElem?_set_ne (fun e => hi e.symm)] at hz
   exact hc i z hz
 rcases find_mE x l 0 with ⟨h0, h1, h2⟩ | ⟨i, h1, h2, h3⟩
 ·have e : keyEq .int (.int .i64 (x : Int)) (.int .i64 (x : Int)) = some true := by simp [keyEq]
  have ea : ∀ l : CE, mE (l ++ [(x, k, c)]) = mE l ++ [(.int .i64 (x : Int), .int .i64 (k : Int), c)] := by
   intro l
   induction l with
   | nil => rfl
   | cons y r ih => obtain ⟨a, b, d⟩ := y; rw [List.cons_append, mE, mE, ih, List.cons_append]
  exact ⟨l ++ [(x, k, c)], c + 1, by simp only [xmEv, h, h1, e, ea], fin _ (h2 k c)⟩
 ·exact ⟨repE x k l, c, by simp only [xmEv, h, h1, Nat.zero_add, h2 k], fin _ (h3 k)⟩
structure WkM (m0 : Mem) (I : ImV) (M : Img) (W K n1 : Nat) (m : Mem) (va vb : AV) (s : DS) : Prop where
 ext : Ext m0 m
 lo : m0.n ≤ W ∧ m0.n ≤ K
 hi : W < n1 ∧ K < n1
 ne : W ≠ K
 nn : n1 ≤ m.n
 gw : m.get W = some (.cells [I.c, I.f, I.v, .int .i64 M.main, I.i, I.p, .int .i64 M.stack, I.a, .map K, va, vb] true)
 gk : ∃ l c, m.get K = some (.map (mE l) c) ∧ ColE l s.c
 ol : OS 1 n1 m va (s.l.map fun z => AV.int .i64 z) s.l.length
 ob : OS 2 n1 m vb (s.b.flatMap prow) s.b.length
 nab : ∀ k, blkOf va = some k → blkOf vb ≠ some k
theorem WkM.up {m0 : Mem} {I : ImV} {M : Img} {W K n1 : Nat} {m m' : Mem} {va vb : AV} {s : DS} (h : WkM m0 I M W K n1 m va vb s) (k : Ext m m') : WkM m0 I M W K n1 m' va vb s where
 ext := h.ext.trans k
 lo := h.lo
 hi := h.hi
 ne := h.ne
 nn := Nat.le_trans h.nn k.1
 gw := (k.2 _ (Mem.get_lt h.gw)).trans h.gw
 gk := by
  obtain ⟨l, c, h1, h2⟩ := h.gk
  exact ⟨l, c, (k.2 _ (Mem.get_lt h1)).trans h1, h2⟩
 ol := h.ol.ext k
 ob := h.ob.ext k
 nab := h.nab
def WkF (W K : Nat) (va vb : AV) (m m' : Mem) : Prop := m.n ≤ m'.n ∧ ∀ j, j < m.n → j ≠ W → j ≠ K → blkOf va ≠ some j → blkOf vb ≠ some j → m'.get j = m.get j
theorem WkM.col {m0 : Mem} {I : ImV} {M : Img} {W K n1 : Nat} {m : Mem} {va vb : AV} {s : DS} (h : WkM m0 I M W K n1 m va vb s) (a k : Nat) (hm : m.n ≤ 2 ^ depth) :
  ∃ m', xmEv (.mup .int) [.map K, .int .i64 (a : Int), .int .i64 (k : Int)] m = some (.unk, m') ∧ m'.n = m.n ∧ WkM m0 I M W K n1 m' va vb ⟨s.c.set a k, s.l, s.b⟩ ∧ WkF W K va vb m m' := by
 obtain ⟨l, c, h1, h2⟩ := h.gk
 obtain ⟨l', c', h3, h4⟩ := col_put h1 h2 a k
 have hlt := Mem.get_lt h1
 have hk : ∀ j, j ≠ K → (m.set K (.map (mE l') c')).get j = m.get j := fun j hj => Mem.get_set_ne _ hm hlt (fun e => hj e.symm)
 have hhi := h.hi
 have hlo := h.lo
 have hol := h.ol.blk
 have hob := h.ob.blk
 exact ⟨_, h3, set_n _ _ _, {
  ext := ⟨by rw [set_n]; exact h.ext.1, fun i hi => (hk i (by omega)).trans (h.ext.2 i hi)⟩
  lo := h.lo
  hi := h.hi
  ne := h.ne
  nn := by rw [set_n]; exact h.nn
  gw := (hk _ h.ne).trans h.gw
  gk := ⟨l', c', Mem.get_set_same _ hlt, h4⟩
  ol := h.ol.keep fun b hb => hk b (by have := (hol b hb).1; omega)
  ob := h.ob.keep fun b hb => hk b (by have := (hob b hb).1; omega)
  nab := h.nab }, by rw [WkF, set_n]; exact ⟨Nat.le_refl _, fun j _ _ hj _ _ => hk j hj⟩⟩
theorem WkM.addb {m0 : Mem} {I : ImV} {M : Img} {W K n1 : Nat} {m : Mem} {va vb : AV} {s : DS} (h : WkM m0 I M W K n1 m va vb s) (x y : Int) (hmn : m.n + 3 ≤ 2 ^ depth) (hn : s.b.length ≤ 1000000) :
  ∃ m2, (∀ sn t q, appEv ⟨sn, t, q, m.push (.cells [.int .i64 x, .int .i64 y] true)⟩ none 2 16 vb (.slice m.n 0 1 (some 1) 2) = some (.slice (m.n + 1) 0 (s.b.length + 1) none 2, ⟨sn, t, q, m2⟩)) ∧ m2.get W = some (.cells [I.c, I.f, I.v, .int .i64 M.main, I.i, I.p, .int .i64 M.stack, I.a, .map K, va, vb] true) ∧ m2.n = m.n + 2 ∧
   WkM m0 I M W K n1 (m2.set W (.cells [I.c, I.f, I.v, .int .i64 M.main, I.i, I.p, .int .i64 M.stack, I.a, .map K, va, .slice (m.n + 1) 0 (s.b.length + 1) none 2] true)) va (.slice (m.n + 1) 0 (s.b.length + 1) none 2) ⟨s.c, s.l, s.b ++ [(x, y)]⟩ ∧ WkF W K va vb m (m2.set W (.cells [I.c, I.f, I.v, .int .i64 M.main, I.i, I.p, .int .i64 M.stack, I.a, .map K, va, .slice (m.n + 1) 0 (s.b.length + 1) none 2] true)) := by
 have hhi := h.hi
 have hlo := h.lo
 have hnn := h.nn
 have hne := h.ne
 have hol := h.ol.blk
 have hob := h.ob.blk
 obtain ⟨l, c, h1, h2⟩ := h.gk
 obtain ⟨m2, ha, o2, n2, k2⟩ := add_os (c := 2) (bytes := 16) (by omega) h.ob (e := [.int .i64 x, .int .i64 y]) rfl rfl hmn hn (by omega) hnn
 have hq : ∀ q, q < n1 → blkOf vb ≠ some q := fun q hq e => by have := (hob q e).1; omega
 have h4 : m2.get W = some (.cells [I.c, I.f, I.v, .int .i64 M.main, I.i, I.p, .int .i64 M.stack, I.a, .map K, va, vb] true) := (k2 _ (by omega) (hq _ (by omega))).trans h.gw
 have hlt := Mem.get_lt h4
 have hle : m2.n ≤ 2 ^ depth := by omega
 have hset : ∀ i, i ≠ W → (m2.set W (.cells [I.c, I.f, I.v, .int .i64 M.main, I.i, I.p, .int .i64 M.stack, I.a, .map K, va, .slice (m.n + 1) 0 (s.b.length + 1) none 2] true)).get i = m2.get i := fun i hi => Mem.get_set_ne _ hle hlt (fun e => hi e.symm)
 have hk : ∀ j, j < m.n → j ≠ W → blkOf vb ≠ some j → (m2.set W (.cells [I.c, I.f, I.v, .int .i64 M.main, I.i, I.p, .int .i64 M.stack, I.a, .map K, va, .slice (m.n + 1) 0 (s.b.length + 1) none 2] true)).get j = m.get j := fun j hj h1 h2 => (hset j h1).trans (k2 j hj h2)
 refine ⟨m2, ha, h4, n2, {
  ext := ⟨by rw [set_n]; have := h.ext.1; omega, fun i hi => (hk i (by have := h.ext.1; omega) (by omega) (hq i (by omega))).trans (h.ext.2 i hi)⟩
  lo := h.lo
  hi := h.hi
  ne := h.ne
  nn := by rw [set_n]; omega
  gw := Mem.get_set_same _ hlt
  gk := ⟨l, c, (hk _ (by omega) (Ne.symm hne) (hq _ (by omega))).trans h1, h2⟩
  ol := h.ol.keep fun b hb => hk b (hol b hb).2 (by have := (hol b hb).1; omega) (h.nab b hb)
  ob := by
   have e : (s.b ++ [(x, y)]).flatMap prow = s.b.flatMap prow ++ [.int .i64 x, .int .i64 y] := by simp [prow]
   rw [e, List.length_append, List.length_singleton]
   exact o2.keep fun b hb => hset b (by cases hb; omega)
  nab := fun k hk e => by cases e; have := (hol _ hk).2; omega }, by rw [WkF, set_n]; exact ⟨by omega, fun j hj h4 _ _ h6 => hk j hj h4 h6⟩⟩
theorem WkM.addl {m0 : Mem} {I : ImV} {M : Img} {W K n1 : Nat} {m : Mem} {va vb : AV} {s : DS} (h : WkM m0 I M W K n1 m va vb s) (x : Int) (hmn : m.n + 3 ≤ 2 ^ depth) (hn : s.l.length ≤ 1000000) :
  ∃ m2, (∀ sn t q, appEv ⟨sn, t, q, m.push (.cells [.int .i64 x] true)⟩ none 1 8 va (.slice m.n 0 1 (some 1) 1) = some (.slice (m.n + 1) 0 (s.l.length + 1) none 1, ⟨sn, t, q, m2⟩)) ∧ m2.get W = some (.cells [I.c, I.f, I.v, .int .i64 M.main, I.i, I.p, .int .i64 M.stack, I.a, .map K, va, vb] true) ∧ m2.n = m.n + 2 ∧
   WkM m0 I M W K n1 (m2.set W (.cells [I.c, I.f, I.v, .int .i64 M.main, I.i, I.p, .int .i64 M.stack, I.a, .map K, .slice (m.n + 1) 0 (s.l.length + 1) none 1, vb] true)) (.slice (m.n + 1) 0 (s.l.length + 1) none 1) vb ⟨s.c, s.l ++ [x], s.b⟩ ∧ WkF W K va vb m (m2.set W (.cells [I.c, I.f, I.v, .int .i64 M.main, I.i, I.p, .int .i64 M.stack, I.a, .map K, .slice (m.n + 1) 0 (s.l.length + 1) none 1, vb] true)) := by
 have hhi := h.hi
 have hlo := h.lo
 have hnn := h.nn
 have hne := h.ne
 have hol := h.ol.blk
 have hob := h.ob.blk
 obtain ⟨l, c, h1, h2⟩ := h.gk
 obtain ⟨m2, ha, o2, n2, k2⟩ := add_os (c := 1) (bytes := 8) (by omega) h.ol (e := [.int .i64 x]) rfl rfl hmn hn (by omega) hnn
 have hq : ∀ q, q < n1 → blkOf va ≠ some q := fun q hq e => by have := (hol q e).1; omega
 have h5 : m2.get W = some (.cells [I.c, I.f, I.v, .int .i64 M.main, I.i, I.p, .int .i64 M.stack, I.a, .map K, va, vb] true) := (k2 _ (by omega) (hq _ (by omega))).trans h.gw
 have hlt := Mem.get_lt h5
 have hle : m2.n ≤ 2 ^ depth := by omega
 have hset : ∀ i, i ≠ W → (m2.set W (.cells [I.c, I.f, I.v, .int .i64 M.main, I.i, I.p, .int .i64 M.stack, I.a, .map K, .slice (m.n + 1) 0 (s.l.length + 1) none 1, vb] true)).get i = m2.get i := fun i hi => Mem.get_set_ne _ hle hlt (fun e => hi e.symm)
 have hk : ∀ j, j < m.n → j ≠ W → blkOf va ≠ some j → (m2.set W (.cells [I.c, I.f, I.v, .int .i64 M.main, I.i, I.p, .int .i64 M.stack, I.a, .map K, .slice (m.n + 1) 0 (s.l.length + 1) none 1, vb] true)).get j = m.get j := fun j hj h1 h2 => (hset j h1).trans (k2 j hj h2)
 refine ⟨m2, ha, h5, n2, {
  ext := ⟨by rw [set_n]; have := h.ext.1; omega, fun i hi => (hk i (by have := h.ext.1; omega) (by omega) (hq i (by omega))).trans (h.ext.2 i hi)⟩
  lo := h.lo
  hi := h.hi
  ne := h.ne
  nn := by rw [set_n]; omega
  gw := Mem.get_set_same _ hlt
  gk := ⟨l, c, (hk _ (by omega) (Ne.symm hne) (hq _ (by omega))).trans h1, h2⟩
  ol := by
   rw [List.map_append, List.length_append, List.length_singleton]
   exact o2.keep fun b hb => hset b (by cases hb; omega)
  ob := h.ob.keep fun b hb => hk b (hob b hb).2 (by have := (hob b hb).1; omega) (fun e => h.nab b e hb)
  nab := fun k hk e => by cases hk; have := (hob _ e).2; omega }, by rw [WkF, set_n]; exact ⟨by omega, fun j hj h4 _ h6 _ => hk j hj h4 h6⟩⟩
def WkS (W K : Nat) (va vb : AV) (m : Mem) (va' vb' : AV) (m' : Mem) : Prop := WkF W K va vb m m' ∧ (∀ j, blkOf va' = some j → blkOf va = some j ∨ m.n ≤ j) ∧ (∀ j, blkOf vb' = some j → blkOf vb = some j ∨ m.n ≤ j)
theorem WkS.refl (W K : Nat) (va vb : AV) (m : Mem) : WkS W K va vb m va vb m := ⟨⟨Nat.le_refl _, fun _ _ _ _ _ _ => rfl⟩, fun _ h => .inl h, fun _ h => .inl h⟩
theorem WkS.trans {W K : Nat} {va vb va' vb' va'' vb'' : AV} {m m' m'' : Mem} (h : WkS W K va vb m va' vb' m') (k : WkS W K va' vb' m' va'' vb'' m'') : WkS W K va vb m va'' vb'' m'' := by
 obtain ⟨⟨h1, h2⟩, h3, h4⟩ := h
 obtain ⟨⟨k1, k2⟩, k3, k4⟩ := k
 refine ⟨⟨by omega, fun j hj a b d e => (k2 j (by omega) a b (fun x => ?_) (fun x => ?_)).trans (h2 j hj a b d e)⟩, fun j hj => ?_, fun j hj => ?_⟩
 ·rcases h3 j x with y | y
  ·exact d y
  ·omega
 ·rcases h4 j x with y | y
  ·exact e y
  ·omega
 ·rcases k3 j hj with y | y
  ·exact h3 j y
  ·exact .inr (by omega)
 ·rcases k4 j hj with y | y
  ·exact h4 j y
  ·exact .inr (by omega)
def WSafe (n1 : Nat) (va vb : AV) (m : Mem) (j : Nat) : Prop := n1 ≤ j ∧ j < m.n ∧ blkOf va ≠ some j ∧ blkOf vb ≠ some j
theorem WkS.safe {m0 : Mem} {I : ImV} {M : Img} {W K n1 : Nat} {va vb va' vb' : AV} {m m' : Mem} {s : DS} (hv : WkM m0 I M W K n1 m va vb s) (h : WkS W K va vb m va' vb' m') {j : Nat} (k : WSafe n1 va vb m j) : m'.get j = m.get j ∧ WSafe n1 va' vb' m' j := by
 obtain ⟨⟨h1, h2⟩, h3, h4⟩ := h
 obtain ⟨k1, k2, k3, k4⟩ := k
 have hhi := hv.hi
 refine ⟨h2 j k2 (by omega) (by omega) k3 k4, k1, by omega, fun x => ?_, fun x => ?_⟩
 ·rcases h3 j x with y | y
  ·exact k3 y
  ·omega
 ·rcases h4 j x with y | y
  ·exact k4 y
  ·omega
theorem IS.two {n0 : Nat} {m : Mem} {v : AV} {x y : Int} (h : IS n0 m v [x, y]) : ∃ b, n0 ≤ b ∧ v = .slice b 0 2 none 1 ∧ m.get b = some (.cells [.int .i64 x, .int .i64 y] true) := by
 rcases h with ⟨_, _, h⟩ | ⟨b, h0, h1, h2, _⟩
 ·cases h
 ·exact ⟨b, h0, h1, h2⟩
theorem IS.far {n0 : Nat} {m : Mem} {v : AV} {l : List Int} (h : IS n0 m v l) : ∀ b, blkOf v = some b → n0 ≤ b := by
 rcases h with ⟨rfl, _⟩ | ⟨b, h0, rfl, _⟩
 ·intro b hb; cases hb
 ·intro k hk; cases hk; exact h0
theorem sub_i (i : Nat) (hi : i ≤ 1000000) : binEv .sub (.int .i64 (i : Int)) (.int .i64 1) = some (.int .i64 ((i : Int) - 1)) := by
 simp only [binEv, if_true, intBin, IntKind.wrap, IntKind.bits]
 simp [IntKind.signed]
 omega
open Go
theorem entry_in {M : Img} (h : checkI M = 0) {f : Nat} (hf : f < M.funcs.length) : 0 ≤ fromP M f ∧ fromP M f < (M.code.length : Int) := by
 have hsf := (tiles_of (check_zero h).2.1).sp f hf
 exact ⟨hsf.1, by omega⟩
theorem IS.up {n0 : Nat} {m m' : Mem} {v : AV} {l : List Int} (h : IS n0 m v l) (k : Ext m m') : IS n0 m' v l := OS.ext h k
open Go
open Go
open Go
theorem range_run (N : Nat) (m : Mem) (I : ImV) (M : Img) (hm : IM m I M) (hl : M.funcs.length ≤ 100000) (m0 : Mem) (c : Int) (NC KC : Nat) (hck : CkOk m0 I M NC KC 54 c) (he : Ext m0 m) (hmn : m.n + KC ≤ 2 ^ depth) (hN : NC + 3 ≤ N) (f : Int) :
  ∃ m', run A N 73 [.agg [I.c, I.f, I.v, .int .i64 M.main, I.i, I.p, .int .i64 M.stack, I.a], .int .i64 f] m = some (.tup [.int .i64 (rangeP M c f).1, .int .i64 (rangeP M c f).2], m') ∧ Gr m m' KC := by
 obtain ⟨n, rfl⟩ : ∃ n, N = n + 1 := ⟨N - 1, by omega⟩
 obtain ⟨pc1, pc2, pc3, pc4⟩ := hm.c.plain
 have lc := hm.c.lenR
 obtain ⟨pf1, pf2, pf3, pf4⟩ := hm.f.plain
 have lf := hm.f.lenR
 obtain ⟨pv1, pv2, pv3, pv4⟩ := hm.v.plain
 have lv := hm.v.lenR
 obtain ⟨pi1, pi2, pi3, pi4⟩ := hm.i.plain
 have li := hm.i.lenR
 obtain ⟨pp1, pp2, pp3, pp4⟩ := hm.p.plain
 have lp := hm.p.lenR
 obtain ⟨pa1, pa2, pa3, pa4⟩ := hm.a.plain
 have la := hm.a.lenR
 obtain ⟨m', hc, hg⟩ := hck n m (by omega) he hmn
 refine ⟨m', ?_, hg⟩
 have hm' := hm.ext hg.1
 rw [run_73]
 unfold fnEv a73
 cases d0 : decide (c = 0)
 ·have hz : rangeP M c f = (0, 0) := by have := of_decide_eq_false d0; unfold rangeP; rw [if_neg this]
  rw [hz]
  simp only [KK, Nat.reduceEqDiff, Nat.reduceAdd, Nat.reduceLeDiff, Nat.reduceLT, hc, d0]
 cases d1 : decide (f < 0)
 rotate_left
 ·have hz : rangeP M c f = (0, 0) := by have := of_decide_eq_true d1; unfold rangeP; rw [if_pos (of_decide_eq_true d0)]; unfold spanP; rw [if_pos (by omega)]
  rw [hz]
  simp only [KK, Nat.reduceEqDiff, Nat.reduceAdd, Nat.reduceLeDiff, Nat.reduceLT, hc, d0, d1]
 cases d2 : decide ((M.funcs.length : Int) ≤ f)
 rotate_left
 ·have hz : rangeP M c f = (0, 0) := by have := of_decide_eq_true d2; unfold rangeP; rw [if_pos (of_decide_eq_true d0)]; unfold spanP; rw [if_pos (by omega)]
  rw [hz]
  simp only [KK, Nat.reduceEqDiff, Nat.reduceAdd, Nat.reduceLeDiff, Nat.reduceLT, lf, hc, d0, d1, d2]
 have q1 := of_decide_eq_false d1
 have q2 := of_decide_eq_false d2
 have hz : rangeP M c f = (fromP M f.toNat, toP M f.toNat) := by unfold rangeP; rw [if_pos (of_decide_eq_true d0)]; unfold spanP; rw [if_neg (by omega)]
 rw [hz]
 obtain ⟨k, rfl⟩ : ∃ k : Nat, f = (k : Int) := ⟨f.toNat, by omega⟩
 have hb := bounds_run n (by omega) m' I M hm' k (by omega) (by omega)
 simp only [KK, Nat.reduceEqDiff, Nat.reduceAdd, Nat.reduceLeDiff, Nat.reduceLT, Int.toNat_natCast, lf, hc, d0, d1, d2, hb]
def idxS (x : Int) (i : Nat) (y : Int) (_ : Unit) : Stp Unit Nat := if y = x then .ret i else .go ()
theorem fold_idx (x : Int) : ∀ (l : List Int) (i : Nat), (l.contains x = false ∧ foldS (idxS x) l i () = .inl ()) ∨ (l.contains x = true ∧ ∃ k : Nat, foldS (idxS x) l i () = .inr k)
 | [], i => .inl ⟨rfl, rfl⟩
 | y :: r, i => by
  simp only [foldS, idxS, List.contains_cons]
  by_cases h : y = x
  ·subst h
   refine .inr ⟨by simp, i, by simp⟩
  ·have hb : (x == y) = false := by simpa using fun e => h e.symm
   rw [hb, if_neg h, Bool.false_or]
   exact fold_idx x r (i + 1)
theorem index_run (N : Nat) (m : Mem) (u : AV) (l : List Int) (hu : RE m u l) (hl : l.length ≤ 1000000) (x : Int) (hN : l.length + 2 ≤ N) : ∃ k : Int, run A N 121 [u, .int .i64 x] m = some (.int .i64 k, m) ∧ (l.contains x = decide (0 ≤ k)) := by
 obtain ⟨n, rfl⟩ : ∃ n, N = n + 1 := ⟨N - 1, by omega⟩
 obtain ⟨u1, u2, u3, u4⟩ := hu.plain
 have lu := hu.lenR
 rw [run_121]
 unfold fnEv a121
 simp only [KK, Nat.reduceEqDiff, Nat.reduceAdd, Nat.reduceLT, u1, lu]
 generalize hq : codeEv (run A n) (ev A n).2 a121_L1 _ = q
 have h := scan0 (A := A) a121_L1 a121_B1 a121_L1_step (fun i (_ : Unit) s => ∃ T L, s = ⟨19, T, L, m⟩ ∧ keepT [0, 1, 7, 8] [] T = [(0, u), (1, .int .i64 x), (7, .int .i64 (l.length : Int)), (8, .int .i64 (i : Int))]) (fun _ s => ∃ T L, s = ⟨19, T, L, m⟩) (fun (k : Nat) s => ∃ T L, s = ⟨19, T, L, m⟩ ∧ look T 4 = .int .i64 (k : Int)) 0 1 (idxS x) l
  (fun N b s hN ⟨T, L, hs, hk⟩ => by
   subst hs
   have h' : ¬ (l.length : Int) < (l.length : Int) := by omega
   unfold a121_B1
   exact ⟨_, by simp only [KK, Nat.reduceEqDiff, Nat.reduceLT, hk, h']; rfl, _, _, rfl⟩)
  (fun N i y b s hN hx ⟨T, L, hs, hk⟩ => by
   subst hs
   have hlt := (List.getElem?_eq_some_iff.1 hx).1
   have h' : (i : Int) < (l.length : Int) := by omega
   obtain ⟨b2, o, cs, ow, e1, e2, e3⟩ := hu.i1 hx
   have a1 := add_i i (by omega)
   unfold idxS
   unfold a121_B1
   cases hd : decide (x = y)
   ·rw [if_neg (fun e => of_decide_eq_false hd e.symm)]
    exact ⟨_, by simp only [KK, Nat.reduceEqDiff, Nat.reduceLT, hk, h', e1, e2, e3, u1, hd, a1]; rfl, _, _, rfl, by simp only [keepT, List.map, look_set, look_cons, in_int, Nat.reduceEqDiff, if_true, if_false, u1]⟩
   ·rw [if_pos (of_decide_eq_true hd).symm]
    exact ⟨_, by simp only [KK, Nat.reduceEqDiff, Nat.reduceLT, hk, h', e1, e2, e3, u1, hd]; rfl, _, _, rfl, by simp only [look_set, look_cons, Nat.reduceEqDiff, if_true, if_false]⟩)
  n () ⟨19, _, _, m⟩ (by omega) ⟨_, _, rfl, by simp only [keepT, List.map, look_set, look_cons, in_int, Nat.reduceEqDiff, if_true, if_false, u1]; rfl⟩ hq
 rcases fold_idx x l 0 with ⟨h1, h2⟩ | ⟨h1, k, h2⟩
 ·rw [h2] at h
  obtain ⟨s', rfl, T', L', rfl⟩ := h
  exact ⟨-1, by simp only [look_set, loc_int, Nat.reduceLT, if_true, if_false, Bool.false_eq_true], by rw [h1]; rfl⟩
 ·rw [h2] at h
  obtain ⟨s', rfl, T', L', rfl, h3⟩ := h
  exact ⟨(k : Int), by simp only [loc_int, if_false, Bool.false_eq_true, h3], by rw [h1]; exact (decide_eq_true (by omega)).symm⟩
theorem contains_run (N : Nat) (m : Mem) (u : AV) (l : List Int) (hu : RE m u l) (hl : l.length ≤ 1000000) (x : Int) (hN : l.length + 3 ≤ N) : run A N 88 [u, .int .i64 x] m = some (.bool (l.contains x), m) := by
 obtain ⟨n, rfl⟩ : ∃ n, N = n + 1 := ⟨N - 1, by omega⟩
 obtain ⟨u1, u2, u3, u4⟩ := hu.plain
 obtain ⟨k, h1, h2⟩ := index_run n m u l hu hl x (by omega)
 rw [run_88, h2]
 unfold fnEv a88
 simp only [KK, Nat.reduceEqDiff, Nat.reduceAdd, Nat.reduceLT, u1, u2, h1]
theorem whites_le1 : ∀ (s t : List Nat), s.length = t.length → (∀ i : Nat, t[i]? = some 0 → s[i]? = some 0) → whites t ≤ whites s
 | [], [], _, _ => Nat.le_refl _
 | x :: s, y :: t, h, hi => by
  have h1 := whites_le1 s t (by simpa using h) (fun i hh => by simpa using hi (i + 1) (by simpa using hh))
  have h0 := hi 0
  unfold whites at h1 ⊢
  rw [List.filter_cons, List.filter_cons]
  by_cases hy : y = 0
  ·subst hy
   have hx : x = 0 := by simpa using h0 rfl
   subst hx
   simpa using h1
  ·have : (y == 0) = false := by simpa using hy
   rw [this]
   simp only [Bool.false_eq_true, if_false]
   split
   ·rw [List.length_cons]; omega
   ·exact h1
 | [], _ :: _, h, _ => by simp at h
 | _ :: _, [], h, _ => by simp at h
theorem whites_set1 : ∀ (s : List Nat) (a : Nat), s[a]? = some 0 → whites (s.set a 1) + 1 = whites s
 | [], a, h => by simp at h
 | x :: s, 0, h => by
  have : x = 0 := by simpa using h
  subst this
  rfl
 | x :: s, a + 1, h => by
  have h1 := whites_set1 s a (by simpa using h)
  unfold whites at h1 ⊢
  rw [List.set_cons_succ, List.filter_cons, List.filter_cons]
  cases x == 0
  ·simp only [Bool.false_eq_true, if_false]; exact h1
  ·simp only [if_true, List.length_cons]; omega
structure Dw (nx : Nat → List Int) (s s' : DS) (new : List Int) (eb : List (Int × Int)) (g : Option Nat) : Prop where
 hl : s'.l = s.l ++ new
 hb : s'.b = s.b ++ eb
 len : s'.c.length = s.c.length
 inr : ∀ x ∈ new, 0 ≤ x
 nd : new.Nodup
 wh : ∀ x ∈ new, s.c[x.toNat]? = some 0
 bl : ∀ x ∈ new, s'.c[x.toNat]? = some 2
 un : ∀ i : Nat, (i : Int) ∉ new → s'.c[i]? = s.c[i]?
 cl : ∀ u ∈ new, ∀ v ∈ nx u.toNat, s'.c[v.toNat]? ≠ some 0
 src : ∀ e ∈ eb, e.1 ∈ new ∨ ∃ a, g = some a ∧ e.1 = (a : Int)
 ed : ∀ u ∈ new, ∀ v ∈ nx u.toNat, ((u, v) ∈ eb ↔ s.c[v.toNat]? = some 1 ∨ (v ∈ new ∧ new.idxOf u ≤ new.idxOf v))
theorem Dw.refl (nx : Nat → List Int) (s : DS) (g : Option Nat) : Dw nx s s [] [] g where
 hl := (List.append_nil _).symm
 hb := (List.append_nil _).symm
 len := rfl
 inr := fun _ h => by cases h
 nd := List.nodup_nil
 wh := fun _ h => by cases h
 bl := fun _ h => by cases h
 un := fun _ _ => rfl
 cl := fun _ h => by cases h
 src := fun _ h => by cases h
 ed := fun _ h => by cases h
theorem Dw.un' {nx : Nat → List Int} {s s' : DS} {new : List Int} {eb : List (Int × Int)} {g : Option Nat} (h : Dw nx s s' new eb g) {x : Int} (hx : 0 ≤ x) (hn : x ∉ new) : s'.c[x.toNat]? = s.c[x.toNat]? :=
 h.un x.toNat (by rw [Int.toNat_of_nonneg hx]; exact hn)
theorem Dw.grey {nx : Nat → List Int} {s s' : DS} {new : List Int} {eb : List (Int × Int)} {g : Option Nat} (h : Dw nx s s' new eb g) {x : Int} (hx : 0 ≤ x) : s'.c[x.toNat]? = some 1 ↔ s.c[x.toNat]? = some 1 := by
 by_cases hn : x ∈ new
 ·rw [h.bl x hn, h.wh x hn]; simp
 ·rw [h.un' hx hn]
theorem Dw.white {nx : Nat → List Int} {s s' : DS} {new : List Int} {eb : List (Int × Int)} {g : Option Nat} (h : Dw nx s s' new eb g) (i : Nat) (hi : s'.c[i]? = some 0) : s.c[i]? = some 0 := by
 by_cases hn : (i : Int) ∈ new
 ·have := h.bl _ hn; rw [Int.toNat_natCast, hi] at this; simp at this
 ·rw [← h.un i hn]; exact hi
theorem Dw.trans {nx : Nat → List Int} (hnx : ∀ a, ∀ v ∈ nx a, 0 ≤ v) {s s1 s2 : DS} {n1 n2 : List Int} {e1 e2 : List (Int × Int)} {g : Option Nat} (h : Dw nx s s1 n1 e1 g) (k : Dw nx s1 s2 n2 e2 g) (hg : ∀ a, g = some a → s.c[a]? = some 1) : Dw nx s s2 (n1 ++ n2) (e1 ++ e2) g := by
 have dis : ∀ x ∈ n1, x ∉ n2 := fun x h1 h2 => by
  have a := h.bl x h1; rw [k.wh x h2] at a; simp at a
 refine ⟨by rw [k.hl, h.hl, List.append_assoc], by rw [k.hb, h.hb, List.append_assoc], k.len.trans h.len, ?_, ?_, ?_, ?_, ?_, ?_, ?_, ?_⟩
 ·intro x hx; rcases List.mem_append.1 hx with hx | hx
  ·exact h.inr x hx
  ·exact k.inr x hx
 ·rw [List.nodup_append]
  exact ⟨h.nd, k.nd, fun x h1 y h2 e => dis x h1 (e ▸ h2)⟩
 ·intro x hx; rcases List.mem_append.1 hx with hx | hx
  ·exact h.wh x hx
  ·have a := k.wh x hx
   rw [h.un' (k.inr x hx) (fun h1 => dis x h1 hx)] at a
   exact a
 ·intro x hx; rcases List.mem_append.1 hx with hx | hx
  ·rw [k.un' (h.inr x hx) (dis x hx)]; exact h.bl x hx
  ·exact k.bl x hx
 ·intro i hi
  rw [List.mem_append, not_or] at hi
  rw [k.un i hi.2, h.un i hi.1]
 ·intro u hu v hv; rcases List.mem_append.1 hu with hu | hu
  ·by_cases hn : v ∈ n2
   ·rw [k.bl v hn]; simp
   ·rw [k.un' (hnx _ v hv) hn]; exact h.cl u hu v hv
  ·exact k.cl u hu v hv
 ·intro e he; rcases List.mem_append.1 he with he | he
  ·rcases h.src e he with h1 | h1
   ·exact .inl (List.mem_append_left _ h1)
   ·exact .inr h1
  ·rcases k.src e he with h1 | h1
   ·exact .inl (List.mem_append_right _ h1)
   ·exact .inr h1
 ·intro u hu v hv
  have hv0 := hnx _ v hv
  rcases List.mem_append.1 hu with hu | hu
  ·have no2 : (u, v) ∉ e2 := fun hm => by
    rcases k.src _ hm with h1 | ⟨a, h1, h2⟩
    ·exact dis u hu h1
    ·have a1 := h.wh u hu
     have a2 := hg a h1
     have e : u.toNat = a := by dsimp only at h2; omega
     rw [e, a2] at a1; simp at a1
   rw [List.mem_append, or_iff_left no2, h.ed u hu v hv, List.idxOf_append, if_pos hu]
   constructor
   ·rintro (h1 | ⟨h1, h2⟩)
    ·exact .inl h1
    ·exact .inr ⟨List.mem_append_left _ h1, by rw [List.idxOf_append, if_pos h1]; exact h2⟩
   ·rintro (h1 | ⟨h1, h2⟩)
    ·exact .inl h1
    ·rcases List.mem_append.1 h1 with h3 | h3
     ·rw [List.idxOf_append, if_pos h3] at h2
      exact .inr ⟨h3, h2⟩
     ·exact absurd (k.wh v h3) (h.cl u hu v hv)
  ·have hu1 : u ∉ n1 := fun h1 => dis u h1 hu
   have no1 : (u, v) ∉ e1 := fun hm => by
    rcases h.src _ hm with h1 | ⟨a, h1, h2⟩
    ·exact hu1 h1
    ·have a1 := k.wh u hu
     have e : u.toNat = a := by dsimp only at h2; omega
     have a2 := (h.grey (k.inr u hu)).2 (by rw [e]; exact hg a h1)
     rw [a2] at a1; simp at a1
   rw [List.mem_append, or_iff_right no1, k.ed u hu v hv, h.grey hv0, List.idxOf_append, if_neg hu1]
   constructor
   ·rintro (h1 | ⟨h1, h2⟩)
    ·exact .inl h1
    ·exact .inr ⟨List.mem_append_right _ h1, by rw [List.idxOf_append, if_neg (fun h3 => dis v h3 h1)]; omega⟩
   ·rintro (h1 | ⟨h1, h2⟩)
    ·exact .inl h1
    ·by_cases h3 : v ∈ n1
     ·rw [List.idxOf_append, if_pos h3] at h2
      have := List.idxOf_lt_length_of_mem h3
      omega
     ·rw [List.idxOf_append, if_neg h3] at h2
      exact .inr ⟨(List.mem_append.1 h1).resolve_left h3, by omega⟩
theorem Dw.any {nx : Nat → List Int} {s s' : DS} {new : List Int} {eb : List (Int × Int)} (h : Dw nx s s' new eb none) (g : Option Nat) : Dw nx s s' new eb g :=
 ⟨h.hl, h.hb, h.len, h.inr, h.nd, h.wh, h.bl, h.un, h.cl, fun e he => (h.src e he).imp id (fun ⟨a, h1, _⟩ => by cases h1), h.ed⟩
theorem fold_dw (nx : Nat → List Int) (hnx : ∀ a, ∀ v ∈ nx a, 0 ≤ v) (k : Nat) (rec : ∀ (a : Nat) (s : DS), s.c[a]? = some 0 → whites s.c ≤ k → ∃ n0 eb, Dw nx s (visP nx k a s) (n0 ++ [(a : Int)]) eb none) (a : Nat) (s : DS) (ha : s.c[a]? = some 1) (hw : whites s.c ≤ k) :
  ∀ ls : List Int, (∀ v ∈ ls, 0 ≤ v) → ∃ new eb, Dw nx s (ls.foldr (visStep (visP nx k) a) s) new eb (some a) ∧ (∀ v, ((a : Int), v) ∈ eb ↔ v ∈ ls ∧ s.c[v.toNat]? = some 1) ∧ ∀ v ∈ ls, (ls.foldr (visStep (visP nx k) a) s).c[v.toNat]? ≠ some 0
 | [], _ => ⟨[], [], Dw.refl nx s _, by simp, by simp⟩
 | x :: r, hr => by
  obtain ⟨n1, e1, h1, h2, h3⟩ := fold_dw nx hnx k rec a s ha hw r (fun v hv => hr v (List.mem_cons_of_mem _ hv))
  have hx := hr x List.mem_cons_self
  rw [List.foldr_cons]
  generalize r.foldr (visStep (visP nx k) a) s = t at *
  have gg : ∀ b, some a = some b → s.c[b]? = some 1 := fun b e => by cases e; exact ha
  have hat : t.c[a]? = some 1 := by
   have := (h1.grey (x := (a : Int)) (by omega)).2 (by rw [Int.toNat_natCast]; exact ha)
   rwa [Int.toNat_natCast] at this
  unfold visStep
  split
  ·rename_i h0
   obtain ⟨n0, e0, k1⟩ := rec x.toNat t h0 (Nat.le_trans (whites_le1 _ _ h1.len.symm (fun i hi => h1.white i hi)) hw)
   refine ⟨n1 ++ (n0 ++ [(x.toNat : Int)]), e1 ++ e0, h1.trans hnx (k1.any _) gg, fun v => ?_, fun v hv => ?_⟩
   ·have no : ((a : Int), v) ∉ e0 := fun hm => by
     rcases k1.src _ hm with q | ⟨b, q, _⟩
     ·have := k1.wh _ q
      rw [Int.toNat_natCast, hat] at this; simp at this
     ·cases q
    rw [List.mem_append, or_iff_left no, h2 v, List.mem_cons]
    constructor
    ·rintro ⟨q1, q2⟩; exact ⟨.inr q1, q2⟩
    ·rintro ⟨q1 | q1, q2⟩
     ·subst q1
      have := (h1.grey hx).2 q2
      rw [h0] at this; simp at this
     ·exact ⟨q1, q2⟩
   ·rcases List.mem_cons.1 hv with q | q
    ·subst q
     have := k1.bl ((v.toNat : Nat) : Int) (by simp)
     rw [Int.toNat_natCast] at this
     rw [this]; simp
    ·by_cases hn : v ∈ n0 ++ [(x.toNat : Int)]
     ·rw [k1.bl v hn]; simp
     ·rw [k1.un' (hr v hv) hn]; exact h3 v q
  ·rename_i h0
   refine ⟨n1, e1 ++ [((a : Int), x)], ⟨h1.hl, by dsimp only; rw [h1.hb, List.append_assoc], h1.len, h1.inr, h1.nd, h1.wh, h1.bl, h1.un, h1.cl, fun e he => ?_, fun u hu v hv => ?_⟩, fun v => ?_, fun v hv => ?_⟩
   ·rcases List.mem_append.1 he with q | q
    ·exact h1.src e q
    ·exact .inr ⟨a, rfl, by rw [List.mem_singleton.1 q]⟩
   ·have no : (u, v) ∉ [((a : Int), x)] := fun hm => by
     have e := congrArg Prod.fst (List.mem_singleton.1 hm)
     dsimp only at e
     have := h1.wh u hu
     rw [e, Int.toNat_natCast, ha] at this; simp at this
    rw [List.mem_append, or_iff_left no]
    exact h1.ed u hu v hv
   ·have hs1 := (h1.grey hx).1 h0
    rw [List.mem_append, List.mem_singleton, h2 v, List.mem_cons]
    constructor
    ·rintro (⟨q1, q2⟩ | q)
     ·exact ⟨.inr q1, q2⟩
     ·cases q; exact ⟨.inl rfl, hs1⟩
    ·rintro ⟨q1 | q1, q2⟩
     ·subst q1; exact .inr rfl
     ·exact .inl ⟨q1, q2⟩
   ·rcases List.mem_cons.1 hv with q | q
    ·subst q; dsimp only; rw [h0]; simp
    ·exact h3 v q
  ·rename_i g0 g1
   refine ⟨n1, e1, h1, fun v => ?_, fun v hv => ?_⟩
   ·rw [h2 v, List.mem_cons]
    constructor
    ·rintro ⟨q1, q2⟩; exact ⟨.inr q1, q2⟩
    ·rintro ⟨q1 | q1, q2⟩
     ·subst q1; exact absurd ((h1.grey hx).2 q2) (by simpa using g1)
     ·exact ⟨q1, q2⟩
   ·rcases List.mem_cons.1 hv with q | q
    ·subst q; simpa using g0
    ·exact h3 v q
theorem vis_dw (nx : Nat → List Int) (hnx : ∀ a, ∀ v ∈ nx a, 0 ≤ v) : ∀ (k : Nat) (a : Nat) (s : DS), s.c[a]? = some 0 → whites s.c ≤ k → ∃ n0 eb, Dw nx s (visP nx k a s) (n0 ++ [(a : Int)]) eb none
 | 0, a, s, h0, hw => by
  have := whites_set1 s.c a h0
  omega
 | k + 1, a, s, h0, hw => by
  have hlt : a < s.c.length := (List.getElem?_eq_some_iff.1 h0).1
  have hw1 := whites_set1 s.c a h0
  have ha1 : (greyS a s).c[a]? = some 1 := by unfold greyS; dsimp only; rw [List.getElem?_set_self hlt]
  have hne : ∀ i : Nat, i ≠ a → (greyS a s).c[i]? = s.c[i]? := fun i hi => by unfold greyS; dsimp only; rw [List.getElem?_set_ne (fun e => hi e.symm)]
  obtain ⟨nf, eb, h1, h2, h3⟩ := fold_dw nx hnx k (vis_dw nx hnx k) a (greyS a s) ha1 (by unfold greyS; dsimp only; omega) (nx a) (hnx a)
  rw [visP]
  generalize (nx a).foldr (visStep (visP nx k) a) (greyS a s) = t at *
  have hlen : t.c.length = s.c.length := by rw [h1.len]; unfold greyS; simp
  have hta : a < t.c.length := by omega
  have na : (a : Int) ∉ nf := fun hm => by
   have := h1.wh _ hm
   rw [Int.toNat_natCast, ha1] at this; simp at this
  have nea : ∀ x ∈ nf, x.toNat ≠ a := fun x hx e => na (by have := h1.inr x hx; rw [← e, Int.toNat_of_nonneg this]; exact hx)
  have e2 : (endS a t).c[a]? = some 2 := by unfold endS; dsimp only; rw [List.getElem?_set_self hta]
  have en : ∀ i : Nat, i ≠ a → (endS a t).c[i]? = t.c[i]? := fun i hi => by unfold endS; dsimp only; rw [List.getElem?_set_ne (fun e => hi e.symm)]
  refine ⟨nf, eb, ⟨?_, ?_, ?_, ?_, ?_, ?_, ?_, ?_, ?_, ?_, ?_⟩⟩
  ·unfold endS; dsimp only; rw [h1.hl, List.append_assoc]; rfl
  ·unfold endS; dsimp only; rw [h1.hb]; rfl
  ·unfold endS; dsimp only; rw [List.length_set, hlen]
  ·intro x hx; rcases List.mem_append.1 hx with hx | hx
   ·exact h1.inr x hx
   ·rw [List.mem_singleton.1 hx]; omega
  ·rw [List.nodup_append]
   exact ⟨h1.nd, by simp, fun x q y r e => na (by rw [List.mem_singleton.1 r] at e; exact e ▸ q)⟩
  ·intro x hx; rcases List.mem_append.1 hx with hx | hx
   ·have := h1.wh x hx
    rwa [hne _ (nea x hx)] at this
   ·rw [List.mem_singleton.1 hx, Int.toNat_natCast]; exact h0
  ·intro x hx; rcases List.mem_append.1 hx with hx | hx
   ·rw [en _ (nea x hx)]; exact h1.bl x hx
   ·rw [List.mem_singleton.1 hx, Int.toNat_natCast]; exact e2
  ·intro i hi
   rw [List.mem_append, not_or, List.mem_singleton] at hi
   have hia : i ≠ a := fun e => hi.2 (by rw [e])
   rw [en i hia, h1.un i hi.1, hne i hia]
  ·intro u hu v hv
   by_cases hva : v.toNat = a
   ·rw [hva, e2]; simp
   ·rw [en _ hva]
    rcases List.mem_append.1 hu with hu | hu
    ·exact h1.cl u hu v hv
    ·rw [List.mem_singleton.1 hu, Int.toNat_natCast] at hv
     exact h3 v hv
  ·intro e he
   rcases h1.src e he with q | ⟨b, q1, q2⟩
   ·exact .inl (List.mem_append_left _ q)
   ·cases q1; exact .inl (List.mem_append_right _ (by rw [q2]; simp))
  ·intro u hu v hv
   have hv0 := hnx _ v hv
   have hg1 : (greyS a s).c[v.toNat]? = some 1 ↔ s.c[v.toNat]? = some 1 ∨ v = (a : Int) := by
    by_cases hva : v.toNat = a
    ·rw [hva, ha1]
     have : v = (a : Int) := by omega
     simp [this]
    ·rw [hne _ hva]
     have : v ≠ (a : Int) := by omega
     simp [this]
   have idl : (nf ++ [(a : Int)]).idxOf (a : Int) = nf.length := by
    rw [List.idxOf_append, if_neg na]; simp
   have idv : ∀ x ∈ nf, (nf ++ [(a : Int)]).idxOf x = nf.idxOf x := fun x hx => by rw [List.idxOf_append, if_pos hx]
   rcases List.mem_append.1 hu with hu | hu
   ·rw [h1.ed u hu v hv, hg1, idv u hu, List.mem_append, List.mem_singleton]
    have hul := List.idxOf_lt_length_of_mem hu
    constructor
    ·rintro ((q | q) | ⟨q1, q2⟩)
     ·exact .inl q
     ·exact .inr ⟨.inr q, by rw [q, idl]; omega⟩
     ·exact .inr ⟨.inl q1, by rw [idv v q1]; exact q2⟩
    ·rintro (q | ⟨q1 | q1, q2⟩)
     ·exact .inl (.inl q)
     ·rw [idv v q1] at q2; exact .inr ⟨q1, q2⟩
     ·exact .inl (.inr q1)
   ·have hu' := List.mem_singleton.1 hu
    subst hu'
    rw [Int.toNat_natCast] at hv
    rw [h2 v, hg1, idl, List.mem_append, List.mem_singleton]
    constructor
    ·rintro ⟨_, q | q⟩
     ·exact .inl q
     ·exact .inr ⟨.inr q, by rw [q, idl]; exact Nat.le_refl _⟩
    ·rintro (q | ⟨q1 | q1, q2⟩)
     ·exact ⟨hv, .inl q⟩
     ·rw [idv v q1] at q2
      have := List.idxOf_lt_length_of_mem q1
      omega
     ·exact ⟨hv, .inr q1⟩
theorem way_law (M : Img) (hin : ∀ a : Nat, ∀ v ∈ nextAt M a, 0 ≤ v ∧ v < (M.code.length : Int)) (e : Nat) (he : e < M.code.length) :
  (∃ n0, (wayS M e).l = n0 ++ [(e : Int)]) ∧ (wayS M e).l.Nodup ∧ (∀ x ∈ (wayS M e).l, 0 ≤ x ∧ x < (M.code.length : Int)) ∧ (∀ u ∈ (wayS M e).l, ∀ v ∈ nextAt M u.toNat, v ∈ (wayS M e).l) ∧ ∀ u ∈ (wayS M e).l, ∀ v ∈ nextAt M u.toNat, ((u, v) ∈ (wayS M e).b ↔ (wayS M e).l.idxOf u ≤ (wayS M e).l.idxOf v) := by
 have h0 : ∀ i : Nat, i < M.code.length → (List.replicate M.code.length 0)[i]? = some 0 := fun i hi => by rw [List.getElem?_replicate, if_pos hi]
 obtain ⟨n0, eb, h⟩ := vis_dw (nextAt M) (fun a v hv => (hin a v hv).1) M.code.length e ⟨List.replicate M.code.length 0, [], []⟩ (h0 e he) (Nat.le_of_eq (whites_rep _))
 have hl : (wayS M e).l = n0 ++ [(e : Int)] := by unfold wayS; rw [h.hl, List.nil_append]
 have hb : (wayS M e).b = eb := by unfold wayS; rw [h.hb, List.nil_append]
 have rng : ∀ x ∈ n0 ++ [(e : Int)], 0 ≤ x ∧ x < (M.code.length : Int) := fun x hx => by
  have h1 := h.inr x hx
  have h2 := h.wh x hx
  dsimp only at h2
  rw [List.getElem?_replicate] at h2
  split at h2
  ·rename_i hlt; omega
  ·cases h2
 have cl : ∀ u ∈ n0 ++ [(e : Int)], ∀ v ∈ nextAt M u.toNat, v ∈ n0 ++ [(e : Int)] := fun u hu v hv => by
  apply Classical.byContradiction
  intro hn
  have h1 := h.cl u hu v hv
  have hv0 := hin _ v hv
  rw [h.un' hv0.1 hn] at h1
  exact h1 (h0 _ (by omega))
 rw [hl, hb]
 refine ⟨⟨n0, rfl⟩, h.nd, rng, cl, fun u hu v hv => ?_⟩
 rw [h.ed u hu v hv]
 dsimp only
 constructor
 ·rintro (q | ⟨_, q⟩)
  ·rw [List.getElem?_replicate] at q; split at q <;> simp at q
  ·exact q
 ·exact fun q => .inr ⟨cl u hu v hv, q⟩
theorem vis_sub (nx : Nat → List Int) (Q : Int → Prop) (h0 : ∀ v, Q v → 0 ≤ v) (hQ : ∀ u : Nat, Q (u : Int) → ∀ v ∈ nx u, Q v) : ∀ (k a : Nat) (s : DS), Q (a : Int) → (∀ x ∈ s.l, Q x) → ∀ x ∈ (visP nx k a s).l, Q x
 | 0, _, s, _, hs => hs
 | k + 1, a, s, ha, hs => by
  have fold : ∀ l : List Int, (∀ x ∈ l, Q x) → ∀ x ∈ (l.foldr (visStep (visP nx k) a) (greyS a s)).l, Q x := by
   intro l
   induction l with
   | nil => exact fun _ => hs
   | cons y r ih =>
    intro hl
    have h1 := ih (fun x hx => hl x (List.mem_cons_of_mem _ hx))
    have hy := hl y List.mem_cons_self
    rw [List.foldr_cons]
    generalize r.foldr (visStep (visP nx k) a) (greyS a s) = t at *
    unfold visStep
    split
    ·exact vis_sub nx Q h0 hQ k y.toNat t (by rw [Int.toNat_of_nonneg (h0 y hy)]; exact hy) h1
    ·exact h1
    ·exact h1
  rw [visP, endS]
  dsimp only
  intro x hx
  rcases List.mem_append.1 hx with h | h
  ·exact fold (nx a) (hQ a ha) x h
  ·rw [List.mem_singleton.1 h]; exact ha
theorem idx_rev : ∀ (l : List Int) (x : Int), x ∈ l → l.Nodup → l.reverse.idxOf x + l.idxOf x + 1 = l.length
 | [], x, h, _ => by simp at h
 | y :: r, x, h, hn => by
  obtain ⟨hy, hr⟩ := List.nodup_cons.1 hn
  rw [List.reverse_cons, List.idxOf_append, List.length_cons]
  by_cases e : y = x
  ·subst e
   have : y ∉ r.reverse := fun h => hy (List.mem_reverse.1 h)
   rw [if_neg this]
   simp
  ·have hx : x ∈ r := (List.mem_cons.1 h).resolve_left (fun q => e q.symm)
   have hb : (y == x) = false := by simpa using e
   have e2 : List.idxOf x (y :: r) = List.idxOf x r + 1 := by rw [List.idxOf_cons, hb]; rfl
   rw [if_pos (List.mem_reverse.2 hx), e2]
   have := idx_rev r x hx hr
   omega
theorem sortZ_strict (l : List Int) (hn : l.Nodup) (i : Nat) (x y : Int) (hx : (sortZ l)[i]? = some x) (hy : (sortZ l)[i + 1]? = some y) : x < y := by
 have hp : (sortZ l).Pairwise fun a b => decide (a ≤ b) = true := List.pairwise_mergeSort (fun a b c h k => by simp only [decide_eq_true_eq] at *; omega) (fun a b => by simp only [Bool.or_eq_true, decide_eq_true_eq]; omega) l
 have hd : (sortZ l).Nodup := (List.mergeSort_perm l _).nodup_iff.2 hn
 obtain ⟨h1, rfl⟩ := List.getElem?_eq_some_iff.1 hx
 obtain ⟨h2, rfl⟩ := List.getElem?_eq_some_iff.1 hy
 have h3 := List.pairwise_iff_getElem.1 hp i (i + 1) h1 h2 (by omega)
 simp only [decide_eq_true_eq] at h3
 have h4 : (sortZ l)[i] ≠ (sortZ l)[i + 1] := fun e => by
  have := (List.getElem_inj (h₀ := h1) (h₁ := h2) hd).1 e
  omega
 omega
end AG
