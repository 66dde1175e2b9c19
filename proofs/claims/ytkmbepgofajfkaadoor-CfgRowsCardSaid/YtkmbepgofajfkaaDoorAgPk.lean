/- What the functions that read images and paths compute, and the laws of that. -/
import Derived.Test.YtkmbepgofajfkaaDoorAgPj
namespace AG
open Go Go.Proofs.YtkmbepgofajfkaaDoor
set_option maxRecDepth 100000
set_option maxHeartbeats 4000000
def aheS (M : Img) (fr : Nat) (at' : Int) (_ : Nat) (i : Nat) (acc : List Int) : Stp (List Int) Unit := .go (if (nextAt M (fr + i)).contains at' = true then acc ++ [((fr + i : Nat) : Int)] else acc)
def aheG (M : Img) (fr : Nat) (at' : Int) (is : List Nat) : List Int := (is.filter fun (i : Nat) => (nextAt M (fr + i)).contains at').map fun (i : Nat) => ((fr + i : Nat) : Int)
theorem fold_ahe (M : Img) (fr : Nat) (at' : Int) : ∀ (is : List Nat) (i : Nat) (acc : List Int), foldS (aheS M fr at') is i acc = .inl (acc ++ aheG M fr at' is)
 | [], i, acc => by simp [foldS, aheG]
 | g :: r, i, acc => by
  simp only [foldS, aheS]
  rw [fold_ahe M fr at' r (i + 1) _]
  by_cases h : (nextAt M (fr + g)).contains at' = true
  ·simp only [h, if_true, aheG, List.filter_cons_of_pos, List.map_cons, List.append_assoc, List.singleton_append]
  ·simp only [h, aheG]
   rw [List.filter_cons_of_neg (by simpa using h)]
   simp
theorem Ahead_run (N : Nat) (m : Mem) (I : ImV) (M : Img) (hm : IM m I M) (hT : Tab m) (m0 : Mem) (NC KC : Nat) (hck : CkOk m0 I M NC KC 54 0) (he : Ext m0 m) (hco : CodesOk M) (hlc : M.code.length ≤ 20000) (hlf : M.funcs.length ≤ 1000) (at' : Int) (f fr te : Nat) (hof : ofP M 0 at' = ((f : Int), true)) (hra : rangeP M 0 (f : Int) = ((fr : Int), (te : Int))) (hft : fr ≤ te) (hte : te ≤ M.code.length) (hmn : m.n + 2 * KC + 10 * M.code.length + 60 ≤ 2 ^ depth) (hN : NC + M.funcs.length + M.code.length + 60 ≤ N) :
  ∃ v m', run A N 47 [.agg [I.c, I.f, I.v, .int .i64 M.main, I.i, I.p, .int .i64 M.stack, I.a], .int .i64 at'] m = some (v, m') ∧ IS m.n m' v (aheG M fr at' (List.range (te - fr))) ∧ Gr m m' (2 * KC + 6 * M.code.length) := by
 obtain ⟨n, rfl⟩ : ∃ n, N = n + 1 := ⟨N - 1, by omega⟩
 obtain ⟨pc1, pc2, pc3, pc4⟩ := hm.c.plain
 have lc := hm.c.lenR
 obtain ⟨pf1, pf2, pf3, pf4⟩ := hm.f.plain
 have lf := hm.f.lenR
 obtain ⟨pv1, pv2, pv3, pv4⟩ := hm.v.plain
 have lv := hm.v.lenR
 obtain ⟨pi1, pi2, pi3, pi4⟩ := hm.i.plain
 have li := hm.i.lenR
 obtain ⟨pp1, pp2, pp3, pp4⟩ := hm.p.plain
 have lp := hm.p.lenR
 obtain ⟨pa1, pa2, pa3, pa4⟩ := hm.a.plain
 have la := hm.a.lenR
 obtain ⟨m1, ho, hg1⟩ := of_run n m I M hm (by omega) m0 0 NC KC hck he (by omega) (by omega) at'
 rw [hof] at ho
 dsimp only at ho
 have hgn1 := hg1.2
 obtain ⟨m2, hr, hg2⟩ := range_run n m1 I M (hm.ext hg1.1) (by omega) m0 0 NC KC hck (he.trans hg1.1) (by omega) (by omega) (f : Int)
 rw [hra] at hr
 dsimp only at hr
 have hgn2 := hg2.2
 have e2 := hg1.1.trans hg2.1
 have e2n := e2.1
 rw [run_47]
 unfold fnEv a47
 simp only [KK, Nat.reduceEqDiff, Nat.reduceAdd, Nat.reduceLeDiff, Nat.reduceLT, ho, hr]
 generalize hq : codeEv (run A n) (ev A n).2 a47_L1 _ = q
 have h := scan0 (A := A) a47_L1 a47_B1 a47_L1_step
  (fun i (acc : List Int) s => ∃ T L m3 v, s = ⟨41, T, L, m3⟩ ∧ keepT [1, 2, 8, 9, 10] [2] T = [(1, .int .i64 at'), (2, .loc 2 0), (8, .int .i64 (te : Int)), (9, v), (10, .int .i64 ((fr + i : Nat) : Int))] ∧ lookL L 2 = some [I.c, I.f, I.v, .int .i64 M.main, I.i, I.p, .int .i64 M.stack, I.a] ∧ IS m2.n m3 v acc ∧ Ext m2 m3 ∧ m3.n ≤ m2.n + 6 * i ∧ acc.length ≤ i)
  (fun acc s => ∃ T L m3 v, s = ⟨41, T, L, m3⟩ ∧ keepT [9] [] T = [(9, v)] ∧ IS m2.n m3 v acc ∧ Ext m2 m3 ∧ m3.n ≤ m2.n + 6 * (te - fr))
  (fun (_ : Unit) s => False) 0 50 (aheS M fr at') (List.range (te - fr))
  (fun N acc s hN ⟨T, L, m3, v, hs, hk, hL, ho, he2, hn2, hal⟩ => by
   subst hs
   rw [List.length_range] at hk hn2
   have h' : ¬ ((fr + (te - fr) : Nat) : Int) < (te : Int) := by omega
   obtain ⟨v1, v2, v3, v4⟩ := ho.pl
   unfold a47_B1
   exact ⟨_, by simp only [KK, Nat.reduceEqDiff, Nat.reduceLT, hk, hL, h']; rfl, _, _, m3, v, rfl, by simp only [keepT, List.map, look_set, look_cons, Nat.reduceEqDiff, if_true, if_false, v1], ho, he2, hn2⟩)
  (fun N i g acc s hN hx ⟨T, L, m3, v, hs, hk, hL, ho, he2, hn2, hal⟩ => by
   subst hs
   have hil : i < te - fr := by have := (List.getElem?_eq_some_iff.1 hx).1; rwa [List.length_range] at this
   have hg : g = i := by rw [List.getElem?_range hil] at hx; exact (Option.some.inj hx).symm
   subst hg
   obtain ⟨v1, v2, v3, v4⟩ := ho.pl
   have h' : ((fr + g : Nat) : Int) < (te : Int) := by omega
   have a1 := add_i (fr + g) (by omega)
   have e3 := e2.trans he2
   obtain ⟨x, hxx⟩ : ∃ x, M.code[fr + g]? = some x := ⟨_, List.getElem?_eq_getElem (by omega)⟩
   have hna : nextAt M (fr + g) = nextI x ((fr + g : Nat) : Int) := by unfold nextAt; rw [hxx]
   obtain ⟨u, m4, hnx, hu, hg4, _⟩ := next_run N (by omega) m3 I M (hm.ext e3) (hT.ext e3) (fr + g) x hxx (hco _ x hxx) (by omega) (by omega)
   have hgn4 := hg4.2
   have hle := nextI_len x ((fr + g : Nat) : Int)
   have hct := contains_run N m4 u _ (.inl hu) (by omega) at' (by omega)
   obtain ⟨u1, u2, u3, u4⟩ := hu.plain
   unfold aheS
   dsimp only
   rw [hna]
   unfold a47_B1
   have ho4 : IS m2.n m4 v acc := OS.ext ho hg4.1
   have e4 := he2.trans hg4.1
   cases hc : (nextI x ((fr + g : Nat) : Int)).contains at'
   ·rw [hc] at hct
    rw [if_neg (by simp)]
    exact ⟨_, by simp only [KK, opE_mkslc, Nat.reduceEqDiff, Nat.reduceAdd, Nat.reduceLeDiff, Nat.reduceLT, Nat.reducePow, Nat.mul_one, hk, hL, h', v1, hnx, u2, hct, a1]; rfl, _, _, m4, v, rfl, by simp only [keepT, List.map, look_set, look_cons, in_int, in_loc, Nat.reduceEqDiff, if_true, if_false, List.contains_cons, List.contains_nil, beq_self_eq_true, Bool.or_false, v1]; rfl, by simp only [lookL_cons, if_true], ho4, e4, by omega, by omega⟩
   ·rw [hc] at hct
    rw [if_pos rfl]
    obtain ⟨v', m5, ha, ho3, n3, n4, k3, y1, y2, hf⟩ := push_int ho4 ((fr + g : Nat) : Int) (by omega) e4.1 (by omega)
    exact ⟨_, by simp only [KK, opE_mkslc, Nat.reduceEqDiff, Nat.reduceAdd, Nat.reduceLeDiff, Nat.reduceLT, Nat.reducePow, Nat.mul_one, hk, hL, h', v1, hnx, u2, hct, a1, hf, zer1, ha, y1]; rfl, _, _, m5, v', rfl, by simp only [keepT, List.map, look_set, look_cons, in_int, in_loc, Nat.reduceEqDiff, if_true, if_false, List.contains_cons, List.contains_nil, beq_self_eq_true, Bool.or_false, y1]; rfl, by simp only [lookL_cons, if_true], ho3, ⟨by have := e4.1; omega, fun j hj => (k3 j hj).trans (e4.2 j hj)⟩, by omega, by rw [List.length_append, List.length_singleton]; omega⟩)
  n [] _ (by rw [List.length_range]; omega) ⟨_, _, m2, .nils, rfl, by simp only [keepT, List.map, look_set, look_cons, in_int, in_nils, in_loc, Nat.reduceEqDiff, if_true, if_false, List.contains_cons, List.contains_nil, beq_self_eq_true, Bool.or_false]; rfl, by simp only [lookL_cons, if_true], IS.nil _ _, Ext.refl _, by omega, by simp⟩ hq
 rw [fold_ahe, List.nil_append] at h
 obtain ⟨s', e, T', L', m3, v, rfl, hk', ho3, he2, hn2⟩ := h
 subst e
 obtain ⟨v1, v2, v3, v4⟩ := ho3.pl
 exact ⟨v, m3, by simp only [look_set, look_nil, look_cons, Nat.reduceEqDiff, Nat.reduceLT, if_true, if_false, Bool.false_eq_true, hk', v2], OS.low ho3 e2.1, ⟨e2.trans he2, by omega⟩⟩
def plE : List Int → Nat → List (AV × AV × Nat)
 | [], _ => []
 | x :: r, c => (.int .i64 x, .int .i64 (c : Int), c) :: plE r (c + 1)
theorem plE_len : ∀ (l : List Int) (c : Nat), (plE l c).length = l.length
 | [], _ => rfl
 | x :: r, c => by rw [plE, List.length_cons, plE_len r, List.length_cons]
theorem plE_app : ∀ (l : List Int) (x : Int) (c : Nat), plE (l ++ [x]) c = plE l c ++ [(.int .i64 x, .int .i64 ((c + l.length : Nat) : Int), c + l.length)]
 | [], x, c => by simp [plE]
 | y :: r, x, c => by
  rw [List.cons_append, plE, plE, plE_app r x (c + 1), List.cons_append, List.length_cons]
  have e : c + 1 + r.length = c + (r.length + 1) := by omega
  rw [e]
theorem find_pl (x : Int) : ∀ (l : List Int) (c j : Nat), (x ∉ l ∧ findK .int (.int .i64 x) (plE l c) j = some none) ∨ (x ∈ l ∧ findK .int (.int .i64 x) (plE l c) j = some (some (j + l.idxOf x, .int .i64 ((c + l.idxOf x : Nat) : Int))))
 | [], c, j => .inl ⟨by simp, rfl⟩
 | y :: r, c, j => by
  by_cases h : x = y
  ·subst h
   refine .inr ⟨by simp, ?_⟩
   simp only [plE, findK, keyEq, if_true, beq_self_eq_true, List.idxOf_cons_self, Nat.add_zero]
  ·have hb : (x == y) = false := by simpa using h
   have hb2 : (y == x) = false := by simpa using fun e => h e.symm
   rcases find_pl x r (c + 1) (j + 1) with ⟨h1, h2⟩ | ⟨h1, h2⟩
   ·exact .inl ⟨by simp [h, h1], by simp only [plE, findK, keyEq, if_true, hb, h2]⟩
   ·refine .inr ⟨by simp [h1], ?_⟩
    simp only [plE, findK, keyEq, if_true, hb, h2]
    rw [List.idxOf_cons, hb2]
    simp only [cond_false]
    congr 3
    ·omega
    ·congr 2; omega
theorem pl_put {m : Mem} {P : Nat} {l : List Int} (h : m.get P = some (.map (plE l 0) l.length)) (x : Int) (hx : x ∉ l) : xmEv (.mup .int) [.map P, .int .i64 x, .int .i64 (l.length : Int)] m = some (.unk, m.set P (.map (plE (l ++ [x]) 0) (l ++ [x]).length)) := by
 rcases find_pl x l 0 0 with ⟨_, h2⟩ | ⟨h1, _⟩
 ·have e : keyEq .int (.int .i64 x) (.int .i64 x) = some true := by simp [keyEq]
  simp only [xmEv, h, h2, e, plE_app, Nat.zero_add, List.length_append, List.length_singleton]
 ·exact absurd h1 hx
theorem pl_look {m : Mem} {P c : Nat} {l : List Int} (h : m.get P = some (.map (plE l 0) c)) (x : Int) (hx : x ∈ l) : xmEv (.mlk .int (.int .i64 0) true) [.map P, .int .i64 x] m = some (.tup [.int .i64 (l.idxOf x : Int), .bool true], m) := by
 rcases find_pl x l 0 0 with ⟨h1, _⟩ | ⟨_, h2⟩
 ·exact absurd hx h1
 ·simp only [xmEv, h, h2, if_true, Nat.zero_add]
theorem pl_len {m : Mem} {P c : Nat} {l : List Int} (h : m.get P = some (.map (plE l 0) c)) : xmEv .lenM [.map P] m = some (.int .i64 (l.length : Int), m) := by
 simp only [xmEv, h, plE_len]
def bE : List ((Int × Int) × Nat) → List (AV × AV × Nat)
 | [] => []
 | (p, c) :: r => (.agg [.int .i64 p.1, .int .i64 p.2], .bool true, c) :: bE r
theorem bE_app : ∀ (l : List ((Int × Int) × Nat)) (p : Int × Int) (c : Nat), bE (l ++ [(p, c)]) = bE l ++ [(.agg [.int .i64 p.1, .int .i64 p.2], .bool true, c)]
 | [], _, _ => rfl
 | (q, d) :: r, p, c => by rw [List.cons_append, bE, bE, bE_app r, List.cons_append]
theorem find_b (p : Int × Int) : ∀ (l : List ((Int × Int) × Nat)) (j : Nat), (p ∉ l.map Prod.fst ∧ findA (.agg [.int .i64 p.1, .int .i64 p.2]) (bE l) j = some none) ∨ (p ∈ l.map Prod.fst ∧ ∃ i, findA (.agg [.int .i64 p.1, .int .i64 p.2]) (bE l) j = some (some (j + i, .bool true)) ∧ setE (bE l) i (.agg [.int .i64 p.1, .int .i64 p.2]) (.bool true) = bE l)
 | [], j => .inl ⟨by simp, rfl⟩
 | (q, d) :: r, j => by
  by_cases h : p = q
  ·subst h
   exact .inr ⟨by simp, 0, by simp only [bE, findA, keyEq2, beq_self_eq_true, Bool.and_self, Nat.add_zero], rfl⟩
  ·have hb : (p.1 == q.1 && p.2 == q.2) = false := by
    rw [Bool.and_eq_false_iff]
    by_cases h1 : p.1 = q.1
    ·exact .inr (by rw [beq_eq_false_iff_ne]; exact fun h2 => h (Prod.ext h1 h2))
    ·exact .inl (by rw [beq_eq_false_iff_ne]; exact h1)
   rcases find_b p r (j + 1) with ⟨h1, h2⟩ | ⟨h1, i, h2, h3⟩
   ·exact .inl ⟨by rw [List.map_cons, List.mem_cons, not_or]; exact ⟨h, h1⟩, by simp only [bE, findA, keyEq2, hb, h2]⟩
   ·refine .inr ⟨by rw [List.map_cons]; exact List.mem_cons_of_mem _ h1, i + 1, ?_, by simp only [bE, setE, h3]⟩
    simp only [bE, findA, keyEq2, hb, h2]
    congr 3; omega
theorem bk_put {m : Mem} {B c : Nat} {l : List ((Int × Int) × Nat)} (h : m.get B = some (.map (bE l) c)) (p : Int × Int) : ∃ l' c', xmEv .mup2 [.map B, .agg [.int .i64 p.1, .int .i64 p.2], .bool true] m = some (.unk, m.set B (.map (bE l') c')) ∧ ∀ q, q ∈ l'.map Prod.fst ↔ q ∈ l.map Prod.fst ∨ q = p := by
 have e : keyEq2 (.agg [.int .i64 p.1, .int .i64 p.2]) (.agg [.int .i64 p.1, .int .i64 p.2]) = some true := by simp [keyEq2]
 rcases find_b p l 0 with ⟨h1, h2⟩ | ⟨h1, i, h2, h3⟩
 ·exact ⟨l ++ [(p, c)], c + 1, by simp only [xmEv, h, h2, e, bE_app], fun q => by rw [List.map_append, List.mem_append]; simp⟩
 ·exact ⟨l, c, by simp only [xmEv, h, h2, e, Nat.zero_add, h3], fun q => ⟨fun hq => .inl hq, fun hq => hq.elim id (fun e => e ▸ h1)⟩⟩
theorem bk_look {m : Mem} {B c : Nat} {l : List ((Int × Int) × Nat)} (h : m.get B = some (.map (bE l) c)) (u w : Int) : xmEv (.mlk2 (.bool false) false) [.map B, .agg [.int .i64 u, .int .i64 w]] m = some (.bool (decide ((u, w) ∈ l.map Prod.fst)), m) := by
 have e : keyEq2 (.agg [.int .i64 u, .int .i64 w]) (.agg [.int .i64 u, .int .i64 w]) = some true := by simp [keyEq2]
 rcases find_b (u, w) l 0 with ⟨h1, h2⟩ | ⟨h1, i, h2, _⟩
 ·dsimp only at h2
  rw [decide_eq_false h1]
  simp only [xmEv, h, h2, e, Bool.false_eq_true, if_false]
 ·dsimp only at h2
  rw [decide_eq_true h1]
  simp only [xmEv, h, h2, e, Bool.false_eq_true, if_false]
def orS (u : Int) (_ : Nat) (x : Int) (b : Bool) : Stp Bool Unit := .go (b || decide (x = u))
theorem fold_or (u : Int) : ∀ (l : List Int) (i : Nat) (b : Bool), foldS (orS u) l i b = .inl (b || l.any fun x => decide (x = u))
 | [], i, b => by simp [foldS]
 | x :: r, i, b => by
  simp only [foldS, orS]
  rw [fold_or u r (i + 1) _, List.any_cons, Bool.or_assoc]
theorem rw_l1 (m : Mem) (I : ImV) (M : Img) (v5 v14 v19 : AV) (al nl ah : List Int) (h5 : RS (fun z => [AV.int .i64 z]) 1 m v5 al) (h14 : RS (fun z => [AV.int .i64 z]) 1 m v14 nl) (h19 : RS (fun z => [AV.int .i64 z]) 1 m v19 ah) (f P B i p k : Nat) (u : Int) (hu : al[i]? = some u) (hah : ah.length ≤ 100000) (N : Nat) (T : List (Nat × AV)) (L : List (Nat × List AV)) (hN : ah.length + 1 ≤ N)
  (hk : keepT [1, 3, 5, 6, 8, 11, 12, 14, 15, 18, 19, 20] [1] T = [(1, .loc 1 0), (3, .int .i64 (f : Int)), (5, v5), (6, .map P), (8, .map B), (11, .int .i64 (i : Int)), (12, .int .i64 (p : Int)), (14, v14), (15, .int .i64 (k : Int)), (18, .bool false), (19, v19), (20, .int .i64 0)]) (hL : lookL L 1 = some [I.c, I.f, I.v, .int .i64 M.main, I.i, I.p, .int .i64 M.stack, I.a]) {q : Option (Ex × St)} (hq : codeEv (run A N) (ev A N).2 a9_L1 ⟨195, T, L, m⟩ = q) :
  ∃ T' L', q = some (.exit 10, ⟨195, T', L', m⟩) ∧ keepT [1, 3, 5, 6, 8, 11, 12, 14, 15, 18] [1] T' = [(1, .loc 1 0), (3, .int .i64 (f : Int)), (5, v5), (6, .map P), (8, .map B), (11, .int .i64 (i : Int)), (12, .int .i64 (p : Int)), (14, v14), (15, .int .i64 (k : Int)), (18, .bool (ah.any fun x => decide (x = u)))] ∧ lookL L' 1 = some [I.c, I.f, I.v, .int .i64 M.main, I.i, I.p, .int .i64 M.stack, I.a] := by
 obtain ⟨a1, a2, a3, a4⟩ := h5.plain
 obtain ⟨b1, b2, b3, b4⟩ := h14.plain
 obtain ⟨c1, c2, c3, c4⟩ := h19.plain
 have lc := h19.lenR
 have h := scan0 (A := A) a9_L1 a9_B1 a9_L1_step (fun x (b : Bool) s => ∃ T L, s = ⟨195, T, L, m⟩ ∧ keepT [1, 3, 5, 6, 8, 11, 12, 14, 15, 18, 19, 20] [1] T = [(1, .loc 1 0), (3, .int .i64 (f : Int)), (5, v5), (6, .map P), (8, .map B), (11, .int .i64 (i : Int)), (12, .int .i64 (p : Int)), (14, v14), (15, .int .i64 (k : Int)), (18, .bool b), (19, v19), (20, .int .i64 (x : Int))] ∧ lookL L 1 = some [I.c, I.f, I.v, .int .i64 M.main, I.i, I.p, .int .i64 M.stack, I.a]) (fun b s => ∃ T L, s = ⟨195, T, L, m⟩ ∧ keepT [1, 3, 5, 6, 8, 11, 12, 14, 15, 18] [1] T = [(1, .loc 1 0), (3, .int .i64 (f : Int)), (5, v5), (6, .map P), (8, .map B), (11, .int .i64 (i : Int)), (12, .int .i64 (p : Int)), (14, v14), (15, .int .i64 (k : Int)), (18, .bool b)] ∧ lookL L 1 = some [I.c, I.f, I.v, .int .i64 M.main, I.i, I.p, .int .i64 M.stack, I.a]) (fun (_ : Unit) s => False) 10 1 (orS u) ah
  (fun N b s hN ⟨T, L, hs, hk, hL⟩ => by
   subst hs
   have h' : ¬ (ah.length : Int) < (ah.length : Int) := by omega
   unfold a9_B1
   exact ⟨_, by simp only [KK, Nat.reduceEqDiff, Nat.reduceLT, hk, hL, h', lc]; rfl, _, _, rfl, by simp only [keepT, List.map, look_set, look_cons, in_int, in_bool, in_loc, Nat.reduceEqDiff, if_true, if_false, List.contains_cons, List.contains_nil, beq_self_eq_true, Bool.or_false, in_map, a1, b1], by simp only [lookL_cons, if_true]⟩)
  (fun N x y b s hN hx ⟨T, L, hs, hk, hL⟩ => by
   subst hs
   have hlt := (List.getElem?_eq_some_iff.1 hx).1
   have h' : (x : Int) < (ah.length : Int) := by omega
   have ad := add_i x (by omega)
   obtain ⟨g1, g2, g3, g4, e1, e2, e3⟩ := h19.i1 hx
   obtain ⟨j1, j2, j3, j4, d1, d2, d3⟩ := h5.i1 hu
   unfold orS
   dsimp only
   unfold a9_B1 a9_R8
   cases b
   ·cases hd : decide (y = u)
    ·exact ⟨_, by simp only [KK, Nat.reduceEqDiff, Nat.reduceLT, AOp.kd, kd_rm, logOk_nil', hk, hL, h', a1, b1, c1, lc, e1, e2, e3, d1, d2, d3, hd, ad]; rfl, _, _, rfl, by simp only [keepT, List.map, look_set, look_cons, in_int, in_bool, in_loc, Nat.reduceEqDiff, if_true, if_false, List.contains_cons, List.contains_nil, beq_self_eq_true, Bool.or_false, in_map, a1, b1, c1], by simp only [lookL_cons, if_true]⟩
    ·exact ⟨_, by simp only [KK, Nat.reduceEqDiff, Nat.reduceLT, AOp.kd, kd_rm, logOk_nil', hk, hL, h', a1, b1, c1, lc, e1, e2, e3, d1, d2, d3, hd, ad]; rfl, _, _, rfl, by simp only [keepT, List.map, look_set, look_cons, in_int, in_bool, in_loc, Nat.reduceEqDiff, if_true, if_false, List.contains_cons, List.contains_nil, beq_self_eq_true, Bool.or_false, Bool.or_true, in_map, a1, b1, c1], by simp only [lookL_cons, if_true]⟩
   ·exact ⟨_, by simp only [KK, Nat.reduceEqDiff, Nat.reduceLT, AOp.kd, logOk_nil', hk, hL, h', a1, b1, c1, lc, ad]; rfl, _, _, rfl, by simp only [keepT, List.map, look_set, look_cons, in_int, in_bool, in_loc, Nat.reduceEqDiff, if_true, if_false, List.contains_cons, List.contains_nil, beq_self_eq_true, Bool.or_false, Bool.true_or, in_map, a1, b1, c1], by simp only [lookL_cons, if_true]⟩)
  N false ⟨195, T, L, m⟩ (by omega) ⟨T, L, rfl, hk, hL⟩ hq
 rw [fold_or, Bool.false_or] at h
 obtain ⟨s', e, T', L', rfl, h3, h4⟩ := h
 exact ⟨T', L', e, h3, h4⟩
structure RC (m0 : Mem) (I : ImV) (M : Img) (NC KC : Nat) (f fr te P B : Nat) (R al : List Int) (lb : List ((Int × Int) × Nat)) (v5 : AV) (mb : Mem) : Prop where
 im : IM mb I M
 tab : Tab mb
 ck : CkOk m0 I M NC KC 54 0
 ext : Ext m0 mb
 co : CodesOk M
 lc : M.code.length ≤ 60
 lf : M.funcs.length ≤ 80
 ra : rangeP M 0 (f : Int) = ((fr : Int), (te : Int))
 ft : fr ≤ te
 tle : te ≤ M.code.length
 gp : mb.get P = some (.map (plE R 0) R.length)
 gb : ∃ c, mb.get B = some (.map (bE lb) c)
 v5 : RS (fun z => [AV.int .i64 z]) 1 mb v5 al
 all : al.length ≤ 60
 ofp : ∀ w ∈ R, ofP M 0 w = ((f : Int), true) ∧ 0 ≤ w ∧ w < (M.code.length : Int)
 inr : ∀ u ∈ al, u ∈ R
 nx : ∀ u ∈ al, ∀ w ∈ nextAt M u.toNat, w ∈ R ∧ ((u, w) ∈ lb.map Prod.fst ↔ R.idxOf w ≤ R.idxOf u) ∧ u ∈ aheG M fr w (List.range (te - fr))
theorem ah_len (M : Img) (fr : Nat) (at' : Int) (is : List Nat) : (aheG M fr at' is).length ≤ is.length := by
 unfold aheG
 rw [List.length_map]
 exact List.length_filter_le _ _
theorem rw_l2b (m0 : Mem) (I : ImV) (M : Img) (NC KC f fr te P B : Nat) (R al : List Int) (lb : List ((Int × Int) × Nat)) (v5 : AV) (mb : Mem) (h : RC m0 I M NC KC f fr te P B R al lb v5 mb) (m : Mem) (he : Ext mb m) (i : Nat) (u : Int) (hu : al[i]? = some u) (v14 : AV) (h14 : RS (fun z => [AV.int .i64 z]) 1 m v14 (nextAt M u.toNat)) (k : Nat) (w : Int) (hw : (nextAt M u.toNat)[k]? = some w) (hkl : k ≤ 1000) (N : Nat) (hN : NC + 1000 ≤ N) (hmn : m.n + 2 * KC + 1000 ≤ 2 ^ depth) (T : List (Nat × AV)) (L : List (Nat × List AV))
  (hk : keepT [1, 3, 5, 6, 8, 11, 12, 14, 15] [1] T = [(1, .loc 1 0), (3, .int .i64 (f : Int)), (5, v5), (6, .map P), (8, .map B), (11, .int .i64 (i : Int)), (12, .int .i64 (R.idxOf u : Int)), (14, v14), (15, .int .i64 (k : Int))]) (hL : lookL L 1 = some [I.c, I.f, I.v, .int .i64 M.main, I.i, I.p, .int .i64 M.stack, I.a]) (hkn : k < (nextAt M u.toNat).length) :
  ∃ T' L' m', codeEv (run A N) (ev A N).2 a9_B2 ⟨195, T, L, m⟩ = some (.norm, ⟨195, T', L', m'⟩) ∧ keepT [1, 3, 5, 6, 8, 11, 12, 14, 15] [1] T' = [(1, .loc 1 0), (3, .int .i64 (f : Int)), (5, v5), (6, .map P), (8, .map B), (11, .int .i64 (i : Int)), (12, .int .i64 (R.idxOf u : Int)), (14, v14), (15, .int .i64 ((k + 1 : Nat) : Int))] ∧ lookL L' 1 = some [I.c, I.f, I.v, .int .i64 M.main, I.i, I.p, .int .i64 M.stack, I.a] ∧ Ext m m' ∧ m'.n ≤ m.n + 2 * KC + 400 := by
 have hm := h.im.ext he
 obtain ⟨pc1, pc2, pc3, pc4⟩ := hm.c.plain
 have lc := hm.c.lenR
 obtain ⟨pf1, pf2, pf3, pf4⟩ := hm.f.plain
 have lf := hm.f.lenR
 obtain ⟨pv1, pv2, pv3, pv4⟩ := hm.v.plain
 have lv := hm.v.lenR
 obtain ⟨pi1, pi2, pi3, pi4⟩ := hm.i.plain
 have li := hm.i.lenR
 obtain ⟨pp1, pp2, pp3, pp4⟩ := hm.p.plain
 have lp := hm.p.lenR
 obtain ⟨pa1, pa2, pa3, pa4⟩ := hm.a.plain
 have la := hm.a.lenR
 have h5 := h.v5.ext he
 have hul := List.mem_of_getElem? hu
 obtain ⟨hwR, hbk, hah⟩ := h.nx u hul w (List.mem_of_getElem? hw)
 obtain ⟨hof, hw0, hwl⟩ := h.ofp w hwR
 obtain ⟨cb, gb⟩ := h.gb
 have gp := (he.2 _ (Mem.get_lt h.gp)).trans h.gp
 have gb' := (he.2 _ (Mem.get_lt gb)).trans gb
 have lp := pl_look gp w hwR
 have lk := bk_look gb' u w
 obtain ⟨a1, a2, a3, a4⟩ := h5.plain
 obtain ⟨b1, b2, b3, b4⟩ := h14.plain
 have lb' := h14.lenR
 have hlc := h.lc
 have hlf := h.lf
 have hte := h.tle
 have h' : (k : Int) < ((nextAt M u.toNat).length : Int) := by omega
 have ad := add_i k (by omega)
 obtain ⟨g1, g2, g3, g4, e1, e2, e3⟩ := h14.i1 hw
 obtain ⟨j1, j2, j3, j4, d1, d2, d3⟩ := h5.i1 hu
 obtain ⟨v19, m2, hrun, h19, hg⟩ := Ahead_run N m I M hm (h.tab.ext he) m0 NC KC h.ck (h.ext.trans he) h.co (by omega) (by omega) w f fr te hof h.ra h.ft h.tle (by omega) (by omega)
 obtain ⟨c1, c2, c3, c4⟩ := h19.pl
 have hg2 := hg.2
 have hal := ah_len M fr w (List.range (te - fr))
 rw [List.length_range] at hal
 have hbq : decide ((R.idxOf w : Int) ≤ (R.idxOf u : Int)) = decide ((u, w) ∈ lb.map Prod.fst) := by
  rw [decide_eq_decide, hbk]; omega
 have hany : ((aheG M fr w (List.range (te - fr))).any fun x => decide (x = u)) = true := by
  rw [List.any_eq_true]
  exact ⟨u, hah, by simp⟩
 unfold a9_B2 a9_R6 a9_R7
 have x0 : splice [AV.int .i64 0, .int .i64 0] 0 [.int .i64 u] = [.int .i64 u, .int .i64 0] := rfl
 have x1 : splice [AV.int .i64 u, .int .i64 0] 1 [.int .i64 w] = [.int .i64 u, .int .i64 w] := rfl
 have hbb : ∀ b : Bool, eqEv .bool (.bool b) (.bool b) = some true := fun b => by cases b <;> rfl
 simp only [KK, Nat.reduceEqDiff, Nat.reduceAdd, Nat.reduceLeDiff, Nat.reduceLT, AOp.kd, kd_rm, logOk_nil', opE_xm, hk, hL, h', a1, b1, lb', e1, e2, e3, d1, d2, d3, lp, lk, hbq, hbb, hrun, c1]
 generalize hq : codeEv (run A N) (ev A N).2 a9_L1 _ = q
 obtain ⟨T1, L1, rfl, k1, l1⟩ := rw_l1 m2 I M v5 v14 v19 al (nextAt M u.toNat) _ (h5.ext hg.1) (h14.ext hg.1) h19.rs f P B i (R.idxOf u) k u hu (by omega) N _ _ (by omega) (by simp only [keepT, List.map, look_set, look_cons, in_int, in_bool, in_loc, Nat.reduceEqDiff, if_true, if_false, List.contains_cons, List.contains_nil, beq_self_eq_true, Bool.or_false, in_map, a1, b1, c1]) (by simp only [lookL_cons, if_true]) hq
 rw [hany] at k1
 exact ⟨_, _, m2, by simp only [KK, Nat.reduceEqDiff, Nat.reduceLT, k1, l1, a1, b1, ad]; rfl, by simp only [keepT, List.map, look_set, look_cons, in_int, in_loc, Nat.reduceEqDiff, if_true, if_false, List.contains_cons, List.contains_nil, beq_self_eq_true, Bool.or_false, in_map, a1, b1], by simp only [lookL_cons, if_true], hg.1, by omega⟩
def nop {α : Type} (_ : Nat) (_ : α) (_ : Unit) : Stp Unit Unit := .go ()
theorem fold_nop {α : Type} : ∀ (l : List α) (i : Nat), foldS (nop (α := α)) l i () = .inl ()
 | [], _ => rfl
 | x :: r, i => by
  simp only [foldS, nop]
  exact fold_nop r (i + 1)
theorem next_len (M : Img) (a : Nat) : (nextAt M a).length ≤ 2 := by
 unfold nextAt
 split
 ·exact nextI_len _ _
 ·simp
theorem rw_l2 (m0 : Mem) (I : ImV) (M : Img) (NC KC f fr te P B : Nat) (R al : List Int) (lb : List ((Int × Int) × Nat)) (v5 : AV) (mb : Mem) (h : RC m0 I M NC KC f fr te P B R al lb v5 mb) (m : Mem) (he : Ext mb m) (i : Nat) (u : Int) (hu : al[i]? = some u) (v14 : AV) (h14 : RS (fun z => [AV.int .i64 z]) 1 m v14 (nextAt M u.toNat)) (N : Nat) (hN : NC + 1010 ≤ N) (hmn : m.n + 2 * (2 * KC + 400) + 2 * KC + 1000 ≤ 2 ^ depth) (T : List (Nat × AV)) (L : List (Nat × List AV))
  (hk : keepT [1, 3, 5, 6, 8, 11, 12, 14, 15] [1] T = [(1, .loc 1 0), (3, .int .i64 (f : Int)), (5, v5), (6, .map P), (8, .map B), (11, .int .i64 (i : Int)), (12, .int .i64 (R.idxOf u : Int)), (14, v14), (15, .int .i64 0)]) (hL : lookL L 1 = some [I.c, I.f, I.v, .int .i64 M.main, I.i, I.p, .int .i64 M.stack, I.a]) {q : Option (Ex × St)} (hq : codeEv (run A N) (ev A N).2 a9_L2 ⟨195, T, L, m⟩ = q) :
  ∃ T' L' m', q = some (.exit 8, ⟨195, T', L', m'⟩) ∧ keepT [1, 3, 5, 6, 8, 11] [1] T' = [(1, .loc 1 0), (3, .int .i64 (f : Int)), (5, v5), (6, .map P), (8, .map B), (11, .int .i64 (i : Int))] ∧ lookL L' 1 = some [I.c, I.f, I.v, .int .i64 M.main, I.i, I.p, .int .i64 M.stack, I.a] ∧ Ext m m' ∧ m'.n ≤ m.n + 2 * (2 * KC + 400) := by
 obtain ⟨a1, a2, a3, a4⟩ := h.v5.plain
 obtain ⟨b1, b2, b3, b4⟩ := h14.plain
 have lb' := h14.lenR
 have hnl := next_len M u.toNat
 have hs := scan0 (A := A) a9_L2 a9_B2 a9_L2_step (fun k (_ : Unit) s => ∃ T L m', s = ⟨195, T, L, m'⟩ ∧ keepT [1, 3, 5, 6, 8, 11, 12, 14, 15] [1] T = [(1, .loc 1 0), (3, .int .i64 (f : Int)), (5, v5), (6, .map P), (8, .map B), (11, .int .i64 (i : Int)), (12, .int .i64 (R.idxOf u : Int)), (14, v14), (15, .int .i64 (k : Int))] ∧ lookL L 1 = some [I.c, I.f, I.v, .int .i64 M.main, I.i, I.p, .int .i64 M.stack, I.a] ∧ Ext m m' ∧ m'.n ≤ m.n + k * (2 * KC + 400)) (fun _ s => ∃ T L m', s = ⟨195, T, L, m'⟩ ∧ keepT [1, 3, 5, 6, 8, 11] [1] T = [(1, .loc 1 0), (3, .int .i64 (f : Int)), (5, v5), (6, .map P), (8, .map B), (11, .int .i64 (i : Int))] ∧ lookL L 1 = some [I.c, I.f, I.v, .int .i64 M.main, I.i, I.p, .int .i64 M.stack, I.a] ∧ Ext m m' ∧ m'.n ≤ m.n + (nextAt M u.toNat).length * (2 * KC + 400)) (fun (_ : Unit) s => False) 8 (NC + 1000) nop (nextAt M u.toNat)
  (fun N b s hN ⟨T, L, m', hs, hk, hL, hx, hn⟩ => by
   subst hs
   have h' : ¬ ((nextAt M u.toNat).length : Int) < ((nextAt M u.toNat).length : Int) := by omega
   unfold a9_B2
   exact ⟨_, by simp only [KK, Nat.reduceEqDiff, Nat.reduceLT, hk, hL, h', lb']; rfl, _, _, m', rfl, by simp only [keepT, List.map, look_set, look_cons, in_int, in_loc, Nat.reduceEqDiff, if_true, if_false, List.contains_cons, List.contains_nil, beq_self_eq_true, Bool.or_false, in_map, a1], by simp only [lookL_cons, if_true], hx, hn⟩)
  (fun N k w b s hN hw ⟨T, L, m', hs, hk, hL, hx, hn⟩ => by
   subst hs
   have hkn := (List.getElem?_eq_some_iff.1 hw).1
   have hk2 : k * (2 * KC + 400) ≤ 2 * (2 * KC + 400) := Nat.mul_le_mul_right _ (by omega)
   obtain ⟨T', L', m2, hc, hk', hL', hx', hn'⟩ := rw_l2b m0 I M NC KC f fr te P B R al lb v5 mb h m' (he.trans hx) i u hu v14 (h14.ext hx) k w hw (by omega) N hN (by omega) T L hk hL hkn
   unfold nop
   dsimp only
   exact ⟨_, hc, T', L', m2, rfl, hk', hL', hx.trans hx', by rw [Nat.succ_mul]; omega⟩)
  N () ⟨195, T, L, m⟩ (by omega) ⟨T, L, m, rfl, hk, hL, Ext.refl _, by omega⟩ hq
 rw [fold_nop] at hs
 obtain ⟨s', e, T', L', m', rfl, h3, h4, h5, h6⟩ := hs
 have hk2 : (nextAt M u.toNat).length * (2 * KC + 400) ≤ 2 * (2 * KC + 400) := Nat.mul_le_mul_right _ hnl
 exact ⟨T', L', m', e, h3, h4, h5, by omega⟩
theorem rw_r5 (m : Mem) (I : ImV) (M : Img) (v5 : AV) (al : List Int) (h5 : RS (fun z => [AV.int .i64 z]) 1 m v5 al) (hal : al.length ≤ 60) (hri : ∀ i x y, al[i]? = some x → al[i + 1]? = some y → x < y) (f P B p : Nat) (i : Nat) (u : Int) (hu : al[i]? = some u) (N : Nat) (T : List (Nat × AV)) (L : List (Nat × List AV))
  (hk : keepT [1, 3, 5, 6, 8, 11, 12, 13] [1] T = [(1, .loc 1 0), (3, .int .i64 (f : Int)), (5, v5), (6, .map P), (8, .map B), (11, .int .i64 (i : Int)), (12, .int .i64 (p : Int)), (13, .bool true)]) (hL : lookL L 1 = some [I.c, I.f, I.v, .int .i64 M.main, I.i, I.p, .int .i64 M.stack, I.a]) {q : Option (Ex × St)} (hq : codeEv (run A N) (ev A N).2 a9_R5 ⟨195, T, L, m⟩ = q) :
  ∃ T' L', q = some (.norm, ⟨195, T', L', m⟩) ∧ look T' 128 = .bool false ∧ keepT [1, 3, 5, 6, 8, 11, 12] [1] T' = [(1, .loc 1 0), (3, .int .i64 (f : Int)), (5, v5), (6, .map P), (8, .map B), (11, .int .i64 (i : Int)), (12, .int .i64 (p : Int))] ∧ lookL L' 1 = some [I.c, I.f, I.v, .int .i64 M.main, I.i, I.p, .int .i64 M.stack, I.a] := by
 subst hq
 obtain ⟨a1, a2, a3, a4⟩ := h5.plain
 obtain ⟨j1, j2, j3, j4, d1, d2, d3⟩ := h5.i1 hu
 have hil := (List.getElem?_eq_some_iff.1 hu).1
 match i, hu, hil, hk, d1 with
 | 0, hu, hil, hk, d1 =>
  have z0 : decide ((0 : Int) < ((0 : Nat) : Int)) = false := by decide
  exact ⟨_, _, by unfold a9_R5; simp only [KK, Nat.reduceEqDiff, Nat.reduceLT, AOp.kd, logOk_nil', hk, hL, z0]; rfl, by simp only [look_set, look_cons, Nat.reduceEqDiff, if_true, if_false], by simp only [keepT, List.map, look_set, look_cons, in_int, in_loc, Nat.reduceEqDiff, if_true, if_false, List.contains_cons, List.contains_nil, beq_self_eq_true, Bool.or_false, in_map, a1], by simp only [lookL_cons, if_true]⟩
 | i + 1, hu, hil, hk, d1 =>
  obtain ⟨y, hy⟩ : ∃ y, al[i]? = some y := ⟨_, List.getElem?_eq_getElem (by omega)⟩
  have hlt := hri i y u hy hu
  obtain ⟨p1, p2, p3, p4, r1, r2, r3⟩ := h5.i1 hy
  have z0 : decide ((0 : Int) < ((i + 1 : Nat) : Int)) = true := decide_eq_true (by omega)
  have hs1 := sub_i (i + 1) (by omega)
  have hi1 : ((i + 1 : Nat) : Int) - 1 = (i : Int) := by omega
  rw [hi1] at hs1
  have z1 : decide (u ≤ y) = false := decide_eq_false (by omega)
  exact ⟨_, _, by unfold a9_R5; simp only [KK, Nat.reduceEqDiff, Nat.reduceLT, AOp.kd, kd_rm, logOk_nil', hk, hL, d1, d2, d3, r1, r2, r3, z0, z1, hs1]; rfl, by simp only [look_set, look_cons, Nat.reduceEqDiff, if_true, if_false], by simp only [keepT, List.map, look_set, look_cons, in_int, in_loc, Nat.reduceEqDiff, if_true, if_false, List.contains_cons, List.contains_nil, beq_self_eq_true, Bool.or_false, in_map, a1], by simp only [lookL_cons, if_true]⟩
theorem rw_l3b (m0 : Mem) (I : ImV) (M : Img) (NC KC f fr te P B : Nat) (R al : List Int) (lb : List ((Int × Int) × Nat)) (v5 : AV) (mb : Mem) (h : RC m0 I M NC KC f fr te P B R al lb v5 mb) (hri : ∀ i x y, al[i]? = some x → al[i + 1]? = some y → x < y) (m : Mem) (he : Ext mb m) (i : Nat) (u : Int) (hu : al[i]? = some u) (N : Nat) (hN : NC + 1020 ≤ N) (hmn : m.n + 7 * KC + 3000 ≤ 2 ^ depth) (T : List (Nat × AV)) (L : List (Nat × List AV))
  (hk : keepT [1, 3, 5, 6, 8, 11] [1] T = [(1, .loc 1 0), (3, .int .i64 (f : Int)), (5, v5), (6, .map P), (8, .map B), (11, .int .i64 (i : Int))]) (hL : lookL L 1 = some [I.c, I.f, I.v, .int .i64 M.main, I.i, I.p, .int .i64 M.stack, I.a]) :
  ∃ T' L' m', codeEv (run A N) (ev A N).2 a9_B3 ⟨195, T, L, m⟩ = some (.norm, ⟨195, T', L', m'⟩) ∧ keepT [1, 3, 5, 6, 8, 11] [1] T' = [(1, .loc 1 0), (3, .int .i64 (f : Int)), (5, v5), (6, .map P), (8, .map B), (11, .int .i64 ((i + 1 : Nat) : Int))] ∧ lookL L' 1 = some [I.c, I.f, I.v, .int .i64 M.main, I.i, I.p, .int .i64 M.stack, I.a] ∧ Ext m m' ∧ m'.n ≤ m.n + 5 * KC + 900 := by
 have hm := h.im.ext he
 obtain ⟨pc1, pc2, pc3, pc4⟩ := hm.c.plain
 have lc := hm.c.lenR
 obtain ⟨pf1, pf2, pf3, pf4⟩ := hm.f.plain
 have lf := hm.f.lenR
 obtain ⟨pv1, pv2, pv3, pv4⟩ := hm.v.plain
 have lv := hm.v.lenR
 obtain ⟨pi1, pi2, pi3, pi4⟩ := hm.i.plain
 have li := hm.i.lenR
 obtain ⟨pp1, pp2, pp3, pp4⟩ := hm.p.plain
 have lp := hm.p.lenR
 obtain ⟨pa1, pa2, pa3, pa4⟩ := hm.a.plain
 have la := hm.a.lenR
 have h5 := h.v5.ext he
 have l5 := h5.lenR
 have hul := List.mem_of_getElem? hu
 have hil := (List.getElem?_eq_some_iff.1 hu).1
 have hwR := h.inr u hul
 obtain ⟨hof, hu0, hul2⟩ := h.ofp u hwR
 have gp := (he.2 _ (Mem.get_lt h.gp)).trans h.gp
 have lp := pl_look gp u hwR
 obtain ⟨a1, a2, a3, a4⟩ := h5.plain
 have hlc := h.lc
 have hlf := h.lf
 have hal := h.all
 have h' : (i : Int) < (al.length : Int) := by omega
 have ad := add_i i (by omega)
 obtain ⟨j1, j2, j3, j4, d1, d2, d3⟩ := h5.i1 hu
 obtain ⟨v14, m2, hrun, h14, hg⟩ := Next_run N m I M hm (h.tab.ext he) (by omega) (by omega) m0 0 NC KC h.ck (h.ext.trans he) (by omega) (fun _ => h.co) (by omega) u
 have hnp : nextP M 0 u = nextAt M u.toNat := by unfold nextP; exact if_pos ⟨rfl, hu0, hul2⟩
 rw [hnp] at h14
 obtain ⟨c1, c2, c3, c4⟩ := h14.plain
 have hg2 := hg.2
 unfold a9_B3 a9_R4
 simp only [KK, Nat.reduceEqDiff, Nat.reduceLT, AOp.kd, kd_rm, opE_xm, hk, hL, h', l5, a1, d1, d2, d3, lp]
 generalize hq5 : codeEv (run A N) (ev A N).2 a9_R5 _ = q5
 obtain ⟨T2, L2, rfl, k0, k2, l2⟩ := rw_r5 m I M v5 al h5 hal hri f P B (R.idxOf u) i u hu N _ _ (by simp only [keepT, List.map, look_set, look_cons, in_int, in_bool, in_loc, Nat.reduceEqDiff, if_true, if_false, List.contains_cons, List.contains_nil, beq_self_eq_true, Bool.or_false, in_map, a1]) (by simp only [lookL_cons, if_true]) hq5
 simp only [KK, Nat.reduceEqDiff, Nat.reduceAdd, Nat.reduceLeDiff, Nat.reduceLT, logOk_nil', k0, k2, l2, a1, d1, d2, d3, hrun, c1]
 generalize hq : codeEv (run A N) (ev A N).2 a9_L2 _ = q
 obtain ⟨T3, L3, m3, rfl, k3, l3, x3, n3⟩ := rw_l2 m0 I M NC KC f fr te P B R al lb v5 mb h m2 (he.trans hg.1) i u hu v14 h14 N (by omega) (by omega) _ _ (by simp only [keepT, List.map, look_set, look_cons, in_int, in_loc, Nat.reduceEqDiff, if_true, if_false, List.contains_cons, List.contains_nil, beq_self_eq_true, Bool.or_false, in_map, a1, c1]) (by simp only [lookL_cons, if_true]) hq
 exact ⟨_, _, m3, by simp only [look_set, look_nil, look_cons, Option.map_some, Nat.reduceEqDiff, Nat.reduceLT, if_true, if_false, k3, l3, ad]; rfl, by simp only [keepT, List.map, look_set, look_cons, in_int, in_loc, Nat.reduceEqDiff, if_true, if_false, List.contains_cons, List.contains_nil, beq_self_eq_true, Bool.or_false, in_map, a1], by simp only [lookL_cons, if_true], hg.1.trans x3, by omega⟩
theorem rw_l3 (m0 : Mem) (I : ImV) (M : Img) (NC KC f fr te P B : Nat) (R al : List Int) (lb : List ((Int × Int) × Nat)) (v5 : AV) (mb : Mem) (h : RC m0 I M NC KC f fr te P B R al lb v5 mb) (hri : ∀ i x y, al[i]? = some x → al[i + 1]? = some y → x < y) (N : Nat) (hN : NC + 1100 ≤ N) (hmn : mb.n + 60 * (5 * KC + 900) + 7 * KC + 3000 ≤ 2 ^ depth) (T : List (Nat × AV)) (L : List (Nat × List AV))
  (hk : keepT [1, 3, 5, 6, 8, 11] [1] T = [(1, .loc 1 0), (3, .int .i64 (f : Int)), (5, v5), (6, .map P), (8, .map B), (11, .int .i64 0)]) (hL : lookL L 1 = some [I.c, I.f, I.v, .int .i64 M.main, I.i, I.p, .int .i64 M.stack, I.a]) {q : Option (Ex × St)} (hq : codeEv (run A N) (ev A N).2 a9_L3 ⟨195, T, L, mb⟩ = q) :
  ∃ T' L' m', q = some (.exit 6, ⟨195, T', L', m'⟩) ∧ keepT [1, 3] [1] T' = [(1, .loc 1 0), (3, .int .i64 (f : Int))] ∧ lookL L' 1 = some [I.c, I.f, I.v, .int .i64 M.main, I.i, I.p, .int .i64 M.stack, I.a] ∧ Ext mb m' ∧ m'.n ≤ mb.n + 60 * (5 * KC + 900) := by
 obtain ⟨a1, a2, a3, a4⟩ := h.v5.plain
 have hal := h.all
 have hs := scan0 (A := A) a9_L3 a9_B3 a9_L3_step (fun i (_ : Unit) s => ∃ T L m', s = ⟨195, T, L, m'⟩ ∧ keepT [1, 3, 5, 6, 8, 11] [1] T = [(1, .loc 1 0), (3, .int .i64 (f : Int)), (5, v5), (6, .map P), (8, .map B), (11, .int .i64 (i : Int))] ∧ lookL L 1 = some [I.c, I.f, I.v, .int .i64 M.main, I.i, I.p, .int .i64 M.stack, I.a] ∧ Ext mb m' ∧ m'.n ≤ mb.n + i * (5 * KC + 900)) (fun _ s => ∃ T L m', s = ⟨195, T, L, m'⟩ ∧ keepT [1, 3] [1] T = [(1, .loc 1 0), (3, .int .i64 (f : Int))] ∧ lookL L 1 = some [I.c, I.f, I.v, .int .i64 M.main, I.i, I.p, .int .i64 M.stack, I.a] ∧ Ext mb m' ∧ m'.n ≤ mb.n + al.length * (5 * KC + 900)) (fun (_ : Unit) s => False) 6 (NC + 1020) nop al
  (fun N b s hN ⟨T, L, m', hs, hk, hL, hx, hn⟩ => by
   subst hs
   have h' : ¬ (al.length : Int) < (al.length : Int) := by omega
   have l5 := (h.v5.ext hx).lenR
   unfold a9_B3
   exact ⟨_, by simp only [KK, Nat.reduceEqDiff, Nat.reduceLT, hk, hL, h', l5]; rfl, _, _, m', rfl, by simp only [keepT, List.map, look_set, look_cons, in_int, in_loc, Nat.reduceEqDiff, if_true, if_false, List.contains_cons, List.contains_nil, beq_self_eq_true, Bool.or_false], by simp only [lookL_cons, if_true], hx, hn⟩)
  (fun N i u b s hN hu ⟨T, L, m', hs, hk, hL, hx, hn⟩ => by
   subst hs
   have hil := (List.getElem?_eq_some_iff.1 hu).1
   have hk2 : i * (5 * KC + 900) ≤ 60 * (5 * KC + 900) := Nat.mul_le_mul_right _ (by omega)
   obtain ⟨T', L', m2, hc, hk', hL', hx', hn'⟩ := rw_l3b m0 I M NC KC f fr te P B R al lb v5 mb h hri m' hx i u hu N hN (by omega) T L hk hL
   unfold nop
   dsimp only
   exact ⟨_, hc, T', L', m2, rfl, hk', hL', hx.trans hx', by rw [Nat.succ_mul]; omega⟩)
  N () ⟨195, T, L, mb⟩ (by omega) ⟨T, L, mb, rfl, hk, hL, Ext.refl _, by omega⟩ hq
 rw [fold_nop] at hs
 obtain ⟨s', e, T', L', m', rfl, h3, h4, h5, h6⟩ := hs
 have hk2 : al.length * (5 * KC + 900) ≤ 60 * (5 * KC + 900) := Nat.mul_le_mul_right _ hal
 exact ⟨T', L', m', e, h3, h4, h5, by omega⟩
theorem rw_l5 (m : Mem) (I : ImV) (M : Img) (v4 v5 : AV) (R al : List Int) (h4 : RS (fun z => [AV.int .i64 z]) 1 m v4 R) (h5 : RS (fun z => [AV.int .i64 z]) 1 m v5 al) (hnd : R.Nodup) (hR : R.length ≤ 100000) (f P : Nat) (hp : m.get P = some (.map [] 0)) (hmn : m.n ≤ 2 ^ depth) (h4p : ∀ b, blkOf v4 = some b → b ≠ P) (N : Nat) (T : List (Nat × AV)) (L : List (Nat × List AV)) (hN : R.length + 1 ≤ N)
  (hk : keepT [1, 3, 4, 5, 6, 7] [1] T = [(1, .loc 1 0), (3, .int .i64 (f : Int)), (4, v4), (5, v5), (6, .map P), (7, .int .i64 0)]) (hL : lookL L 1 = some [I.c, I.f, I.v, .int .i64 M.main, I.i, I.p, .int .i64 M.stack, I.a]) {q : Option (Ex × St)} (hq : codeEv (run A N) (ev A N).2 a9_L5 ⟨195, T, L, m⟩ = q) :
  ∃ T' L' m', q = some (.exit 2, ⟨195, T', L', m'⟩) ∧ keepT [1, 3, 4, 5, 6] [1] T' = [(1, .loc 1 0), (3, .int .i64 (f : Int)), (4, v4), (5, v5), (6, .map P)] ∧ lookL L' 1 = some [I.c, I.f, I.v, .int .i64 M.main, I.i, I.p, .int .i64 M.stack, I.a] ∧ m'.get P = some (.map (plE R 0) R.length) ∧ m'.n = m.n ∧ ∀ j, j ≠ P → m'.get j = m.get j := by
 obtain ⟨a1, a2, a3, a4⟩ := h4.plain
 obtain ⟨b1, b2, b3, b4⟩ := h5.plain
 have l4 := h4.lenR
 have hs := scan0 (A := A) a9_L5 a9_B5 a9_L5_step (fun i (_ : Unit) s => ∃ T L m', s = ⟨195, T, L, m'⟩ ∧ keepT [1, 3, 4, 5, 6, 7] [1] T = [(1, .loc 1 0), (3, .int .i64 (f : Int)), (4, v4), (5, v5), (6, .map P), (7, .int .i64 (i : Int))] ∧ lookL L 1 = some [I.c, I.f, I.v, .int .i64 M.main, I.i, I.p, .int .i64 M.stack, I.a] ∧ m'.get P = some (.map (plE (R.take i) 0) (R.take i).length) ∧ m'.n = m.n ∧ ∀ j, j ≠ P → m'.get j = m.get j) (fun _ s => ∃ T L m', s = ⟨195, T, L, m'⟩ ∧ keepT [1, 3, 4, 5, 6] [1] T = [(1, .loc 1 0), (3, .int .i64 (f : Int)), (4, v4), (5, v5), (6, .map P)] ∧ lookL L 1 = some [I.c, I.f, I.v, .int .i64 M.main, I.i, I.p, .int .i64 M.stack, I.a] ∧ m'.get P = some (.map (plE (R.take R.length) 0) (R.take R.length).length) ∧ m'.n = m.n ∧ ∀ j, j ≠ P → m'.get j = m.get j) (fun (_ : Unit) s => False) 2 1 nop R
  (fun N b s hN ⟨T, L, m', hs, hk, hL, hg, hn, hx⟩ => by
   subst hs
   have h' : ¬ (R.length : Int) < (R.length : Int) := by omega
   unfold a9_B5
   exact ⟨_, by simp only [KK, Nat.reduceEqDiff, Nat.reduceLT, hk, hL, h', l4]; rfl, _, _, m', rfl, by simp only [keepT, List.map, look_set, look_cons, in_int, in_loc, Nat.reduceEqDiff, if_true, if_false, List.contains_cons, List.contains_nil, beq_self_eq_true, Bool.or_false, in_map, a1, b1], by simp only [lookL_cons, if_true], hg, hn, hx⟩)
  (fun N i x b s hN hx0 ⟨T, L, m', hs, hk, hL, hg, hn, hx⟩ => by
   subst hs
   have hil := (List.getElem?_eq_some_iff.1 hx0).1
   have h' : (i : Int) < (R.length : Int) := by omega
   have ad := add_i i (by omega)
   have h4' : RS (fun z => [AV.int .i64 z]) 1 m' v4 R := h4.frame fun b _ hb => hx b (h4p b hb)
   obtain ⟨j1, j2, j3, j4, d1, d2, d3⟩ := h4'.i1 hx0
   have hlt : (R.take i).length = i := by rw [List.length_take]; omega
   have hni : x ∉ R.take i := fun hm => by
    obtain ⟨k, hk1, hk2⟩ := List.getElem_of_mem hm
    rw [List.length_take] at hk1
    rw [List.getElem_take] at hk2
    have e1 : R[i] = x := by rw [List.getElem?_eq_getElem hil] at hx0; exact Option.some.inj hx0
    have := (List.getElem_inj (h₀ := by omega) (h₁ := hil) hnd).1 (hk2.trans e1.symm)
    omega
   have hput := pl_put hg x hni
   rw [hlt] at hput
   have htk : R.take i ++ [x] = R.take (i + 1) := by
    rw [List.take_succ_eq_append_getElem hil]
    congr 2
    rw [List.getElem?_eq_getElem hil] at hx0
    exact (Option.some.inj hx0).symm
   rw [htk] at hput
   have hgl := Mem.get_lt hg
   unfold nop
   dsimp only
   unfold a9_B5
   exact ⟨_, by simp only [KK, Nat.reduceEqDiff, Nat.reduceLT, opE_xm, hk, hL, h', a1, b1, l4, d1, d2, d3, hput, ad]; rfl, _, _, _, rfl, by simp only [keepT, List.map, look_set, look_cons, in_int, in_loc, Nat.reduceEqDiff, if_true, if_false, List.contains_cons, List.contains_nil, beq_self_eq_true, Bool.or_false, in_map, a1, b1], by simp only [lookL_cons, if_true], Mem.get_set_same _ hgl, by rw [set_n]; exact hn, fun j hj => (Mem.get_set_ne _ (by omega) hgl (fun e => hj e.symm)).trans (hx j hj)⟩)
  N () ⟨195, T, L, m⟩ (by omega) ⟨T, L, m, rfl, hk, hL, hp, rfl, fun _ _ => rfl⟩ hq
 rw [fold_nop] at hs
 obtain ⟨s', e, T', L', m', rfl, h3, h4, h5, h6, h7⟩ := hs
 rw [List.take_length] at h5
 exact ⟨T', L', m', e, h3, h4, h5, h6, h7⟩
theorem rw_l4 (m : Mem) (I : ImV) (M : Img) (v5 v9 : AV) (al : List Int) (ps : List (Int × Int)) (h5 : RS (fun z => [AV.int .i64 z]) 1 m v5 al) (h9 : RS prow 2 m v9 ps) (hR : ps.length ≤ 100000) (f P B : Nat) (hp : m.get B = some (.map [] 0)) (hmn : m.n ≤ 2 ^ depth) (h9p : ∀ b, blkOf v9 = some b → b ≠ B) (N : Nat) (T : List (Nat × AV)) (L : List (Nat × List AV)) (hN : ps.length + 1 ≤ N)
  (hk : keepT [1, 3, 5, 6, 8, 9, 10] [1] T = [(1, .loc 1 0), (3, .int .i64 (f : Int)), (5, v5), (6, .map P), (8, .map B), (9, v9), (10, .int .i64 0)]) (hL : lookL L 1 = some [I.c, I.f, I.v, .int .i64 M.main, I.i, I.p, .int .i64 M.stack, I.a]) {q : Option (Ex × St)} (hq : codeEv (run A N) (ev A N).2 a9_L4 ⟨195, T, L, m⟩ = q) :
  ∃ T' L' m' lb c, q = some (.exit 4, ⟨195, T', L', m'⟩) ∧ keepT [1, 3, 5, 6, 8] [1] T' = [(1, .loc 1 0), (3, .int .i64 (f : Int)), (5, v5), (6, .map P), (8, .map B)] ∧ lookL L' 1 = some [I.c, I.f, I.v, .int .i64 M.main, I.i, I.p, .int .i64 M.stack, I.a] ∧ m'.get B = some (.map (bE lb) c) ∧ (∀ q, q ∈ lb.map Prod.fst ↔ q ∈ ps) ∧ m'.n = m.n ∧ ∀ j, j ≠ B → m'.get j = m.get j := by
 obtain ⟨a1, a2, a3, a4⟩ := h9.plain
 obtain ⟨b1, b2, b3, b4⟩ := h5.plain
 have l9 := h9.lenR
 have hs := scan0 (A := A) a9_L4 a9_B4 a9_L4_step (fun k (_ : Unit) s => ∃ T L m' lb c, s = ⟨195, T, L, m'⟩ ∧ keepT [1, 3, 5, 6, 8, 9, 10] [1] T = [(1, .loc 1 0), (3, .int .i64 (f : Int)), (5, v5), (6, .map P), (8, .map B), (9, v9), (10, .int .i64 (k : Int))] ∧ lookL L 1 = some [I.c, I.f, I.v, .int .i64 M.main, I.i, I.p, .int .i64 M.stack, I.a] ∧ m'.get B = some (.map (bE lb) c) ∧ (∀ q, q ∈ lb.map Prod.fst ↔ q ∈ ps.take k) ∧ m'.n = m.n ∧ ∀ j, j ≠ B → m'.get j = m.get j) (fun _ s => ∃ T L m' lb c, s = ⟨195, T, L, m'⟩ ∧ keepT [1, 3, 5, 6, 8] [1] T = [(1, .loc 1 0), (3, .int .i64 (f : Int)), (5, v5), (6, .map P), (8, .map B)] ∧ lookL L 1 = some [I.c, I.f, I.v, .int .i64 M.main, I.i, I.p, .int .i64 M.stack, I.a] ∧ m'.get B = some (.map (bE lb) c) ∧ (∀ q, q ∈ lb.map Prod.fst ↔ q ∈ ps.take ps.length) ∧ m'.n = m.n ∧ ∀ j, j ≠ B → m'.get j = m.get j) (fun (_ : Unit) s => False) 4 1 nop ps
  (fun N b s hN ⟨T, L, m', lb, c, hs, hk, hL, hg, hq, hn, hx⟩ => by
   subst hs
   have h' : ¬ (ps.length : Int) < (ps.length : Int) := by omega
   unfold a9_B4
   exact ⟨_, by simp only [KK, Nat.reduceEqDiff, Nat.reduceLT, hk, hL, h', l9]; rfl, _, _, m', lb, c, rfl, by simp only [keepT, List.map, look_set, look_cons, in_int, in_loc, Nat.reduceEqDiff, if_true, if_false, List.contains_cons, List.contains_nil, beq_self_eq_true, Bool.or_false, in_map, b1], by simp only [lookL_cons, if_true], hg, hq, hn, hx⟩)
  (fun N k p b s hN hx0 ⟨T, L, m', lb, c, hs, hk, hL, hg, hq, hn, hx⟩ => by
   subst hs
   have hil := (List.getElem?_eq_some_iff.1 hx0).1
   have h' : (k : Int) < (ps.length : Int) := by omega
   have ad := add_i k (by omega)
   have h9' : RS prow 2 m' v9 ps := h9.frame fun b _ hb => hx b (h9p b hb)
   obtain ⟨j1, j2, j3, j4, d1, d2, d3⟩ := h9'.at hx0
   rw [prow] at d3
   obtain ⟨l', c', hput, hq'⟩ := bk_put hg p
   have htk : ps.take (k + 1) = ps.take k ++ [p] := by
    rw [List.take_succ_eq_append_getElem hil]
    congr 2
    rw [List.getElem?_eq_getElem hil] at hx0
    exact Option.some.inj hx0
   have hgl := Mem.get_lt hg
   unfold nop
   dsimp only
   unfold a9_B4
   exact ⟨_, by simp only [KK, Nat.reduceEqDiff, Nat.reduceLT, opE_xm, hk, hL, h', a1, b1, l9, d1, d2, d3, hput, ad]; rfl, _, _, _, l', c', rfl, by simp only [keepT, List.map, look_set, look_cons, in_int, in_loc, Nat.reduceEqDiff, if_true, if_false, List.contains_cons, List.contains_nil, beq_self_eq_true, Bool.or_false, in_map, a1, b1], by simp only [lookL_cons, if_true], Mem.get_set_same _ hgl, fun q => by rw [hq', hq, htk, List.mem_append, List.mem_singleton], by rw [set_n]; exact hn, fun j hj => (Mem.get_set_ne _ (by omega) hgl (fun e => hj e.symm)).trans (hx j hj)⟩)
  N () ⟨195, T, L, m⟩ (by omega) ⟨T, L, m, [], 0, rfl, hk, hL, hp, fun q => by simp, rfl, fun _ _ => rfl⟩ hq
 rw [fold_nop] at hs
 obtain ⟨s', e, T', L', m', lb, c, rfl, h3, h4, h5, h6, h7, h8⟩ := hs
 rw [List.take_length] at h6
 exact ⟨T', L', m', lb, c, e, h3, h4, h5, h6, h7, h8⟩
theorem way_in {M : Img} (hc : checkI M = 0) {f : Nat} (hf : f < M.funcs.length) : ∀ x ∈ (wayS M (fromP M f).toNat).l, fromP M f ≤ x ∧ x < toP M f := by
 have ht := tiles_of (check_zero hc).2.1
 have hs := ht.sp f hf
 have hfr := entry_in hc hf
 unfold wayS
 refine vis_sub (nextAt M) (fun x => fromP M f ≤ x ∧ x < toP M f) (fun v hv => by omega) (fun u hu v hv => ?_) _ _ _ (by rw [Int.toNat_of_nonneg hfr.1]; omega) (by simp)
 unfold nextAt at hv
 cases hx : M.code[u]? with
 | none => rw [hx] at hv; cases hv
 | some y => rw [hx] at hv; exact next_within hc hx hf hu hv
theorem rc_of {m0 : Mem} {I : ImV} {M : Img} {NC KC f P B : Nat} {lb : List ((Int × Int) × Nat)} {v5 : AV} {mb : Mem} (hc : checkI M = 0) (hf : f < M.funcs.length) (him : IM mb I M) (hT : Tab mb) (hck : CkOk m0 I M NC KC 54 0) (he : Ext m0 mb) (hlc : M.code.length ≤ 60) (hlf : M.funcs.length ≤ 80)
  (gp : mb.get P = some (.map (plE (wayS M (fromP M f).toNat).l.reverse 0) (wayS M (fromP M f).toNat).l.reverse.length)) (gb : ∃ c, mb.get B = some (.map (bE lb) c)) (h5 : RS (fun z => [AV.int .i64 z]) 1 mb v5 (sortZ (wayS M (fromP M f).toNat).l)) (hll : (wayS M (fromP M f).toNat).l.length ≤ 60) (hlb : ∀ q, q ∈ lb.map Prod.fst ↔ q ∈ sortP (wayS M (fromP M f).toNat).b) :
  RC m0 I M NC KC f (fromP M f).toNat (toP M f).toNat P B (wayS M (fromP M f).toNat).l.reverse (sortZ (wayS M (fromP M f).toNat).l) lb v5 mb := by
 have ht := tiles_of (check_zero hc).2.1
 have hs := ht.sp f hf
 have hfr := entry_in hc hf
 have hwi := way_in hc hf
 obtain ⟨_, hnd, hrng, hcl, hed⟩ := way_law M (fun a v hv => nextAt_in (next_in hc) hv) (fromP M f).toNat (by omega)
 have e1 : ((fromP M f).toNat : Int) = fromP M f := Int.toNat_of_nonneg hfr.1
 have e2 : ((toP M f).toNat : Int) = toP M f := Int.toNat_of_nonneg (by omega)
 have ofw : ∀ w ∈ (wayS M (fromP M f).toNat).l, ofP M 0 w = ((f : Int), true) ∧ 0 ≤ w ∧ w < (M.code.length : Int) := fun w hw => by
  obtain ⟨h1, h2⟩ := hrng w hw
  obtain ⟨g, hg, hgo, hgr⟩ := ht.of h1 h2
  have := ht.uniq hf hg (hwi w hw) hgr
  subst this
  exact ⟨by unfold ofP; rw [if_pos ⟨rfl, h1, h2⟩, hgo], h1, h2⟩
 exact {
  im := him
  tab := hT
  ck := hck
  ext := he
  co := codes_ok hc
  lc := hlc
  lf := hlf
  ra := by rw [rangeP, if_pos rfl, spanP, if_neg (by omega), Int.toNat_natCast, e1, e2]
  ft := by omega
  tle := by omega
  gp := gp
  gb := gb
  v5 := h5
  all := by rw [len_sort]; exact hll
  ofp := fun w hw => ofw w (List.mem_reverse.1 hw)
  inr := fun u hu => List.mem_reverse.2 ((mem_sortZ _ _).1 hu)
  nx := fun u hu w hw => by
   have hul := (mem_sortZ _ _).1 hu
   have hwl := hcl u hul w hw
   refine ⟨List.mem_reverse.2 hwl, ?_, ?_⟩
   ·rw [hlb, show ((u, w) ∈ sortP (wayS M (fromP M f).toNat).b ↔ (u, w) ∈ (wayS M (fromP M f).toNat).b) from List.mem_mergeSort, hed u hul w hw]
    have r1 := idx_rev _ u hul hnd
    have r2 := idx_rev _ w hwl hnd
    omega
   ·obtain ⟨q1, q2⟩ := hwi u hul
    have hu0 := (hrng u hul).1
    unfold aheG
    refine List.mem_map.2 ⟨u.toNat - (fromP M f).toNat, List.mem_filter.2 ⟨List.mem_range.2 (by omega), ?_⟩, by omega⟩
    rw [show (fromP M f).toNat + (u.toNat - (fromP M f).toNat) = u.toNat by omega]
    simpa using hw }
theorem IS.blk {n0 : Nat} {m : Mem} {v : AV} {l : List Int} (h : IS n0 m v l) : ∀ b, blkOf v = some b → n0 ≤ b ∧ b < m.n := OS.blk h
theorem rw_sum {a0 a1 a2 a3 a4 a5 a6 a7 a8 KC l : Nat} (hl : l ≤ 60) (hK : 1000 ≤ KC) (n1 : a1 ≤ a0 + (KC + 40 * l + 12)) (n2 : a2 ≤ a1 + (KC + 40 * l + 10)) (n3 : a3 = a2 + 1) (n4 : a4 = a3) (n5 : a5 = a4 + 1) (n6 : a6 ≤ a5 + (KC + 40 * l + 10)) (n7 : a7 = a6) (n8 : a8 ≤ a7 + 60 * (5 * KC + 900)) : a8 ≤ a0 + 400 * KC := by omega
theorem rw_l6b (m0 : Mem) (I : ImV) (M : Img) (NC KC : Nat) (hc : checkI M = 0) (hck : CkOk m0 I M NC KC 54 0) (hlc : M.code.length ≤ 60) (hlf : M.funcs.length ≤ 80) (m : Mem) (hm : IM m I M) (hT : Tab m) (he : Ext m0 m) (f : Nat) (hf : f < M.funcs.length) (N : Nat) (hKC : 1000 ≤ KC) (hN : NC + 3000 ≤ N) (hmn : m.n + 500 * KC ≤ 2 ^ depth) (T : List (Nat × AV)) (L : List (Nat × List AV))
  (hk : keepT [1, 3] [1] T = [(1, .loc 1 0), (3, .int .i64 (f : Int))]) (hL : lookL L 1 = some [I.c, I.f, I.v, .int .i64 M.main, I.i, I.p, .int .i64 M.stack, I.a]) :
  ∃ T' L' m', codeEv (run A N) (ev A N).2 a9_B6 ⟨195, T, L, m⟩ = some (.norm, ⟨195, T', L', m'⟩) ∧ keepT [1, 3] [1] T' = [(1, .loc 1 0), (3, .int .i64 ((f + 1 : Nat) : Int))] ∧ lookL L' 1 = some [I.c, I.f, I.v, .int .i64 M.main, I.i, I.p, .int .i64 M.stack, I.a] ∧ Ext m m' ∧ m'.n ≤ m.n + 400 * KC := by
 obtain ⟨pc1, pc2, pc3, pc4⟩ := hm.c.plain
 have lc := hm.c.lenR
 obtain ⟨pf1, pf2, pf3, pf4⟩ := hm.f.plain
 have lf := hm.f.lenR
 obtain ⟨pv1, pv2, pv3, pv4⟩ := hm.v.plain
 have lv := hm.v.lenR
 obtain ⟨pi1, pi2, pi3, pi4⟩ := hm.i.plain
 have li := hm.i.lenR
 obtain ⟨pp1, pp2, pp3, pp4⟩ := hm.p.plain
 have lp := hm.p.lenR
 obtain ⟨pa1, pa2, pa3, pa4⟩ := hm.a.plain
 have la := hm.a.lenR
 have hfr := entry_in hc hf
 have hlaw := way_law M (fun a v hv => nextAt_in (next_in hc) hv) (fromP M f).toNat (by omega)
 have hrc := fun P B lb v5 mb => @rc_of m0 I M NC KC f P B lb v5 mb hc hf
 obtain ⟨v4, m1, hr1, hi1, hg1⟩ := row_run N m I M hm hT m0 NC KC hck he (codes_ok hc) (next_in hc) (by omega) f hf hfr (by omega) (by omega)
 have n1 := hg1.2
 have g1n := hg1.1.1
 obtain ⟨v5, m2, hr2, hi2, hg2, hll⟩ := reached_run N m1 I M (hm.ext hg1.1) (hT.ext hg1.1) m0 NC KC hck (he.trans hg1.1) (codes_ok hc) (next_in hc) (by omega) f hf hfr (by omega) (by omega)
 have n2 := hg2.2
 have g2n := hg2.1.1
 have e2 := hg1.1.trans hg2.1
 have f2 := not_full (m := m2) (by omega)
 have hmk : xmEv .mkmap [] m2 = some (.map m2.n, m2.push (.map [] 0)) := by simp only [xmEv, f2, Bool.false_eq_true, if_false]
 have x3 : Ext m2 (m2.push (.map [] 0)) := (Ext.refl m2).push _ (by omega)
 have gp3 := Mem.get_push_new (m := m2) (.map [] 0)
 have n3 := push_n m2 (.map [] 0)
 generalize hm3 : m2.push (.map [] 0) = m3 at *
 have hlog : logOk [Acc.eff m m1, Acc.rw (.loc 1 0) 8 false] = true := by simp [logOk, accFit, sameRead]
 have h' : (f : Int) < (M.funcs.length : Int) := by omega
 have ad := add_i f (by omega)
 obtain ⟨a1, a2, a3, a4⟩ := hi1.pl
 obtain ⟨b1, b2, b3, b4⟩ := hi2.pl
 have hR : (wayS M (fromP M f).toNat).l.reverse.length = (wayS M (fromP M f).toNat).l.length := List.length_reverse
 have hA : (sortZ (wayS M (fromP M f).toNat).l).length = (wayS M (fromP M f).toNat).l.length := len_sort _
 have h43 : IS m.n m3 v4 (wayS M (fromP M f).toNat).l.reverse := OS.ext hi1 (hg2.1.trans x3)
 have h53 : IS m1.n m3 v5 (sortZ (wayS M (fromP M f).toNat).l) := OS.ext hi2 x3
 have bl4 := hi1.blk
 have bl5 := hi2.blk
 obtain ⟨⟨n0, hlast⟩, hnd, hrng, _, _⟩ := hlaw
 unfold a9_B6
 simp only [KK, Nat.reduceEqDiff, Nat.reduceAdd, Nat.reduceLeDiff, Nat.reduceLT, opE_xm, hk, hL, h', lf]
 unfold a9_R2
 simp only [KK, Nat.reduceEqDiff, Nat.reduceAdd, Nat.reduceLeDiff, Nat.reduceLT, AOp.kd, kd_rm, hr1, a1, hr2, b1, hlog, hmk]
 generalize hq5 : codeEv (run A N) (ev A N).2 a9_L5 _ = q5
 obtain ⟨T5, L5, m4, rfl, k5, l5, gp4, n4, kp4⟩ := rw_l5 m3 I M v4 v5 _ _ h43.rs h53.rs ((List.reverse_perm _).nodup_iff.2 hnd) (by omega) f m2.n gp3 (by omega) (fun b hb => by have := (bl4 b hb).2; omega) N _ _ (by omega) (by simp only [keepT, List.map, look_set, look_cons, in_int, in_loc, Nat.reduceEqDiff, if_true, if_false, List.contains_cons, List.contains_nil, beq_self_eq_true, Bool.or_false, in_map, a1, b1]) (by simp only [lookL_cons, if_true]) hq5
 have x4 : Ext m m4 := ⟨by omega, fun j hj => (kp4 j (by omega)).trans ((x3.2 j (by omega)).trans (e2.2 j hj))⟩
 have hm4 := hm.ext x4
 have h44 : IS m.n m4 v4 (wayS M (fromP M f).toNat).l.reverse := OS.keep h43 fun b hb => kp4 b (by have := (bl4 b hb).2; omega)
 have h54 : IS m1.n m4 v5 (sortZ (wayS M (fromP M f).toNat).l) := OS.keep h53 fun b hb => kp4 b (by have := (bl5 b hb).2; omega)
 have la := h44.rs.lenR
 have lb := h54.rs.lenR
 rw [hR] at la
 rw [hA] at lb
 have hlenm := pl_len gp4
 rw [hR] at hlenm
 have hr0 : (wayS M (fromP M f).toNat).l.reverse[0]? = some (fromP M f) := by
  rw [hlast, List.reverse_append]
  simp only [List.reverse_cons, List.reverse_nil, List.nil_append, List.singleton_append, List.getElem?_cons_zero]
  rw [Int.toNat_of_nonneg hfr.1]
 obtain ⟨j1, j2, j3, j4, d1, d2, d3⟩ := h44.rs.i1 hr0
 obtain ⟨x, hx⟩ : ∃ x, M.funcs[f]? = some x := ⟨_, List.getElem?_eq_getElem hf⟩
 obtain ⟨b7, o7, cs7, ow7, c1, c2, _, c3, _, _⟩ := hm4.f.ff hx
 have hent : fromP M f = x.entry := by unfold fromP; rw [hx]; rfl
 rw [← hent] at c3
 have z0 : ((0 : Nat) : Int) = 0 := rfl
 rw [z0] at d1
 have hde : ∀ k : Int, decide (k = k) = true := fun _ => decide_eq_true rfl
 have f4 := not_full (m := m4) (by omega)
 have hmk4 : xmEv .mkmap [] m4 = some (.map m4.n, m4.push (.map [] 0)) := by simp only [xmEv, f4, Bool.false_eq_true, if_false]
 have x5 : Ext m4 (m4.push (.map [] 0)) := (Ext.refl m4).push _ (by omega)
 have gb5 := Mem.get_push_new (m := m4) (.map [] 0)
 have n5 := push_n m4 (.map [] 0)
 generalize hm5 : m4.push (.map [] 0) = m5 at *
 have e5 := x4.trans x5
 obtain ⟨v9, m6, hr6, hi6, hl6, hg6⟩ := backs_run N m5 I M (hm.ext e5) (hT.ext e5) m0 NC KC hck (he.trans e5) (codes_ok hc) (next_in hc) (by omega) f hf hfr (by omega) (by omega)
 have n6 := hg6.2
 have g6n := hg6.1.1
 obtain ⟨c91, c92, c93, c94⟩ := hi6.plain
 have bl9 := hi6.blk
 have h56 : IS m1.n m6 v5 (sortZ (wayS M (fromP M f).toNat).l) := OS.ext h54 (x5.trans hg6.1)
 unfold a9_R3
 simp only [KK, Nat.reduceEqDiff, Nat.reduceAdd, Nat.reduceLeDiff, Nat.reduceLT, AOp.kd, kd_rm, logOk_nil', opE_xm, k5, l5, b1, la, lb, hlenm, d1, d2, d3, c1, c2, c3, hmk4, hr6, c91]
 generalize hq4 : codeEv (run A N) (ev A N).2 a9_L4 _ = q4
 obtain ⟨T7, L7, m7, lb7, cb7, rfl, k7, l7, gb7, hq7, n7, kp7⟩ := rw_l4 m6 I M v5 v9 _ _ h56.rs (OS.rs (f := prow) (fun _ => rfl) hi6) (by omega) f m2.n m4.n ((hg6.1.2 _ (by omega)).trans gb5) (by omega) (fun b hb => by have := (bl9 b hb).1; omega) N _ _ (by omega) (by simp only [keepT, List.map, look_set, look_cons, in_int, in_loc, Nat.reduceEqDiff, if_true, if_false, List.contains_cons, List.contains_nil, beq_self_eq_true, Bool.or_false, in_map, b1, c91]) (by simp only [lookL_cons, if_true]) hq4
 have x7 : Ext m m7 := ⟨by omega, fun j hj => (kp7 j (by omega)).trans ((hg6.1.2 j (by omega)).trans (e5.2 j hj))⟩
 have gp7 : m7.get m2.n = some (.map (plE (wayS M (fromP M f).toNat).l.reverse 0) (wayS M (fromP M f).toNat).l.reverse.length) := (kp7 _ (by omega)).trans ((hg6.1.2 _ (by omega)).trans ((x5.2 _ (by omega)).trans gp4))
 have h57 : IS m1.n m7 v5 (sortZ (wayS M (fromP M f).toNat).l) := OS.keep h56 fun b hb => kp7 b (by have := (bl5 b hb).2; omega)
 have hRC := hrc m2.n m4.n lb7 v5 m7 (hm.ext x7) (hT.ext x7) hck (he.trans x7) hlc hlf gp7 ⟨cb7, gb7⟩ h57.rs (by omega) hq7
 simp only [Nat.reduceLT, if_true, k7, l7]
 generalize hq3 : codeEv (run A N) (ev A N).2 a9_L3 _ = q3
 obtain ⟨T8, L8, m8, rfl, k8, l8, x8, n8⟩ := rw_l3 m0 I M NC KC f _ _ m2.n m4.n _ _ lb7 v5 m7 hRC (fun i x y => sortZ_strict _ hnd i x y) N (by omega) (by omega) _ _ (by simp only [keepT, List.map, look_set, look_cons, in_int, in_loc, Nat.reduceEqDiff, if_true, if_false, List.contains_cons, List.contains_nil, beq_self_eq_true, Bool.or_false, in_map, b1]) (by simp only [lookL_cons, if_true]) hq3
 exact ⟨_, _, m8, by simp only [look_set, look_nil, look_cons, Option.map_some, Nat.reduceEqDiff, Nat.reduceLT, if_true, if_false, k8, l8, ad]; rfl, by simp only [keepT, List.map, look_set, look_cons, in_int, in_loc, Nat.reduceEqDiff, if_true, if_false, List.contains_cons, List.contains_nil, beq_self_eq_true, Bool.or_false], by simp only [lookL_cons, if_true], x7.trans x8, rw_sum hlc hKC n1 n2 n3 n4 n5 n6 n7 n8⟩
theorem rows_run (N : Nat) (hN : 40000 ≤ N) (m : Mem) (hlv : LV m) (I : ImV) (M : Img) (hm : IM m I M) (hcs : CapS I.c 4) (hmn : m.n + 300000000 ≤ 2 ^ depth) : ∃ m', run A N 9 [.agg [I.c, I.f, I.v, .int .i64 M.main, I.i, I.p, .int .i64 M.stack, I.a]] m = some (.bool true, m') := by
 obtain ⟨n, rfl⟩ : ∃ n, N = n + 1 := ⟨N - 1, by omega⟩
 obtain ⟨pc1, pc2, pc3, pc4⟩ := hm.c.plain
 have lc := hm.c.lenR
 obtain ⟨pf1, pf2, pf3, pf4⟩ := hm.f.plain
 have lf := hm.f.lenR
 obtain ⟨pv1, pv2, pv3, pv4⟩ := hm.v.plain
 have lv := hm.v.lenR
 obtain ⟨pi1, pi2, pi3, pi4⟩ := hm.i.plain
 have li := hm.i.lenR
 obtain ⟨pp1, pp2, pp3, pp4⟩ := hm.p.plain
 have lp := hm.p.lenR
 obtain ⟨pa1, pa2, pa3, pa4⟩ := hm.a.plain
 have la := hm.a.lenR
 have hli := lives_run n (by omega) m hlv
 have hlight := light_run n m I M hm 60 (by omega)
 rw [run_9]
 unfold fnEv a9
 cases hL : lightP M 60
 ·rw [hL] at hlight
  exact ⟨m, by unfold a9_R1; simp only [KK, Nat.reduceEqDiff, Nat.reduceAdd, Nat.reduceLeDiff, Nat.reduceLT, hli, hlight]⟩
 rw [hL] at hlight
 obtain ⟨l1, l2, l3, l4, l5, l6, l7⟩ := light_law (k := 60) hL
 obtain ⟨hck, hrk⟩ := cks m hlv I M hm hcs l1 l2 l3 l6
 obtain ⟨m1, hrc, hg1⟩ := hrk n m (by omega) (Ext.refl m) (by omega)
 have hn1 := hg1.2
 have hm1 := hm.ext hg1.1
 by_cases hc : checkI M = 0
 rotate_left
 ·have hd : decide (checkI M = 0) = false := decide_eq_false hc
  exact ⟨m1, by unfold a9_R1; simp only [KK, Nat.reduceEqDiff, Nat.reduceAdd, Nat.reduceLeDiff, Nat.reduceLT, hli, hlight, hrc, hd]⟩
 have hd : decide (checkI M = 0) = true := decide_eq_true hc
 rw [hc] at hck
 unfold a9_R1
 simp only [KK, Nat.reduceEqDiff, Nat.reduceAdd, Nat.reduceLeDiff, Nat.reduceLT, hli, hlight, hrc, hd]
 generalize hq : codeEv (run A n) (ev A n).2 a9_L6 _ = q
 obtain ⟨G, hG⟩ : ∃ G : Nat, G = 400 * 8000 := ⟨_, rfl⟩
 have hs := scan0 (A := A) a9_L6 a9_B6 a9_L6_step (fun f (_ : Unit) s => ∃ T L m', s = ⟨195, T, L, m'⟩ ∧ keepT [1, 3] [1] T = [(1, .loc 1 0), (3, .int .i64 (f : Int))] ∧ lookL L 1 = some [I.c, I.f, I.v, .int .i64 M.main, I.i, I.p, .int .i64 M.stack, I.a] ∧ Ext m1 m' ∧ m'.n ≤ m1.n + f * G) (fun _ s => ∃ T L m', s = ⟨195, T, L, m'⟩) (fun (_ : Unit) s => False) 0 13000 nop (List.range M.funcs.length)
  (fun N b s hN ⟨T, L, m', hs, hk, hL, hx, hn⟩ => by
   subst hs
   rw [List.length_range] at hk
   have h' : ¬ (M.funcs.length : Int) < (M.funcs.length : Int) := by omega
   unfold a9_B6
   exact ⟨_, by simp only [KK, Nat.reduceEqDiff, Nat.reduceAdd, Nat.reduceLeDiff, Nat.reduceLT, hk, hL, h', lf]; rfl, _, _, m', rfl⟩)
  (fun N f g b s hN hg ⟨T, L, m', hs, hk, hL, hx, hn⟩ => by
   subst hs
   have hfl : f < M.funcs.length := by have := (List.getElem?_eq_some_iff.1 hg).1; rwa [List.length_range] at this
   have hk2 : f * G ≤ 80 * G := Nat.mul_le_mul_right _ (by omega)
   have hx' := hg1.1.trans hx
   obtain ⟨T', L', m2, hc2, hk', hL', hx2, hn2⟩ := rw_l6b m I M 10000 8000 hc hck (by omega) (by omega) m' (hm.ext hx') (hlv.ext hx').tab.1 hx' f hfl N (by omega) (by omega) (by omega) T L hk hL
   rw [← hG] at hn2
   unfold nop
   dsimp only
   exact ⟨_, hc2, T', L', m2, rfl, hk', hL', hx.trans hx2, by rw [Nat.succ_mul]; omega⟩)
  n () _ (by rw [List.length_range]; omega) ⟨_, _, m1, rfl, by simp only [keepT, List.map, look_set, look_cons, in_int, in_loc, Nat.reduceEqDiff, if_true, if_false, List.contains_cons, List.contains_nil, beq_self_eq_true, Bool.or_false]; rfl, by simp only [lookL_cons, if_true], Ext.refl _, by omega⟩ hq
 rw [fold_nop] at hs
 obtain ⟨s', e, T', L', m', rfl⟩ := hs
 subst e
 exact ⟨m', by simp only [look_set, loc_bool, Nat.reduceLT, if_true, if_false, Bool.false_eq_true]⟩
end AG
