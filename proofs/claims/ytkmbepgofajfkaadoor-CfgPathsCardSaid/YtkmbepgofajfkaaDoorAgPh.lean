/- What the functions that read images and paths compute, and the laws of that. -/
import Derived.Test.YtkmbepgofajfkaaDoorAgPg
namespace AG
open Go Go.Proofs.YtkmbepgofajfkaaDoor
set_option maxRecDepth 100000
set_option maxHeartbeats 4000000
theorem Tab.ext {m m' : Mem} (h : Tab m) (k : Ext m m') : Tab m' := ⟨(k.2 _ (Mem.get_lt h.k)).trans h.k, (k.2 _ (Mem.get_lt h.s)).trans h.s, (k.2 _ (Mem.get_lt h.t)).trans h.t⟩
def outI (x : II) (a : Int) : List Int := (if x.op = 1 ∨ x.op = 18 ∨ x.op = 15 then [] else [a + 1]) ++ (if x.op = 15 ∨ x.op = 16 then [x.a] else [])
def nextI (x : II) (a : Int) : List Int := Lib.compact (sortZ (outI x a))
theorem len_sort (zs : List Int) : (sortZ zs).length = zs.length := by unfold sortZ; simp
theorem outI_len (x : II) (a : Int) : (outI x a).length ≤ 2 := by
  unfold outI
  rw [List.length_append]
  split <;> split <;> simp
theorem nextI_len (x : II) (a : Int) : (nextI x a).length ≤ 2 := by
  unfold nextI
  have h1 := Lib.compact_length_le (sortZ (outI x a))
  have h2 := outI_len x a
  rw [len_sort] at h1
  omega
theorem compact_shape (n : Nat) {m m' : Mem} {b o k : Nat} {cap : Option Nat} {e : Nat} {v : AV} (h : run A (n + 1) 120 [.slice b o k cap e] m = some (v, m')) : blkOf v = some b := by
  rw [run_120] at h
  unfold fnEv a120 primFn at h
  try dsimp only at h
  unfold compactEv at h
  dsimp only at h
  split at h
  · simp only [Option.some.injEq, Prod.mk.injEq] at h
    rw [← h.1]; rfl
  · split at h
    · simp only [Option.some.injEq, Prod.mk.injEq] at h
      rw [← h.1]; rfl
    · cases h
theorem compact_nil (n : Nat) {m m' : Mem} {v : AV} (h : run A (n + 1) 120 [.nils] m = some (v, m')) : v = .nils := by
  rw [run_120] at h
  unfold fnEv a120 primFn at h
  try dsimp only at h
  unfold compactEv at h
  simp only [Option.some.injEq, Prod.mk.injEq] at h
  exact h.1.symm
theorem compact_far (n n0 : Nat) {m m' : Mem} {v w : AV} {cs : List AV} {k : Nat} (ho : OS 1 n0 m w cs k) (h : run A (n + 1) 120 [w] m = some (v, m')) : ∀ b, blkOf v = some b → n0 ≤ b := by
  rcases ho with ⟨rfl, _⟩ | ⟨b', h0, rfl, _⟩
  · rw [compact_nil n h]
    intro b hb
    cases hb
  · intro b hb
    rw [compact_shape n h] at hb
    cases hb
    exact h0
theorem next_run (N : Nat) (hN : 10 ≤ N) (m : Mem) (I : ImV) (M : Img) (hm : IM m I M) (hT : Tab m) (a : Nat) (x : II) (hx : M.code[a]? = some x) (hok : codeOk x.op x.a x.b x.c = true) (hl : a ≤ 100000) (hmn : m.n + 12 ≤ 2 ^ depth) :
    ∃ v m', run A N 87 [.agg [I.c, I.f, I.v, .int .i64 M.main, I.i, I.p, .int .i64 M.stack, I.a], .int .i64 (a : Int)] m = some (v, m') ∧ RS (fun z => [AV.int .i64 z]) 1 m' v (nextI x a) ∧ Gr m m' 4 ∧ ∀ b, blkOf v = some b → m.n ≤ b := by
  obtain ⟨n, rfl⟩ : ∃ n, N = n + 1 := ⟨N - 1, by omega⟩
  obtain ⟨pc1, pc2, pc3, pc4⟩ := hm.c.plain
  have lc := hm.c.lenR
  obtain ⟨pf1, pf2, pf3, pf4⟩ := hm.f.plain
  have lf := hm.f.lenR
  obtain ⟨pv1, pv2, pv3, pv4⟩ := hm.v.plain
  have lv := hm.v.lenR
  obtain ⟨pi1, pi2, pi3, pi4⟩ := hm.i.plain
  have li := hm.i.lenR
  obtain ⟨pp1, pp2, pp3, pp4⟩ := hm.p.plain
  have lp := hm.p.lenR
  obtain ⟨pa1, pa2, pa3, pa4⟩ := hm.a.plain
  have la := hm.a.lenR
  obtain ⟨b, o, cs, ow, e1, e2, e3, _⟩ := hm.c.ii hx
  have hj := jumps_ex n (by omega) x.op x.a x.b x.c m hT
  unfold insA at hj
  have a1 := add_i a (by omega)
  rw [run_87]
  unfold fnEv a87
  by_cases h1 : x.op = 1 ∨ x.op = 18
  · have hje : jumpsI x.op x.a x.b x.c = .tup [.int .i64 0, .bool false, .bool false] := by unfold jumpsI; rw [if_pos hok]; rw [if_pos h1]
    rw [hje] at hj
    have h15 : ¬ (x.op = 15 ∨ x.op = 16) := by omega
    have h16 : x.op = 1 ∨ x.op = 18 ∨ x.op = 15 := by omega
    have hout : outI x a = [] := by unfold outI; simp [h15, h16]
    unfold nextI
    rw [hout]
    obtain ⟨m5, r5, o5, n5, k5⟩ := sort_at (n - 1) (show OS 1 m.n m .nils (([] : List Int).map fun z => AV.int .i64 z) ([] : List Int).length from .inl ⟨rfl, rfl, rfl⟩) (by omega) (by simp)
    rw [show n - 1 + 1 = n by omega] at r5
    have hsl : (sortZ []).length = ([] : List Int).length := len_sort _
    rw [← hsl] at o5
    obtain ⟨v6, m6, r6, o6, n6, k6⟩ := compact_at (n - 1) o5 (by omega)
    have far6 := compact_far (n - 1) m.n o5 r6
    rw [show n - 1 + 1 = n by omega] at r6
    obtain ⟨z1, z2, z3, z4⟩ := o6.plain
    refine ⟨v6, m6, ?_, o6, ⟨⟨by omega, fun i hi => (k6 i hi).trans ((k5 i hi).trans ((fun i _ => rfl : ∀ i, i < m.n → m.get i = m.get i) i hi))⟩, by omega⟩, far6⟩
    simp only [KK, opE_mkslc, Nat.reduceEqDiff, Nat.reduceAdd, Nat.reduceLeDiff, Nat.reduceLT, Nat.reducePow, Nat.mul_one, e1, e2, e3, hj, a1, r5, r6, z2]
  by_cases h2 : x.op = 15
  · have hje : jumpsI x.op x.a x.b x.c = .tup [.int .i64 x.a, .bool true, .bool false] := by unfold jumpsI; rw [if_pos hok]; rw [if_neg h1, if_pos h2]
    rw [hje] at hj
    obtain ⟨v1, m1, ha1, o1, n1, n2, k1, y1, y2, hf1⟩ := push_int (IS.nil m.n m) x.a (by omega) (Nat.le_refl _) (by simp)
    rw [List.nil_append] at o1
    have hout : outI x a = [x.a] := by unfold outI; simp [h2]
    unfold nextI
    rw [hout]
    obtain ⟨m5, r5, o5, n5, k5⟩ := sort_at (n - 1) (o1) (by omega) (by simp)
    rw [show n - 1 + 1 = n by omega] at r5
    have hsl : (sortZ [x.a]).length = ([x.a] : List Int).length := len_sort _
    rw [← hsl] at o5
    obtain ⟨v6, m6, r6, o6, n6, k6⟩ := compact_at (n - 1) o5 (by omega)
    have far6 := compact_far (n - 1) m.n o5 r6
    rw [show n - 1 + 1 = n by omega] at r6
    obtain ⟨z1, z2, z3, z4⟩ := o6.plain
    refine ⟨v6, m6, ?_, o6, ⟨⟨by omega, fun i hi => (k6 i hi).trans ((k5 i hi).trans (k1 i hi))⟩, by omega⟩, far6⟩
    simp only [KK, opE_mkslc, Nat.reduceEqDiff, Nat.reduceAdd, Nat.reduceLeDiff, Nat.reduceLT, Nat.reducePow, Nat.mul_one, e1, e2, e3, hj, a1, hf1, zer1, ha1, y1, y2, r5, r6, z2]
  obtain ⟨v1, m1, ha1, o1, n1, n2, k1, y1, y2, hf1⟩ := push_int (IS.nil m.n m) ((a + 1 : Nat) : Int) (by omega) (Nat.le_refl _) (by simp)
  rw [List.nil_append] at o1
  by_cases h3 : x.op = 16
  · have hje : jumpsI x.op x.a x.b x.c = .tup [.int .i64 x.a, .bool true, .bool true] := by unfold jumpsI; rw [if_pos hok]; rw [if_neg h1, if_neg h2, if_pos h3]
    rw [hje] at hj
    obtain ⟨v2, m2, ha2, o2, n3, n4, k2, y3, y4, hf2⟩ := push_int o1 x.a (by omega) (by omega) (by simp)
    have hout : outI x a = ([((a + 1 : Nat) : Int)] ++ [x.a]) := by unfold outI; simp [h3]
    unfold nextI
    rw [hout]
    obtain ⟨m5, r5, o5, n5, k5⟩ := sort_at (n - 1) (o2) (by omega) (by simp)
    rw [show n - 1 + 1 = n by omega] at r5
    have hsl : (sortZ ([((a + 1 : Nat) : Int)] ++ [x.a])).length = (([((a + 1 : Nat) : Int)] ++ [x.a]) : List Int).length := len_sort _
    rw [← hsl] at o5
    obtain ⟨v6, m6, r6, o6, n6, k6⟩ := compact_at (n - 1) o5 (by omega)
    have far6 := compact_far (n - 1) m.n o5 r6
    rw [show n - 1 + 1 = n by omega] at r6
    obtain ⟨z1, z2, z3, z4⟩ := o6.plain
    refine ⟨v6, m6, ?_, o6, ⟨⟨by omega, fun i hi => (k6 i hi).trans ((k5 i hi).trans ((fun i hi => (k2 i hi).trans (k1 i hi)) i hi))⟩, by omega⟩, far6⟩
    simp only [KK, opE_mkslc, Nat.reduceEqDiff, Nat.reduceAdd, Nat.reduceLeDiff, Nat.reduceLT, Nat.reducePow, Nat.mul_one, e1, e2, e3, hj, a1, hf1, zer1, ha1, y1, hf2, ha2, y3, y4, r5, r6, z2]
  have hje : jumpsI x.op x.a x.b x.c = .tup [.int .i64 0, .bool false, .bool true] := by unfold jumpsI; rw [if_pos hok]; rw [if_neg h1, if_neg h2, if_neg h3]
  rw [hje] at hj
  have h15 : ¬ (x.op = 15 ∨ x.op = 16) := by omega
  have h16 : ¬ (x.op = 1 ∨ x.op = 18 ∨ x.op = 15) := by omega
  have hout : outI x a = [((a + 1 : Nat) : Int)] := by unfold outI; simp [h15, h16]
  unfold nextI
  rw [hout]
  obtain ⟨m5, r5, o5, n5, k5⟩ := sort_at (n - 1) (o1) (by omega) (by simp)
  rw [show n - 1 + 1 = n by omega] at r5
  have hsl : (sortZ [((a + 1 : Nat) : Int)]).length = ([((a + 1 : Nat) : Int)] : List Int).length := len_sort _
  rw [← hsl] at o5
  obtain ⟨v6, m6, r6, o6, n6, k6⟩ := compact_at (n - 1) o5 (by omega)
  have far6 := compact_far (n - 1) m.n o5 r6
  rw [show n - 1 + 1 = n by omega] at r6
  obtain ⟨z1, z2, z3, z4⟩ := o6.plain
  refine ⟨v6, m6, ?_, o6, ⟨⟨by omega, fun i hi => (k6 i hi).trans ((k5 i hi).trans (k1 i hi))⟩, by omega⟩, far6⟩
  simp only [KK, opE_mkslc, Nat.reduceEqDiff, Nat.reduceAdd, Nat.reduceLeDiff, Nat.reduceLT, Nat.reducePow, Nat.mul_one, e1, e2, e3, hj, a1, hf1, zer1, ha1, y1, y2, r5, r6, z2]
def CodesOk (M : Img) : Prop := ∀ (a : Nat) (x : II), M.code[a]? = some x → codeOk x.op x.a x.b x.c = true
def nextAt (M : Img) (a : Nat) : List Int := match M.code[a]? with
  | some x => nextI x a
  | none => []
def nextP (M : Img) (c at' : Int) : List Int := if c = 0 ∧ 0 ≤ at' ∧ at' < (M.code.length : Int) then nextAt M at'.toNat else []
theorem Next_run (N : Nat) (m : Mem) (I : ImV) (M : Img) (hm : IM m I M) (hT : Tab m) (hl : M.funcs.length ≤ 100000) (hlc : M.code.length ≤ 100000) (m0 : Mem) (c : Int) (NC KC : Nat) (hck : CkOk m0 I M NC KC 54 c) (he : Ext m0 m) (hmn : m.n + KC + 12 ≤ 2 ^ depth) (hco : c = 0 → CodesOk M) (hN : NC + M.funcs.length + 15 ≤ N) (at' : Int) :
    ∃ v m', run A N 45 [.agg [I.c, I.f, I.v, .int .i64 M.main, I.i, I.p, .int .i64 M.stack, I.a], .int .i64 at'] m = some (v, m') ∧ RS (fun z => [AV.int .i64 z]) 1 m' v (nextP M c at') ∧ Gr m m' (KC + 4) := by
  obtain ⟨n, rfl⟩ : ∃ n, N = n + 1 := ⟨N - 1, by omega⟩
  obtain ⟨pc1, pc2, pc3, pc4⟩ := hm.c.plain
  have lc := hm.c.lenR
  obtain ⟨pf1, pf2, pf3, pf4⟩ := hm.f.plain
  have lf := hm.f.lenR
  obtain ⟨pv1, pv2, pv3, pv4⟩ := hm.v.plain
  have lv := hm.v.lenR
  obtain ⟨pi1, pi2, pi3, pi4⟩ := hm.i.plain
  have li := hm.i.lenR
  obtain ⟨pp1, pp2, pp3, pp4⟩ := hm.p.plain
  have lp := hm.p.lenR
  obtain ⟨pa1, pa2, pa3, pa4⟩ := hm.a.plain
  have la := hm.a.lenR
  obtain ⟨m1, ho, hg⟩ := of_run n m I M hm hl m0 c NC KC hck he (by omega) (by omega) at'
  have hm1 := hm.ext hg.1
  have hgn := hg.2
  rw [run_45]
  unfold fnEv a45
  by_cases h : c = 0 ∧ 0 ≤ at' ∧ at' < (M.code.length : Int)
  · have h1 : ofP M c at' = (ofR at' M.funcs 0 0, true) := if_pos h
    have h2 : nextP M c at' = nextAt M at'.toNat := if_pos h
    rw [h1] at ho
    dsimp only at ho
    obtain ⟨h0, h3, h4⟩ := h
    obtain ⟨k, rfl⟩ : ∃ k : Nat, at' = (k : Int) := ⟨at'.toNat, by omega⟩
    obtain ⟨x, hx⟩ : ∃ x, M.code[k]? = some x := ⟨_, List.getElem?_eq_getElem (by omega)⟩
    rw [h2, Int.toNat_natCast]
    unfold nextAt
    rw [hx]
    dsimp only
    obtain ⟨v, m2, hr, hv, hg2, _⟩ := next_run n (by omega) m1 I M hm1 (hT.ext hg.1) k x hx (hco h0 k x hx) (by omega) (by omega)
    obtain ⟨z1, z2, _, _⟩ := hv.plain
    exact ⟨v, m2, by simp only [KK, Nat.reduceEqDiff, Nat.reduceAdd, Nat.reduceLeDiff, Nat.reduceLT, ho, hr, z2], hv, hg.trans hg2⟩
  · have h1 : ofP M c at' = (0, false) := if_neg h
    have h2 : nextP M c at' = [] := if_neg h
    rw [h1] at ho
    rw [h2]
    exact ⟨.nils, m1, by simp only [KK, Nat.reduceEqDiff, Nat.reduceAdd, Nat.reduceLeDiff, Nat.reduceLT, ho], .inl ⟨rfl, rfl⟩, hg.le (by omega)⟩
theorem app_cut {m : Mem} {b : Nat} {way : List Int} {ow : Bool} (hg : m.get b = some (.cells (way.map fun z => AV.int .i64 z) ow)) (x : Int) (hmn : m.n + 3 ≤ 2 ^ depth) (hl : way.length ≤ 100000) :
    ∀ sn t l, appEv ⟨sn, t, l, m.push (.cells [.int .i64 x] true)⟩ none 1 8 (.slice b 0 way.length (some way.length) 1) (.slice m.n 0 1 (some 1) 1) = some (.slice (m.n + 1) 0 (way.length + 1) none 1, ⟨sn, t, l, (m.push (.cells [.int .i64 x] true)).push (.cells ((way ++ [x]).map fun z => AV.int .i64 z) true)⟩) := by
  intro sn t l
  have hf := not_full (m := m) (by omega)
  have hf2 := not_full (m := m.push (.cells [.int .i64 x] true)) (by rw [push_n]; omega)
  have hb : (m.push (.cells [.int .i64 x] true)).get b = some (.cells (way.map fun z => AV.int .i64 z) ow) := (Mem.get_push_old _ hf (by have := Mem.get_lt hg; omega)).trans hg
  have hel : (AV.slice m.n 0 1 (some 1) 1).elems ⟨sn, t, l, m.push (.cells [.int .i64 x] true)⟩ 1 = some (1, [.int .i64 x]) := by
    simp only [AV.elems, Mem.get_push_new]
    rfl
  have c2 : cellsAt (way.map fun z => AV.int .i64 z) 0 (way.length * 1) = some (way.map fun z => AV.int .i64 z) := by
    unfold cellsAt
    rw [if_pos (by simp), List.drop_zero, Nat.mul_one, List.take_of_length_le (by simp)]
  simp only [appEv, hel, hb, hf2, c2, List.all_cons, List.all_nil, AV.one, Bool.and_self, if_true, Bool.false_eq_true, if_false, push_n]
  rw [if_neg (by omega), if_pos ⟨by omega, Nat.le_trans (show way.length + 1 ≤ 100001 by omega) (by decide)⟩]
  simp only [Mem.noteO, List.map_append, List.map_cons, List.map_nil]
theorem cut_way {_m : Mem} {b : Nat} {way : List Int} {cap : Option Nat} (hcap : cap = none ∨ cap = some way.length) (s : St) : slcR 1 (.slice b 0 way.length cap 1) none (some (.int .i64 (way.length : Int))) (some (.int .i64 (way.length : Int))) s = some (.slice b 0 way.length (some way.length) 1, s) := by
  have hb : bndsEv way.length way.length none (some (.int .i64 (way.length : Int))) (some (.int .i64 (way.length : Int))) = some (0, way.length, way.length) := by
    have h1 : bndEv way.length (.int .i64 (way.length : Int)) = some way.length := by
      simp only [bndEv]
      rw [if_pos (by omega), Int.toNat_natCast]
    simp [bndsEv, obnd, h1]
  rcases hcap with rfl | rfl <;> simp [slcR, hb]
theorem clone_run (N : Nat) (hN : 2 ≤ N) (m : Mem) (b : Nat) (way : List Int) (cap : Option Nat) (ow : Bool) (hg : m.get b = some (.cells (way.map fun z => AV.int .i64 z) ow)) (hne : way.length ≠ 0) (hl : way.length ≤ 100000) (hmn : m.n + 3 ≤ 2 ^ depth) :
    run A N 86 [.slice b 0 way.length cap 1] m = some (.slice (m.n + 1) 0 way.length none 1, (m.push (.cells [] true)).push (.cells (way.map fun z => AV.int .i64 z) true)) := by
  obtain ⟨n, rfl⟩ : ∃ n, N = n + 1 := ⟨N - 1, by omega⟩
  have hf := not_full (m := m) (by omega)
  have hf2 := not_full (m := m.push (.cells [] true)) (by rw [push_n]; omega)
  have hb : (m.push (.cells [] true)).get b = some (.cells (way.map fun z => AV.int .i64 z) ow) := (Mem.get_push_old _ hf (by have := Mem.get_lt hg; omega)).trans hg
  have c2 : cellsAt (way.map fun z => AV.int .i64 z) 0 (way.length * 1) = some (way.map fun z => AV.int .i64 z) := by
    unfold cellsAt
    rw [if_pos (by simp), List.drop_zero, Nat.mul_one, List.take_of_length_le (by simp)]
  have c0 : cellsAt ([] : List AV) 0 (0 * 1) = some [] := rfl
  have hz0 : zerosEv [AV.int .i64 0] 0 = [] := rfl
  have happ : ∀ sn t l, appEv ⟨sn, t, l, m.push (.cells [] true)⟩ none 1 8 (.slice m.n 0 0 (some 0) 1) (.slice b 0 way.length cap 1) = some (.slice (m.n + 1) 0 way.length none 1, ⟨sn, t, l, (m.push (.cells [] true)).push (.cells (way.map fun z => AV.int .i64 z) true)⟩) := by
    intro sn t l
    have hel : (AV.slice b 0 way.length cap 1).elems ⟨sn, t, l, m.push (.cells [] true)⟩ 1 = some (way.length, way.map fun z => AV.int .i64 z) := by
      simp only [AV.elems, hb, c2, hne, if_false]
    simp only [appEv, hel, Mem.get_push_new, hf2, c0, ones_int, if_true, Bool.false_eq_true, if_false, push_n]
    rw [if_neg (by omega), if_pos ⟨by omega, Nat.le_trans (show 0 + way.length ≤ 100000 by omega) (by decide)⟩]
    simp only [Mem.noteO, List.nil_append, Nat.zero_add]
  have hnil : ∀ b o n c e, eqEv .nilS (.slice b o n c e) .nils = some false := fun _ _ _ _ _ => rfl
  rw [run_86]
  unfold fnEv a86
  simp only [KK, opE_mkslc, Nat.reduceEqDiff, Nat.reduceAdd, Nat.reduceLeDiff, Nat.reduceLT, Nat.reducePow, Nat.mul_one, hnil, hf, hz0, happ]
theorem add_row {n0 : Nat} {m : Mem} {a : AV} {ws : List AV} {ls : List (List Int)} (ho : OS 1 n0 m a ws ws.length) (hr : Rows m a ws ls) {w : AV} {l : List Int} (hw : RS (fun x => [AV.int .i64 x]) 1 m w l) (hwb : ∀ b, blkOf w = some b → b < m.n ∧ blkOf a ≠ some b) (hmn : m.n + 3 ≤ 2 ^ depth) (hal : ws.length ≤ 1000000) (hn0 : n0 ≤ m.n) :
    ∃ m', (∀ sn t q, appEv ⟨sn, t, q, m.push (.cells [w] true)⟩ none 1 24 a (.slice m.n 0 1 (some 1) 1) = some (.slice (m.n + 1) 0 (ws.length + 1) none 1, ⟨sn, t, q, m'⟩)) ∧ OS 1 n0 m' (.slice (m.n + 1) 0 (ws.length + 1) none 1) (ws ++ [w]) (ws ++ [w]).length ∧ Rows m' (.slice (m.n + 1) 0 (ws.length + 1) none 1) (ws ++ [w]) (ls ++ [l]) ∧ m'.n = m.n + 2 ∧ (∀ i, i < m.n → blkOf a ≠ some i → m'.get i = m.get i) := by
  have hf := not_full (m := m) (by omega)
  obtain ⟨w1, w2, w3, w4⟩ := hw.plain
  have hab : ∀ b, blkOf a = some b → b < m.n := by
    intro b hb
    rcases ho with ⟨rfl, _⟩ | ⟨b', h0, rfl, g1, g2⟩
    · cases hb
    · cases hb
      exact Mem.get_lt g1
  obtain ⟨m4, ha, g1, g2, g3, g4⟩ := app_spec2 (ty := none) (c := 1) (n0 := n0) (bytes := 24) (by omega) (ho.push (.cells [w] true) (by omega)) (by' := m.n) (cp := some 1) (e := [w]) (ow := true) (Mem.get_push_new _) rfl (by simp [w3]) (by rw [push_n]; omega) (by omega) (Nat.le_trans (show ws.length + 1 ≤ 1000001 by omega) (by decide))
  rw [push_n] at ha g1 g3 g4
  have hold : ∀ i, i < m.n → blkOf a ≠ some i → m4.get i = m.get i := fun i hi hne => (g4 i (by omega) hne).trans (Mem.get_push_old _ hf (by omega))
  refine ⟨m4, ha, .inr ⟨m.n + 1, by omega, by simp, g1, by simp⟩, ⟨by simp [hr.1], fun i v q hv hq => ?_⟩, by omega, hold⟩
  by_cases hi : i < ws.length
  · rw [List.getElem?_append_left hi] at hv
    rw [List.getElem?_append_left (by rw [← hr.1]; exact hi)] at hq
    obtain ⟨q1, q2⟩ := hr.2 i v q hv hq
    refine ⟨q1.frame fun b hb hbw => hold b hb (q2 b hbw).2, fun b hb => ⟨by have := (q2 b hb).1; omega, ?_⟩⟩
    have := (q2 b hb).1
    simp only [blkOf, ne_eq, Option.some.injEq]
    omega
  · have hi2 : i = ws.length := by
      have := (List.getElem?_eq_some_iff.1 hv).1
      rw [List.length_append, List.length_singleton] at this
      omega
    subst hi2
    rw [List.getElem?_append_right (Nat.le_refl _), Nat.sub_self] at hv
    rw [List.getElem?_append_right (by rw [hr.1]; exact Nat.le_refl _), hr.1, Nat.sub_self] at hq
    cases hv
    cases hq
    refine ⟨hw.frame fun b hb hbw => hold b hb (hwb b hbw).2, fun b hb => ⟨by have := (hwb b hb).1; omega, ?_⟩⟩
    have := (hwb b hb).1
    simp only [blkOf, ne_eq, Option.some.injEq]
    omega
def ptree (M : Img) : Nat → List Int → Nat → List (List Int)
  | 0, way, _ => [way]
  | k + 1, way, a => way :: (nextAt M a).flatMap fun n => ptree M k (way ++ [n]) n.toNat
def NextIn (M : Img) : Prop := ∀ (a : Nat) (x : II), M.code[a]? = some x → ∀ n ∈ nextI x a, 0 ≤ n ∧ n < (M.code.length : Int)
structure PS (m0 : Mem) (I : ImV) (M : Img) (most : Int) (n1 Q1 Q2 Q3 Q4 : Nat) (m : Mem) (a : AV) (ws : List AV) (ls : List (List Int)) : Prop where
  ext : Ext m0 m
  lo : m0.n ≤ Q1 ∧ m0.n ≤ Q2 ∧ m0.n ≤ Q3 ∧ m0.n ≤ Q4
  hi : Q1 < n1 ∧ Q2 < n1 ∧ Q3 < n1 ∧ Q4 < n1
  ne : Q1 ≠ Q2 ∧ Q1 ≠ Q3 ∧ Q1 ≠ Q4
  nn : n1 ≤ m.n
  g1 : m.get Q1 = some (.cells [a] true)
  g2 : m.get Q2 = some (.cells [.int .i64 most] true)
  g3 : m.get Q3 = some (.cells [I.c, I.f, I.v, .int .i64 M.main, I.i, I.p, .int .i64 M.stack, I.a] true)
  g4 : m.get Q4 = some (.cells [.fn 85 [.ptr Q1 0, .ptr Q2 0, .ptr Q3 0, .ptr Q4 0]] true)
  os : OS 1 n1 m a ws ws.length
  rows : Rows m a ws ls
  far : ∀ (i : Nat) (w : AV), ws[i]? = some w → ∀ b, blkOf w = some b → n1 ≤ b
theorem PS.up {m0 : Mem} {I : ImV} {M : Img} {most : Int} {n1 Q1 Q2 Q3 Q4 : Nat} {m m' : Mem} {a : AV} {ws : List AV} {ls : List (List Int)} (h : PS m0 I M most n1 Q1 Q2 Q3 Q4 m a ws ls) (k : Ext m m') : PS m0 I M most n1 Q1 Q2 Q3 Q4 m' a ws ls where
  ext := h.ext.trans k
  lo := h.lo
  hi := h.hi
  ne := h.ne
  nn := Nat.le_trans h.nn k.1
  g1 := (k.2 _ (Mem.get_lt h.g1)).trans h.g1
  g2 := (k.2 _ (Mem.get_lt h.g2)).trans h.g2
  g3 := (k.2 _ (Mem.get_lt h.g3)).trans h.g3
  g4 := (k.2 _ (Mem.get_lt h.g4)).trans h.g4
  os := by
    rcases h.os with q | ⟨b, h0, q, g1, g2⟩
    · exact .inl q
    · exact .inr ⟨b, h0, q, (k.2 b (Mem.get_lt g1)).trans g1, g2⟩
  rows := ⟨h.rows.1, fun i w l hw hl => ⟨(h.rows.2 i w l hw hl).1.ext k, fun b hb => ⟨by have := ((h.rows.2 i w l hw hl).2 b hb).1; have := k.1; omega, ((h.rows.2 i w l hw hl).2 b hb).2⟩⟩⟩
  far := h.far
theorem OS.same {n0 : Nat} {m : Mem} {a : AV} {cs : List AV} {n : Nat} (h : OS 1 n0 m a cs n) : eqV 4 a a = true ∧ ∀ b, blkOf a = some b → n0 ≤ b ∧ b < m.n := by
  rcases h with ⟨rfl, _⟩ | ⟨b, h0, rfl, g, _⟩
  · exact ⟨rfl, fun b hb => by cases hb⟩
  · exact ⟨by simp [eqV], fun c hc => by cases hc; exact ⟨h0, Mem.get_lt g⟩⟩
theorem PS.add {m0 : Mem} {I : ImV} {M : Img} {most : Int} {n1 Q1 Q2 Q3 Q4 : Nat} {m : Mem} {a : AV} {ws : List AV} {ls : List (List Int)} (h : PS m0 I M most n1 Q1 Q2 Q3 Q4 m a ws ls) {w : AV} {l : List Int} (hw : RS (fun x => [AV.int .i64 x]) 1 m w l) (hwb : ∀ b, blkOf w = some b → n1 ≤ b ∧ b < m.n ∧ blkOf a ≠ some b) (hmn : m.n + 3 ≤ 2 ^ depth) (hal : ws.length ≤ 1000000) :
    ∃ m2, (∀ sn t q, appEv ⟨sn, t, q, m.push (.cells [w] true)⟩ none 1 24 a (.slice m.n 0 1 (some 1) 1) = some (.slice (m.n + 1) 0 (ws.length + 1) none 1, ⟨sn, t, q, m2⟩)) ∧ m2.get Q1 = some (.cells [a] true) ∧ m2.n = m.n + 2 ∧ PS m0 I M most n1 Q1 Q2 Q3 Q4 (m2.set Q1 (.cells [.slice (m.n + 1) 0 (ws.length + 1) none 1] true)) (.slice (m.n + 1) 0 (ws.length + 1) none 1) (ws ++ [w]) (ls ++ [l]) ∧
      (∀ i, i < m.n → i ≠ Q1 → blkOf a ≠ some i → (m2.set Q1 (.cells [.slice (m.n + 1) 0 (ws.length + 1) none 1] true)).get i = m.get i) := by
  obtain ⟨m2, ha, o2, r2, n2, k2⟩ := add_row h.os h.rows hw (fun b hb => (hwb b hb).2) hmn hal h.nn
  have hab := h.os.same.2
  have hq : ∀ q, q < n1 → blkOf a ≠ some q := fun q hq e => by have := (hab q e).1; omega
  have hnn := h.nn
  have hQ1 : Q1 < m2.n := by have := h.hi.1; omega
  have hle : m2.n ≤ 2 ^ depth := by omega
  have hset : ∀ i, i ≠ Q1 → (m2.set Q1 (.cells [.slice (m.n + 1) 0 (ws.length + 1) none 1] true)).get i = m2.get i := fun i hi => Mem.get_set_ne _ hle hQ1 (fun e => hi e.symm)
  have hk : ∀ i, i < m.n → i ≠ Q1 → blkOf a ≠ some i → (m2.set Q1 (.cells [.slice (m.n + 1) 0 (ws.length + 1) none 1] true)).get i = m.get i := fun i hi hne hb => (hset i hne).trans (k2 i hi hb)
  have hlo := h.lo
  have hhi := h.hi
  have hnq := h.ne
  refine ⟨m2, ha, (k2 Q1 (by omega) (hq Q1 hhi.1)).trans h.g1, n2, ⟨⟨by rw [set_n]; have := h.ext.1; omega, fun i hi => (hk i (by have := h.ext.1; omega) (by omega) (hq i (by omega))).trans (h.ext.2 i hi)⟩, hlo, hhi, hnq, by rw [set_n]; omega, Mem.get_set_same _ hQ1, (hk Q2 (by omega) (Ne.symm hnq.1) (hq Q2 hhi.2.1)).trans h.g2, (hk Q3 (by omega) (Ne.symm hnq.2.1) (hq Q3 hhi.2.2.1)).trans h.g3, (hk Q4 (by omega) (Ne.symm hnq.2.2) (hq Q4 hhi.2.2.2)).trans h.g4, ?_, ?_, ?_⟩, hk⟩
  · rcases o2 with ⟨q, _⟩ | ⟨b, h0, q, g1, g2⟩
    · cases q
    · simp only [AV.slice.injEq] at q
      obtain ⟨rfl, _⟩ := q
      exact .inr ⟨m.n + 1, h0, by simp, (hset _ (by omega)).trans g1, g2⟩
  · refine ⟨r2.1, fun i v q hv hq2 => ⟨(r2.2 i v q hv hq2).1.frame fun b hb hbv => hset b ?_, fun b hb => ⟨by rw [set_n]; exact ((r2.2 i v q hv hq2).2 b hb).1, ((r2.2 i v q hv hq2).2 b hb).2⟩⟩⟩
    rintro rfl
    by_cases hi : i < ws.length
    · rw [List.getElem?_append_left hi] at hv
      have := h.far i v hv _ hbv
      omega
    · rw [List.getElem?_append_right (by omega)] at hv
      cases hj : i - ws.length with
      | zero =>
        rw [hj] at hv
        cases hv
        have := (hwb _ hbv).1
        omega
      | succ j => rw [hj] at hv; cases hv
  · intro i v hv b hb
    by_cases hi : i < ws.length
    · rw [List.getElem?_append_left hi] at hv
      exact h.far i v hv b hb
    · rw [List.getElem?_append_right (by omega)] at hv
      cases hj : i - ws.length with
      | zero =>
        rw [hj] at hv
        cases hv
        exact (hwb b hb).1
      | succ j => rw [hj] at hv; cases hv
def Cp : Nat → Nat
  | 0 => 20
  | k + 1 => 20 + 2 * Cp k
def Lp : Nat → Nat
  | 0 => 1
  | k + 1 => 1 + 2 * Lp k
theorem flat_le {α β : Type} (f : α → List β) (c : Nat) : ∀ l : List α, (∀ x ∈ l, (f x).length ≤ c) → (l.flatMap f).length ≤ l.length * c
  | [], _ => by simp
  | x :: r, h => by
    have h1 := h x (by simp)
    have h2 := flat_le f c r (fun y hy => h y (List.mem_cons_of_mem _ hy))
    rw [List.flatMap_cons, List.length_append, List.length_cons, Nat.add_mul, Nat.one_mul]
    omega
theorem ptree_len (M : Img) : ∀ (k : Nat) (way : List Int) (a : Nat), (ptree M k way a).length ≤ Lp k
  | 0, _, _ => Nat.le_refl _
  | k + 1, way, a => by
    have h1 := flat_le (fun n : Int => ptree M k (way ++ [n]) n.toNat) (Lp k) (nextAt M a) (fun x _ => ptree_len M k _ _)
    have h2 : (nextAt M a).length ≤ 2 := by
      unfold nextAt
      split
      · exact nextI_len _ _
      · simp
    have h3 := Nat.mul_le_mul_right (Lp k) h2
    rw [ptree, List.length_cons, Lp]
    omega
def RecP (m0 : Mem) (I : ImV) (M : Img) (most : Int) (n1 Q1 Q2 Q3 Q4 : Nat) (k : Nat) : Prop :=
  ∀ (N : Nat) (m : Mem) (a : AV) (ws : List AV) (ls : List (List Int)) (b : Nat) (cap : Option Nat) (way : List Int) (last : Nat), 30 + 8 * k ≤ N → PS m0 I M most n1 Q1 Q2 Q3 Q4 m a ws ls → (cap = none ∨ cap = some way.length) → m.get b = some (.cells (way.map fun z => AV.int .i64 z) true) → n1 ≤ b → blkOf a ≠ some b →
    way[way.length - 1]? = some (last : Int) → last < M.code.length → (way.length : Int) + k = most → m.n + Cp k + 20 ≤ 2 ^ depth → ls.length + Lp k ≤ 100000 →
    ∃ m' a' ws', run A N 85 [.slice b 0 way.length cap 1, .ptr Q1 0, .ptr Q2 0, .ptr Q3 0, .ptr Q4 0] m = some (.tup [], m') ∧ PS m0 I M most n1 Q1 Q2 Q3 Q4 m' a' ws' (ls ++ ptree M k way last) ∧ (∀ j, j < m.n → j ≠ Q1 → blkOf a ≠ some j → m'.get j = m.get j) ∧ (∀ c, blkOf a' = some c → m.n ≤ c) ∧ m.n ≤ m'.n ∧ m'.n ≤ m.n + Cp k
theorem on_body (k : Nat) (m0 : Mem) (I : ImV) (M : Img) (most : Int) (n1 Q1 Q2 Q3 Q4 : Nat) (hrec : RecP m0 I M most n1 Q1 Q2 Q3 Q4 k) (N : Nat) (hN : 30 + 8 * k ≤ N) (m1 : Mem) (a : AV) (ws : List AV) (ls : List (List Int)) (b : Nat) (cap : Option Nat) (way : List Int) (hp : PS m0 I M most n1 Q1 Q2 Q3 Q4 m1 a ws ls) (hcap : cap = none ∨ cap = some way.length) (hg : m1.get b = some (.cells (way.map fun z => AV.int .i64 z) true)) (_hb1 : n1 ≤ b) (_hba : blkOf a ≠ some b) (hlw : way.length ≤ 900) (hkm : ((way.length + 1 : Nat) : Int) + k = most)
    (u : AV) (l : List Int) (hu : RS (fun z => [AV.int .i64 z]) 1 m1 u l) (i : Nat) (x : Int) (hx : l[i]? = some x) (hxr : 0 ≤ x ∧ x < (M.code.length : Int)) (hll : l.length ≤ 100) (hmn : m1.n + Cp k + 25 ≤ 2 ^ depth) (hls : ls.length + Lp k ≤ 100000) (T : List (Nat × AV)) (L : List (Nat × List AV)) (hk : keepT [0, 4, 24, 25, 26] [] T = [(0, .slice b 0 way.length cap 1), (4, .ptr Q4 0), (24, u), (25, .int .i64 (l.length : Int)), (26, .int .i64 (i : Int))]) :
    ∃ T' L' m' a' ws', codeEv (run A N) (ev A N).2 a85_B1 ⟨42, T, L, m1⟩ = some (.norm, ⟨42, T', L', m'⟩) ∧ keepT [0, 4, 24, 25, 26] [] T' = [(0, .slice b 0 way.length cap 1), (4, .ptr Q4 0), (24, u), (25, .int .i64 (l.length : Int)), (26, .int .i64 ((i + 1 : Nat) : Int))] ∧ PS m0 I M most n1 Q1 Q2 Q3 Q4 m' a' ws' (ls ++ ptree M k (way ++ [x]) x.toNat) ∧ (∀ j, j < m1.n → j ≠ Q1 → blkOf a ≠ some j → m'.get j = m1.get j) ∧ (∀ c, blkOf a' = some c → m1.n ≤ c) ∧ m1.n ≤ m'.n ∧ m'.n ≤ m1.n + 2 + Cp k := by
  obtain ⟨u1, u2, u3, u4⟩ := hu.plain
  have lu := hu.lenR
  have hlt := (List.getElem?_eq_some_iff.1 hx).1
  have h' : (i : Int) < (l.length : Int) := by omega
  obtain ⟨b3, o3, cs3, ow3, e1, e2, e3⟩ := hu.at hx
  have a1 := add_i i (by omega)
  have hf1 : m1.full = false := not_full (by omega)
  have happ := app_cut hg x (by omega) (by omega)
  have hcut := fun s => cut_way (_m := m1) (b := b) (way := way) hcap s
  have x1 : Ext m1 (m1.push (.cells [.int .i64 x] true)) := (Ext.refl m1).push _ (by omega)
  have x2 : Ext m1 ((m1.push (.cells [.int .i64 x] true)).push (.cells ((way ++ [x]).map fun z => AV.int .i64 z) true)) := x1.push _ (by rw [push_n]; omega)
  have hp2 := hp.up x2
  have hnn := hp.nn
  have hos := hp.os.same.2
  have hlen1 : (way ++ [x]).length = way.length + 1 := by simp
  obtain ⟨m', a', ws', hr, hp', hfr, hfa, hn1, hn2⟩ := hrec N _ a ws ls (m1.n + 1) none (way ++ [x]) x.toNat (by omega) hp2 (.inl rfl) (by have := Mem.get_push_new (m := m1.push (.cells [.int .i64 x] true)) (.cells ((way ++ [x]).map fun z => AV.int .i64 z) true); rw [push_n] at this; exact this) (by omega) (fun e => by have := (hos _ e).2; omega) (by rw [hlen1, Nat.add_sub_cancel, List.getElem?_append_right (Nat.le_refl _), Nat.sub_self]; simp; omega) (by omega) (by rw [hlen1]; exact hkm) (by rw [push_n, push_n]; omega) hls
  rw [hlen1] at hr
  rw [push_n, push_n] at hfr hfa hn1 hn2
  have hg4 := hp.g4
  have hsm : sameRead (m1.push (.cells [.int .i64 x] true)) ((m1.push (.cells [.int .i64 x] true)).push (.cells ((way ++ [x]).map fun z => AV.int .i64 z) true)) (.ptr Q4 0) 1 = true :=
    same_read ((x1.2 _ (Mem.get_lt hg4)).trans hg4) ((x2.2 _ (Mem.get_lt hg4)).trans hg4) rfl (by simp [eqV, eqL])
  have hlog : logOk [Acc.rw (.ptr Q4 0) 1 false, Acc.eff (m1.push (.cells [.int .i64 x] true)) ((m1.push (.cells [.int .i64 x] true)).push (.cells ((way ++ [x]).map fun z => AV.int .i64 z) true))] = true := by
    simp only [logOk, List.all_cons, List.all_nil, accFit, hsm, Bool.and_true, Bool.and_self, beq_self_eq_true, Bool.true_or]
  refine ⟨_, _, m', a', ws', by
    unfold a85_B1
    simp only [KK, opE_mkslc, Nat.reduceEqDiff, Nat.reduceAdd, Nat.reduceLeDiff, Nat.reduceLT, Nat.reducePow, Nat.mul_one, opE_slcL, AOp.kd, kd_rm, Option.map_none, hk, h', e1, e2, e3, u1, hg4, hcut, hf1, zer1, happ, hlog, hr, a1]; rfl, by simp only [keepT, List.map, look_set, look_cons, in_int, in_ptr, in_slice, Nat.reduceEqDiff, if_true, if_false, u1], hp', fun j hj hq hb => (hfr j (by omega) hq hb).trans (x2.2 j hj), fun c hc => by have := hfa c hc; omega, by omega, by omega⟩
def appL {α β : Type} (g : α → List β) (_ : Nat) (x : α) (acc : List β) : Stp (List β) Unit := .go (acc ++ g x)
theorem fold_appL {α β : Type} (g : α → List β) : ∀ (l : List α) (i : Nat) (acc : List β), foldS (appL g) l i acc = .inl (acc ++ l.flatMap g)
  | [], i, acc => by simp [foldS]
  | x :: r, i, acc => by
    simp only [foldS, appL]
    rw [fold_appL g r (i + 1) _]
    simp
theorem sub_1 (n : Nat) (h : n ≠ 0) (h2 : n ≤ 100000) : binEv .sub (.int .i64 (n : Int)) (.int .i64 1) = some (.int .i64 ((n - 1 : Nat) : Int)) := by
  simp only [binEv, if_true, intBin, IntKind.wrap, IntKind.bits]
  simp [IntKind.signed]
  omega
theorem zerN : zerosEv [AV.nils] 1 = [.nils] := rfl
theorem on_fn (m0 : Mem) (I : ImV) (M : Img) (most : Int) (n1 Q1 Q2 Q3 Q4 : Nat) (hm0 : IM m0 I M) (hT : Tab m0) (hco : CodesOk M) (hin : NextIn M) (hlc : M.code.length ≤ 100000) (hmost : most ≤ 900) (kk : Nat) (hrec : ∀ k, kk = k + 1 → RecP m0 I M most n1 Q1 Q2 Q3 Q4 k) : RecP m0 I M most n1 Q1 Q2 Q3 Q4 kk := by
  intro N m a ws ls b cap way last hN hp hcap hg hb1 hba hlast hlc2 hkm hmn hls
  obtain ⟨n, rfl⟩ : ∃ n, N = n + 1 := ⟨N - 1, by omega⟩
  have hne : way.length ≠ 0 := by
    intro h
    have : way = [] := List.length_eq_zero_iff.1 h
    rw [this] at hlast
    simp at hlast
  have hnn := hp.nn
  have hCk : 20 ≤ Cp kk := by cases kk <;> simp [Cp]
  have hLk : 1 ≤ Lp kk := by cases kk <;> simp [Lp]
  have hos := hp.os.same
  have hQ := hp.hi
  have hcl := clone_run n (by omega) m b way cap true hg hne (by omega) (by omega)
  have x1 : Ext m (m.push (.cells [] true)) := (Ext.refl m).push _ (by omega)
  have x2 : Ext m ((m.push (.cells [] true)).push (.cells (way.map fun z => AV.int .i64 z) true)) := x1.push _ (by rw [push_n]; omega)
  have hpC := hp.up x2
  have hnew : ((m.push (.cells [] true)).push (.cells (way.map fun z => AV.int .i64 z) true)).get (m.n + 1) = some (.cells (way.map fun z => AV.int .i64 z) true) := by
    have := Mem.get_push_new (m := m.push (.cells [] true)) (.cells (way.map fun z => AV.int .i64 z) true)
    rw [push_n] at this
    exact this
  have hnC : ((m.push (.cells [] true)).push (.cells (way.map fun z => AV.int .i64 z) true)).n = m.n + 2 := by rw [push_n, push_n]
  generalize hmC : (m.push (.cells [] true)).push (.cells (way.map fun z => AV.int .i64 z) true) = mC at *
  have hwr : RS (fun z => [AV.int .i64 z]) 1 mC (.slice (m.n + 1) 0 way.length none 1) way := .inr ⟨m.n + 1, 0, none, 1, rfl, fun i z hz => ⟨_, _, hnew, by
    rw [Nat.zero_add, Nat.mul_one]
    apply cells_one
    rw [List.getElem?_map, hz]; rfl⟩⟩
  obtain ⟨m2, ha2, hq2, hn2, hp3, hk3⟩ := hpC.add hwr (fun c hc => by
    cases hc
    exact ⟨by omega, by omega, fun e => by have := (hos.2 _ e).2; omega⟩) (by omega) (by rw [hp.rows.1]; omega)
  have hsm : sameRead m mC (.ptr Q1 0) 1 = true := same_read hp.g1 hpC.g1 rfl hos.1
  have hlog : logOk [Acc.rw (.ptr Q1 0) 1 false, Acc.eff m mC] = true := by
    simp only [logOk, List.all_cons, List.all_nil, accFit, hsm, Bool.and_true, Bool.and_self, beq_self_eq_true, Bool.true_or]
  have hfC : mC.full = false := not_full (by omega)
  have hg1 := hp.g1
  have hg2 : (m2.set Q1 (.cells [.slice (mC.n + 1) 0 (ws.length + 1) none 1] true)).get Q2 = some (.cells [.int .i64 most] true) := hp3.g2
  have hn3 : (m2.set Q1 (.cells [.slice (mC.n + 1) 0 (ws.length + 1) none 1] true)).n = m.n + 4 := by rw [set_n]; omega
  have hg3 := hp3.g3
  have hfr3 : ∀ j, j < m.n → j ≠ Q1 → blkOf a ≠ some j → (m2.set Q1 (.cells [.slice (mC.n + 1) 0 (ws.length + 1) none 1] true)).get j = m.get j := fun j hj hq hb => (hk3 j (by omega) hq hb).trans (x2.2 j hj)
  have hb3 : (m2.set Q1 (.cells [.slice (mC.n + 1) 0 (ws.length + 1) none 1] true)).get b = some (.cells (way.map fun z => AV.int .i64 z) true) := (hfr3 b (Mem.get_lt hg) (by omega) hba).trans hg
  have hbl := Mem.get_lt hg
  obtain ⟨a1, a2, a3, a4⟩ := (show OS 1 n1 m a ws ws.length from hp.os).plain
  generalize hm3 : m2.set Q1 (.cells [.slice (mC.n + 1) 0 (ws.length + 1) none 1] true) = m3 at *
  rw [run_85]
  unfold fnEv a85
  cases kk with
  | zero =>
    have hd : decide ((way.length : Int) = most) = true := decide_eq_true (by omega)
    refine ⟨m3, _, _, ?_, hp3, hfr3, fun c hc => by cases hc; omega, by omega, by simp only [Cp]; omega⟩
    simp only [KK, opE_mkslc, Nat.reduceEqDiff, Nat.reduceAdd, Nat.reduceLeDiff, Nat.reduceLT, Nat.reducePow, Nat.mul_one, AOp.kd, kd_rm, kd_sm, hg1, hcl, hfC, zerN, ha2, hq2, hlog, hm3, hg2, hd]
  | succ k =>
    have hrk := hrec k rfl
    have hd : decide ((way.length : Int) = most) = false := decide_eq_false (by omega)
    obtain ⟨x, hx⟩ : ∃ x, M.code[last]? = some x := ⟨_, List.getElem?_eq_getElem hlc2⟩
    have hRS : RS (fun z => [AV.int .i64 z]) 1 m3 (.slice b 0 way.length cap 1) way := .inr ⟨b, 0, cap, 1, rfl, fun i z hz => ⟨_, _, hb3, by
      rw [Nat.zero_add, Nat.mul_one]
      apply cells_one
      rw [List.getElem?_map, hz]; rfl⟩⟩
    obtain ⟨b6, o6, cs6, ow6, e1, e2, e3⟩ := hRS.at hlast
    have hs1 := sub_1 way.length hne (by omega)
    obtain ⟨u, m4, hr4, hu4, hg4, hfar4⟩ := next_run n (by omega) m3 I M (hm0.ext hp3.ext) (hT.ext hp3.ext) last x hx (hco last x hx) (by omega) (by omega)
    obtain ⟨u1, u2, u3, u4⟩ := hu4.plain
    have lu := hu4.lenR
    have hp4 := hp3.up hg4.1
    have hn4 := hg4.2
    have hn4' := hg4.1.1
    have hl2 := nextI_len x last
    have hxl : ∀ z ∈ nextI x last, 0 ≤ z ∧ z < (M.code.length : Int) := hin last x hx
    have hpt : ptree M (k + 1) way last = way :: (nextI x last).flatMap fun z => ptree M k (way ++ [z]) z.toNat := by
      rw [ptree]
      unfold nextAt
      rw [hx]
    rw [hpt]
    have hb4 : m4.get b = some (.cells (way.map fun z => AV.int .i64 z) true) := (hg4.1.2 b (Mem.get_lt hb3)).trans hb3
    have hlen3 : (ls ++ [way]).length = ls.length + 1 := by simp
    simp only [Cp] at hmn hCk ⊢
    simp only [Lp] at hls hLk
    generalize nextI x last = l at *
    simp only [KK, opE_mkslc, Nat.reduceEqDiff, Nat.reduceAdd, Nat.reduceLeDiff, Nat.reduceLT, Nat.reducePow, Nat.mul_one, AOp.kd, kd_rm, kd_sm, logOk_nil', hg1, hcl, hfC, zerN, ha2, hq2, hlog, hm3, hg2, hd, hg3, e1, e2, e3, hs1, hr4, lu]
    generalize hq : codeEv (run A n) (ev A n).2 a85_L1 _ = q
    have h := scan0 (A := A) a85_L1 a85_B1 a85_L1_step (fun i (acc : List (List Int)) s => ∃ T L m5 a5 ws5, s = ⟨42, T, L, m5⟩ ∧ keepT [0, 4, 24, 25, 26] [] T = [(0, .slice b 0 way.length cap 1), (4, .ptr Q4 0), (24, u), (25, .int .i64 (l.length : Int)), (26, .int .i64 (i : Int))] ∧ PS m0 I M most n1 Q1 Q2 Q3 Q4 m5 a5 ws5 acc ∧ (∀ j, j < m4.n → j ≠ Q1 → (AV.slice (mC.n + 1) 0 (ws.length + 1) none 1 |> blkOf) ≠ some j → m5.get j = m4.get j) ∧ (blkOf a5 = some (mC.n + 1) ∨ ∀ c, blkOf a5 = some c → m4.n ≤ c) ∧ m4.n ≤ m5.n ∧ m5.n ≤ m4.n + i * (2 + Cp k) ∧ acc.length ≤ ls.length + 1 + i * Lp k ∧ i ≤ l.length)
      (fun acc s => ∃ T L m5 a5 ws5, s = ⟨42, T, L, m5⟩ ∧ PS m0 I M most n1 Q1 Q2 Q3 Q4 m5 a5 ws5 acc ∧ (∀ j, j < m4.n → j ≠ Q1 → (AV.slice (mC.n + 1) 0 (ws.length + 1) none 1 |> blkOf) ≠ some j → m5.get j = m4.get j) ∧ (blkOf a5 = some (mC.n + 1) ∨ ∀ c, blkOf a5 = some c → m4.n ≤ c) ∧ m4.n ≤ m5.n ∧ m5.n ≤ m4.n + l.length * (2 + Cp k)) (fun (_ : Unit) s => False) 0 (30 + 8 * k) (appL fun z => ptree M k (way ++ [z]) z.toNat) l
      (fun N acc s hN ⟨T, L, m5, a5, ws5, hs, hk, hp5, hf5, ha5, hn5, hn6, hacc, hi⟩ => by
        subst hs
        have h' : ¬ (l.length : Int) < (l.length : Int) := by omega
        unfold a85_B1
        exact ⟨_, by simp only [KK, Nat.reduceEqDiff, Nat.reduceLT, hk, h']; rfl, _, _, _, _, _, rfl, hp5, hf5, ha5, hn5, hn6⟩)
      (fun N i z acc s hN hz ⟨T, L, m5, a5, ws5, hs, hk, hp5, hf5, ha5, hn5, hn6, hacc, hi⟩ => by
        subst hs
        have hzi := (List.getElem?_eq_some_iff.1 hz).1
        have hmul1 := Nat.mul_le_mul_right (2 + Cp k) (show i + 1 ≤ 2 by omega)
        have hmul2 := Nat.mul_le_mul_right (Lp k) (show i + 1 ≤ 2 by omega)
        rw [Nat.add_mul, Nat.one_mul] at hmul1 hmul2
        have hnb : ∀ c, n1 ≤ c → c < m4.n → c ≠ mC.n + 1 → m5.get c = m4.get c := fun c h1 h2 h3 => hf5 c h2 (by omega) (by simp only [blkOf, ne_eq, Option.some.injEq]; omega)
        have hab5 : ∀ c, c < m4.n → c ≠ mC.n + 1 → blkOf a5 ≠ some c := by
          intro c h1 h2 e
          rcases ha5 with h | h
          · rw [h] at e; cases e; exact h2 rfl
          · have := h c e; omega
        have hb5 : m5.get b = some (.cells (way.map fun z => AV.int .i64 z) true) := (hnb b hb1 (by omega) (by omega)).trans hb4
        have hu5 : RS (fun z => [AV.int .i64 z]) 1 m5 u l := hu4.frame fun c hc hcu => hnb c (by have := hfar4 c hcu; omega) hc (by have := hfar4 c hcu; omega)
        obtain ⟨T', L', m6, a6, ws6, r1, r2, r3, r4, r5, r6, r7⟩ := on_body k m0 I M most n1 Q1 Q2 Q3 Q4 hrk N hN m5 a5 ws5 acc b cap way hp5 hcap hb5 hb1 (hab5 b (by omega) (by omega)) (by omega) (by omega) u l hu5 i z hz (hxl z (List.mem_of_getElem? hz)) (by omega) (by omega) (by omega) T L hk
        have hpl := ptree_len M k (way ++ [z]) z.toNat
        unfold appL
        refine ⟨_, r1, _, _, _, _, _, rfl, r2, r3, fun j hj hq1 hbj => (r4 j (by omega) hq1 (hab5 j hj (fun e => hbj (by rw [e]; rfl)))).trans (hf5 j hj hq1 hbj), .inr fun c hc => by have := r5 c hc; omega, by omega, by rw [Nat.add_mul, Nat.one_mul]; omega, by rw [List.length_append, Nat.add_mul, Nat.one_mul]; (try dsimp only); omega, by omega⟩)
      n (ls ++ [way]) _ (by omega) ⟨_, _, m4, _, _, rfl, by simp only [keepT, List.map, look_set, look_cons, in_int, in_ptr, in_slice, Nat.reduceEqDiff, if_true, if_false, u1]; rfl, hp4, fun _ _ _ _ => rfl, .inl rfl, Nat.le_refl _, by omega, by omega, by omega⟩ hq
    rw [fold_appL] at h
    obtain ⟨s', rfl, T', L', m5, a5, ws5, rfl, hp5, hf5, ha5, hn5, hn6⟩ := h
    have hmul := Nat.mul_le_mul_right (2 + Cp k) hl2
    refine ⟨m5, a5, ws5, by simp only [if_true], ?_, fun j hj hq1 hbj => ?_, fun c hc => ?_, by omega, by omega⟩
    · have e : ls ++ (way :: l.flatMap fun z => ptree M k (way ++ [z]) z.toNat) = (ls ++ [way]) ++ l.flatMap fun z => ptree M k (way ++ [z]) z.toNat := by simp
      rw [e]
      exact hp5
    · rw [hf5 j (by omega) hq1 (by simp only [blkOf, ne_eq, Option.some.injEq]; omega), hg4.1.2 j (by omega)]
      exact hfr3 j hj hq1 hbj
    · rcases ha5 with h | h
      · rw [h] at hc; cases hc; omega
      · have := h c hc; omega
theorem on_run (m0 : Mem) (I : ImV) (M : Img) (most : Int) (n1 Q1 Q2 Q3 Q4 : Nat) (hm0 : IM m0 I M) (hT : Tab m0) (hco : CodesOk M) (hin : NextIn M) (hlc : M.code.length ≤ 100000) (hmost : most ≤ 900) : ∀ k, RecP m0 I M most n1 Q1 Q2 Q3 Q4 k
  | 0 => on_fn m0 I M most n1 Q1 Q2 Q3 Q4 hm0 hT hco hin hlc hmost 0 (fun k hk => by omega)
  | k + 1 => on_fn m0 I M most n1 Q1 Q2 Q3 Q4 hm0 hT hco hin hlc hmost (k + 1) (fun j hj => by
    obtain rfl : j = k := by omega
    exact on_run m0 I M most n1 Q1 Q2 Q3 Q4 hm0 hT hco hin hlc hmost j)
def rowsP (M : Img) : List (List Int) := (List.range M.funcs.length).map (rcallsP M)
def rowS (M : Img) (_ : Nat) (g : Nat) (acc : List (List Int)) : Stp (List (List Int)) Unit := .go (acc ++ [rcallsP M g])
theorem fold_rows (M : Img) : ∀ (l : List Nat) (i : Nat) (acc : List (List Int)), foldS (rowS M) l i acc = .inl (acc ++ l.map (rcallsP M))
  | [], i, acc => by simp [foldS]
  | g :: r, i, acc => by
    simp only [foldS, rowS]
    rw [fold_rows M r (i + 1) _]
    simp
theorem Rows.as {n0 : Nat} {m : Mem} {a : AV} {ws : List AV} {ls : List (List Int)} (h : Rows m a ws ls) (ho : OS 1 n0 m a ws ws.length) : AS m a ls := by
  refine ⟨ws, OS.rs (f := fun w : AV => [w]) (c := 1) (n0 := n0) (fun _ => rfl) ?_, h.1, fun i w l hw hl => .inl (h.2 i w l hw hl).1⟩
  have e : (ws.flatMap fun w => [w]) = ws := by simp
  rw [e]
  exact ho
theorem rows_loop (m : Mem) (I : ImV) (M : Img) (hm : IM m I M) (hl : M.code.length ≤ 100000) (hlf : M.funcs.length ≤ 1000) (hsp : ∀ f, f < M.funcs.length → 0 ≤ fromP M f ∧ fromP M f ≤ toP M f ∧ toP M f ≤ M.code.length) (hmn : m.n + (2 * M.funcs.length + 2) * M.funcs.length + 10 ≤ 2 ^ depth) (N : Nat) (T : List (Nat × AV)) (L : List (Nat × List AV)) (hN : M.code.length + 2 * M.funcs.length + 8 ≤ N) (hk : keepT [1, 3, 4, 5] [1] T = [(1, .loc 1 0), (3, .nils), (4, .nils), (5, .int .i64 0)]) (hL : lookL L 1 = some [I.c, I.f, I.v, .int .i64 M.main, I.i, I.p, .int .i64 M.stack, I.a]) {q : Option (Ex × St)} (hq : codeEv (run A N) (ev A N).2 a77_L4 ⟨76, T, L, m⟩ = q) :
    ∃ T' L' m' a, q = some (.exit 0, ⟨76, T', L', m'⟩) ∧ keepT [1, 3, 4] [1] T' = [(1, .loc 1 0), (3, .nils), (4, a)] ∧ lookL L' 1 = some [I.c, I.f, I.v, .int .i64 M.main, I.i, I.p, .int .i64 M.stack, I.a] ∧ AS m' a (rowsP M) ∧ Gr m m' ((2 * M.funcs.length + 2) * M.funcs.length) := by
  have hrl : (List.range M.funcs.length).length = M.funcs.length := List.length_range
  have h := scan0 (A := A) a77_L4 a77_B4 a77_L4_step (fun i (acc : List (List Int)) s => ∃ T L m1 a ws, s = ⟨76, T, L, m1⟩ ∧ keepT [1, 3, 4, 5] [1] T = [(1, .loc 1 0), (3, .nils), (4, a), (5, .int .i64 (i : Int))] ∧ lookL L 1 = some [I.c, I.f, I.v, .int .i64 M.main, I.i, I.p, .int .i64 M.stack, I.a] ∧ OS 1 m.n m1 a ws ws.length ∧ Rows m1 a ws acc ∧ Ext m m1 ∧ m1.n ≤ m.n + (2 * M.funcs.length + 2) * i ∧ ws.length = i ∧ i ≤ M.funcs.length) (fun acc s => ∃ T' L' m' a, s = ⟨76, T', L', m'⟩ ∧ keepT [1, 3, 4] [1] T' = [(1, .loc 1 0), (3, .nils), (4, a)] ∧ lookL L' 1 = some [I.c, I.f, I.v, .int .i64 M.main, I.i, I.p, .int .i64 M.stack, I.a] ∧ AS m' a acc ∧ Gr m m' ((2 * M.funcs.length + 2) * M.funcs.length)) (fun (_ : Unit) s => False) 0 (M.code.length + M.funcs.length + 4) (rowS M) (List.range M.funcs.length)
    (fun N b s hN ⟨T, L, m1, a, ws, hs, hk, hL, ho, hr, he, hm1, hw, hi⟩ => by
      subst hs
      rw [hrl] at hk hm1
      obtain ⟨pc1, pc2, pc3, pc4⟩ := hm.c.plain
      have lc := hm.c.lenR
      obtain ⟨pf1, pf2, pf3, pf4⟩ := hm.f.plain
      have lf := hm.f.lenR
      obtain ⟨pv1, pv2, pv3, pv4⟩ := hm.v.plain
      have lv := hm.v.lenR
      obtain ⟨pi1, pi2, pi3, pi4⟩ := hm.i.plain
      have li := hm.i.lenR
      obtain ⟨pp1, pp2, pp3, pp4⟩ := hm.p.plain
      have lp := hm.p.lenR
      obtain ⟨pa1, pa2, pa3, pa4⟩ := hm.a.plain
      have la := hm.a.lenR
      obtain ⟨a1, a2, a3, a4⟩ := ho.plain
      have h' : ¬ (M.funcs.length : Int) < (M.funcs.length : Int) := by omega
      unfold a77_B4
      exact ⟨_, by simp only [KK, Nat.reduceEqDiff, Nat.reduceAdd, Nat.reduceLeDiff, Nat.reduceLT, hk, hL, h', lf]; rfl, _, _, _, _, rfl, by simp only [keepT, List.map, look_set, look_cons, in_nils, in_loc, Nat.reduceEqDiff, if_true, if_false, List.contains_cons, List.contains_nil, beq_self_eq_true, Bool.or_false, a1], by simp only [lookL_cons, if_true], hr.as ho, he, hm1⟩)
    (fun N i g b s hN hg ⟨T, L, m1, a, ws, hs, hk, hL, ho, hr, he, hm1, hw, hi⟩ => by
      subst hs
      have hlt := (List.getElem?_eq_some_iff.1 hg).1
      rw [hrl] at hlt
      have hgi : g = i := by
        rw [List.getElem?_range hlt] at hg
        exact (Option.some.inj hg).symm
      subst hgi
      have hmul : (2 * M.funcs.length + 2) * (g + 1) ≤ (2 * M.funcs.length + 2) * M.funcs.length := Nat.mul_le_mul_left _ (by omega)
      rw [Nat.mul_succ] at hmul
      obtain ⟨T', L', m2, a', ws', e1, e2, e3, e4, e5, e6, e7, e8⟩ := row_body m m1 I M hm he hl hlf g hlt (hsp g hlt) (by omega) a ws b (by omega) ho hr N T L hN hk hL
      exact ⟨_, e1, _, _, _, _, _, rfl, e2, e3, e5, e6, e7, by rw [Nat.mul_succ]; omega, by omega, by omega⟩)
    N [] ⟨76, T, L, m⟩ (by rw [hrl]; omega) ⟨T, L, m, .nils, [], rfl, hk, hL, .inl ⟨rfl, rfl, rfl⟩, ⟨rfl, fun i w l hw => by simp at hw⟩, Ext.refl m, by omega, rfl, by omega⟩ hq
  rw [fold_rows, List.nil_append] at h
  obtain ⟨s', e, T', L', m', a, rfl, h2, h3, h4, h5⟩ := h
  exact ⟨T', L', m', a, e, h2, h3, h4, h5⟩
theorem nextR_law (all : List (List Int)) (out : List Int) : ∀ (l : List Nat) (nx : Int), nextR all out l nx = nx ∨ ∃ f ∈ l, nextR all out l nx = (f : Int) ∧ isRdy all out f = true
  | [], nx => .inl rfl
  | f :: r, nx => by
    rw [nextR]
    rcases nextR_law all out r (if isRdy all out f = true then (f : Int) else nx) with h | ⟨g, hg, h1, h2⟩
    · rw [h]
      by_cases hr : isRdy all out f = true
      · rw [if_pos hr]
        exact .inr ⟨f, List.mem_cons_self .., rfl, hr⟩
      · rw [if_neg hr]
        exact .inl rfl
    · exact .inr ⟨g, List.mem_cons_of_mem _ hg, h1, h2⟩
def nextOf (all : List (List Int)) (out : List Int) : Int := nextR all out (List.range all.length).reverse (-1)
theorem nextOf_new {all : List (List Int)} {out : List Int} (h : ¬ nextOf all out < 0) : out.contains (nextOf all out) = false := by
  rcases nextR_law all out (List.range all.length).reverse (-1) with h1 | ⟨f, hf, h1, h2⟩
  · unfold nextOf at h
    rw [h1] at h
    omega
  · unfold nextOf
    rw [h1]
    unfold isRdy at h2
    rw [Bool.and_eq_true] at h2
    simpa using h2.1
theorem min12 (k : Int) : minEv (.int .i64 k) [.int .i64 12] = some (.int .i64 (if 12 < k then 12 else k)) := rfl
theorem paths_zero (N : Nat) (hN : 2 ≤ N) (m : Mem) (I : ImV) (M : Img) (hm : IM m I M) (f most : Int) (hmost : most < 1) (hmn : m.n + 3 ≤ 2 ^ depth) : ∃ m', run A N 44 [.agg [I.c, I.f, I.v, .int .i64 M.main, I.i, I.p, .int .i64 M.stack, I.a], .int .i64 f, .int .i64 most] m = some (.nils, m') ∧ Gr m m' 2 := by
  obtain ⟨n, rfl⟩ : ∃ n, N = n + 1 := ⟨N - 1, by omega⟩
  obtain ⟨pc1, pc2, pc3, pc4⟩ := hm.c.plain
  have lc := hm.c.lenR
  obtain ⟨pf1, pf2, pf3, pf4⟩ := hm.f.plain
  have lf := hm.f.lenR
  obtain ⟨pv1, pv2, pv3, pv4⟩ := hm.v.plain
  have lv := hm.v.lenR
  obtain ⟨pi1, pi2, pi3, pi4⟩ := hm.i.plain
  have li := hm.i.lenR
  obtain ⟨pp1, pp2, pp3, pp4⟩ := hm.p.plain
  have lp := hm.p.lenR
  obtain ⟨pa1, pa2, pa3, pa4⟩ := hm.a.plain
  have la := hm.a.lenR
  have hf := not_full (m := m) (by omega)
  have x1 : Ext m (m.push (.cells [I.c, I.f, I.v, .int .i64 M.main, I.i, I.p, .int .i64 M.stack, I.a] true)) := (Ext.refl m).push _ (by omega)
  have hf2 := not_full (m := m.push (.cells [I.c, I.f, I.v, .int .i64 M.main, I.i, I.p, .int .i64 M.stack, I.a] true)) (by rw [push_n]; omega)
  have x2 : Ext m ((m.push (.cells [I.c, I.f, I.v, .int .i64 M.main, I.i, I.p, .int .i64 M.stack, I.a] true)).push (.cells [.int .i64 most] true)) := x1.push _ (by rw [push_n]; omega)
  have g3 : ((m.push (.cells [I.c, I.f, I.v, .int .i64 M.main, I.i, I.p, .int .i64 M.stack, I.a] true)).push (.cells [.int .i64 most] true)).get m.n = some (.cells [I.c, I.f, I.v, .int .i64 M.main, I.i, I.p, .int .i64 M.stack, I.a] true) := (Mem.get_push_old _ hf2 (by rw [push_n]; omega)).trans (Mem.get_push_new _)
  have g2 : ((m.push (.cells [I.c, I.f, I.v, .int .i64 M.main, I.i, I.p, .int .i64 M.stack, I.a] true)).push (.cells [.int .i64 most] true)).get (m.n + 1) = some (.cells [.int .i64 most] true) := by
    have := Mem.get_push_new (m := m.push (.cells [I.c, I.f, I.v, .int .i64 M.main, I.i, I.p, .int .i64 M.stack, I.a] true)) (.cells [.int .i64 most] true)
    rw [push_n] at this
    exact this
  have hn2 : ((m.push (.cells [I.c, I.f, I.v, .int .i64 M.main, I.i, I.p, .int .i64 M.stack, I.a] true)).push (.cells [.int .i64 most] true)).n = m.n + 2 := by rw [push_n, push_n]
  generalize hm2 : (m.push (.cells [I.c, I.f, I.v, .int .i64 M.main, I.i, I.p, .int .i64 M.stack, I.a] true)).push (.cells [.int .i64 most] true) = m2 at *
  have hle : m2.n ≤ 2 ^ depth := by omega
  have hlt : m.n + 1 < m2.n := by omega
  have g2' : (m2.set (m.n + 1) (.cells [.int .i64 most] true)).get (m.n + 1) = some (.cells [.int .i64 most] true) := Mem.get_set_same _ hlt
  have g3' : (m2.set (m.n + 1) (.cells [.int .i64 most] true)).get m.n = some (.cells [I.c, I.f, I.v, .int .i64 M.main, I.i, I.p, .int .i64 M.stack, I.a] true) := (Mem.get_set_ne _ hle hlt (by omega)).trans g3
  have hmin : (if 12 < most then (12 : Int) else most) = most := if_neg (by omega)
  have hd3 : decide (most < 1) = true := decide_eq_true hmost
  refine ⟨m2.set (m.n + 1) (.cells [.int .i64 most] true), ?_, ⟨⟨by rw [set_n]; omega, fun i hi => (Mem.get_set_ne _ hle hlt (by omega)).trans (x2.2 i hi)⟩, by rw [set_n]; omega⟩⟩
  rw [run_44]
  unfold fnEv a44
  cases d1 : decide (f < 0)
  · cases d2 : decide ((M.funcs.length : Int) ≤ f)
    · simp only [KK, Nat.reduceEqDiff, Nat.reduceAdd, Nat.reduceLeDiff, Nat.reduceLT, push_n, lf, hf, hf2, push_n, hm2, g2, min12, hmin, g2', g3', d1, d2, hd3]
    · simp only [KK, Nat.reduceEqDiff, Nat.reduceAdd, Nat.reduceLeDiff, Nat.reduceLT, push_n, lf, hf, hf2, push_n, hm2, g2, min12, hmin, g3', d1, d2]
  · simp only [KK, Nat.reduceEqDiff, Nat.reduceAdd, Nat.reduceLeDiff, Nat.reduceLT, push_n, hf, hf2, push_n, hm2, g2, min12, hmin, d1]
theorem paths_run (N : Nat) (m : Mem) (I : ImV) (M : Img) (hm : IM m I M) (hT : Tab m) (m0 : Mem) (NC KC : Nat) (hck : CkOk m0 I M NC KC 54 0) (he : Ext m0 m) (hco : CodesOk M) (hin : NextIn M) (hlc : M.code.length ≤ 100000) (f : Nat) (hf : f < M.funcs.length) (hfr : 0 ≤ fromP M f ∧ fromP M f < (M.code.length : Int)) (k : Nat) (hk : k ≤ 11)
    (hmn : m.n + KC + Cp k + 40 ≤ 2 ^ depth) (hN : NC + 160 ≤ N) (hLp : Lp k ≤ 100000) :
    ∃ v m', run A N 44 [.agg [I.c, I.f, I.v, .int .i64 M.main, I.i, I.p, .int .i64 M.stack, I.a], .int .i64 (f : Int), .int .i64 ((k + 1 : Nat) : Int)] m = some (v, m') ∧ AS m' v (ptree M k [fromP M f] (fromP M f).toNat) ∧ Gr m m' (KC + Cp k + 20) := by
  obtain ⟨n, rfl⟩ : ∃ n, N = n + 1 := ⟨N - 1, by omega⟩
  obtain ⟨pc1, pc2, pc3, pc4⟩ := hm.c.plain
  have lc := hm.c.lenR
  obtain ⟨pf1, pf2, pf3, pf4⟩ := hm.f.plain
  have lf := hm.f.lenR
  obtain ⟨pv1, pv2, pv3, pv4⟩ := hm.v.plain
  have lv := hm.v.lenR
  obtain ⟨pi1, pi2, pi3, pi4⟩ := hm.i.plain
  have li := hm.i.lenR
  obtain ⟨pp1, pp2, pp3, pp4⟩ := hm.p.plain
  have lp := hm.p.lenR
  obtain ⟨pa1, pa2, pa3, pa4⟩ := hm.a.plain
  have la := hm.a.lenR
  have hf0 := not_full (m := m) (by omega)
  have x1 : Ext m (m.push (.cells [I.c, I.f, I.v, .int .i64 M.main, I.i, I.p, .int .i64 M.stack, I.a] true)) := (Ext.refl m).push _ (by omega)
  have hf2 := not_full (m := m.push (.cells [I.c, I.f, I.v, .int .i64 M.main, I.i, I.p, .int .i64 M.stack, I.a] true)) (by rw [push_n]; omega)
  have x2 : Ext m ((m.push (.cells [I.c, I.f, I.v, .int .i64 M.main, I.i, I.p, .int .i64 M.stack, I.a] true)).push (.cells [.int .i64 ((k + 1 : Nat) : Int)] true)) := x1.push _ (by rw [push_n]; omega)
  have g3 : ((m.push (.cells [I.c, I.f, I.v, .int .i64 M.main, I.i, I.p, .int .i64 M.stack, I.a] true)).push (.cells [.int .i64 ((k + 1 : Nat) : Int)] true)).get m.n = some (.cells [I.c, I.f, I.v, .int .i64 M.main, I.i, I.p, .int .i64 M.stack, I.a] true) := (Mem.get_push_old _ hf2 (by rw [push_n]; omega)).trans (Mem.get_push_new _)
  have g2 : ((m.push (.cells [I.c, I.f, I.v, .int .i64 M.main, I.i, I.p, .int .i64 M.stack, I.a] true)).push (.cells [.int .i64 ((k + 1 : Nat) : Int)] true)).get (m.n + 1) = some (.cells [.int .i64 ((k + 1 : Nat) : Int)] true) := by
    have := Mem.get_push_new (m := m.push (.cells [I.c, I.f, I.v, .int .i64 M.main, I.i, I.p, .int .i64 M.stack, I.a] true)) (.cells [.int .i64 ((k + 1 : Nat) : Int)] true)
    rw [push_n] at this
    exact this
  have hn2 : ((m.push (.cells [I.c, I.f, I.v, .int .i64 M.main, I.i, I.p, .int .i64 M.stack, I.a] true)).push (.cells [.int .i64 ((k + 1 : Nat) : Int)] true)).n = m.n + 2 := by rw [push_n, push_n]
  generalize hm2 : (m.push (.cells [I.c, I.f, I.v, .int .i64 M.main, I.i, I.p, .int .i64 M.stack, I.a] true)).push (.cells [.int .i64 ((k + 1 : Nat) : Int)] true) = m2 at *
  have hle : m2.n ≤ 2 ^ depth := by omega
  have hlt : m.n + 1 < m2.n := by omega
  have g2' : (m2.set (m.n + 1) (.cells [.int .i64 ((k + 1 : Nat) : Int)] true)).get (m.n + 1) = some (.cells [.int .i64 ((k + 1 : Nat) : Int)] true) := Mem.get_set_same _ hlt
  have g3' : (m2.set (m.n + 1) (.cells [.int .i64 ((k + 1 : Nat) : Int)] true)).get m.n = some (.cells [I.c, I.f, I.v, .int .i64 M.main, I.i, I.p, .int .i64 M.stack, I.a] true) := (Mem.get_set_ne _ hle hlt (by omega)).trans g3
  have x3 : Ext m (m2.set (m.n + 1) (.cells [.int .i64 ((k + 1 : Nat) : Int)] true)) := ⟨by rw [set_n]; omega, fun i hi => (Mem.get_set_ne _ hle hlt (by omega)).trans (x2.2 i hi)⟩
  have hn3 : (m2.set (m.n + 1) (.cells [.int .i64 ((k + 1 : Nat) : Int)] true)).n = m.n + 2 := by rw [set_n]; omega
  have hmin : (if 12 < ((k + 1 : Nat) : Int) then (12 : Int) else ((k + 1 : Nat) : Int)) = ((k + 1 : Nat) : Int) := if_neg (by omega)
  have hd3 : decide (((k + 1 : Nat) : Int) < 1) = false := decide_eq_false (by omega)
  have hd1 : decide ((f : Int) < 0) = false := decide_eq_false (by omega)
  have hd2 : decide ((M.funcs.length : Int) ≤ (f : Int)) = false := decide_eq_false (by omega)
  generalize hm3 : m2.set (m.n + 1) (.cells [.int .i64 ((k + 1 : Nat) : Int)] true) = m3 at *
  obtain ⟨m4, hc, hg4⟩ := hck n m3 (by omega) (he.trans x3) (by omega)
  have x4 : Ext m m4 := x3.trans hg4.1
  have hn4 := hg4.2
  have hn4' := hg4.1.1
  have hf4 := not_full (m := m4) (by omega)
  have y1 : Ext m4 (m4.push (.cells [.nils] true)) := (Ext.refl m4).push _ (by omega)
  have hf5 := not_full (m := m4.push (.cells [.nils] true)) (by rw [push_n]; omega)
  have y2 : Ext m4 ((m4.push (.cells [.nils] true)).push (.cells [.nilf] true)) := y1.push _ (by rw [push_n]; omega)
  have q1 : ((m4.push (.cells [.nils] true)).push (.cells [.nilf] true)).get m4.n = some (.cells [.nils] true) := (Mem.get_push_old _ hf5 (by rw [push_n]; omega)).trans (Mem.get_push_new _)
  have q4 : ((m4.push (.cells [.nils] true)).push (.cells [.nilf] true)).get (m4.n + 1) = some (.cells [.nilf] true) := by
    have := Mem.get_push_new (m := m4.push (.cells [.nils] true)) (.cells [.nilf] true)
    rw [push_n] at this
    exact this
  have hn5 : ((m4.push (.cells [.nils] true)).push (.cells [.nilf] true)).n = m4.n + 2 := by rw [push_n, push_n]
  generalize hm5 : (m4.push (.cells [.nils] true)).push (.cells [.nilf] true) = m5 at *
  have hle5 : m5.n ≤ 2 ^ depth := by omega
  have hlt5 : m4.n + 1 < m5.n := by omega
  have r4 : (m5.set (m4.n + 1) (.cells [.fn 85 [.ptr m4.n 0, .ptr (m.n + 1) 0, .ptr m.n 0, .ptr (m4.n + 1) 0]] true)).get (m4.n + 1) = some (.cells [.fn 85 [.ptr m4.n 0, .ptr (m.n + 1) 0, .ptr m.n 0, .ptr (m4.n + 1) 0]] true) := Mem.get_set_same _ hlt5
  have rs : ∀ i, i ≠ m4.n + 1 → (m5.set (m4.n + 1) (.cells [.fn 85 [.ptr m4.n 0, .ptr (m.n + 1) 0, .ptr m.n 0, .ptr (m4.n + 1) 0]] true)).get i = m5.get i := fun i hi => Mem.get_set_ne _ hle5 hlt5 (fun e => hi e.symm)
  have hn6 : (m5.set (m4.n + 1) (.cells [.fn 85 [.ptr m4.n 0, .ptr (m.n + 1) 0, .ptr m.n 0, .ptr (m4.n + 1) 0]] true)).n = m4.n + 2 := by rw [set_n]; omega
  generalize hm6 : m5.set (m4.n + 1) (.cells [.fn 85 [.ptr m4.n 0, .ptr (m.n + 1) 0, .ptr m.n 0, .ptr (m4.n + 1) 0]] true) = m6 at *
  have x6 : Ext m m6 := ⟨by have := x4.1; omega, fun i hi => (rs i (by have := x4.1; omega)).trans ((y2.2 i (by have := x4.1; omega)).trans (x4.2 i hi))⟩
  have h6_3 : m6.get m.n = some (.cells [I.c, I.f, I.v, .int .i64 M.main, I.i, I.p, .int .i64 M.stack, I.a] true) := (rs _ (by omega)).trans ((y2.2 _ (by omega)).trans ((hg4.1.2 _ (by omega)).trans g3'))
  have h6_2 : m6.get (m.n + 1) = some (.cells [.int .i64 ((k + 1 : Nat) : Int)] true) := (rs _ (by omega)).trans ((y2.2 _ (by omega)).trans ((hg4.1.2 _ (by omega)).trans g2'))
  have h6_1 : m6.get m4.n = some (.cells [.nils] true) := (rs _ (by omega)).trans q1
  have hps : PS m I M ((k + 1 : Nat) : Int) (m4.n + 2) m4.n (m.n + 1) m.n (m4.n + 1) m6 .nils [] [] :=
    ⟨x6, by have := x4.1; omega, by have := x4.1; omega, by omega, by omega, h6_1, h6_2, h6_3, r4, .inl ⟨rfl, rfl, rfl⟩, ⟨rfl, fun i w l hw => by simp at hw⟩, fun i w hw => by simp at hw⟩
  obtain ⟨x, hx⟩ : ∃ x, M.funcs[f]? = some x := ⟨_, List.getElem?_eq_getElem hf⟩
  obtain ⟨b7, o7, cs7, ow7, e1, e2, _, e3, _, _⟩ := (hm.ext x6).f.ff hx
  have hent : fromP M f = x.entry := by unfold fromP; rw [hx]; rfl
  have hf6 := not_full (m := m6) (by omega)
  have z1 : Ext m6 (m6.push (.cells [.int .i64 x.entry] true)) := (Ext.refl m6).push _ (by omega)
  have hps2 := hps.up z1
  obtain ⟨last, hlast⟩ : ∃ j : Nat, x.entry = (j : Int) := ⟨x.entry.toNat, by rw [hent] at hfr; omega⟩
  obtain ⟨m7, a7, ws7, hr, hp7, hfr7, _, hn7, hn8⟩ := on_run m I M ((k + 1 : Nat) : Int) (m4.n + 2) m4.n (m.n + 1) m.n (m4.n + 1) hm hT hco hin hlc (by omega) k n _ .nils [] [] m6.n (some 1) [x.entry] last (by omega) hps2 (.inr rfl) (Mem.get_push_new _) (by omega) (by simp [blkOf]) (by rw [hlast]; rfl) (by rw [hent] at hfr; omega) (by simp; omega) (by rw [push_n]; omega) (by simpa using hLp)
  rw [push_n] at hfr7 hn7 hn8
  have hr' : run A n 85 [.slice m6.n 0 1 (some 1) 1, .ptr m4.n 0, .ptr (m.n + 1) 0, .ptr m.n 0, .ptr (m4.n + 1) 0] (m6.push (.cells [.int .i64 x.entry] true)) = some (.tup [], m7) := hr
  have hQ1 := hp7.g1
  obtain ⟨s1, s2, s3, s4⟩ := hp7.os.plain
  have hfin : ptree M k [fromP M f] (fromP M f).toNat = [] ++ ptree M k [x.entry] last := by
    rw [hent, hlast, Int.toNat_natCast]; rfl
  rw [hfin]
  refine ⟨a7, m7, ?_, hp7.rows.as hp7.os, ⟨hp7.ext, by omega⟩⟩
  rw [run_44]
  unfold fnEv a44
  simp only [KK, opE_mkslc, Nat.reduceEqDiff, Nat.reduceAdd, Nat.reduceLeDiff, Nat.reduceLT, Nat.reducePow, Nat.mul_one, AOp.kd, kd_rm, logOk_nil', push_n, lf, hf0, hf2, push_n, hm2, g2, min12, hmin, hm3, g2', g3', hd1, hd2, hd3, hc, hf4, hf5, hm5, q4, hm6, h6_3, r4, e1, e2, e3, hf6, zer1, hr', hQ1, s2]
def pickP (n k : Int) : Int := if k < 1 then 0 else if n.tmod k < 0 then n.tmod k + k else n.tmod k
theorem pick_law (n : Int) {k : Int} (hk : 1 ≤ k) : 0 ≤ pickP n k ∧ pickP n k < k := by
  unfold pickP
  rw [if_neg (by omega)]
  have h1 := Int.tmod_lt_of_pos n (show 0 < k by omega)
  have h2 : -k < n.tmod k := by
    have := Int.tmod_lt_of_pos (-n) (show 0 < k by omega)
    rw [Int.neg_tmod] at this
    omega
  split <;> omega
theorem pick_run (N : Nat) (hN : 1 ≤ N) (m : Mem) (n' k : Int) (hk : k ≤ 1000000) : run A N 38 [.int .i64 n', .int .i64 k] m = some (.int .i64 (pickP n' k), m) := by
  obtain ⟨n, rfl⟩ : ∃ n, N = n + 1 := ⟨N - 1, by omega⟩
  rw [run_38]
  unfold fnEv a38 pickP
  cases d1 : decide (k < 1)
  · have q1 := of_decide_eq_false d1
    have hr : binEv .rem (.int .i64 n') (.int .i64 k) = some (.int .i64 (n'.tmod k)) := by
      simp only [binEv, if_true, intBin]
      rw [if_neg (by omega)]
    rw [if_neg q1]
    have h1 := Int.tmod_lt_of_pos n' (show 0 < k by omega)
    have h2 : -k < n'.tmod k := by
      have := Int.tmod_lt_of_pos (-n') (show 0 < k by omega)
      rw [Int.neg_tmod] at this
      omega
    cases d2 : decide (n'.tmod k < 0)
    · rw [if_neg (of_decide_eq_false d2)]
      simp only [KK, Nat.reduceEqDiff, Nat.reduceAdd, Nat.reduceLT, d1, hr, d2]
    · have ha := add_ok (n'.tmod k) k (by omega) (by omega)
      rw [if_pos (of_decide_eq_true d2)]
      simp only [KK, Nat.reduceEqDiff, Nat.reduceAdd, Nat.reduceLT, d1, hr, d2, ha]
  · rw [if_pos (of_decide_eq_true d1)]
    simp only [KK, Nat.reduceEqDiff, Nat.reduceAdd, Nat.reduceLT, d1]
def risS (_ : Nat) (p : Int × Int) (_ : Unit) : Stp Unit Bool := if p.1 = p.2 then .go () else .ret (decide (p.1 < p.2))
def risesP (a b : List Int) : Bool := match foldS risS (a.zip b) 0 () with
  | .inl _ => decide (a.length < b.length)
  | .inr r => r
theorem rises_run (N : Nat) (m : Mem) (u v : AV) (a b : List Int) (hu : RE m u a) (hv : RE m v b) (hl : a.length ≤ 100000) (hl2 : b.length ≤ 100000) (hN : a.length + 2 ≤ N) : run A N 46 [u, v] m = some (.bool (risesP a b), m) := by
  obtain ⟨n, rfl⟩ : ∃ n, N = n + 1 := ⟨N - 1, by omega⟩
  obtain ⟨u1, u2, u3, u4⟩ := hu.plain
  obtain ⟨v1, v2, v3, v4⟩ := hv.plain
  have lu := hu.lenR
  have lv := hv.lenR
  have hz : (a.zip b).length = min a.length b.length := List.length_zip
  rw [run_46]
  unfold fnEv a46 risesP
  simp only [KK, Nat.reduceEqDiff, Nat.reduceAdd, Nat.reduceLT, u1, v1]
  generalize hq : codeEv (run A n) (ev A n).2 a46_L1 _ = q
  have h := scan0 (A := A) a46_L1 a46_B1 a46_L1_step (fun i (_ : Unit) s => ∃ T L, s = ⟨41, T, L, m⟩ ∧ keepT [0, 1, 5] [] T = [(0, u), (1, v), (5, .int .i64 (i : Int))]) (fun _ s => ∃ T L, s = ⟨41, T, L, m⟩ ∧ keepT [0, 1] [] T = [(0, u), (1, v)]) (fun (r : Bool) s => ∃ T L, s = ⟨41, T, L, m⟩ ∧ look T 4 = .bool r) 0 1 risS (a.zip b)
    (fun N b' s hN ⟨T, L, hs, hk⟩ => by
      subst hs
      unfold a46_B1
      cases d1 : decide (((a.zip b).length : Int) < (a.length : Int))
      · exact ⟨_, by simp only [KK, Nat.reduceEqDiff, Nat.reduceLT, hk, lu, d1]; rfl, _, _, rfl, by simp only [keepT, List.map, look_set, look_cons, Nat.reduceEqDiff, if_true, if_false, u1, v1]⟩
      · have d2 : decide (((a.zip b).length : Int) < (b.length : Int)) = false := by
          have := of_decide_eq_true d1
          exact decide_eq_false (by omega)
        exact ⟨_, by simp only [KK, Nat.reduceEqDiff, Nat.reduceLT, hk, lu, lv, d1, d2]; rfl, _, _, rfl, by simp only [keepT, List.map, look_set, look_cons, Nat.reduceEqDiff, if_true, if_false, u1, v1]⟩)
    (fun N i p b' s hN hx ⟨T, L, hs, hk⟩ => by
      subst hs
      have hlt := (List.getElem?_eq_some_iff.1 hx).1
      have d1 : decide ((i : Int) < (a.length : Int)) = true := decide_eq_true (by omega)
      have d2 : decide ((i : Int) < (b.length : Int)) = true := decide_eq_true (by omega)
      obtain ⟨x, y⟩ := p
      obtain ⟨hxa, hyb⟩ := List.getElem?_zip_eq_some.1 hx
      obtain ⟨b1, o1, cs1, ow1, e1, e2, e3⟩ := hu.i1 hxa
      obtain ⟨b2, o2, cs2, ow2, g1, g2, g3⟩ := hv.i1 hyb
      have a1 := add_i i (by omega)
      unfold risS
      dsimp only
      unfold a46_B1
      cases d3 : decide (x = y)
      · rw [if_neg (of_decide_eq_false d3)]
        exact ⟨_, by simp only [KK, Nat.reduceEqDiff, Nat.reduceLT, AOp.kd, kd_rm, logOk_nil', hk, u1, v1, lu, lv, d1, d2, e1, e2, e3, g1, g2, g3, d3]; rfl, _, _, rfl, by simp only [look_set, look_cons, Nat.reduceEqDiff, if_true, if_false]⟩
      · rw [if_pos (of_decide_eq_true d3)]
        exact ⟨_, by simp only [KK, Nat.reduceEqDiff, Nat.reduceLT, AOp.kd, kd_rm, logOk_nil', hk, u1, v1, lu, lv, d1, d2, e1, e2, e3, g1, g2, g3, d3, a1]; rfl, _, _, rfl, by simp only [keepT, List.map, look_set, look_cons, in_int, Nat.reduceEqDiff, if_true, if_false, u1, v1]⟩)
    n () ⟨41, _, _, m⟩ (by omega) ⟨_, _, rfl, by simp only [keepT, List.map, look_set, look_cons, in_int, Nat.reduceEqDiff, if_true, if_false, u1, v1]; rfl⟩ hq
  cases hf : foldS risS (a.zip b) 0 () with
  | inl _ =>
    rw [hf] at h
    obtain ⟨s', rfl, T', L', rfl, hk⟩ := h
    simp only [KK, Nat.reduceEqDiff, Nat.reduceLT, hk, lu, lv]
    congr 3
    by_cases hh : a.length < b.length
    · rw [decide_eq_true hh, decide_eq_true (by omega)]
    · rw [decide_eq_false hh, decide_eq_false (by omega)]
  | inr r =>
    rw [hf] at h
    obtain ⟨s', rfl, T', L', rfl, hk⟩ := h
    simp only [loc_bool, if_false, Bool.false_eq_true, hk]
end AG
