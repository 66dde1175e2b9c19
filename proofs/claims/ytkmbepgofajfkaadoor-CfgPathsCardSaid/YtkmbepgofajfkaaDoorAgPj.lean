/- What the functions that read images and paths compute, and the laws of that. -/
import Derived.Test.YtkmbepgofajfkaaDoorAgPi
namespace AG
open Go Go.Proofs.YtkmbepgofajfkaaDoor
set_option maxRecDepth 100000
set_option maxHeartbeats 4000000
theorem check_zero {M : Img} (h : checkI M = 0) : sizesP M = true ∧ funcsP M = true ∧ vecsP M = true ∧ codesP M = true ∧ atomsP M = true ∧ circlesP M = true := by
  unfold checkI at h
  cases h0 : sizesP M
  · rw [h0] at h; simp at h
  cases h1 : funcsP M
  · rw [h0, h1] at h; simp at h
  cases h2 : vecsP M
  · rw [h0, h1, h2] at h; simp at h
  cases h3 : codesP M
  · rw [h0, h1, h2, h3] at h; simp at h
  cases h4 : atomsP M
  · rw [h0, h1, h2, h3, h4] at h; simp at h
  cases h5 : circlesP M
  · rw [h0, h1, h2, h3, h4, h5] at h; simp at h
  exact ⟨rfl, rfl, rfl, rfl, rfl, rfl⟩
structure Tiles (M : Img) : Prop where
  sp : Spans M
  zero : fromP M 0 = 0
  pos : 0 < M.funcs.length
theorem tiles_of {M : Img} (h : funcsP M = true) : Tiles M := by
  have hs := funcs_spans h
  unfold funcsP funcs1 at h
  simp only [Bool.and_eq_true, Bool.not_eq_true', decide_eq_false_iff_not] at h
  obtain ⟨⟨h0, _⟩, h2⟩ := h
  have hp : 0 < M.funcs.length := by omega
  refine ⟨hs, ?_, hp⟩
  obtain ⟨x, hx⟩ : ∃ x, M.funcs[0]? = some x := ⟨_, List.getElem?_eq_getElem hp⟩
  have := (allI_iff _ _ _).1 h2 0 x hx
  unfold funcP at this
  rw [Bool.and_eq_true] at this
  have := this.1
  simpa using this
theorem Tiles.to_from {M : Img} (_ : Tiles M) {i : Nat} (hi : i + 1 < M.funcs.length) : toP M i = fromP M (i + 1) := by
  unfold toP; rw [if_pos hi]
theorem Tiles.to_last {M : Img} {i : Nat} (hi : i + 1 = M.funcs.length) : toP M i = M.code.length := by
  unfold toP; rw [if_neg (by omega)]
theorem Tiles.lt {M : Img} (h : Tiles M) {i j : Nat} (hij : i < j) (hj : j < M.funcs.length) : toP M i ≤ fromP M j := by
  induction j with
  | zero => omega
  | succ j ih =>
    by_cases e : i = j
    · subst e; rw [h.to_from hj]; exact Int.le_refl _
    · have := ih (by omega) (by omega)
      have h2 := h.sp j (by omega)
      rw [h.to_from hj] at h2
      omega
theorem fromP_at {M : Img} {i : Nat} {x : FF} (hx : M.funcs[i]? = some x) : fromP M i = x.entry := by unfold fromP; rw [hx]; rfl
theorem ofR_spec (at' : Int) : ∀ (l : List FF) (i : Nat) (b : Int), (ofR at' l i b = b ∧ ∀ (j : Nat) (x : FF), l[j]? = some x → ¬ x.entry ≤ at') ∨ ∃ (j : Nat) (x : FF), l[j]? = some x ∧ ofR at' l i b = ((i + j : Nat) : Int) ∧ x.entry ≤ at' ∧ ∀ (k : Nat) (y : FF), l[k]? = some y → j < k → ¬ y.entry ≤ at'
  | [], i, b => .inl ⟨rfl, fun j x h => by simp at h⟩
  | x :: r, i, b => by
    rw [ofR]
    rcases ofR_spec at' r (i + 1) (if x.entry ≤ at' then (i : Int) else b) with ⟨h1, h2⟩ | ⟨j, y, h1, h2, h3, h4⟩
    · by_cases hx : x.entry ≤ at'
      · rw [if_pos hx] at h1
        refine .inr ⟨0, x, rfl, by rw [if_pos hx, h1, Nat.add_zero], hx, fun k y hk hlt => ?_⟩
        match k with
        | k + 1 => exact h2 k y hk
      · rw [if_neg hx] at h1
        refine .inl ⟨by rw [if_neg hx, h1], fun k y hk => ?_⟩
        match k with
        | 0 => cases hk; exact hx
        | k + 1 => exact h2 k y hk
    · refine .inr ⟨j + 1, y, h1, by rw [h2]; congr 1; omega, h3, fun k z hk hlt => ?_⟩
      match k with
      | k + 1 => exact h4 k z hk (by omega)
theorem Tiles.of {M : Img} (h : Tiles M) {at' : Int} (h0 : 0 ≤ at') (h1 : at' < (M.code.length : Int)) : ∃ f : Nat, f < M.funcs.length ∧ ofR at' M.funcs 0 0 = (f : Int) ∧ fromP M f ≤ at' ∧ at' < toP M f := by
  rcases ofR_spec at' M.funcs 0 0 with ⟨_, h2⟩ | ⟨j, x, hx, h2, h3, h4⟩
  · exfalso
    obtain ⟨x, hx⟩ : ∃ x, M.funcs[0]? = some x := ⟨_, List.getElem?_eq_getElem h.pos⟩
    have := h2 0 x hx
    have hz := h.zero
    rw [fromP_at hx] at hz
    omega
  · have hj := (List.getElem?_eq_some_iff.1 hx).1
    refine ⟨j, hj, by rw [h2, Nat.zero_add], by rw [fromP_at hx]; exact h3, ?_⟩
    by_cases hl : j + 1 < M.funcs.length
    · rw [h.to_from hl]
      obtain ⟨y, hy⟩ : ∃ y, M.funcs[j + 1]? = some y := ⟨_, List.getElem?_eq_getElem hl⟩
      have := h4 (j + 1) y hy (by omega)
      rw [fromP_at hy]
      omega
    · rw [Tiles.to_last (by omega)]
      exact h1
theorem Tiles.uniq {M : Img} (h : Tiles M) {at' : Int} {f g : Nat} (hf : f < M.funcs.length) (hg : g < M.funcs.length) (h1 : fromP M f ≤ at' ∧ at' < toP M f) (h2 : fromP M g ≤ at' ∧ at' < toP M g) : f = g := by
  rcases Nat.lt_trichotomy f g with q | q | q
  · have := h.lt q hg; omega
  · exact q
  · have := h.lt q hf; omega
theorem seg_get {M : Img} {f a : Nat} {x : II} (h0 : 0 ≤ fromP M f) (h1 : fromP M f ≤ a) (h2 : (a : Int) < toP M f) (hx : M.code[a]? = some x) : (segP M f)[a - (fromP M f).toNat]? = some x := by
  unfold segP
  rw [List.getElem?_take, if_pos (by omega), List.getElem?_drop, ← hx]
  congr 1
  omega
theorem code_at {M : Img} (h : checkI M = 0) {a : Nat} {x : II} (hx : M.code[a]? = some x) : ∃ f, f < M.funcs.length ∧ fromP M f ≤ a ∧ (a : Int) < toP M f ∧ codeOk x.op x.a x.b x.c = true ∧ insP M f (fromP M f) (toP M f) x = true ∧ ((a : Int) + 1 = toP M f → x.op = 1 ∨ x.op = 15 ∨ x.op = 18) := by
  obtain ⟨_, hf, _, hc, _, _⟩ := check_zero h
  have ht := tiles_of hf
  have hlt := (List.getElem?_eq_some_iff.1 hx).1
  obtain ⟨f, hfl, _, h1, h2⟩ := ht.of (at' := (a : Int)) (by omega) (by omega)
  have hs := ht.sp f hfl
  obtain ⟨y, hy⟩ : ∃ y, M.funcs[f]? = some y := ⟨_, List.getElem?_eq_getElem hfl⟩
  have hb := (allI_iff _ _ _).1 hc f y hy
  rw [Nat.zero_add] at hb
  unfold bodyP at hb
  rw [Bool.and_eq_true] at hb
  have hq := (allI_iff _ _ _).1 hb.1 _ x (seg_get hs.1 h1 h2 hx)
  unfold codeP at hq
  rw [Bool.and_eq_true] at hq
  refine ⟨f, hfl, h1, h2, hq.1, hq.2, fun he => ?_⟩
  have hl := hb.2
  unfold lastP at hl
  have : (toP M f).toNat - 1 = a := by omega
  rw [this, hx] at hl
  simpa using hl
theorem codes_ok {M : Img} (h : checkI M = 0) : CodesOk M := fun a x hx => by
  obtain ⟨f, _, _, _, h1, _⟩ := code_at h hx
  exact h1
theorem mem_nextI {x : II} {a n : Int} (h : n ∈ nextI x a) : (n = a + 1 ∧ ¬ (x.op = 1 ∨ x.op = 18 ∨ x.op = 15)) ∨ (n = x.a ∧ (x.op = 15 ∨ x.op = 16)) := by
  unfold nextI at h
  have h1 := mem_compact h
  unfold sortZ at h1
  rw [List.mem_mergeSort] at h1
  unfold outI at h1
  rw [List.mem_append] at h1
  rcases h1 with h1 | h1
  · split at h1
    · cases h1
    · rename_i hh
      exact .inl ⟨by simpa using h1, hh⟩
  · split at h1
    · rename_i hh
      exact .inr ⟨by simpa using h1, hh⟩
    · cases h1
theorem nextI_rise (x : II) (a : Int) : (nextI x a).Pairwise (· < ·) := compact_rise (sortZ_rise _)
theorem next_within {M : Img} (h : checkI M = 0) {a : Nat} {x : II} (hx : M.code[a]? = some x) {f : Nat} (hf : f < M.funcs.length) (h1 : fromP M f ≤ a ∧ (a : Int) < toP M f) {n : Int} (hn : n ∈ nextI x a) : fromP M f ≤ n ∧ n < toP M f := by
  obtain ⟨g, hg, g1, g2, _, g4, g5⟩ := code_at h hx
  have ht := tiles_of (check_zero h).2.1
  obtain rfl := ht.uniq hf hg h1 ⟨g1, g2⟩
  rcases mem_nextI hn with ⟨rfl, h2⟩ | ⟨rfl, h2⟩
  · have : ¬ (a : Int) + 1 = toP M f := fun e => h2 (by have := g5 e; omega)
    omega
  · unfold insP at g4
    rcases h2 with h2 | h2
    · simp [h2] at g4; omega
    · simp [h2] at g4; omega
theorem next_in {M : Img} (h : checkI M = 0) : NextIn M := fun a x hx n hn => by
  obtain ⟨f, hf, h1, h2, _⟩ := code_at h hx
  have ht := tiles_of (check_zero h).2.1
  have := ht.sp f hf
  have := next_within h hx hf ⟨h1, h2⟩ hn
  omega
theorem nextP_at {M : Img} {a : Nat} (ha : a < M.code.length) : nextP M 0 (a : Int) = nextAt M a := by
  unfold nextP
  rw [if_pos (by omega), Int.toNat_natCast]
theorem nextAt_in {M : Img} (hin : NextIn M) {a : Nat} {n : Int} (h : n ∈ nextAt M a) : 0 ≤ n ∧ n < (M.code.length : Int) := by
  unfold nextAt at h
  cases hx : M.code[a]? with
  | none => rw [hx] at h; cases h
  | some x => rw [hx] at h; exact hin a x hx n h
theorem nextAt_rise (M : Img) (a : Nat) : (nextAt M a).Pairwise (· < ·) := by
  unfold nextAt
  split
  · exact nextI_rise _ _
  · exact List.Pairwise.nil
theorem fold_ris (l : List (Int × Int)) : ∀ i j : Nat, foldS risS l i () = foldS risS l j () := by
  induction l with
  | nil => intros; rfl
  | cons p r ih =>
    intro i j
    simp only [foldS, risS]
    split
    · rename_i b hb
      exact ih (i + 1) (j + 1)
    · rfl
    · rfl
theorem rises_cons (x y : Int) (a b : List Int) : risesP (x :: a) (y :: b) = if x = y then risesP a b else decide (x < y) := by
  unfold risesP
  rw [List.zip_cons_cons]
  simp only [foldS, risS]
  by_cases h : x = y
  · simp only [h, if_true]
    rw [fold_ris _ 1 0]
    cases foldS risS (a.zip b) 0 () with
    | inl _ => simp
    | inr r => rfl
  · simp only [h, if_false]
theorem rises_pre : ∀ (way : List Int) (n : Int) (t : List Int), risesP way (way ++ n :: t) = true
  | [], n, t => by simp [risesP, foldS]
  | x :: r, n, t => by rw [List.cons_append, rises_cons, if_pos rfl]; exact rises_pre r n t
theorem rises_lt : ∀ (way : List Int) (x y : Int) (s t : List Int), x < y → risesP (way ++ x :: s) (way ++ y :: t) = true
  | [], x, y, s, t, h => by rw [List.nil_append, List.nil_append, rises_cons, if_neg (by omega)]; exact decide_eq_true h
  | z :: r, x, y, s, t, h => by rw [List.cons_append, List.cons_append, rises_cons, if_pos rfl]; exact rises_lt r x y s t h
theorem ptree_pre (M : Img) : ∀ (k : Nat) (way : List Int) (a : Nat) (w : List Int), w ∈ ptree M k way a → ∃ t, w = way ++ t ∧ t.length ≤ k
  | 0, way, a, w, h => by
    rw [ptree, List.mem_singleton] at h
    exact ⟨[], by simp [h], by simp⟩
  | k + 1, way, a, w, h => by
    rw [ptree, List.mem_cons, List.mem_flatMap] at h
    rcases h with rfl | ⟨n, _, h⟩
    · exact ⟨[], by simp, by simp⟩
    · obtain ⟨t, rfl, ht⟩ := ptree_pre M k _ _ w h
      exact ⟨n :: t, by simp, by simp; omega⟩
theorem ptree_rise (M : Img) : ∀ (k : Nat) (way : List Int) (a : Nat), (ptree M k way a).Pairwise fun v w => risesP v w = true
  | 0, way, a => by rw [ptree]; exact List.pairwise_singleton _ _
  | k + 1, way, a => by
    rw [ptree, List.pairwise_cons]
    refine ⟨fun w hw => ?_, ?_⟩
    · obtain ⟨n, _, hw⟩ := List.mem_flatMap.1 hw
      obtain ⟨t, rfl, _⟩ := ptree_pre M k _ _ w hw
      rw [List.append_assoc]
      exact rises_pre way n t
    · rw [List.pairwise_flatMap]
      refine ⟨fun n _ => ptree_rise M k _ _, List.Pairwise.imp (fun {n n'} hlt v hv w hw => ?_) (nextAt_rise M a)⟩
      obtain ⟨s, rfl, _⟩ := ptree_pre M k _ _ v hv
      obtain ⟨t, rfl, _⟩ := ptree_pre M k _ _ w hw
      rw [List.append_assoc, List.append_assoc]
      exact rises_lt way n n' s t hlt
theorem last_app (way : List Int) (n : Int) : (way ++ [n])[(way ++ [n]).length - 1]? = some n := by simp
theorem ptree_step {M : Img} (hin : NextIn M) : ∀ (k : Nat) (way : List Int) (a : Nat), a < M.code.length → way[way.length - 1]? = some (a : Int) → (∀ (j : Nat) (y z : Int), way[j]? = some y → way[j + 1]? = some z → (nextP M 0 y).contains z = true) →
    ∀ w ∈ ptree M k way a, ∀ (j : Nat) (y z : Int), w[j]? = some y → w[j + 1]? = some z → (nextP M 0 y).contains z = true
  | 0, way, a, _, _, hst, w, hw => by
    rw [ptree, List.mem_singleton] at hw
    subst hw
    exact hst
  | k + 1, way, a, ha, hl, hst, w, hw => by
    rw [ptree, List.mem_cons, List.mem_flatMap] at hw
    rcases hw with rfl | ⟨n, hn, hw⟩
    · exact hst
    · have hr := nextAt_in hin hn
      refine ptree_step hin k (way ++ [n]) n.toNat (by omega) (by rw [last_app]; simp; omega) (fun j y z hy hz => ?_) w hw
      have hj := (List.getElem?_eq_some_iff.1 hz).1
      rw [List.length_append, List.length_singleton] at hj
      by_cases hj2 : j + 1 < way.length
      · rw [List.getElem?_append_left (by omega)] at hy
        rw [List.getElem?_append_left hj2] at hz
        exact hst j y z hy hz
      · obtain rfl : j = way.length - 1 := by omega
        rw [List.getElem?_append_left (by omega), hl] at hy
        cases hy
        rw [List.getElem?_append_right (by omega), show way.length - 1 + 1 - way.length = 0 by omega] at hz
        cases hz
        rw [nextP_at ha]
        simpa using hn
theorem sum_flat {α β : Type} (g : β → Nat) (f : α → List β) : ∀ l : List α, (∀ x ∈ l, 1 + ((f x).map g).sum = (f x).length) → ((l.flatMap f).map g).sum + l.length = (l.flatMap f).length
  | [], _ => rfl
  | x :: r, h => by
    have h1 := h x (by simp)
    have h2 := sum_flat g f r (fun y hy => h y (List.mem_cons_of_mem _ hy))
    rw [List.flatMap_cons, List.map_append, List.sum_append, List.length_append, List.length_cons]
    omega
theorem ptree_count {M : Img} (hin : NextIn M) (nn : Nat) : ∀ (k : Nat) (way : List Int) (a : Nat), a < M.code.length → way[way.length - 1]? = some (a : Int) → way.length + k = nn → 1 + ((ptree M k way a).map (moreP M nn)).sum = (ptree M k way a).length
  | 0, way, a, _, _, hk => by
    have : moreP M nn way = 0 := by unfold moreP; rw [if_neg (by omega)]
    simp [ptree, this]
  | k + 1, way, a, ha, hl, hk => by
    have hm : moreP M nn way = (nextAt M a).length := by
      unfold moreP
      rw [if_pos (by omega)]
      have : lastI way = (a : Int) := by unfold lastI; rw [hl]; rfl
      rw [this, nextP_at ha]
    have hs := sum_flat (moreP M nn) (fun n : Int => ptree M k (way ++ [n]) n.toNat) (nextAt M a) (fun n hn => by
      have hr := nextAt_in hin hn
      exact ptree_count hin nn k (way ++ [n]) n.toNat (by omega) (by rw [last_app]; simp; omega) (by simp; omega))
    rw [ptree, List.map_cons, List.sum_cons, List.length_cons, hm]
    omega
theorem ways_ok {M : Img} (h : checkI M = 0) {f : Nat} (hf : f < M.funcs.length) (k : Nat) : Ways M f (k + 1) (ptree M k [fromP M f] (fromP M f).toNat) := by
  have hin := next_in h
  have ht := tiles_of (check_zero h).2.1
  have hs := ht.sp f hf
  have hl : ([fromP M f] : List Int)[([fromP M f] : List Int).length - 1]? = some (((fromP M f).toNat : Nat) : Int) := by
    show some (fromP M f) = _
    rw [Int.toNat_of_nonneg hs.1]
  refine ⟨fun w hw => ?_, fun w hw => ?_, ?_, fun i v w hv hw => ?_, ?_⟩
  · obtain ⟨t, rfl, ht⟩ := ptree_pre M k _ _ w hw
    simp
    omega
  · obtain ⟨t, rfl, ht⟩ := ptree_pre M k _ _ w hw
    rfl
  · exact ptree_step hin k _ _ (by omega) hl (fun j y z _ hz => by simp at hz)
  · have hp := ptree_rise M k [fromP M f] (fromP M f).toNat
    obtain ⟨h1, e1⟩ := List.getElem?_eq_some_iff.1 hv
    obtain ⟨h2, e2⟩ := List.getElem?_eq_some_iff.1 hw
    have := List.pairwise_iff_getElem.1 hp i (i + 1) h1 h2 (by omega)
    rwa [e1, e2] at this
  · exact ptree_count hin (k + 1) k _ _ (by omega) hl (by simp; omega)
def LV (m : Mem) : Prop := blocks.length ≤ m.n ∧ ∀ (i : Nat) (b : ABlk), blocks[i]? = some b → m.get i = some b
theorem LV.ext {m m' : Mem} (h : LV m) (k : Ext m m') : LV m' := ⟨Nat.le_trans h.1 k.1, fun i b hb => (k.2 i (by have := (List.getElem?_eq_some_iff.1 hb).1; have := h.1; omega)).trans (h.2 i b hb)⟩
theorem lives_run (N : Nat) (hN : 1 ≤ N) (m : Mem) (h : LV m) : run A N 36 [] m = some (.bool true, m) := by
  obtain ⟨n, rfl⟩ : ∃ n, N = n + 1 := ⟨N - 1, by omega⟩
  rw [run_36]
  unfold fnEv a36 primFn
  try dsimp only
  unfold closedEv
  rw [if_pos ⟨rfl, h.1, h.2⟩]
theorem LV.tab {m : Mem} (h : LV m) : Tab m ∧ Chk m := ⟨⟨h.2 _ _ rfl, h.2 _ _ rfl, h.2 _ _ rfl⟩, h.2 _ _ rfl⟩
theorem ick_ok (m : Mem) (h : LV m) (I : ImV) (M : Img) (hm : IM m I M) (hcs : CapS I.c 4) (hat : M.atoms.length ≤ 1000000) : CkOk m I M (65 * (M.code.length + 20) + 100 + M.code.length + M.funcs.length + M.vecs.length + M.atoms.length + 4210) (132 * M.code.length + 10) 54 (checkI M) := by
  intro N m1 hN he hmn
  obtain ⟨h1, h2⟩ := (h.ext he).tab
  obtain ⟨m', hr, hg⟩ := icheck_run N m1 h1 h2 I M (hm.ext he) hcs hat hN hmn
  exact ⟨m', hr, hg.le (by omega)⟩
theorem law_run (N : Nat) (hN : 30000 ≤ N) (m : Mem) (hlv : LV m) (I : ImV) (M : Img) (hm : IM m I M) (hcs : CapS I.c 4) (hmn : m.n + 20000000 ≤ 2 ^ depth) (f n' : Int) : ∃ m', run A N 8 [.agg [I.c, I.f, I.v, .int .i64 M.main, I.i, I.p, .int .i64 M.stack, I.a], .int .i64 f, .int .i64 n'] m = some (.bool true, m') := by
  obtain ⟨n, rfl⟩ : ∃ n, N = n + 1 := ⟨N - 1, by omega⟩
  obtain ⟨pc1, pc2, pc3, pc4⟩ := hm.c.plain
  have lc := hm.c.lenR
  obtain ⟨pf1, pf2, pf3, pf4⟩ := hm.f.plain
  have lf := hm.f.lenR
  obtain ⟨pv1, pv2, pv3, pv4⟩ := hm.v.plain
  have lv := hm.v.lenR
  obtain ⟨pi1, pi2, pi3, pi4⟩ := hm.i.plain
  have li := hm.i.lenR
  obtain ⟨pp1, pp2, pp3, pp4⟩ := hm.p.plain
  have lp := hm.p.lenR
  obtain ⟨pa1, pa2, pa3, pa4⟩ := hm.a.plain
  have la := hm.a.lenR
  have hli := lives_run n (by omega) m hlv
  have hp1 := pick_run n (by omega) m n' 9 (by omega)
  obtain ⟨hpl1, hpl2⟩ := pick_law n' (show (1 : Int) ≤ 9 by omega)
  have hlight := light_run n m I M hm 30 (by omega)
  rw [run_8]
  unfold fnEv a8
  cases hL : lightP M 30
  · rw [hL] at hlight
    obtain ⟨m1, hz, hg⟩ := paths_zero n (by omega) m I M hm f 0 (by omega) (by omega)
    exact ⟨m1, by simp only [KK, Nat.reduceEqDiff, Nat.reduceAdd, Nat.reduceLeDiff, Nat.reduceLT, a8_R1, hli, hp1, hlight, hz]⟩
  rw [hL] at hlight
  obtain ⟨l1, l2, l3, l4, l5, l6, l7⟩ := light_law (k := 30) hL
  have hmul1 := Nat.mul_le_mul_left (3 * M.code.length) l2
  have hmul2 := Nat.mul_le_mul (show 2 * M.funcs.length + 2 ≤ 162 by omega) l2
  have hmul3 := Nat.mul_le_mul_right 80 (show 3 * M.code.length ≤ 90 by omega)
  obtain ⟨m1, hrc, hg1⟩ := r4check_run n m I M hm (by omega) (fun _ => by omega) (by omega)
  rw [check_eq] at hrc
  have hn1 := hg1.2
  have hm1 := hm.ext hg1.1
  by_cases hc : checkI M = 0
  rotate_left
  · have hd : decide (checkI M = 0) = false := decide_eq_false hc
    obtain ⟨m2, hz, hg⟩ := paths_zero n (by omega) m1 I M hm1 f 0 (by omega) (by omega)
    exact ⟨m2, by simp only [KK, Nat.reduceEqDiff, Nat.reduceAdd, Nat.reduceLeDiff, Nat.reduceLT, a8_R1, hli, hp1, hlight, hrc, hd, hz]⟩
  have hd : decide (checkI M = 0) = true := decide_eq_true hc
  have ht := tiles_of (check_zero hc).2.1
  have hpos := ht.pos
  have hp2 := pick_run n (by omega) m1 f (M.funcs.length : Int) (by omega)
  obtain ⟨hq1, hq2⟩ := pick_law f (show (1 : Int) ≤ (M.funcs.length : Int) by omega)
  obtain ⟨fk, hfk⟩ : ∃ k : Nat, pickP f (M.funcs.length : Int) = (k : Int) := ⟨(pickP f (M.funcs.length : Int)).toNat, by omega⟩
  rw [hfk] at hp2 hq1 hq2
  have hs := ht.sp fk (by omega)
  have hlv1 := hlv.ext hg1.1
  have hck := ick_ok m1 hlv1 I M hm1 hcs (by omega)
  rw [hc] at hck
  by_cases hk0 : pickP n' 9 = 0
  · rw [hk0] at hp1
    obtain ⟨m2, hz, hg⟩ := paths_zero n (by omega) m1 I M hm1 (fk : Int) 0 (by omega) (by omega)
    have hdd : ∀ z : Int, decide ((0 : Int) = 0) = true := fun _ => rfl
    exact ⟨m2, by simp only [KK, Nat.reduceEqDiff, Nat.reduceAdd, Nat.reduceLeDiff, Nat.reduceLT, a8_R1, a8_R2, lf, hli, hp1, hlight, hrc, hd, hp2, hz]⟩
  obtain ⟨k, hk⟩ : ∃ k : Nat, pickP n' 9 = ((k + 1 : Nat) : Int) := ⟨(pickP n' 9).toNat - 1, by omega⟩
  have hk7 : k ≤ 7 := by omega
  rw [hk] at hp1
  have hCL : Cp k ≤ 5100 ∧ Lp k ≤ 255 := by
    have : ∀ k, k ≤ 7 → Cp k ≤ 5100 ∧ Lp k ≤ 255 := by decide
    exact this k hk7
  obtain ⟨v, m2, hr, has, hg2⟩ := paths_run n m1 I M hm1 hlv1.tab.1 m1 _ _ hck (Ext.refl m1) (codes_ok hc) (next_in hc) (by omega) fk (by omega) ⟨hs.1, by omega⟩ k (by omega) (by omega) (by omega) (by omega)
  have hn2 := hg2.2
  have hW := ways_ok hc (f := fk) (by omega) k
  have hpl := ptree_len M k [fromP M fk] (fromP M fk).toNat
  have hcnt := hW.count
  generalize ptree M k [fromP M fk] (fromP M fk).toNat = ls at *
  obtain ⟨v1, v2, v3, v4⟩ := has.plain
  have lv := has.lenR
  have hd2 : decide ((((k + 1 : Nat) : Int)) = 0) = false := decide_eq_false (by omega)
  have hd3 : decide ((ls.length : Int) = 0) = false := decide_eq_false (by omega)
  have hd4 : decide ((ls.length : Int) = (ls.length : Int)) = true := decide_eq_true rfl
  have hm2 := hm1.ext hg2.1
  have hck2 := hck.up hg2.1
  have hb1 := Nat.mul_le_mul (show k + 1 + 1 ≤ 9 by omega) (show 132 * M.code.length + 10 + 4 ≤ 3974 by omega)
  have hb2 := Nat.mul_le_mul (show ls.length ≤ 255 by omega) hb1
  simp only [KK, Nat.reduceEqDiff, Nat.reduceAdd, Nat.reduceLeDiff, Nat.reduceLT, a8_R1, lf, hli, hp1, hlight, hrc, hd, hp2, hr, v1, lv, hd2, hd3]
  generalize hq : codeEv (run A n) (ev A n).2 a8_L3 _ = q
  obtain ⟨T', L', m3, rfl, hk3, he3⟩ := ways_loop m2 I M hm2 (hlv1.ext hg2.1).tab.1 _ _ hck2 (codes_ok hc) (by omega) (by omega) fk (k + 1) (by omega) (by omega) v ls has (by omega) hW (by omega) n _ _ (by omega) (by simp only [keepT, List.map, look_set, look_cons, in_int, in_loc, Nat.reduceEqDiff, if_true, if_false, List.contains_cons, List.contains_nil, beq_self_eq_true, Bool.or_false, v1]) (by simp only [lookL_cons, if_true]) hq
  exact ⟨m3, by simp only [KK, Nat.reduceEqDiff, Nat.reduceLT, hk3, lv]⟩
end AG
