/- What the functions of instructions and their texts compute, and the laws of that. -/
import Derived.Test.YtekljfhfjncmjaaDoorAgArg2
namespace AG
open Go
set_option maxRecDepth 100000
set_option maxHeartbeats 4000000


def hasI (s : BitVec 32) (k : Int) : Bool := decide (0 ≤ k) && (decide (k < 32) && s.getLsbD k.toNat)
theorem bit_and (s : BitVec 32) (k : Nat) : decide (s >>> k &&& 1#32 = 1#32) = s.getLsbD k := by
  rw [Bool.eq_iff_iff, decide_eq_true_eq]
  constructor
  · intro h
    have := congrArg (fun x => BitVec.getLsbD x 0) h
    simpa using this
  · intro h
    apply BitVec.eq_of_getLsbD_eq
    intro i hi
    by_cases h0 : i = 0
    · subst h0; simp [h]
    · simp [BitVec.getLsbD_one, h0]
structure V where
  line : Int
  prio : Int
  fn : Int
  deriving DecidableEq
def V.c (v : V) : List AV := [.int .i64 v.line, .int .i64 v.prio, .int .i64 v.fn]
theorem V.c_eq (v : V) : v.c = [.int .i64 v.line, .int .i64 v.prio, .int .i64 v.fn] := rfl
/-- A slice of vectors. -/
def VS (m : Mem) (v : AV) (l : List V) : Prop := (v = .nils ∧ l = []) ∨ ∃ b o cap e, v = .slice b o l.length cap e ∧ ∀ (i : Nat) (x : V), l[i]? = some x → ∃ c own, m.get b = some (.cells c own) ∧ cellsAt c (o + i * 3) 3 = some x.c

def okV (v : V) : Bool := !decide (v.line < 0) && (!decide (31 < v.line) && (!decide (v.prio < 1) && (!decide (15 < v.prio) && !decide (v.fn < 0))))
def checkL : BitVec 32 → List V → Bool
  | _, [] => true
  | s, v :: r => okV v && (!hasI s v.line && checkL (s ||| 1#32 <<< v.line.toNat) r)

theorem drop_cons_get {α : Type} {l r : List α} {i : Nat} {x : α} (h : l.drop i = x :: r) : l[i]? = some x ∧ i < l.length ∧ l.drop (i + 1) = r := by
  have h1 : l[i]? = some x := by
    have := congrArg (fun y => y[0]?) h
    simpa using this
  refine ⟨h1, (List.getElem?_eq_some_iff.1 h1).1, ?_⟩
  rw [← List.drop_drop, h]; rfl

theorem u_or (x : Int) (_ : BitVec 32) (h : 0 ≤ x) : binEv .shl (U 1#32) (.int .i64 x) = some (U (1#32 <<< x.toNat)) := bin_shl _ _ _ h
theorem add_i (i : Nat) (h : i ≤ 1000000) : binEv .add (.int .i64 (i : Int)) (.int .i64 1) = some (.int .i64 ((i + 1 : Nat) : Int)) := by
  simp only [binEv, if_true, intBin, IntKind.wrap, IntKind.bits]
  simp [IntKind.signed]
  omega

def checkV (l : List V) : Int := if 32 < l.length then 3 else if checkL 0#32 l then 0 else 2
theorem push_n (m : Mem) (b : ABlk) : (m.push b).n = m.n + 1 := rfl
theorem set_n (m : Mem) (i : Nat) (b : ABlk) : (m.set i b).n = m.n := rfl
theorem not_full {m : Mem} (h : m.n < 2 ^ depth) : m.full = false := by
  unfold Mem.full
  exact decide_eq_false (by omega)
/-- What was there is there still. -/
def Ext (m m' : Mem) : Prop := m.n ≤ m'.n ∧ ∀ i, i < m.n → m'.get i = m.get i
theorem Ext.refl (m : Mem) : Ext m m := ⟨Nat.le_refl _, fun _ _ => rfl⟩
theorem Ext.trans {a b c : Mem} (h : Ext a b) (k : Ext b c) : Ext a c := ⟨Nat.le_trans h.1 k.1, fun i hi => (k.2 i (Nat.lt_of_lt_of_le hi h.1)).trans (h.2 i hi)⟩
theorem Ext.push {a m : Mem} (h : Ext a m) (b : ABlk) (hf : m.n < 2 ^ depth) : Ext a (m.push b) :=
  ⟨Nat.le_trans h.1 (by rw [push_n]; omega), fun i hi => (Mem.get_push_old b (not_full hf) (by have := h.1; omega)).trans (h.2 i hi)⟩
theorem Ext.set {a m : Mem} (h : Ext a m) (i : Nat) (b : ABlk) (hm : m.n ≤ 2 ^ depth) (hi : a.n ≤ i) (hi' : i < m.n) : Ext a (m.set i b) :=
  ⟨by rw [set_n]; exact h.1, fun j hj => (Mem.get_set_ne b hm hi' (by omega)).trans (h.2 j hj)⟩
theorem VS.ext {m m' : Mem} {v : AV} {l : List V} (h : VS m v l) (k : Ext m m') : VS m' v l := by
  rcases h with h | ⟨b, o, cap, e, rfl, h⟩
  · exact .inl h
  · refine .inr ⟨b, o, cap, e, rfl, fun i x hx => ?_⟩
    obtain ⟨c, own, h1, h2⟩ := h i x hx
    exact ⟨c, own, (k.2 b (Mem.get_lt h1)).trans h1, h2⟩
theorem max_i (x y : Int) : maxEv (.int .i64 x) [.int .i64 y] = some (.int .i64 (max x y)) := by
  simp only [maxEv, Option.some.injEq, AV.int.injEq, true_and]; omega
theorem min_i (x y : Int) : minEv (.int .i64 x) [.int .i64 y] = some (.int .i64 (min x y)) := by
  simp only [minEv, Option.some.injEq, AV.int.injEq, true_and]; omega

def gt (a b : V) : Bool := decide (b.prio < a.prio) || (decide (a.prio = b.prio) && decide (a.line < b.line))
def bI : Option (Nat × V) → Int
  | none => -1
  | some (k, _) => k
def better (best : Option (Nat × V)) (v : V) : Bool := match best with
  | none => true
  | some (_, w) => gt v w
theorem cells_fld {c : List AV} {p : Nat} {v : V} (h : cellsAt c p 3 = some v.c) : cellsAt c (p + 1) 1 = some [.int .i64 v.prio] ∧ cellsAt c (p + 0) 1 = some [.int .i64 v.line] ∧ cellsAt c (p + 2) 1 = some [.int .i64 v.fn] := by
  unfold cellsAt at h
  split at h
  · rename_i hle
    simp only [Option.some.injEq] at h
    have g : ∀ i, i < 3 → c[p + i]? = v.c[i]? := by
      intro i hi
      rw [← h, List.getElem?_take, if_pos hi, List.getElem?_drop]
    exact ⟨cells_one (g 1 (by omega)), cells_one (g 0 (by omega)), cells_one (g 2 (by omega))⟩
  · cases h

def takeL (e : V → Bool) : List V → Nat → Option (Nat × V) → Option (Nat × V)
  | [], _, b => b
  | v :: r, i, b => takeL e r (i + 1) (if e v && better b v then some (i, v) else b)
def elig (P E : BitVec 32) (lv ac : Int) (v : V) : Bool := hasI (P &&& E) v.line && decide (max lv ac < v.prio)

def takeR (P E : BitVec 32) (lv ac : Int) (l : List V) : Option (Nat × V) := if checkV l = 0 then takeL (elig P E lv ac) l 0 none else none
def takeAV (r : Option (Nat × V)) : AV := .tup [.int .i64 (max 0 (bI r)), .bool (decide (0 ≤ bI r))]

theorem VS.plain {m : Mem} {v : AV} {l : List V} (hv : VS m v l) : (∀ ls, AV.locIn ls v = true) ∧ v.isLoc = false ∧ AV.one v = true ∧ v.cells? = some [v] := by
  rcases hv with ⟨rfl, _⟩ | ⟨b, o, cap, e, rfl, _⟩ <;> exact ⟨fun _ => rfl, rfl, rfl, rfl⟩
theorem codeEv_keep (call : Caller) (again : AC → St → Option (Ex × St)) (ts ls : List Nat) (a : AC) (n : Nat) (t : List (Nat × AV)) (l : List (Nat × List AV)) (m : Mem) :
    codeEv call again (.keep ts ls a) ⟨n, t, l, m⟩ = codeEv call again a ⟨n, keepT ts ls t, keepL l ls, m⟩ := rfl
theorem keepL_nil (l : List (Nat × List AV)) : keepL l [] = [] := rfl
theorem look_keepT (ts ls : List Nat) (T : List (Nat × AV)) (u : Nat) (h : u ∈ ts) : look (keepT ts ls T) u = if (look T u).locIn ls then look T u else .unk := by
  unfold keepT
  rw [look_map (fun u => if (look T u).locIn ls then look T u else .unk), if_pos h]
/-- What is known of more is known of less. -/
theorem keepT_sub {K : List Nat} {T st : List (Nat × AV)} (h : keepT K [] T = st) (K' : List Nat) (hs : K'.all K.contains = true) : keepT K' [] T = keepT K' [] st := by
  subst h
  unfold keepT
  apply List.map_congr_left
  intro u hu
  have hc : u ∈ K := by
    have := List.all_eq_true.1 hs u hu
    simpa using this
  have := look_keepT K [] T u hc
  unfold keepT at this
  rw [this]
  by_cases hb : (look T u).locIn [] = true
  · simp [hb]
  · simp only [hb, if_false, Bool.false_eq_true]
    simp [AV.locIn]

/-- The best of those that are meant. -/
def Best (e : V → Bool) (l : List V) : Option (Nat × V) → Prop
  | none => ∀ (j : Nat) (x : V), l[j]? = some x → e x = false
  | some (k, w) => l[k]? = some w ∧ e w = true ∧ ∀ (j : Nat) (x : V), l[j]? = some x → e x = true → j ≠ k → gt w x = true

theorem gt_trans {a b c : V} (h : gt a b = true) (k : gt b c = true) : gt a c = true := by
  unfold gt at *
  simp only [Bool.or_eq_true, Bool.and_eq_true, decide_eq_true_eq] at *
  omega
theorem gt_total {a b : V} (hl : a.line ≠ b.line) (h : gt a b = false) : gt b a = true := by
  unfold gt at *
  simp only [Bool.or_eq_true, Bool.and_eq_true, decide_eq_true_eq, Bool.or_eq_false_iff, Bool.and_eq_false_iff, decide_eq_false_iff_not] at *
  omega
theorem gt_asymm {a b : V} (h : gt a b = true) : gt b a = false := by
  unfold gt at *
  simp only [Bool.or_eq_true, Bool.and_eq_true, decide_eq_true_eq, Bool.or_eq_false_iff, Bool.and_eq_false_iff, decide_eq_false_iff_not] at *
  omega

theorem hasI_or (s : BitVec 32) (n : Nat) (hn : n < 32) (k : Int) : hasI (s ||| 1#32 <<< n) k = (hasI s k || decide (k = n)) := by
  unfold hasI
  by_cases h1 : 0 ≤ k
  · by_cases h2 : k < 32
    · simp only [h1, h2, decide_true, Bool.true_and, BitVec.getLsbD_or, BitVec.getLsbD_shiftLeft, BitVec.getLsbD_one]
      by_cases h3 : k = n
      · subst h3; simp [hn]
      · simp only [h3, decide_false, Bool.or_false]
        by_cases h4 : k.toNat < n
        · simp [h4]
        · simp [h4]; omega
    · simp only [h2, decide_false, Bool.false_and, Bool.and_false, Bool.false_or]
      symm; rw [decide_eq_false_iff_not]; omega
  · simp only [h1, decide_false, Bool.false_and, Bool.false_or]
    symm; rw [decide_eq_false_iff_not]; omega

theorem checkL_law : ∀ (l : List V) (s : BitVec 32), checkL s l = true → (∀ v ∈ l, okV v = true ∧ hasI s v.line = false) ∧ l.Pairwise (fun a b => a.line ≠ b.line)
  | [], s, h => ⟨fun _ h => (by cases h), List.Pairwise.nil⟩
  | v :: r, s, h => by
    unfold checkL at h
    simp only [Bool.and_eq_true, Bool.not_eq_true'] at h
    obtain ⟨h1, h2, h3⟩ := h
    obtain ⟨a, b⟩ := checkL_law r _ h3
    have ho := h1
    unfold okV at ho
    simp only [Bool.and_eq_true, Bool.not_eq_true', decide_eq_false_iff_not] at ho
    have key : ∀ x ∈ r, hasI s x.line = false ∧ v.line ≠ x.line := fun x hx => by
      have := (a x hx).2
      rw [hasI_or _ _ (by omega), Bool.or_eq_false_iff, decide_eq_false_iff_not] at this
      exact ⟨this.1, by omega⟩
    refine ⟨fun x hx => ?_, List.pairwise_cons.2 ⟨fun x hx => (key x hx).2, b⟩⟩
    rcases List.mem_cons.1 hx with rfl | hx
    · exact ⟨h1, h2⟩
    · exact ⟨(a x hx).1, (key x hx).1⟩

theorem checkV_law {l : List V} (h : checkV l = 0) : (∀ v ∈ l, okV v = true) ∧ l.Pairwise (fun a b => a.line ≠ b.line) ∧ l.length ≤ 32 := by
  unfold checkV at h
  split at h
  · cases h
  · split at h
    · rename_i h1 h2
      obtain ⟨a, b⟩ := checkL_law l _ h2
      exact ⟨fun v hv => (a v hv).1, b, by omega⟩
    · cases h

theorem pair_ne {l : List V} (h : l.Pairwise (fun a b => a.line ≠ b.line)) {i j : Nat} {a b : V} (ha : l[i]? = some a) (hb : l[j]? = some b) (hij : i ≠ j) : a.line ≠ b.line := by
  obtain ⟨hi, rfl⟩ := List.getElem?_eq_some_iff.1 ha
  obtain ⟨hj, rfl⟩ := List.getElem?_eq_some_iff.1 hb
  rcases Nat.lt_or_ge i j with h1 | h1
  · exact List.pairwise_iff_getElem.1 h i j hi hj h1
  · exact fun e => List.pairwise_iff_getElem.1 h j i hj hi (by omega) e.symm

/-- Up to here. -/
def BestTo (e : V → Bool) (l : List V) (i : Nat) : Option (Nat × V) → Prop
  | none => ∀ (j : Nat) (x : V), j < i → l[j]? = some x → e x = false
  | some (k, w) => k < i ∧ l[k]? = some w ∧ e w = true ∧ ∀ (j : Nat) (x : V), j < i → l[j]? = some x → e x = true → j ≠ k → gt w x = true

theorem takeL_to (e : V → Bool) {l : List V} (hp : l.Pairwise (fun a b => a.line ≠ b.line)) : ∀ (r : List V) (i : Nat) (b : Option (Nat × V)), l.drop i = r → BestTo e l i b → BestTo e l l.length (takeL e r i b)
  | [], i, b, hd, hb => by
    have hi : l.length ≤ i := List.drop_eq_nil_iff.1 hd
    unfold takeL
    cases b with
    | none => exact fun j x hj hx => hb j x (by omega) hx
    | some kw =>
      obtain ⟨k, w⟩ := kw
      obtain ⟨h1, h2, h3, h4⟩ := hb
      exact ⟨(List.getElem?_eq_some_iff.1 h2).1, h2, h3, fun j x hj hx => h4 j x (by omega) hx⟩
  | v :: r, i, b, hd, hb => by
    obtain ⟨hg, hi, hd'⟩ := drop_cons_get hd
    unfold takeL
    refine takeL_to e hp r (i + 1) _ hd' ?_
    have same : ∀ j, j < i + 1 → ¬ j < i → j = i := fun j h1 h2 => by omega
    by_cases he : e v = true
    · cases b with
      | none =>
        simp only [he, better, Bool.and_self, if_true]
        refine ⟨by omega, hg, he, fun j x hj hx hex hne => ?_⟩
        have := hb j x (by omega) hx
        rw [this] at hex; cases hex
      | some kw =>
        obtain ⟨k, w⟩ := kw
        obtain ⟨h1, h2, h3, h4⟩ := hb
        cases hbt : gt v w with
        | true =>
          simp only [he, better, hbt, Bool.and_self, if_true]
          refine ⟨by omega, hg, he, fun j x hj hx hex hne => ?_⟩
          by_cases hjk : j = k
          · subst hjk; rw [h2] at hx; cases hx; exact hbt
          · exact gt_trans hbt (h4 j x (by omega) hx hex hjk)
        | false =>
          simp only [he, better, hbt, Bool.and_false, Bool.false_eq_true, if_false]
          refine ⟨by omega, h2, h3, fun j x hj hx hex hne => ?_⟩
          by_cases hji : j = i
          · subst hji; rw [hg] at hx; cases hx
            exact gt_total (pair_ne hp hg h2 hne) hbt
          · exact h4 j x (by omega) hx hex hne
    · simp only [he, Bool.false_and, Bool.false_eq_true, if_false]
      cases b with
      | none =>
        intro j x hj hx
        by_cases hji : j = i
        · subst hji; rw [hg] at hx; cases hx; simpa using he
        · exact hb j x (by omega) hx
      | some kw =>
        obtain ⟨k, w⟩ := kw
        obtain ⟨h1, h2, h3, h4⟩ := hb
        refine ⟨by omega, h2, h3, fun j x hj hx hex hne => ?_⟩
        by_cases hji : j = i
        · subst hji; rw [hg] at hx; cases hx; exact absurd hex he
        · exact h4 j x (by omega) hx hex hne

def soI (P E : BitVec 32) (lv ac : Int) (x : V) : Bool := hasI P x.line && (hasI E x.line && (decide (lv < x.prio) && decide (ac < x.prio)))
theorem hasI_and (P E : BitVec 32) (k : Int) : hasI (P &&& E) k = (hasI P k && hasI E k) := by
  unfold hasI
  rw [BitVec.getLsbD_and]
  cases decide (0 ≤ k) <;> cases decide (k < 32) <;> simp
theorem soI_elig (P E : BitVec 32) (lv ac : Int) (x : V) : soI P E lv ac x = elig P E lv ac x := by
  unfold soI elig
  rw [hasI_and, Bool.and_assoc]
  congr 2
  rw [Bool.eq_iff_iff]
  simp only [Bool.and_eq_true, decide_eq_true_eq]
  omega
theorem idx_ok {l : List V} {i : Nat} {x : V} (h : l[i]? = some x) : (0 : Int) ≤ i ∧ (i : Int) < l.length := by
  have := (List.getElem?_eq_some_iff.1 h).1
  omega

theorem add_ok (x y : Int) (h1 : -9223372036854775808 ≤ x + y) (h2 : x + y ≤ 9223372036854775807) : binEv .add (.int .i64 x) (.int .i64 y) = some (.int .i64 (x + y)) := by
  simp only [binEv, if_true, intBin, IntKind.wrap, IntKind.bits]
  simp [IntKind.signed]
  omega
theorem opt_bI (r : Option (Nat × V)) : (r = none ∧ bI r = -1) ∨ ∃ k w, r = some (k, w) ∧ bI r = (k : Nat) := by
  cases r with
  | none => exact .inl ⟨rfl, rfl⟩
  | some kw => exact .inr ⟨kw.1, kw.2, rfl, rfl⟩

theorem keepT_setT (ts ls : List Nat) (l : List (Nat × AV)) (t : Nat) (v : AV) : keepT ts ls (setT l t v) = ts.map fun u => (u, if (look (setT l t v) u).locIn ls then look (setT l t v) u else .unk) := rfl
theorem keepT_lit (ts ls : List Nat) (l : List (Nat × AV)) (x : Nat × AV) : keepT ts ls (x :: l) = ts.map fun u => (u, if (look (x :: l) u).locIn ls then look (x :: l) u else .unk) := rfl
theorem okV_law {v : V} (h : okV v = true) : 0 ≤ v.line ∧ v.line ≤ 31 ∧ 1 ≤ v.prio ∧ v.prio ≤ 15 ∧ 0 ≤ v.fn := by
  unfold okV at h
  simp only [Bool.and_eq_true, Bool.not_eq_true', decide_eq_false_iff_not] at h
  omega
theorem elig_iff {P E : BitVec 32} {lv ac : Int} {x : V} : elig P E lv ac x = true ↔ hasI P x.line = true ∧ hasI E x.line = true ∧ lv < x.prio ∧ ac < x.prio := by
  rw [← soI_elig]
  unfold soI
  simp only [Bool.and_eq_true, decide_eq_true_eq]
theorem gt_prio {a b : V} (h : gt a b = true) : b.prio ≤ a.prio := by
  unfold gt at h
  simp only [Bool.or_eq_true, Bool.and_eq_true, decide_eq_true_eq] at h
  omega

theorem bI_max (r : Option (Nat × V)) (k : Nat) (w : V) (h : r = some (k, w)) : max 0 (bI r) = (k : Int) ∧ decide (0 ≤ bI r) = true := by
  subst h
  simp only [bI]
  exact ⟨by omega, by simp⟩
theorem bI_none (r : Option (Nat × V)) (h : r = none) : max 0 (bI r) = 0 ∧ decide (0 ≤ bI r) = false := by
  subst h; exact ⟨rfl, rfl⟩

/-- A slice of rows. -/
def RS {α : Type} (f : α → List AV) (c : Nat) (m : Mem) (v : AV) (l : List α) : Prop := (v = .nils ∧ l = []) ∨ ∃ b o cap e, v = .slice b o l.length cap e ∧ ∀ (i : Nat) (x : α), l[i]? = some x → ∃ cs own, m.get b = some (.cells cs own) ∧ cellsAt cs (o + i * c) c = some (f x)
theorem RS.ext {α : Type} {f : α → List AV} {c : Nat} {m m' : Mem} {v : AV} {l : List α} (h : RS f c m v l) (k : Ext m m') : RS f c m' v l := by
  rcases h with h | ⟨b, o, cap, e, rfl, h⟩
  · exact .inl h
  · refine .inr ⟨b, o, cap, e, rfl, fun i x hx => ?_⟩
    obtain ⟨cs, own, h1, h2⟩ := h i x hx
    exact ⟨cs, own, (k.2 b (Mem.get_lt h1)).trans h1, h2⟩
theorem RS.plain {α : Type} {f : α → List AV} {c : Nat} {m : Mem} {v : AV} {l : List α} (hv : RS f c m v l) : (∀ ls, AV.locIn ls v = true) ∧ v.isLoc = false ∧ AV.one v = true ∧ v.cells? = some [v] := by
  rcases hv with ⟨rfl, _⟩ | ⟨b, o, cap, e, rfl, _⟩ <;> exact ⟨fun _ => rfl, rfl, rfl, rfl⟩
/-- A slice that the run has made itself. -/
def OS (c : Nat) (n0 : Nat) (m : Mem) (v : AV) (cs : List AV) (n : Nat) : Prop := (v = .nils ∧ cs = [] ∧ n = 0) ∨ ∃ b, n0 ≤ b ∧ v = .slice b 0 n none c ∧ m.get b = some (.cells cs true) ∧ cs.length = n * c
theorem OS.rs {α : Type} {f : α → List AV} {c n0 : Nat} (hf : ∀ x, (f x).length = c) {m : Mem} {v : AV} {l : List α} (h : OS c n0 m v (l.flatMap f) l.length) : RS f c m v l := by
  rcases h with ⟨rfl, _, h⟩ | ⟨b, _, rfl, h1, h2⟩
  · exact .inl ⟨rfl, List.length_eq_zero_iff.1 h⟩
  · exact .inr ⟨b, 0, none, c, rfl, fun i x hx => ⟨_, _, h1, flat_cells f c hf hx⟩⟩
theorem OS.plain {c n0 : Nat} {m : Mem} {v : AV} {cs : List AV} {n : Nat} (hv : OS c n0 m v cs n) : (∀ ls, AV.locIn ls v = true) ∧ v.isLoc = false ∧ AV.one v = true ∧ v.cells? = some [v] := by
  rcases hv with ⟨rfl, _⟩ | ⟨b, _, rfl, _⟩ <;> exact ⟨fun _ => rfl, rfl, rfl, rfl⟩
theorem OS.push {c n0 : Nat} {m : Mem} {v : AV} {cs : List AV} {n : Nat} (hv : OS c n0 m v cs n) (b : ABlk) (hf : m.n < 2 ^ depth) : OS c n0 (m.push b) v cs n := by
  rcases hv with h | ⟨k, h0, rfl, h1, h2⟩
  · exact .inl h
  · exact .inr ⟨k, h0, rfl, (Mem.get_push_old b (not_full hf) (by have := Mem.get_lt h1; omega)).trans h1, h2⟩

theorem noteO_n (m : Mem) (i : Nat) (o : Option Nat) : (m.noteO i o).n = m.n := by cases o <;> rfl
theorem app_spec {ty : Option Nat} {c n0 bytes : Nat} (hc : 0 < c) {m : Mem} {v : AV} {cs : List AV} {n : Nat} (hv : OS c n0 m v cs n) {by' : Nat} {cp : Option Nat} {e : List AV} {ow : Bool} (hy : m.get by' = some (.cells e ow)) (he : e.length = c) (h1 : e.all AV.one = true)
    (hmn : m.n < 2 ^ depth) (hn0 : n0 ≤ m.n) (hb : (2 * (n + 1)) * bytes ≤ 281474976710656) (hn : n + 1 ≤ maxLen) :
    ∃ v' m', (∀ sn t l, appEv ⟨sn, t, l, m⟩ ty c bytes v (.slice by' 0 1 cp c) = some (v', ⟨sn, t, l, m'⟩)) ∧ OS c n0 m' v' (cs ++ e) (n + 1) ∧ m'.n = m.n + 1 ∧ (∀ i, i < n0 → m'.get i = m.get i) := by
  have hel : ∀ sn t l, (AV.slice by' 0 1 cp c).elems ⟨sn, t, l, m⟩ c = some (1, e) := by
    intro sn t l
    simp only [AV.elems, hy]
    have : cellsAt e 0 (1 * c) = some e := by
      unfold cellsAt
      rw [if_pos (by omega)]
      simp [← he]
    rw [this]
    try rfl
  have hf := not_full hmn
  rcases hv with ⟨rfl, rfl, rfl⟩ | ⟨b, h0, rfl, h2, h3⟩
  · refine ⟨.slice m.n 0 1 none c, (m.push (.cells e true)).noteO m.n ty, fun sn t l => ?_, .inr ⟨m.n, hn0, rfl, by rw [Mem.get_noteO]; exact Mem.get_push_new _, by simp [he]⟩, noteO_n _ _ _, fun i hi => by rw [Mem.get_noteO]; exact Mem.get_push_old _ hf (by omega)⟩
    simp only [appEv, hel, h1, hf, if_true, Bool.false_eq_true, if_false]
    rw [if_neg (by decide), if_pos (by constructor <;> omega)]
  · have hbl := Mem.get_lt h2
    refine ⟨.slice m.n 0 (n + 1) none c, ((m.set b .dead).push (.cells (cs ++ e) true)).noteO m.n (if (m.tyOf b).map (·.1) = ty then ty else none), fun sn t l => ?_, .inr ⟨m.n, hn0, rfl, ?_, by simp [he, h3, Nat.add_mul]⟩, noteO_n _ _ _, fun i hi => ?_⟩
    · simp only [appEv, hel, h1, hf, if_true, Bool.false_eq_true, if_false, h2]
      have c1 : ¬ (0 + (n + 1) * c ≤ cs.length) := by rw [h3, Nat.add_mul]; omega
      have c2 : cellsAt cs 0 (n * c) = some cs := by
        unfold cellsAt
        rw [if_pos (by omega)]
        simp [← h3]
      rw [if_pos ⟨trivial, hc⟩, if_neg c1, c2]
      simp only
      rw [if_pos ⟨hb, hn⟩]
    · have := Mem.get_push_new (m := m.set b .dead) (.cells (cs ++ e) true)
      rw [set_n] at this
      rw [Mem.get_noteO]
      exact this
    · rw [Mem.get_noteO, Mem.get_push_old _ (by rw [not_full]; rw [set_n]; exact hmn) (by rw [set_n]; omega), Mem.get_set_ne _ (by omega) hbl (by omega)]

theorem idx_any {α : Type} {l : List α} {i : Nat} {x : α} (h : l[i]? = some x) : (0 : Int) ≤ i ∧ (i : Int) < l.length := by
  have := (List.getElem?_eq_some_iff.1 h).1
  omega
theorem RS.lenR {α : Type} {f : α → List AV} {c : Nat} {m : Mem} {v : AV} {l : List α} (hv : RS f c m v l) (s : St) : AG.lenR v s = some (.int .i64 l.length, s) := by
  rcases hv with ⟨rfl, rfl⟩ | ⟨b, o, cap, e, rfl, _⟩ <;> rfl
theorem VS.lenR {m : Mem} {v : AV} {l : List V} (hv : VS m v l) (s : St) : AG.lenR v s = some (.int .i64 l.length, s) := RS.lenR (f := V.c) (c := 3) hv s

end AG
