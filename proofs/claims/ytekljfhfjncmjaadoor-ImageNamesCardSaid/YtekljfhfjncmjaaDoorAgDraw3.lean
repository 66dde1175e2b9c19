/- The abstract machine, part 14: the region that draws its order. -/
import Derived.Test.YtekljfhfjncmjaaDoorAgDraw2
namespace AG
open Go Go.RowKit

/-- One waits for the other. -/
inductive Dep (ops : Array Oper) : Nat → Nat → Prop where
  | one {i : Nat} {o : Oper} {e : Edge} : ops[i]? = some o → e ∈ o.after → Region.binds .any e = true → Dep ops e.on i
  | more {i j : Nat} {o : Oper} {e : Edge} : ops[i]? = some o → e ∈ o.after → Region.binds .any e = true → Dep ops j e.on → Dep ops j i

theorem testBit_shift (k j : Nat) : (1 <<< k).testBit j = decide (k = j) := by
  rw [Nat.one_shiftLeft, Nat.testBit_two_pow]

theorem mem_depsOf {o : Oper} {d : Nat} : d ∈ depsOf o ↔ ∃ e ∈ o.after, Region.binds .any e = true ∧ e.on = d := by
  unfold depsOf
  simp only [List.mem_map, List.mem_filter, Array.mem_toList_iff]
  constructor
  · rintro ⟨e, ⟨h1, h2⟩, h3⟩; exact ⟨e, h1, h2, h3⟩
  · rintro ⟨e, h1, h2, h3⟩; exact ⟨e, ⟨h1, h2⟩, h3⟩

def MaskOk (ops : Array Oper) (acc : List (Nat × Nat)) : Prop := ∀ k j, (lkM acc k).testBit j = true → Dep ops j k

theorem maskOf_spec {ops : Array Oper} {acc : List (Nat × Nat)} {i : Nat} {o : Oper} (ho : ops[i]? = some o) (hacc : MaskOk ops acc) :
    ∀ (l : List Nat), (∀ d ∈ l, d ∈ depsOf o) → ∀ j, (maskOf acc l).testBit j = true → Dep ops j i
  | [], _, j, h => by simp [maskOf] at h
  | d :: r, hl, j, h => by
    unfold maskOf at h
    have hr := maskOf_spec ho hacc r (fun e he => hl e (List.mem_cons_of_mem _ he)) j
    obtain ⟨e, he, hb, rfl⟩ := mem_depsOf.1 (hl d (List.mem_cons_self ..))
    simp only [Nat.testBit_or, Bool.or_eq_true, testBit_shift, decide_eq_true_eq] at h
    rcases h with (h | h) | h
    · exact .more ho he hb (hacc _ _ h)
    · subst h; exact .one ho he hb
    · exact hr h

theorem masks_spec {ops : Array Oper} : ∀ (l : List Nat) (acc : List (Nat × Nat)), MaskOk ops acc → MaskOk ops (masks ops.toList l acc)
  | [], acc, h => by simpa [masks] using h
  | i :: r, acc, h => by
    unfold masks
    split
    · rename_i o ho
      refine masks_spec r _ (fun k j hk => ?_)
      simp only [lkM] at hk
      split at hk
      · rename_i hik
        subst hik
        exact maskOf_spec (by rw [← Array.getElem?_toList]; exact ho) h _ (fun d hd => hd) j hk
      · exact h k j hk
    · exact masks_spec r acc h

theorem flagged_spec (l : List AOper) (ms : List (Nat × Nat)) : ∀ (ord : List Nat), ∀ x ∈ flagged l ms ord, l[x.1]? = some x.2.2.1
  | [], x, h => by simp [flagged] at h
  | i :: r, x, h => by
    unfold flagged at h
    split at h
    · rename_i o ho
      rcases List.mem_cons.1 h with h | h
      · subst h; exact ho
      · exact flagged_spec l ms r x h
    · exact flagged_spec l ms r x h

/-- The first may stand ahead of the second. -/
def PairR (ops : Array Oper) (x y : Nat × Bool × AOper × Bool) : Prop :=
  x.1 ≠ y.1 ∧ (∃ o, ops[x.1]? = some o ∧ y.1 ∉ depsOf o) ∧ (Dep ops x.1 y.1 ∨ pairOk x.2 y.2 = true)

theorem pairsWith_spec {ops : Array Oper} {ms : List (Nat × Nat)} (hm : MaskOk ops ms) {x : Nat × Bool × AOper × Bool} : ∀ (l : List (Nat × Bool × AOper × Bool)), pairsWith ops.toList ms x l = true → ∀ y ∈ l, PairR ops x y
  | [], _, y, hy => by cases hy
  | z :: r, h, y, hy => by
    simp only [pairsWith, Bool.and_eq_true, Bool.or_eq_true] at h
    obtain ⟨⟨⟨h1, h2⟩, h3⟩, h4⟩ := h
    rcases List.mem_cons.1 hy with hy | hy
    · subst hy
      refine ⟨by simpa using h1, ?_, h3.imp (hm _ _) id⟩
      split at h2
      · rename_i o ho
        exact ⟨o, by rw [← Array.getElem?_toList]; exact ho, by simpa using h2⟩
      · cases h2
    · exact pairsWith_spec hm r h4 y hy

theorem pairsAll_spec {ops : Array Oper} {ms : List (Nat × Nat)} (hm : MaskOk ops ms) : ∀ (l : List (Nat × Bool × AOper × Bool)), pairsAll ops.toList ms l = true → l.Pairwise (PairR ops)
  | [], _ => List.Pairwise.nil
  | x :: r, h => by
    simp only [pairsAll, Bool.and_eq_true] at h
    exact List.Pairwise.cons (pairsWith_spec hm r h.1) (pairsAll_spec hm r h.2)

theorem selfOk_spec {n : Nat} : ∀ (l : List Oper) (b : Nat), selfOk n b l = true → ∀ (i : Nat) (o : Oper), l[i]? = some o → ∀ d ∈ depsOf o, d ≠ b + i ∧ d < n
  | [], _, _, i, o, ho => by simp at ho
  | y :: r, b, h, i, o, ho => by
    simp only [selfOk, Bool.and_eq_true, List.all_eq_true] at h
    cases i with
    | zero =>
      simp only [List.getElem?_cons_zero, Option.some.injEq] at ho
      subst ho
      intro d hd
      have := h.1 d hd
      simpa using this
    | succ i =>
      intro d hd
      have := selfOk_spec r (b + 1) h.2 i o (by simpa using ho) d hd
      omega

theorem flagOkB_spec {o : AOper × Bool} (h : flagOkB o = true) : FlagOk o := by
  unfold flagOkB at h
  refine ⟨fun h2 => ?_, fun hk => ?_⟩
  · cases hk : o.1.op.kd <;> simp [hk, h2] at h ⊢
  · simpa [hk] using h

/-- What a drawn region is good for. -/
structure DrawOk (P : Program) (H : Hints) (ops : Array Oper) (el : List (Nat × Bool × AOper × Bool)) : Prop where
  opn : ∀ x ∈ el, ∃ o, ops[x.1]? = some o ∧ x.2.2.1 = trOper P H ops o
  flag : ∀ x ∈ el, FlagOk x.2.2
  self : ∀ (i : Nat) (o : Oper), ops[i]? = some o → ∀ d ∈ depsOf o, d ≠ i ∧ d < ops.size
  pair : el.Pairwise (PairR ops)
  all : ∀ i, i < ops.size → ∃ x ∈ el, x.1 = i

theorem drawOf_spec {P : Program} {H : Hints} {ops : Array Oper} {el : List (Nat × Bool × AOper × Bool)} (h : drawOf ops.toList (ops.toList.map (trOper P H ops)) = some el) : DrawOk P H ops el := by
  unfold drawOf at h
  dsimp only at h
  split at h
  · rename_i hc
    simp only [Option.some.injEq] at h
    subst h
    simp only [Bool.and_eq_true, List.all_eq_true] at hc
    obtain ⟨⟨⟨h1, h2⟩, h3⟩, h4⟩ := hc
    refine ⟨fun x hx => ?_, fun o ho => flagOkB_spec (h3 o ho), fun i o ho d hd => ?_, pairsAll_spec (masks_spec _ _ (fun k j hk => by simp [lkM] at hk)) _ h4, fun i hi => ?_⟩
    · have := flagged_spec _ _ _ x hx
      rw [List.getElem?_map, Option.map_eq_some_iff] at this
      obtain ⟨o, h5, h6⟩ := this
      exact ⟨o, by rw [← Array.getElem?_toList]; exact h5, h6.symm⟩
    · have := selfOk_spec ops.toList 0 h2 i o (by rw [Array.getElem?_toList]; exact ho) d hd
      simpa using this
    · have := h1 i (by simpa using hi)
      simpa using this
  · cases h

def unl (el : List (Nat × Bool × AOper × Bool)) (listed : Array Bool) : List (Nat × Bool × AOper × Bool) := el.filter fun x => !listed.getD x.1 true

theorem front {call : Caller} {x : Nat × Bool × AOper × Bool} (fx : FlagOk x.2.2) : ∀ (a b : List (Nat × Bool × AOper × Bool)) (s s' : St) (log : List Acc), (∀ y ∈ a, FlagOk y.2.2) →
    (∀ y ∈ a, pairOk y.2 x.2 = true) → DisjL log log → dOpsEv call ((a ++ x :: b).map (·.2)) s = some (s', log) → ∃ s1 log', dOneEv call x.2.2 s = some s1 ∧ dOpsEv call ((a ++ b).map (·.2)) s1 = some (s', log') ∧
      (∀ c, c ∈ log ↔ c ∈ accOf x.2.1 x.2.2.1 s ∨ c ∈ log')
  | [], b, s, s', log, _, _, _, h => by
    simp only [List.nil_append, List.map_cons, dOpsEv] at h
    split at h
    · rename_i s1 h1
      split at h
      · rename_i s2 lg h2
        simp only [Option.some.injEq, Prod.mk.injEq] at h
        obtain ⟨rfl, rfl⟩ := h
        exact ⟨s1, lg, h1, h2, fun c => List.mem_append⟩
      · cases h
    · cases h
  | y :: a, b, s, s', log, hf, hp, hdl, h => by
    simp only [List.cons_append, List.map_cons, dOpsEv] at h
    split at h
    · rename_i s1 h1
      split at h
      · rename_i s2' lg h2'
        simp only [Option.some.injEq, Prod.mk.injEq] at h
        obtain ⟨rfl, rfl⟩ := h
        obtain ⟨s2, lg', h2, h3, h4⟩ := front fx a b s1 s2' lg (fun j hj => hf j (List.mem_cons_of_mem _ hj)) (fun j hj => hp j (List.mem_cons_of_mem _ hj))
          (fun p hp q hq => hdl p (List.mem_append_right _ hp) q (List.mem_append_right _ hq)) h2'
        have hx1 : ∀ c ∈ accOf x.2.1 x.2.2.1 s1, c ∈ accOf y.2.1 y.2.2.1 s ++ lg := fun c hc => List.mem_append_right _ ((h4 c).2 (.inl hc))
        have hy1 : ∀ c ∈ accOf y.2.1 y.2.2.1 s, c ∈ accOf y.2.1 y.2.2.1 s ++ lg := fun c hc => List.mem_append_left _ hc
        obtain ⟨s3, h5, h6, h7, h8⟩ := swap fx (hf y (List.mem_cons_self ..)) (hp y (List.mem_cons_self ..)) h1 h2
          (fun p hp q hq => hdl p (hy1 p hp) q (hx1 q hq)) (fun p hp q hq => hdl p (hx1 p hp) q (hy1 q hq))
        refine ⟨s3, accOf y.2.1 y.2.2.1 s3 ++ lg', h5, ?_, fun c => ?_⟩
        · simp only [List.cons_append, List.map_cons, dOpsEv, h6, h3]
        · rw [h7, h8, List.mem_append, List.mem_append, h4]
          constructor
          · rintro (h | h | h)
            · exact .inr (.inl h)
            · exact .inl h
            · exact .inr (.inr h)
          · rintro (h | h | h)
            · exact .inr (.inl h)
            · exact .inl h
            · exact .inr (.inr h)
      · cases h
    · cases h

theorem mem_unl {el : List (Nat × Bool × AOper × Bool)} {listed : Array Bool} {x : Nat × Bool × AOper × Bool} : x ∈ unl el listed ↔ x ∈ el ∧ listed.getD x.1 true = false := by
  unfold unl
  simp [List.mem_filter]

theorem unl_set {el : List (Nat × Bool × AOper × Bool)} {listed : Array Bool} {i : Nat} (hi : listed.getD i true = false) : unl el (listed.setIfInBounds i true) = (unl el listed).filter (fun x => x.1 != i) := by
  unfold unl
  rw [List.filter_filter]
  congr 1
  funext x
  by_cases h : i = x.1
  · have hlt : i < listed.size := by
      rcases Nat.lt_or_ge i listed.size with h' | h'
      · exact h'
      · simp [Array.getElem?_eq_none h'] at hi
    subst h
    simp [hlt]
  · rw [getD_set_ne true h]
    have : (x.1 != i) = true := by simpa using fun e => h e.symm
    simp [this]

theorem unl_split {ops : Array Oper} {el : List (Nat × Bool × AOper × Bool)} {listed : Array Bool} (hp : el.Pairwise (PairR ops)) {x : Nat × Bool × AOper × Bool} (hx : x ∈ unl el listed) :
    ∃ a b, unl el listed = a ++ x :: b ∧ (∀ y ∈ a, PairR ops y x) ∧ unl el (listed.setIfInBounds x.1 true) = a ++ b := by
  obtain ⟨a, b, hab⟩ := List.append_of_mem hx
  have hs : (unl el listed).Pairwise (PairR ops) := List.Pairwise.filter _ hp
  rw [hab, List.pairwise_append] at hs
  obtain ⟨_, h2, h3⟩ := hs
  rw [List.pairwise_cons] at h2
  refine ⟨a, b, hab, fun j hj => h3 j hj x (List.mem_cons_self ..), ?_⟩
  rw [unl_set (mem_unl.1 hx).2, hab, List.filter_append, List.filter_cons]
  have ha : a.filter (fun y => y.1 != x.1) = a := List.filter_eq_self.2 fun j hj => by
    have := (h3 j hj x (List.mem_cons_self ..)).1
    simpa using this
  have hb : b.filter (fun y => y.1 != x.1) = b := List.filter_eq_self.2 fun j hj => by
    have := (h2.1 j hj).1
    simpa using fun e => this e.symm
  rw [ha, hb]
  simp

/-- Whom a listed one waits for is listed. -/
def Closed (ops : Array Oper) (listed : Array Bool) : Prop := ∀ k o, listed.getD k false = true → ops[k]? = some o → ∀ e ∈ o.after, Region.binds .any e = true → listed.getD e.on false = true

theorem Dep.listed {ops : Array Oper} {listed : Array Bool} (hc : Closed ops listed) {j i : Nat} (h : Dep ops j i) : (∀ o, ops[i]? = some o → ∀ e ∈ o.after, Region.binds .any e = true → listed.getD e.on false = true) → listed.getD j false = true := by
  induction h with
  | one ho he hb => intro hh; exact hh _ ho _ he hb
  | more ho he hb _ ih => intro hh; exact ih (fun o' ho' => hc _ o' (hh _ ho _ he hb) ho')

theorem getD_bool {listed : Array Bool} {i : Nat} (h : listed.getD i true = false) : listed.getD i false = false := by
  cases hq : listed[i]? with
  | none => simp [hq]
  | some b => simp [hq] at h ⊢; exact h

section
variable {P : Program} {call : Caller} {H : Hints}

theorem any_ok {ops : Array Oper} {el : List (Nat × Bool × AOper × Bool)} {Q : Exit → Act → World → Prop} (hc : CallOk P call) (hd : DrawOk P H ops el) : ∀ (fuel : Nat) (listed : Array Bool) (s : St) (ρ : Rho) (lam : Nat → Nat) (a : Act) (w : World) (s' : St),
    SR P ρ lam s a w → Closed ops listed → listed.size = ops.size → (unl el listed).length ≤ fuel → ∀ log, DisjL log log → dOpsEv call ((unl el listed).map (·.2)) s = some (s', log) →
    (∀ a' w', Stands P ρ lam s w s' a' w' → Q .normal a' w') → wpAny P .any ops Q fuel listed a w := by
  have ready_unl : ∀ listed i, i ∈ Region.ready .any ops listed → ∃ x ∈ unl el listed, x.1 = i := by
    intro listed i hi
    obtain ⟨h0, o, ho, _⟩ := mem_ready.1 hi
    obtain ⟨x, hx, rfl⟩ := hd.all i (Array.getElem?_eq_some_iff.1 ho).1
    exact ⟨x, mem_unl.2 ⟨hx, h0⟩, rfl⟩
  have none_ready : ∀ listed, listed.size = ops.size → Region.ready .any ops listed = [] → unl el listed = [] := by
    intro listed hsz hr
    cases hu : unl el listed with
    | nil => rfl
    | cons x rest =>
      exfalso
      have hx : x ∈ unl el listed := by rw [hu]; exact List.mem_cons_self ..
      obtain ⟨hin, hun⟩ := mem_unl.1 hx
      have hs : (unl el listed).Pairwise (PairR ops) := List.Pairwise.filter _ hd.pair
      rw [hu, List.pairwise_cons] at hs
      obtain ⟨o, ho, _⟩ := hd.opn x hin
      have : x.1 ∈ Region.ready .any ops listed := by
        rw [mem_ready]
        refine ⟨hun, o, ho, fun e he hb => ?_⟩
        have hdep : e.on ∈ depsOf o := mem_depsOf.2 ⟨e, he, hb, rfl⟩
        obtain ⟨hne, hlt⟩ := hd.self x.1 o ho e.on hdep
        cases hq : listed.getD e.on true with
        | false =>
          obtain ⟨y, hy, hye⟩ := hd.all e.on hlt
          have hm : y ∈ unl el listed := mem_unl.2 ⟨hy, by rw [hye]; exact hq⟩
          rw [hu, List.mem_cons] at hm
          rcases hm with hm | hm
          · subst hm; exact absurd hye.symm hne
          · obtain ⟨_, ⟨o', ho', hnd⟩, _⟩ := hs.1 _ hm
            rw [ho] at ho'
            cases ho'
            rw [hye] at hnd
            exact absurd hdep hnd
        | true =>
          have hb : e.on < listed.size := by omega
          simp [hb] at hq ⊢
          exact hq
      rw [hr] at this
      cases this
  intro fuel
  induction fuel with
  | zero =>
    intro listed s ρ lam a w s' hs hcl hsz hlen log hdl he hk
    have hu : unl el listed = [] := List.length_eq_zero_iff.1 (by omega)
    refine ⟨?_, ?_⟩
    · cases hr : Region.ready .any ops listed with
      | nil => rfl
      | cons i r =>
        obtain ⟨x, hx, _⟩ := ready_unl listed i (by rw [hr]; exact List.mem_cons_self ..)
        rw [hu] at hx; cases hx
    · rw [hu] at he
      simp only [List.map_nil, dOpsEv, Option.some.injEq, Prod.mk.injEq] at he
      obtain ⟨rfl, rfl⟩ := he
      exact hk a w ⟨ρ, lam, hs, ρ.le_refl, Fr.refl _ _ _⟩
  | succ fuel ih =>
    intro listed s ρ lam a w s' hs hcl hsz hlen log hdl he hk
    refine ⟨fun hr => ?_, fun i hi => ?_⟩
    · rw [none_ready listed hsz hr] at he
      simp only [List.map_nil, dOpsEv, Option.some.injEq, Prod.mk.injEq] at he
      obtain ⟨rfl, rfl⟩ := he
      exact hk a w ⟨ρ, lam, hs, ρ.le_refl, Fr.refl _ _ _⟩
    · obtain ⟨h0, o, ho, hall⟩ := mem_ready.1 hi
      obtain ⟨x, hx, hxi⟩ := ready_unl listed i hi
      obtain ⟨pre, post, h1, h2, h3⟩ := unl_split hd.pair hx
      obtain ⟨o', ho', hx1⟩ := hd.opn x (mem_unl.1 hx).1
      rw [hxi, ho] at ho'
      cases ho'
      rw [hxi] at h3
      rw [h1] at he
      have hel : ∀ y ∈ pre, y ∈ unl el listed := fun y hy => by rw [h1]; exact List.mem_append_left _ hy
      have hpair : ∀ y ∈ pre, pairOk y.2 x.2 = true := by
        intro y hy
        rcases (h2 y hy).2.2 with hdep | hp
        · exfalso
          rw [hxi] at hdep
          have hl := hdep.listed hcl (fun o' ho' e he hb => by rw [ho] at ho'; cases ho'; exact hall e he hb)
          rw [getD_bool (mem_unl.1 (hel y hy)).2] at hl
          cases hl
        · exact hp
      obtain ⟨s1, log', hs1, he', hlog⟩ := front (hd.flag x (mem_unl.1 hx).1) pre post s s' log (fun y hy => hd.flag y (mem_unl.1 (hel y hy)).1) hpair hdl he
      have hone := dOne_one hs1
      rw [hx1] at hone
      unfold wpOp
      rw [ho]
      dsimp only
      refine oper_ok (P := P) (H := H) (ops := ops) (o := o) hc hs hone (fun a' w' hst => ?_)
      obtain ⟨ρ1, lam1, q1, q2, q3⟩ := hst
      refine ih (listed.setIfInBounds i true) s1 ρ1 lam1 a' w' s' q1 ?_ (by simpa using hsz) ?_ log' (fun p hp q hq => hdl p ((hlog p).2 (.inr hp)) q ((hlog q).2 (.inr hq))) (by rw [h3]; exact he') (fun a'' w'' h => hk a'' w'' (Stands.trans q2 q3 h))
      · intro k o' hk ho' e he hb
        by_cases hik : i = k
        · subst hik
          rw [ho] at ho'; cases ho'
          exact getD_set_true (hall e he hb)
        · rw [getD_set_ne false hik] at hk
          exact getD_set_true (hcl k o' hk ho' e he hb)
      · rw [h3]
        rw [h1] at hlen
        simp only [List.length_append, List.length_cons] at hlen ⊢
        omega

theorem pairwise_len : ∀ (n : Nat) (l : List Nat), l.Nodup → (∀ i ∈ l, i < n) → l.length ≤ n
  | 0, l, _, h => by
    cases l with
    | nil => simp
    | cons i r => have := h i (List.mem_cons_self ..); omega
  | n + 1, l, h1, h2 => by
    by_cases hm : n ∈ l
    · have := pairwise_len n (l.erase n) (h1.erase n) (fun i hi => by
        have h3 := (h1.mem_erase_iff).1 hi
        have := h2 i h3.2
        have := h3.1
        omega)
      rw [List.length_erase_of_mem hm] at this
      omega
    · have := pairwise_len n l h1 (fun i hi => by
        have := h2 i hi
        have : i ≠ n := fun e => hm (e ▸ hi)
        omega)
      omega

theorem draw_ok {id : Nat} {ops : Array Oper} {el : List (Nat × Bool × AOper × Bool)} {Q : Exit → Act → World → Prop} (hm : P.follows .mixedOrders = true) (hc : CallOk P call) (hd : DrawOk P H ops el) {s s' : St} {ρ : Rho} {lam : Nat → Nat} {a : Act} {w : World}
    (hs : SR P ρ lam s a w) {log : List Acc} (hlog : logOk log = true) (he : dOpsEv call (el.map (·.2)) s = some (s', log)) (hk : ∀ a' w', Stands P ρ lam s w s' a' w' → Q .normal a' w') : (Code.region id ops true).wp P Q a w := by
  refine wp_region_any hm ?_
  have hu : unl el (Array.replicate ops.size false) = el := by
    unfold unl
    refine List.filter_eq_self.2 fun x hx => ?_
    obtain ⟨o, ho, _⟩ := hd.opn x hx
    have hi := (Array.getElem?_eq_some_iff.1 ho).1
    simp [hi]
  have hlen : el.length ≤ ops.size := by
    have hn : (el.map (·.1)).Nodup := by
      rw [List.Nodup, List.pairwise_map]
      exact hd.pair.imp fun h => h.1
    have := pairwise_len ops.size _ hn (fun i hi => by
      obtain ⟨x, hx, rfl⟩ := List.mem_map.1 hi
      obtain ⟨o, ho, _⟩ := hd.opn x hx
      exact (Array.getElem?_eq_some_iff.1 ho).1)
    simpa using this
  have hs' : SR P ρ lam s a { w with drawn := w.drawn + 1 } :=
    ⟨hs.size, hs.defers, hs.tmp, hs.live, hs.loc, hs.linj, hs.lmem, ⟨hs.mem.len, hs.mem.le, hs.mem.glob, fun i b hb => by
      obtain ⟨x, h1, h2⟩ := hs.mem.blk i b hb
      exact ⟨x, h1, h2.heap rfl⟩, hs.mem.apart, hs.mem.tys⟩⟩
  refine any_ok hc hd ops.size _ s ρ lam a _ s' hs' ?_ (by simp) ?_ log (fun p hp q hq => ?_) ?_ (fun a' w' h => ?_)
  · intro k o h
    exfalso
    rcases Nat.lt_or_ge k ops.size with h' | h'
    · simp [h'] at h
    · simp [Array.getElem?_eq_none (xs := Array.replicate ops.size false) (by simpa using h')] at h
  · rw [hu]; exact hlen
  · have := List.all_eq_true.1 (List.all_eq_true.1 hlog p hp) q hq
    simpa using this
  · rw [hu]; exact he
  · obtain ⟨ρ', lam', h1, h2, h3⟩ := h
    exact hk a' w' ⟨ρ', lam', h1, h2, ⟨h3.os, h3.tape, h3.output, h3.size, h3.keep, h3.own, h3.alive⟩⟩
end
end AG
