/- The abstract machine, part 19: a loop over slices.Backward. -/
import Derived.Test.YtkmbepgofajfkaaDoorAgRounds
import Derived.RangeFuncLeaves
import Derived.RangeFuncRecord
import Derived.RangeFuncSeq
namespace AG
noncomputable section
open Go Go.RowKit
structure BackFn where
  n : Nat
  np : Nat
  res : List ARes
  A : AC
  A1 : AC
  B : AC
  g : Nat
  it : Nat
  p0 : Nat
  p1 : Nat
  asg : AC
  bdy : AC
  C : AC
def noAgain : AC → St → Option (Ex × St) := fun _ _ => none
theorem noAgain_in {P : Program} {H : Hints} {r : Option Nat} {D : List Deferred} {n : Nat} : AgainIn P noAgain H r D n 0 := fun c s x s' _ h => by simp [noAgain] at h
def rowAt (s : St) : AV → Option (List AV)
  | .nils => some []
  | .slice b o n _ _ => if n = 0 then some [] else s.read (.ptr b o) n
  | _ => none
def lenH : AV → Nat
  | .slice _ _ n _ _ => n
  | _ => 0
def sameH : AV → AV → Bool
  | .nils, .nils => true
  | .slice b o n (some c) e, .slice b' o' n' (some c') e' => b == b' && o == o' && n == n' && c == c' && e == e'
  | .slice b o n none 1, .slice b' o' n' none 1 => b == b' && o == o' && n == n'
  | _, _ => false
def sameI : List AV → List AV → Bool
  | [], [] => true
  | .int k a :: r, .int k' b :: r' => decide (k = k') && a == b && sameI r r'
  | _, _ => false
def backLoop (call : Caller) (F : BackFn) (s : St) (B O : Nat) (hv : AV) (xs : List AV) : Nat → Mem → Option Mem
  | 0, m => some m
  | i + 1, m => match xs[i]? with
    | some x => if F.p0 < s.n ∧ F.p1 < s.n then
        match codeEv call noAgain F.asg { s with t := setT (setT s.t F.p0 (.int .i64 i)) F.p1 x, m := m } with
        | some (.norm, s1) => match codeEv call noAgain F.bdy s1 with
          | some (.norm, s2) => match s2.read (.ptr B O) 1 with
            | some [hv'] => match rowAt s2 hv' with
              | some xs' => if s2.l.isEmpty && sameH hv hv' && sameI xs xs' then backLoop call F s B O hv xs i s2.m else none
              | none => none
            | _ => none
          | _ => none
        | _ => none
      else none
    | none => none
def backEv (F : BackFn) (call : Caller) (args : List AV) (m : Mem) : Option (AV × Mem) :=
  if args.length = F.np then
    match codeEv call noAgain F.A { n := F.n, t := argsT 0 args, l := [], m } with
    | some (.norm, s00) => match codeEv call noAgain F.A1 s00 with
     | some (.norm, s0) => match codeEv call noAgain F.B s0 with
      | some (.norm, s) => match look s.t F.g with
       | .fn it [.ptr B O] => match s.read (.ptr B O) 1 with
        | some [hv] => match rowAt s hv with
          | some xs => if it = F.it ∧ s.l.isEmpty = true ∧ xs.length = lenH hv ∧ lenH hv ≤ 2 ^ 40 ∧ sameI xs xs = true ∧ sameH hv hv = true then
              match backLoop call F s B O hv xs xs.length s.m with
              | some m1 => match codeEv call noAgain F.C { s with m := m1 } with
                | some (.norm, s2) | some (.ret, s2) => match resEv s2 F.res with
                  | some [v] => if v.isLoc then none else some (v, s2.m)
                  | some l => if l.any AV.isLoc then none else some (.tup l, s2.m)
                  | none => none
                | _ => none
              | none => none
            else none
          | none => none
        | _ => none
       | _ => none
      | _ => none
     | _ => none
    | _ => none
  else none
def BackOk (P : Program) (it : Nat) : Prop :=
  (∀ args w, (callFunc it args).run P w = .ok (.enter it args) w) ∧
  ∀ (m l : Nat) (pa : Addr) (q : Option Addr) (len cap : Nat) (zs : List Value) (J : Nat → World → Prop) (W : World), zs.length = len → len ≤ 2 ^ 40 → pa.spot = none →
    (∀ k W, k ≤ len → J k W → W.cell? pa = some (.slice q len cap) ∧ ∀ j, j < len → ∃ b, q = some b ∧ b.spot = none ∧ W.cell? ⟨b.block, b.off + j, none⟩ = zs[j]?) →
    (∀ k W1, k < len → J k W1 → YieldAt Fence.wide m P l #[.int .i64 ((len - 1 - k : Nat) : Int), zs.getD (len - 1 - k) undef] W1 fun e W' => e = .returned (.bool true) ∧ J (k + 1) W') →
    J 0 W → Calls P it #[.func (.yield l) #[] #[], .pointer (some pa)] W fun e W' => (∃ v, e = .returned v) ∧ J len W'
section
variable {P : Program} {ρ : Rho} {lam : Nat → Nat} {s : St} {a : Act} {w : World}
theorem SR.putObj (hs : SR P ρ lam s a w) {k : Nat} (o : Obj) (hk : ¬ AliveS ρ lam s k) : SR P ρ lam s a (w.putObj k o) := by
  have hh : ∀ j, AliveS ρ lam s j → (w.putObj k o).heap[j]? = w.heap[j]? := fun j hj => World.putObj_heap_other (fun e => hk (e ▸ hj))
  refine ⟨hs.size, hs.defers, hs.tmp, hs.live, fun t c hc => ?_, hs.linj, hs.lmem, hs.mem.of_heap (fun j hj => hh j (.inl hj))⟩
  obtain ⟨rc, e, h1, h2⟩ := hs.loc t c hc
  exact ⟨rc, e, (hh _ (.inr ⟨t, c, hc, rfl⟩)).trans h1, h2⟩
theorem lockK_nil {k : Nat} (hl : s.l = []) : ¬ LocK lam s.l k := by
  rintro ⟨t, c, hc, _⟩
  rw [hl] at hc
  simp [lookL_nil] at hc
theorem Fr.mem_of {ρ' : Rho} {lam' : Nat → Nat} {s' : St} {w' : World} (h : Fr (OwnS ρ lam s) (AliveS ρ lam s) w (OwnS ρ' lam' s') (AliveS ρ' lam' s') w') (hl : s.l = []) : Fr (OwnM ρ s.m) (AliveM ρ s.m) w (OwnM ρ' s'.m) (AliveM ρ' s'.m) w' := by
  refine ⟨h.os, h.tape, h.output, h.size, fun k hk hn => h.keep k hk (fun ho => ho.elim hn (lockK_nil hl)), fun k hk => ?_, fun k hk => ?_, h.drawn⟩
  · rcases h.own k (.inl hk) with (h' | h') | h'
    · exact .inl h'
    · exact absurd h' (lockK_nil hl)
    · exact .inr h'
  · rcases h.alive k (.inl hk) with (h' | h') | h'
    · exact .inl h'
    · exact absurd h' (lockK_nil hl)
    · exact .inr h'
theorem round_ok {call : Caller} {H : Hints} (hc : CallOk P call) {asg bdy : Code} (pa : plainC asg = true) (pb : plainC bdy = true) {l n : Nat} {rec : Loop} {args : Array Value} {s0 s1 s2 : St} {W : World} {tmps : Array Value} {R : Ending → World → Prop}
    (hrec : W.heap[l]? = some (.loop rec)) (hst : rec.state = .ready) (hpe : rec.pending = none) (e1 : rec.assign = asg) (e2 : rec.body = bdy) (hsz : args.size = rec.params.size) (ht : (rec.params.zip args).foldl (fun tmps (t, a) => tmps.setIfInBounds t a) rec.tmps = tmps)
    (hs0 : SR P ρ lam s0 { tmps, defers := [] } W) (hl0 : s0.l = []) (hna : ¬ AliveM ρ s0.m l) (h1 : codeEv call noAgain (trCode P H asg) s0 = some (.norm, s1)) (h2 : codeEv call noAgain (trCode P H bdy) s1 = some (.norm, s2)) (_ : s2.l = [])
    (hR : ∀ ρ3 W', MR P ρ3 s2.m W' → ρ.le ρ3 → Fr (OwnM ρ s0.m) (AliveM ρ s0.m) W (OwnM ρ3 s2.m) (AliveM ρ3 s2.m) W' → W'.heap[l]? = W.heap[l]? → R (.returned (.bool true)) W') : YieldAt Fence.wide n P l args W R := by
  subst e1; subst e2
  have hlt : l < W.heap.size := (Array.getElem?_eq_some_iff.1 hrec).1
  have hnaS : ¬ AliveS ρ lam s0 l := fun h => h.elim hna (lockK_nil hl0)
  refine ⟨rec.fn, tmps, rec.assign, rec.body, by rw [← ht]; exact run_yield hrec hsz, roundIn_of_wpIn trivial ?_⟩
  refine code_in (r := some l) (D := []) (n := n) (again := noAgain) hc noAgain_in rec.assign s0 .norm s1 ρ lam { tmps, defers := [] } W _ pa hs0 h1 (fun e a1 w1 hx hst1 => ?_)
  cases e <;> simp only [ExM] at hx
  obtain ⟨ρ1, lam1, q1, q2, q3⟩ := hst1
  have na1 : ¬ AliveS ρ1 lam1 s1 l := fun h => (q3.alive _ h).elim hnaS (fun h => by omega)
  have r1 : w1.heap[l]? = some (.loop rec) := (q3.keep l hlt (fun h => hnaS h.alive)).trans hrec
  refine ⟨_, run_beginRound r1 hst, ?_⟩
  have q1' := q1.putObj (.loop { rec with state := .busy }) na1
  refine code_in (r := some l) (D := []) (n := n) (again := noAgain) hc noAgain_in rec.body s1 .norm s2 ρ1 lam1 a1 _ _ pb q1' h2 (fun e a2 w2 hx hst2 => ?_)
  cases e <;> simp only [ExM] at hx
  obtain ⟨ρ2, lam2, p1, p2, p3⟩ := hst2
  have hlt1 : l < w1.heap.size := (Array.getElem?_eq_some_iff.1 r1).1
  have na2 : ¬ AliveS ρ2 lam2 s2 l := fun h => (p3.alive _ h).elim na1 (fun h => by simp at h; omega)
  have r2 : w2.heap[l]? = some (.loop { rec with state := .busy }) := (p3.keep l (by simpa using hlt1) (fun h => na1 h.alive)).trans (World.putObj_heap_same hlt1)
  have hend := run_endRound (P := P) none r2
  refine ⟨_, _, hend, ?_⟩
  have hrr : ({ rec with state := .ready, pending := none } : Loop) = rec := by cases rec; simp_all
  have hlt2 : l < w2.heap.size := (Array.getElem?_eq_some_iff.1 r2).1
  have hobj : (w2.putObj l (.loop { ({ rec with state := .busy } : Loop) with state := if (none : Option Code).isNone then .ready else .done, pending := none })) = w2.putObj l (.loop rec) := by
    rw [← hrr]; rfl
  rw [hobj]
  have p1' := p1.putObj (.loop rec) na2
  have hfr : Fr (OwnS ρ lam s0) (AliveS ρ lam s0) W (OwnS ρ2 lam2 s2) (AliveS ρ2 lam2 s2) (w2.putObj l (.loop rec)) := by
    refine ⟨p3.os.trans q3.os, p3.tape.trans q3.tape, p3.output.trans q3.output, Nat.le_trans q3.size (Nat.le_trans (by simpa using p3.size) (by simp)), fun k hk hn => ?_, fun k hk => ?_, fun k hk => ?_, Nat.le_trans q3.drawn p3.drawn⟩
    · by_cases e : k = l
      · subst e; rw [World.putObj_heap_same hlt2]; exact hrec.symm
      · rw [World.putObj_heap_other e]
        have hk1 : k < w1.heap.size := Nat.lt_of_lt_of_le hk q3.size
        have n1 : ¬ OwnS ρ1 lam1 s1 k := fun h => (q3.own k h).elim hn (fun h => by omega)
        exact ((p3.keep k (by simpa using hk1) n1).trans (World.putObj_heap_other e)).trans (q3.keep k hk hn)
    · rcases p3.own k hk with h | h
      · exact q3.own k h
      · exact .inr (Nat.le_trans q3.size (by simpa using h))
    · rcases p3.alive k hk with h | h
      · exact q3.alive k h
      · exact .inr (Nat.le_trans q3.size (by simpa using h))
  exact hR ρ2 _ p1'.mem (Rho.le_trans q2 p2) (Fr.mem_of hfr hl0) (by rw [World.putObj_heap_same hlt2, hrec])
theorem sameI_ok {ρ ρ' : Rho} : ∀ {xs ys : List AV} {rs rs' : List Value}, sameI xs ys = true → VRs ρ xs rs → VRs ρ' ys rs' → rs = rs'
  | [], [], rs, rs', _, h, h' => by simp only [VRs] at h h'; rw [h, h']
  | .int k a :: xs, .int k' b :: ys, rs, rs', hs, h, h' => by
    simp only [sameI, Bool.and_eq_true, decide_eq_true_eq, beq_iff_eq] at hs
    obtain ⟨⟨rfl, rfl⟩, hs⟩ := hs
    simp only [VRs, VR] at h h'
    obtain ⟨r, rest, rfl, rfl, h1⟩ := h
    obtain ⟨r', rest', rfl, rfl, h1'⟩ := h'
    rw [sameI_ok hs h1 h1']
  | [], _ :: _, _, _, hs, _, _ => by simp [sameI] at hs
  | x :: _, [], _, _, hs, _, _ => by cases x <;> simp [sameI] at hs
theorem sameH_ok {ρ ρ' : Rho} (hle : ρ.le ρ') {x y : AV} {r r' : Value} (hs : sameH x y = true) (h : VR ρ x r) (h' : VR ρ' y r') : r = r' := by
  unfold sameH at hs
  split at hs
  · simp only [VR] at h h'; rw [h, h']
  · simp only [Bool.and_eq_true, beq_iff_eq] at hs
    obtain ⟨⟨⟨⟨rfl, rfl⟩, rfl⟩, rfl⟩, rfl⟩ := hs
    simp only [VR] at h h'
    obtain ⟨z, c, hz, rfl, _, _, hc⟩ := h
    obtain ⟨z', c', hz', rfl, _, _, hc'⟩ := h'
    rw [hle _ _ hz] at hz'; cases hz'
    rw [hc, hc']
  · simp only [Bool.and_eq_true, beq_iff_eq] at hs
    obtain ⟨⟨rfl, rfl⟩, rfl⟩ := hs
    simp only [VR] at h h'
    obtain ⟨z, c, hz, rfl, _, _, hc⟩ := h
    obtain ⟨z', c', hz', rfl, _, _, hc'⟩ := h'
    rw [hle _ _ hz] at hz'; cases hz'
    have : c = c' := by omega
    rw [this]
  · cases hs
end
theorem slice_reads {P : Program} {ρ : Rho} {lam : Nat → Nat} {s : St} {a : Act} {w : World} (hs : SR P ρ lam s a w) {B O : Nat} {rp : Value} {hv : AV} {xs : List AV} (hx : VR ρ (.ptr B O) rp) (h1 : s.read (.ptr B O) 1 = some [hv]) (h2 : rowAt s hv = some xs) :
    ∃ (b0 o0 : Nat) (q : Option Addr) (cap : Nat) (zs : List Value), rp = .pointer (some ⟨b0, o0, none⟩) ∧ w.cell? ⟨b0, o0, none⟩ = some (.slice q (lenH hv) cap) ∧ VR ρ hv (.slice q (lenH hv) cap) ∧ VRs ρ xs zs ∧
      ∀ j, j < lenH hv → ∃ b, q = some b ∧ b.spot = none ∧ w.cell? ⟨b.block, b.off + j, none⟩ = zs[j]? := by
  obtain ⟨b0, o0, vs, e, k1, k2, k3⟩ := read_ok hs (VT.of_vr hx) h1
  simp only [VRs] at k1
  obtain ⟨r0, rest, rfl, hv0, rfl⟩ := k1
  have hc := k3 0 r0 rfl
  rw [Nat.add_zero] at hc
  unfold rowAt at h2
  split at h2
  · cases h2
    simp only [VR] at hv0; subst hv0
    exact ⟨b0, o0, none, 0, [], e, hc, by simp [VR, lenH], by simp [VRs], fun j hj => by simp [lenH] at hj⟩
  · rename_i b o n c e'
    have hv1 := hv0
    simp only [VR] at hv0
    obtain ⟨x, C, hx', rfl, hrest⟩ := hv0
    split at h2
    · rename_i hn
      cases h2
      exact ⟨b0, o0, _, C, [], e, hc, hv1, by simp [VRs], fun j hj => by simp [lenH, hn] at hj⟩
    · obtain ⟨b1, o1, zs, e1, l1, l2, l3⟩ := read_ok (r := .pointer (some ⟨x.blk, x.off + o, none⟩)) hs (VT.of_vr (by simp only [VR]; exact ⟨x, hx', rfl⟩)) h2
      cases e1
      refine ⟨b0, o0, _, C, zs, e, hc, hv1, l1, fun j hj => ⟨_, rfl, rfl, ?_⟩⟩
      simp only [lenH] at hj
      have hj' : j < zs.length := by omega
      rw [List.getElem?_eq_getElem hj']
      exact l3 j _ (List.getElem?_eq_getElem hj')
  · cases h2
theorem loop_ok {P : Program} {ρ : Rho} {lam : Nat → Nat} {s : St} {a : Act} {w : World} {call : Caller} {H : Hints} {F : BackFn} (hc : CallOk P call) (hit : BackOk P F.it) {asg bdy : Code} (ha : F.asg = trCode P H asg) (hb : F.bdy = trCode P H bdy)
    (pa : plainC asg = true) (pb : plainC bdy = true) (hs : SR P ρ lam s a w) (hl : s.l = []) {B O : Nat} {hv : AV} {xs : List AV} {m1 : Mem} (hg : look s.t F.g = .fn F.it [.ptr B O]) (h1 : s.read (.ptr B O) 1 = some [hv]) (h2 : rowAt s hv = some xs)
    (hlen : xs.length = lenH hv) (hmax : lenH hv ≤ 2 ^ 40) (hI : sameI xs xs = true) (hH : sameH hv hv = true) (hloop : backLoop call F s B O hv xs xs.length s.m = some m1) {n : Nat} {Q : Exit → Act → World → Prop}
    (hk : ∀ ρ' w' D, MR P ρ' m1 w' → ρ.le ρ' → Fr (OwnM ρ s.m) (AliveM ρ s.m) w (OwnM ρ' m1) (AliveM ρ' m1) w' → w.heap.size ≤ D → w'.heap[D]? = some (.deferred (some [])) → ¬ AliveM ρ' m1 D →
      Q .normal { a with defers := [{ target := .collected D, args := #[] }] } w') : (Code.rangeFunc (.tmp F.g) #[F.p0, F.p1] asg bdy).wpIn (Rd none) n P Q a w := by
  refine wpIn_rangeFunc ?_
  intro fn _
  have hgt := hs.tmp F.g
  rw [hg] at hgt
  simp only [VT, VR] at hgt
  obtain ⟨rs, hgv, hrs⟩ := hgt
  simp only [VRs] at hrs
  obtain ⟨rp, rest, hrs1, hrp, rfl⟩ := hrs
  have hrs2 : rs = #[rp] := by apply Array.toList_inj.1; rw [hrs1]
  subst hrs2
  have hev : a.eval (.tmp F.g) = .func (.func F.it) #[] #[rp] := hgv
  obtain ⟨rec, hrecd⟩ : ∃ rec : Loop, rec = { state := .ready, pending := none, fn, tmps := a.tmps, params := #[F.p0, F.p1], assign := asg, body := bdy, defers := w.heap.size } := ⟨_, rfl⟩
  obtain ⟨W1, hW1⟩ : ∃ W1, W1 = (w.alloc (.deferred (some []))).alloc (.loop rec) := ⟨_, rfl⟩
  refine ⟨w.heap.size + 1, [{ target := .collected w.heap.size, args := #[] }], W1, { target := .fn (.func F.it) #[rp], args := #[.func (.yield (w.heap.size + 1)) #[] #[]] }, W1, F.it, #[.func (.yield (w.heap.size + 1)) #[] #[], rp], W1, by rw [hW1, hrecd]; exact run_enterLoop_outer _ _ _ _ _, ?_, fun _ _ => trivial, ?_, fun h => by simp [Rd, Fence.wide] at h, ?_⟩
  · simp only [resolve, hev]
    simp [go_sem]
  · simp [invoke, go_sem, hit.1]
  · have hsz : W1.heap.size = w.heap.size + 2 := by rw [hW1]; simp
    have hl1 : W1.heap[w.heap.size + 1]? = some (.loop rec) := by
      rw [hW1]; have := World.alloc_heap_new (w.alloc (.deferred (some []))) (.loop rec); simpa using this
    have hd1 : W1.heap[w.heap.size]? = some (.deferred (some [])) := by
      rw [hW1]; exact (Below.heap_alloc _ _ _ (by simp)).trans (World.alloc_heap_new w _)
    have hold : ∀ k, k < w.heap.size → W1.heap[k]? = w.heap[k]? := fun k hk' => by
      rw [hW1]; exact (Below.heap_alloc _ _ _ (by simp; omega)).trans (Below.heap_alloc _ _ _ hk')
    have hs1 : SR P ρ lam s a W1 := by rw [hW1]; exact (hs.alloc _).alloc _
    obtain ⟨b0, o0, q, cap, zs, rfl, hcell, hvr, hvs, hel⟩ := slice_reads hs1 hrp h1 h2
    have hzs : zs.length = lenH hv := by rw [hvs.length, hlen]
    refine callsIn_rd (Calls.mono (hit.2 (n - 1 - 1) (w.heap.size + 1) ⟨b0, o0, none⟩ q (lenH hv) cap zs
      (fun k W => ∃ ρ' m' hv' xs', MStep P ρ s.m W1 ρ' m' W ∧ backLoop call F s B O hv xs (xs.length - k) m' = some m1 ∧ ({ s with m := m' } : St).read (.ptr B O) 1 = some [hv'] ∧ rowAt { s with m := m' } hv' = some xs' ∧ sameH hv hv' = true ∧ sameI xs xs' = true)
      W1 hzs hmax rfl ?_ ?_ ⟨ρ, s.m, hv, xs, MStep.refl hs1.mem, by simpa using hloop, h1, h2, hH, hI⟩) ?_)
    · rintro k W _ ⟨ρ', m', hv', xs', hms, _, r1, r2, r3, r4⟩
      have hsW := (hs1.step hms).1
      obtain ⟨b0', o0', q', cap', zs', e0, c1, c2, c3, c4⟩ := slice_reads hsW (VR.mono hms.le _ _ hrp) r1 r2
      cases e0
      have e1 := sameH_ok hms.le r3 hvr c2
      have e2 := sameI_ok r4 hvs c3
      simp only [Value.slice.injEq] at e1
      obtain ⟨rfl, e3, rfl⟩ := e1
      subst e2
      rw [← e3] at c1 c4
      exact ⟨c1, c4⟩
    · rintro k W2 hk' ⟨ρ', m', hv', xs', hms, hb', r1, r2, r3, r4⟩
      have nal : ∀ k, w.heap.size ≤ k → ¬ AliveM ρ s.m k := fun k hk' h => by have := AliveM.lt hs.mem h; omega
      have nal' : ¬ AliveM ρ' m' (w.heap.size + 1) := fun h => (hms.fr.alive _ h).elim (nal _ (by omega)) (fun h => by omega)
      have hl2 : W2.heap[w.heap.size + 1]? = some (.loop rec) := (hms.fr.keep _ (by omega) (fun h => nal _ (by omega) h.alive)).trans hl1
      obtain ⟨i, hi⟩ : ∃ i, i = lenH hv - 1 - k := ⟨_, rfl⟩
      have hi1 : xs.length - k = i + 1 := by omega
      have hi2 : xs.length - (k + 1) = i := by omega
      rw [← hi]
      rw [hi1] at hb'
      simp only [backLoop] at hb'
      split at hb'
      case h_2 => cases hb'
      rename_i x hx
      split at hb'
      case isFalse => cases hb'
      rename_i hp
      split at hb'
      case h_2 => cases hb'
      rename_i s1 hq1
      split at hb'
      case h_2 => cases hb'
      rename_i s2 hq2
      split at hb'
      case h_2 => cases hb'
      rename_i hv2 hq3
      split at hb'
      case h_2 => cases hb'
      rename_i xs2 hq4
      split at hb'
      case isFalse => cases hb'
      rename_i hq5
      simp only [Bool.and_eq_true, List.isEmpty_iff] at hq5
      obtain ⟨⟨hl2', hH2⟩, hI2⟩ := hq5
      obtain ⟨zi, hz1, hz2⟩ := hvs.get hx
      have hzd : zs.getD i undef = zi := by simp [List.getD_eq_getElem?_getD, hz1]
      rw [hzd]
      have hsW := (hs1.step hms).1
      have hvi : VR ρ' x zi := VR.mono hms.le _ _ hz2
      have hp1 := hsW.put (d := some F.p0) (v := .int .i64 i) (r := .int .i64 i) (by simp [VT, VR]) (fun t o e => by cases e) (s' := { s with t := setT s.t F.p0 (.int .i64 i), m := m' }) (by simp [St.put, hp.1])
      have hp2 := hp1.put (d := some F.p1) (v := x) (r := zi) (VT.of_vr hvi) (fun t o e => absurd e (hvi.noloc t o)) (s' := { s with t := setT (setT s.t F.p0 (.int .i64 i)) F.p1 x, m := m' }) (by simp [St.put, hp.2])
      refine round_ok (n := n - 1 - 1) (s1 := s1) (s2 := s2) (s0 := { s with t := setT (setT s.t F.p0 (.int .i64 i)) F.p1 x, m := m' }) (rec := rec) (ρ := ρ') (lam := lam) (H := H) (call := call) (asg := asg) (bdy := bdy) (tmps := (a.tmps.setIfInBounds F.p0 (.int .i64 i)).setIfInBounds F.p1 zi) hc pa pb hl2 (by rw [hrecd]) (by rw [hrecd]) (by rw [hrecd]) (by rw [hrecd]) (by rw [hrecd]; rfl) (by rw [hrecd]; simp) ?_ hl nal' ?_ ?_ hl2' ?_
      · have := hp2
        simpa [Act.put, hs.defers] using this
      · rw [← ha]; exact hq1
      · rw [← hb]; exact hq2
      · intro ρ3 W' m1' le1 fr1 rec1
        refine ⟨rfl, ρ3, s2.m, hv2, xs2, ⟨m1', Rho.le_trans hms.le le1, hms.fr.trans fr1⟩, by rw [hi2]; exact hb', ?_, ?_, hH2, hI2⟩
        · exact hq3
        · exact hq4
    · rintro e W' ⟨⟨v, rfl⟩, ρ', m', hv', xs', hms, hb', _⟩
      rw [hlen, Nat.sub_self] at hb'
      simp only [backLoop, Option.some.injEq] at hb'
      subst hb'
      have nal : ∀ k, w.heap.size ≤ k → ¬ AliveM ρ s.m k := fun k hk' h => by have := AliveM.lt hs.mem h; omega
      have nal' : ∀ k, w.heap.size ≤ k → k < W1.heap.size → ¬ AliveM ρ' m' k := fun k h1 h2 h => (hms.fr.alive k h).elim (nal k h1) (fun h => by omega)
      have kp : ∀ k, w.heap.size ≤ k → k < W1.heap.size → W'.heap[k]? = W1.heap[k]? := fun k h1 h2 => hms.fr.keep k h2 (fun h => nal k h1 h.alive)
      have hl2 : W'.heap[w.heap.size + 1]? = some (.loop rec) := (kp _ (by omega) (by omega)).trans hl1
      have hd2 : W'.heap[w.heap.size]? = some (.deferred (some [])) := (kp _ (by omega) (by omega)).trans hd1
      have hend := run_endLoop (P := P) hl2 (by rw [hrecd]; simp)
      refine ⟨_, _, hend, ?_⟩
      rw [hrecd]
      dsimp only
      rw [hs.defers, List.append_nil]
      refine hk ρ' _ w.heap.size (hms.mr.of_heap (fun k h => World.putObj_heap_other (fun e => nal' _ (by omega) (by omega) (e ▸ h)))) hms.le ?_ (Nat.le_refl _) ((World.putObj_heap_other (by omega)).trans hd2) (nal' _ (Nat.le_refl _) (by omega))
      refine ⟨hms.fr.os.trans (by rw [hW1]; rfl), hms.fr.tape.trans (by rw [hW1]; rfl), hms.fr.output.trans (by rw [hW1]; rfl), by have := hms.fr.size; simp; omega, fun k hk' hn => ?_, fun k h => ?_, fun k h => ?_, by have := hms.fr.drawn; rw [hW1] at this; exact this⟩
      · exact ((World.putObj_heap_other (by omega)).trans (hms.fr.keep k (by omega) hn)).trans (hold k hk')
      · exact (hms.fr.own k h).imp id (fun h => by omega)
      · exact (hms.fr.alive k h).imp id (fun h => by omega)
def trBack (P : Program) (H : Hints) (it : Nat) (f : Func) : Option BackFn :=
  match f.body, trRes P f.results.toList with
  | some (.seq A (.seq A1 (.seq (.seq B (.block _ (.rangeFunc (.tmp g) ⟨[p0, p1]⟩ asg bdy))) C))), some res =>
    if f.name ≠ "runtime.NumGoroutine" ∧ f.params.size + f.nfree ≤ f.ntmps ∧ (plainC A && plainC A1 && plainC B && plainC asg && plainC bdy && plainC C) = true then
      some { n := f.ntmps, np := f.params.size + f.nfree, res, A := trCode P H A, A1 := trCode P H A1, B := trCode P H B, g, it, p0, p1, asg := trCode P H asg, bdy := trCode P H bdy, C := trCode P H C }
    else none
  | _, _ => none
theorem Act.noDefers {a : Act} (h : a.defers = []) : ({ a with defers := [] } : Act) = a := by
  cases a; simp_all
theorem back_ok {P : Program} {H : Hints} {it f : Nat} {fn : Func} {F : BackFn} (hf : P.funcs[f]? = some fn) (htr : trBack P H it fn = some F) (hit : BackOk P it) : PrimOk P f (backEv F) := by
  intro call hc args m v m' he
  unfold trBack at htr
  split at htr
  case h_2 => cases htr
  rename_i A A1 B b g p0 p1 asg bdy C res hb hres
  split at htr
  case isFalse => cases htr
  rename_i hcond
  obtain ⟨hname, hnp, hpl⟩ := hcond
  simp only [Bool.and_eq_true] at hpl
  obtain ⟨⟨⟨⟨⟨pA, pA1⟩, pB⟩, pa⟩, pb⟩, pC⟩ := hpl
  obtain ⟨F, hF⟩ : ∃ F', F' = F := ⟨_, rfl⟩
  simp only [Option.some.injEq] at htr
  rw [← hF] at he
  rw [← hF] at htr
  refine ⟨⟨fn, hf, hname, by rw [hb]; rfl⟩, fun ρ rargs w hm ha => ?_⟩
  have eit : F.it = it := by rw [← htr]
  have eA : F.A = trCode P H A := by rw [← htr]
  have eA1 : F.A1 = trCode P H A1 := by rw [← htr]
  have eB : F.B = trCode P H B := by rw [← htr]
  have eC : F.C = trCode P H C := by rw [← htr]
  have easg : F.asg = trCode P H asg := by rw [← htr]
  have ebdy : F.bdy = trCode P H bdy := by rw [← htr]
  have eg : F.g = g := by rw [← htr]
  have ep0 : F.p0 = p0 := by rw [← htr]
  have ep1 : F.p1 = p1 := by rw [← htr]
  have eres : F.res = res := by rw [← htr]
  have en : F.n = fn.ntmps := by rw [← htr]
  have enp : F.np = fn.params.size + fn.nfree := by rw [← htr]
  unfold backEv at he
  split at he
  case isFalse => cases he
  rename_i hargs
  split at he
  case h_2 => cases he
  rename_i s00 hq00
  split at he
  case h_2 => cases he
  rename_i s0 hq0
  split at he
  case h_2 => cases he
  rename_i s hq1
  split at he
  case h_2 => cases he
  rename_i it' B' O' hgv
  split at he
  case h_2 => cases he
  rename_i hv hrd
  split at he
  case h_2 => cases he
  rename_i xs hrow
  split at he
  case isFalse => cases he
  rename_i hch
  obtain ⟨rfl, hl, hlen, hmax, hI, hH⟩ := hch
  have hl' : s.l = [] := by simpa using hl
  split at he
  case h_2 => cases he
  rename_i m1 hlp
  obtain ⟨x2, s2, hq2, hx2, he'⟩ : ∃ x2 s2, codeEv call noAgain F.C { s with m := m1 } = some (x2, s2) ∧ (x2 = .norm ∨ x2 = .ret) ∧ (match resEv s2 F.res with
      | some [v] => if v.isLoc then none else some (v, s2.m)
      | some l => if l.any AV.isLoc then none else some (.tup l, s2.m)
      | none => none) = some (v, m') := by
    split at he
    · rename_i s2 hq2; exact ⟨_, s2, hq2, .inl rfl, he⟩
    · rename_i s2 hq2; exact ⟨_, s2, hq2, .inr rfl, he⟩
    · cases he
  have hm' : m' = s2.m := by
    split at he'
    · split at he'
      · cases he'
      · simp only [Option.some.injEq, Prod.mk.injEq] at he'; exact he'.2.symm
    · split at he'
      · cases he'
      · simp only [Option.some.injEq, Prod.mk.injEq] at he'; exact he'.2.symm
    · cases he'
  subst hm'
  rw [eA, en] at hq00
  rw [eA1] at hq0
  rw [eB] at hq1
  rw [eC] at hq2
  rw [eres] at he'
  have hs := SR.start (P := P) (N := fn.ntmps) (fun _ => 0) hm ha (by omega)
  refine callsIn_wide.1 (callsIn_of_wp_marks (F := Fence.wide) (n := 0) hf hb trivial ?_)
  change Code.wpIn (Rd none) 0 P _ _ _ _
  refine wpIn_seq (code_in (D := []) (again := noAgain) hc noAgain_in A _ .norm s00 ρ _ _ w _ pA hs hq00 (fun e a00 w00 hx hst0 => ?_))
  cases e <;> simp only [ExM] at hx
  simp only [Exit.then]
  obtain ⟨ρ0, lam0, hs0, le0, fr0⟩ := hst0
  refine wpIn_seq (code_in (D := []) (again := noAgain) hc noAgain_in A1 s00 .norm s0 ρ0 lam0 a00 w00 _ pA1 hs0 hq0 (fun e a1 w1 hx hst1 => ?_))
  cases e <;> simp only [ExM] at hx
  simp only [Exit.then]
  obtain ⟨ρ1, lam1, hs1, le1', fr1'⟩ := hst1
  have le1 := Rho.le_trans le0 le1'
  have fr1 := fr0.trans fr1'
  refine wpIn_seq (wpIn_seq (code_in (D := []) (again := noAgain) hc noAgain_in B _ .norm s ρ1 lam1 a1 w1 _ pB hs1 hq1 (fun e a2 w2 hx hst2 => ?_)))
  cases e <;> simp only [ExM] at hx
  simp only [Exit.then]
  obtain ⟨ρ2, lam2, hs2, le2, fr2⟩ := hst2
  rw [Act.noDefers hs2.defers]
  refine wpIn_block ?_
  rw [← eg, ← ep0, ← ep1]
  rw [← eit] at hit
  refine loop_ok hc hit easg ebdy pa pb hs2 hl' hgv hrd hrow hlen hmax hI hH hlp (fun ρ3 w3 D hm3 le3 fr3 hD1 hD2 hD3 => ?_)
  simp only [Exit.inBlock, Exit.then]
  have hst3 := hs2.step ⟨hm3, le3, fr3⟩
  refine code_in (D := [{ target := .collected D, args := #[] }]) (again := noAgain) hc noAgain_in C _ x2 s2 ρ3 lam2 a2 w3 _ pC hst3.1 hq2 (fun e a4 w4 hx hst4 => ?_)
  obtain ⟨ρ4, lam4, hs4, le4, fr4⟩ := hst4
  have hfr : Fr (OwnS ρ (fun _ => 0) { n := fn.ntmps, t := argsT 0 args, l := [], m }) (AliveS ρ (fun _ => 0) { n := fn.ntmps, t := argsT 0 args, l := [], m }) w (OwnS ρ4 lam4 s2) (AliveS ρ4 lam4 s2) w4 := ((fr1.trans fr2).trans hst3.2).trans fr4
  have hfm := Fr.mem_of hfr rfl
  have hDlt : D < w3.heap.size := (Array.getElem?_eq_some_iff.1 hD2).1
  have na3 : ¬ AliveS ρ3 lam2 { s with m := m1 } D := by
    rintro (h | h)
    · exact hD3 h
    · exact lockK_nil hl' h
  have hD4 : w4.heap[D]? = some (.deferred (some [])) := (fr4.keep D hDlt (fun h => na3 (h.elim (fun h => .inl h.alive) .inr))).trans hD2
  have na4 : ¬ AliveS ρ4 lam4 s2 D := fun h => (fr4.alive D h).elim na3 (fun h => by omega)
  have hs5 := hs4.putObj (.deferred none) na4
  obtain ⟨r, hr, hvr⟩ := results_ok (fn := fn) hs5 hres he'
  have hsz : w.heap.size ≤ D := Nat.le_trans (Nat.le_trans fr1.size fr2.size) hD1
  have hpost : LeavesInM Fence.wide 0 P fn a4.tmps (fun e w' => ∃ r ρ', e = .returned r ∧ VR ρ' v r ∧ MStep P ρ m w ρ' s2.m w') [{ target := .collected D, args := #[] }] .returning w4 := by
    refine ⟨by simp, .inl ⟨D, _, rfl, run_takeDeferred hD4, ?_⟩⟩
    refine ⟨r, hr, r, ρ4, rfl, hvr, hs5.mem, Rho.le_trans (Rho.le_trans (Rho.le_trans le1 le2) le3) le4, ⟨hfm.os, hfm.tape, hfm.output, by simpa using hfm.size, fun k hk hn => ?_, hfm.own, hfm.alive, hfm.drawn⟩⟩
    rw [World.putObj_heap_other (by omega)]
    exact hfm.keep k hk hn
  rcases hx2 with rfl | rfl <;> cases e <;> simp only [ExM] at hx <;> exact hpost
end
end AG
