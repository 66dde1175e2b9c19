/- The abstract machine, part 24: strings.Fields and strconv.Atoi by their contracts. -/
import Derived.Test.YtekljfhfjncmjaaDoorAgStr
import Derived.Test.YtekljfhfjncmjaaDoorAgStart
import Derived.Shelf.Strings.FieldsAny
import Derived.Lib.LaidU8
import Derived.LaidLaws
import Derived.Shelf.Strconv.AtoiAll
import Derived.Shelf.Strconv.ErrVarAll
namespace AG
noncomputable section
open Go Go.RowKit

/-- A new block that the model laid somewhere behind what was there. -/
theorem MStep.newAt {P : Program} {ρ : Rho} {m : Mem} {w w' : World} (hm : MR P ρ m w) (hf : m.full = false) {b : ABlk} {A n t : Nat} (hA : w.heap.size ≤ A) (hb : Below w.heap.size w w') (hr : BR ρ ⟨A, 0, n, t⟩ w' b) :
    MStep P ρ m w (ρ ++ [⟨A, 0, n, t⟩]) (m.push b) w' := by
  have hna : ¬ AliveM ρ m A := fun h => by have := AliveM.lt hm h; omega
  refine ⟨hm.push hf hna (fun k hk => hb.block k (AliveM.lt hm hk)) hr, Rho.le_append _ _, ⟨hb.os, hb.tape, hb.output, hb.size, fun k hk _ => hb.block k hk, fun k hk => ?_, fun k hk => ?_⟩⟩
  · rcases OwnM.push hm hf hk with h | h
    · exact .inl h
    · exact .inr (by rw [h]; exact hA)
  · rcases AliveM.push hm hf hk with h | h
    · exact .inl h
    · exact .inr (by rw [h]; exact hA)

def tabAtK (k : IntKind) (m : Mem) (g : Nat) (zs : List Int) : Bool :=
  match m.get g with
  | some (.cells c false) => eqL (eqV 2) c (zs.map fun z => .int k z)
  | _ => false

theorem tab_isK {P : Program} {ρ : Rho} {k : IntKind} {m : Mem} {w : World} (hm : MR P ρ m w) {name : String} {g : Nat} (hg : P.globalNamed name = some g) (hlt : g < P.globals.size) {zs : List Int} (h : tabAtK k m g zs = true) : Lib.TabIs P w name k zs := by
  unfold tabAtK at h
  split at h
  · rename_i c hget
    have hc := eqL_spec (eqV_spec 2) h
    obtain ⟨x, hx, h1, h2, h3⟩ := hm.glob g hlt
    obtain ⟨x', hx', rc, e, fz, b1, b2, _, _, b5⟩ := hm.blk g _ hget
    rw [hx] at hx'; cases hx'
    have hsz := b5 rfl h3
    rw [h2, Nat.zero_add] at hsz
    rw [h2, List.drop_zero, List.take_of_length_le (by simp; omega), hc] at b2
    have := vrs_ints b2
    unfold Lib.TabIs World.var?
    rw [hg]
    simp only [Option.bind_some]
    rw [← h1, b1]
    simp only [Option.some.injEq]
    exact Array.toList_inj.1 (by rw [this])
  · cases h

/-- Is unicode.White_Space there? -/
def whiteAt (m : Mem) (g : Nat) : Bool :=
  match m.get g with
  | some (.cells [.ptr T 0] false) => match m.get T with
    | some (.cells [.slice R 0 7 (some 7) 3, .nils, .int .i64 2] false) => match m.get R with
      | some (.cells c false) => eqL (eqV 2) c (Lib.whiteT.map fun z => .int .u16 (z : Nat))
      | _ => false
    | _ => false
  | _ => false

theorem cell_of {w : World} {b o i : Nat} {rc : Array Value} {e : TypeId} {fz : Nat × Nat} (h : w.heap[b]? = some (.cells rc e fz)) {l : List Value} {n : Nat} (hl : (rc.toList.drop o).take n = l) {v : Value} (hv : l[i]? = some v) : w.cell? ⟨b, o + i, none⟩ = some v := by
  subst hl
  have hi : i < n := by
    have := (List.getElem?_eq_some_iff.1 hv).1
    simp at this; omega
  rw [List.getElem?_take, if_pos hi, List.getElem?_drop] at hv
  unfold World.cell?
  rw [h]
  simpa using hv

theorem white_is {P : Program} {ρ : Rho} {m : Mem} {w : World} (hm : MR P ρ m w) {g : Nat} (hlt : g < P.globals.size) (h : whiteAt m g = true) : Lib.WhiteTab g w := by
  unfold whiteAt at h
  split at h
  case h_2 => cases h
  rename_i T hg
  split at h
  case h_2 => cases h
  rename_i R hT
  split at h
  case h_2 => cases h
  rename_i c hR
  have hc := eqL_spec (eqV_spec 2) h
  subst hc
  obtain ⟨x, hx, h1, h2, h3⟩ := hm.glob g hlt
  obtain ⟨x', hx', rc, e, fz, b1, b2, _, _, _⟩ := hm.blk g _ hg
  rw [hx] at hx'; cases hx'
  obtain ⟨xT, hxT, rcT, eT, fzT, c1, c2, _, _, _⟩ := hm.blk T _ hT
  obtain ⟨xR, hxR, rcR, eR, fzR, d1, d2, _, _, _⟩ := hm.blk R _ hR
  simp only [VRs, VR] at b2 c2
  obtain ⟨q0, r0, e0, ⟨y, hy, rfl⟩, rfl⟩ := b2
  rw [hxT] at hy; cases hy
  obtain ⟨q1, r1, e1, ⟨z, cc, hz, rfl, _, _, hcc⟩, q2, r2, rfl, rfl, q3, r3, rfl, rfl, rfl⟩ := c2
  rw [hxR] at hz; cases hz
  have e6 : (Lib.whiteT.map fun z => AV.int .u16 ((z : Nat) : Int)) = (Lib.whiteT.map fun z => ((z : Nat) : Int)).map fun z => AV.int .u16 z := by rw [List.map_map]; rfl
  rw [e6] at d2
  have d2 := vrs_ints d2
  rw [h1] at b1
  rw [h2] at e0
  have hcc7 : cc = 7 := by simpa using hcc
  subst hcc7
  refine ⟨xT.blk, xT.off, xR.blk, xR.off, ?_, ?_, ?_, ?_, fun i hi => ?_⟩
  · exact cell_of b1 e0 (i := 0) rfl
  · exact cell_of c1 e1 (i := 0) rfl
  · exact cell_of c1 e1 (i := 1) rfl
  · exact cell_of c1 e1 (i := 2) rfl
  · refine cell_of d1 d2 (i := i) ?_
    have hl : Lib.whiteT.length = 21 := by decide
    rw [List.getElem?_map, List.getElem?_map, List.getElem?_eq_getElem (by omega)]
    simp [List.getD, List.getElem?_eq_getElem (show i < Lib.whiteT.length by omega)]

/-- strings.Fields. -/
def fieldsEv (gS gW : Nat) (_ : Caller) (args : List AV) (m : Mem) : Option (AV × Mem) :=
  match args with
  | [.str s] => if s.size < 4294967281 then (if tabAtK .u8 m gS Lib.asciiSpaceTab = true then (if whiteAt m gW = true then (if m.full = true then none else
      let l := (Lib.fieldsD s.data.toList).map fun x => AV.str ⟨x.toArray⟩
      some (.slice m.n 0 l.length (some l.length) 1, m.push (.cells l true))) else none) else none) else none
  | _ => none

theorem vrs_strs {ρ : Rho} : ∀ (l : List (List UInt8)), VRs ρ (l.map fun x => AV.str ⟨x.toArray⟩) (l.map fun x => Value.string ⟨x.toArray⟩)
  | [] => by simp [VRs]
  | x :: r => by
    simp only [List.map_cons, VRs, VR]
    exact ⟨_, _, rfl, rfl, vrs_strs r⟩

theorem fields_ok {P : Program} {f gS gW e : Nat} {fn : Func} (hf : P.funcs[f]? = some fn) (hn : fn.name ≠ "runtime.NumGoroutine") (hb : fn.body.isSome = true) (hg : P.globalNamed "strings.asciiSpace" = some gS) (hlt : gS < P.globals.size) (hlt' : gW < P.globals.size)
    (hc : ∀ (s : ByteArray) (w : World), s.size < 4294967281 → Lib.TabIs P w "strings.asciiSpace" .u8 Lib.asciiSpaceTab → Lib.WhiteTab gW w → Calls P f #[.string s] w fun x w' => ∃ A, x = .returned (.slice (some ⟨A, 0, none⟩) (Lib.fieldsD s.data.toList).length (Lib.fieldsD s.data.toList).length) ∧ w.heap.size ≤ A ∧
      w'.ownsRow w.heap.size e 1 (.slice (some ⟨A, 0, none⟩) (Lib.fieldsD s.data.toList).length (Lib.fieldsD s.data.toList).length) (Lib.fieldsD s.data.toList).length ((Lib.fieldsD s.data.toList).map fun x => Value.string ⟨x.toArray⟩) ∧ Below w.heap.size w w') : PrimOk P f (fieldsEv gS gW) := by
  intro call _ args m v m' h
  refine ⟨⟨fn, hf, hn, hb⟩, fun ρ rargs w hm ha => ?_⟩
  unfold fieldsEv at h
  split at h
  case h_2 => cases h
  rename_i s
  split at h
  case isFalse => cases h
  rename_i h1
  split at h
  case isFalse => cases h
  rename_i h2
  split at h
  case isFalse => cases h
  rename_i h3
  split at h
  · cases h
  rename_i h4
  simp only [Option.some.injEq, Prod.mk.injEq] at h
  obtain ⟨rfl, rfl⟩ := h
  simp only [VRs, VR] at ha
  obtain ⟨r, rest, e1, rfl, rfl⟩ := ha
  have e2 : rargs = #[.string s] := Array.toList_inj.1 e1
  subst e2
  refine (hc s w h1 (tab_isK hm hg hlt h2) (white_is hm hlt' h3)).mono ?_
  rintro x w' ⟨A, rfl, hA, ⟨_, ho⟩, hw⟩
  rcases ho with ⟨ho, _⟩ | ⟨g, cap, cur, ho, _, hh, _, hmax, hsz, hxs⟩
  · cases ho
  · cases ho
    rw [Nat.mul_one] at hsz hxs
    have hl : cur.toList = (Lib.fieldsD s.data.toList).map fun x => Value.string ⟨x.toArray⟩ := by
      rw [← hxs, List.take_of_length_le (by rw [Array.length_toList]; omega)]
    have hlen : ((Lib.fieldsD s.data.toList).map fun x => AV.str ⟨x.toArray⟩).length = (Lib.fieldsD s.data.toList).length := List.length_map ..
    have hbr : BR ρ ⟨A, 0, cur.size, e⟩ w' (.cells ((Lib.fieldsD s.data.toList).map fun x => AV.str ⟨x.toArray⟩) true) := by
      refine ⟨cur, e, (0, 0), hh, ?_, fun _ => ⟨rfl, rfl, rfl⟩, ?_, fun h => by cases h⟩
      · rw [List.drop_zero, List.take_of_length_le (by rw [hlen, Array.length_toList]; omega), hl]
        exact vrs_strs _
      · rw [hlen]; dsimp only; omega
    refine ⟨_, ρ ++ [⟨A, 0, cur.size, e⟩], rfl, ?_, MStep.newAt hm (by simpa using h4) hA hw hbr⟩
    rw [hlen]
    simp only [VR]
    exact ⟨⟨A, 0, cur.size, e⟩, _, by rw [← hm.len]; simp, by simp, Nat.le_refl _, hmax, rfl⟩

/-- Is a value of an interface, or nil, there? -/
def ifaceAt (m : Mem) (g : Nat) : Bool :=
  match m.get g with
  | some (.cells [.iface _ _] false) => true
  | some (.cells [.nili] false) => true
  | _ => false

theorem iface_is {P : Program} {ρ : Rho} {m : Mem} {w : World} (hm : MR P ρ m w) {g : Nat} (hlt : g < P.globals.size) (h : ifaceAt m g = true) : ∃ ev, w.cell? ⟨g, 0, none⟩ = some ev ∧ (ev = .nilIface ∨ ∃ te pe, ev = .iface te pe) := by
  obtain ⟨x, hx, h1, h2, h3⟩ := hm.glob g hlt
  unfold ifaceAt at h
  split at h
  · rename_i t v hg
    obtain ⟨x', hx', rc, e, fz, b1, b2, _, _, _⟩ := hm.blk g _ hg
    rw [hx] at hx'; cases hx'
    simp only [VRs, VR] at b2
    obtain ⟨q0, r0, e0, ⟨y, rfl, _⟩, rfl⟩ := b2
    rw [h1] at b1
    rw [h2] at e0
    exact ⟨_, cell_of b1 e0 (i := 0) rfl, .inr ⟨_, _, rfl⟩⟩
  · rename_i hg
    obtain ⟨x', hx', rc, e, fz, b1, b2, _, _, _⟩ := hm.blk g _ hg
    rw [hx] at hx'; cases hx'
    simp only [VRs, VR] at b2
    obtain ⟨q0, r0, e0, rfl, rfl⟩ := b2
    rw [h1] at b1
    rw [h2] at e0
    exact ⟨_, cell_of b1 e0 (i := 0) rfl, .inl rfl⟩
  · cases h

/-- strconv.Atoi. -/
def atoiEv (gS gR t : Nat) (_ : Caller) (args : List AV) (m : Mem) : Option (AV × Mem) :=
  match args with
  | [.str s] => if s.size ≤ 281474976710656 then (if ifaceAt m gS = true then (if ifaceAt m gR = true then match Lib.atoiAll s.data.toList with
      | .ok v => some (.tup [.int .i64 v, .nili], m)
      | Lib.NumEnd.syntax => some (.tup [.int .i64 0, .iface t .unk], m)
      | .range => some (.tup [.int .i64 (Lib.atoiSat s.data.toList), .iface t .unk], m) else none) else none) else none
  | _ => none

theorem atoi_ok {P : Program} {f gS gR t : Nat} {fn : Func} (hf : P.funcs[f]? = some fn) (hn : fn.name ≠ "runtime.NumGoroutine") (hb : fn.body.isSome = true) (hlt : gS < P.globals.size) (hlt' : gR < P.globals.size)
    (hok : ∀ (s : ByteArray) (v : Int) (w : World), s.size ≤ 281474976710656 → Lib.atoiAll s.data.toList = .ok v → Calls P f #[.string s] w fun e w' => e = .returned (.tuple #[.int .i64 v, .nilIface]) ∧ Below w.heap.size w w')
    (hsy : ∀ (s : ByteArray) (ev : Value) (w : World), s.size ≤ 281474976710656 → Lib.atoiAll s.data.toList = Lib.NumEnd.syntax → w.cell? ⟨gS, 0, none⟩ = some ev → (ev = .nilIface ∨ ∃ te pe, ev = .iface te pe) → Calls P f #[.string s] w fun e w' => (∃ p, e = .returned (.tuple #[.int .i64 0, .iface t p])) ∧ Below w.heap.size w w')
    (hra : ∀ (s : ByteArray) (ev : Value) (w : World), s.size ≤ 281474976710656 → Lib.atoiAll s.data.toList = .range → w.cell? ⟨gR, 0, none⟩ = some ev → (ev = .nilIface ∨ ∃ te pe, ev = .iface te pe) → Calls P f #[.string s] w fun e w' => (∃ p, e = .returned (.tuple #[.int .i64 (Lib.atoiSat s.data.toList), .iface t p])) ∧ Below w.heap.size w w') :
    PrimOk P f (atoiEv gS gR t) := by
  intro call _ args m v m' h
  refine ⟨⟨fn, hf, hn, hb⟩, fun ρ rargs w hm ha => ?_⟩
  unfold atoiEv at h
  split at h
  case h_2 => cases h
  rename_i s
  split at h
  case isFalse => cases h
  rename_i h1
  split at h
  case isFalse => cases h
  rename_i h2
  split at h
  case isFalse => cases h
  rename_i h3
  simp only [VRs, VR] at ha
  obtain ⟨r, rest, e1, rfl, rfl⟩ := ha
  have e2 : rargs = #[.string s] := Array.toList_inj.1 e1
  subst e2
  split at h
  · rename_i x hx
    simp only [Option.some.injEq, Prod.mk.injEq] at h
    obtain ⟨rfl, rfl⟩ := h
    refine (hok s x w h1 hx).mono ?_
    rintro e w' ⟨rfl, hw⟩
    refine ⟨_, ρ, rfl, ?_, MStep.newer hm hw⟩
    simp only [VR, VRs]
    exact ⟨_, rfl, _, _, rfl, rfl, _, _, rfl, rfl, rfl⟩
  · rename_i hx
    simp only [Option.some.injEq, Prod.mk.injEq] at h
    obtain ⟨rfl, rfl⟩ := h
    obtain ⟨ev, g1, g2⟩ := iface_is hm hlt h2
    refine (hsy s ev w h1 hx g1 g2).mono ?_
    rintro e w' ⟨⟨p, rfl⟩, hw⟩
    refine ⟨_, ρ, rfl, ?_, MStep.newer hm hw⟩
    simp only [VR, VRs]
    exact ⟨_, rfl, _, _, rfl, rfl, _, _, rfl, ⟨_, rfl, trivial⟩, rfl⟩
  · rename_i hx
    simp only [Option.some.injEq, Prod.mk.injEq] at h
    obtain ⟨rfl, rfl⟩ := h
    obtain ⟨ev, g1, g2⟩ := iface_is hm hlt' h3
    refine (hra s ev w h1 hx g1 g2).mono ?_
    rintro e w' ⟨⟨p, rfl⟩, hw⟩
    refine ⟨_, ρ, rfl, ?_, MStep.newer hm hw⟩
    simp only [VR, VRs]
    exact ⟨_, rfl, _, _, rfl, rfl, _, _, rfl, ⟨_, rfl, trivial⟩, rfl⟩

section
variable {P : Program} {w : World}

/-- A listed variable that points to the table of blanks. -/
theorem white_blk {laid : List (String × DataW Unit)} (hm : laidMet P laid w) {n : String} {d : DataW Unit} (hd : (n, d) ∈ laid) {g : Nat} (hg : P.globalNamed n = some g) {t e : TypeId} (ht : (P.globals[g]?).map (·.type) = some t) (hu : P.underlying t = some (.pointer e))
    (hw : Lib.VarReads P w n d → Lib.WhiteTab g w) :
    ∃ xT xR : At, ∀ (ρ : Rho) (T R : Nat), ρ[T]? = some xT → ρ[R]? = some xR → BR ρ ⟨g, 0, 0, 0⟩ w (.cells [.ptr T 0] false) ∧ BR ρ xT w (.cells [.slice R 0 7 (some 7) 3, .nils, .int .i64 2] false) ∧
      BR ρ xR w (.cells (Lib.whiteT.map fun z => .int .u16 (z : Nat)) false) := by
  obtain ⟨ps, hl, _⟩ := hm
  obtain ⟨g', t', cs, fuel, p, h1, h2, h3, h4⟩ := laid_mem (laid := laid) hl hd
  obtain ⟨T, oT, R, oR, k1, k2, k3, k4, k5⟩ := hw ⟨g', t', cs, fuel, p, h1, h2, h3, h4⟩
  rw [hg] at h1; cases h1
  rw [ht] at h2; cases h2
  obtain ⟨te, fz, hgl⟩ := var_heap hg h3
  have hcs : ∃ v, cs.toList = [v] := by
    rcases DataW.trod_pointer hu h4 with ⟨h, _⟩ | ⟨a, cs', y, n', _, h, _⟩
    · exact ⟨_, h⟩
    · exact ⟨_, h⟩
  obtain ⟨v, hcs⟩ := hcs
  have hcs' : cs = #[v] := Array.toList_inj.1 hcs
  subst hcs'
  have hv : v = .pointer (some ⟨T, oT, none⟩) := by
    unfold World.cell? at k1
    rw [hgl] at k1
    simpa using k1
  subst hv
  have heap_of : ∀ {b o : Nat} {v : Value}, w.cell? ⟨b, o, none⟩ = some v → ∃ rc e fz, w.heap[b]? = some (.cells rc e fz) ∧ rc.toList[o]? = some v := by
    intro b o v h
    unfold World.cell? at h
    split at h
    · rename_i rc e fz hh
      exact ⟨rc, e, fz, hh, by simpa using h⟩
    all_goals simp at h
  obtain ⟨rT, eT, fT, hT, c0⟩ := heap_of k2
  obtain ⟨_, _, _, hT', c1⟩ := heap_of k3
  rw [hT] at hT'; cases hT'
  obtain ⟨_, _, _, hT', c2⟩ := heap_of k4
  rw [hT] at hT'; cases hT'
  obtain ⟨rR, eR, fR, hR, d0⟩ := heap_of (k5 0 (by omega))
  have d : ∀ i, i < 21 → rR.toList[oR + i]? = some (.int .u16 (Lib.whiteT.getD i 0)) := fun i hi => by
    obtain ⟨_, _, _, hR', d1⟩ := heap_of (k5 i hi)
    rw [hR] at hR'; cases hR'
    exact d1
  have hl21 : Lib.whiteT.length = 21 := by decide
  have htk : (rT.toList.drop oT).take 3 = [.slice (some ⟨R, oR, none⟩) 7 7, .slice none 0 0, .int .i64 2] := by
    refine List.ext_getElem? fun i => ?_
    match i with
    | 0 => simpa using c0
    | 1 => simpa using c1
    | 2 => simpa using c2
    | i + 3 => simp; omega
  have hrk : (rR.toList.drop oR).take 21 = Lib.whiteT.map fun z => Value.int .u16 ((z : Nat) : Int) := by
    refine List.ext_getElem? fun i => ?_
    by_cases hi : i < 21
    · rw [List.getElem?_take, if_pos hi, List.getElem?_drop, d i hi, List.getElem?_map, List.getElem?_eq_getElem (by omega)]
      simp [List.getD, List.getElem?_eq_getElem (show i < Lib.whiteT.length by omega)]
    · rw [List.getElem?_take, if_neg hi, List.getElem?_eq_none (by rw [List.length_map]; omega)]
  have lT := congrArg List.length htk
  have lR := congrArg List.length hrk
  simp only [List.length_take, List.length_drop, Array.length_toList, List.length_cons, List.length_nil, List.length_map, hl21] at lT lR
  refine ⟨⟨T, oT, rT.size, 0⟩, ⟨R, oR, rR.size, 0⟩, fun ρ bT bR hbT hbR => ⟨⟨_, te, fz, hgl, ?_, (fun h => by cases h), ?_, ?_⟩, ⟨rT, eT, fT, hT, ?_, (fun h => by cases h), ?_, ?_⟩, ⟨rR, eR, fR, hR, ?_, (fun h => by cases h), ?_, ?_⟩⟩⟩
  · simp only [VRs, VR]
    exact ⟨_, _, rfl, ⟨_, hbT, by simp⟩, rfl⟩
  · simp
  · simp
  · rw [show ([AV.slice bR 0 7 (some 7) 3, .nils, .int .i64 2] : List AV).length = 3 from rfl, htk]
    simp only [VRs, VR]
    exact ⟨_, _, rfl, ⟨_, _, hbR, by simp, Nat.le_refl _, by decide, rfl⟩, _, _, rfl, rfl, _, _, rfl, rfl, rfl⟩
  · simp only [List.length_cons, List.length_nil]; omega
  · intro _ h; dsimp only at h; omega
  · rw [List.length_map, hl21, hrk]
    have : ∀ (l : List Nat), VRs ρ (l.map fun z => AV.int .u16 (z : Nat)) (l.map fun z => Value.int .u16 ((z : Nat) : Int)) := by
      intro l
      induction l with
      | nil => simp [VRs]
      | cons z r ih => simp only [List.map_cons, VRs, VR]; exact ⟨_, _, rfl, rfl, ih⟩
    exact this _
  · rw [List.length_map, hl21]; dsimp only; omega
  · intro _ h; dsimp only at h; omega

/-- A listed variable that holds a value of an interface. -/
theorem iface_blk {laid : List (String × DataW Unit)} (hm : laidMet P laid w) {n name : String} {d : DataW Unit} (hd : (n, .iface name d) ∈ laid) {g : Nat} (hg : P.globalNamed n = some g) {t : TypeId} {ms : Array (String × TypeId)} (ht : (P.globals[g]?).map (·.type) = some t)
    (hu : P.underlying t = some (.interface ms)) : ∃ T : Nat, ∀ ρ : Rho, BR ρ ⟨g, 0, 0, 0⟩ w (.cells [.iface T .unk] false) := by
  obtain ⟨ps, hl, _⟩ := hm
  obtain ⟨g', t', cs, fuel, p, h1, h2, h3, h4⟩ := laid_mem (laid := laid) hl hd
  rw [hg] at h1; cases h1
  rw [ht] at h2; cases h2
  obtain ⟨te, fz, hgl⟩ := var_heap hg h3
  obtain ⟨fuel', u, v, hcs, _, _⟩ := iface_of_trod hu h4
  have hcs' : cs = #[.iface u v] := Array.toList_inj.1 hcs
  subst hcs'
  refine ⟨u, fun ρ => ⟨_, te, fz, hgl, ?_, (fun h => by cases h), ?_, ?_⟩⟩
  · simp only [VRs, VR]
    exact ⟨_, _, rfl, ⟨v, rfl, trivial⟩, rfl⟩
  · simp
  · simp

end
end
end AG
