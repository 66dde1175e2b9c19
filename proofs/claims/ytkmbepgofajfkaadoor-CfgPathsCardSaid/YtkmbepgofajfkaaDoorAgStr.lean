/- The abstract machine, part 23: strconv.Itoa and strings.Join by their contracts. -/
import Derived.Test.YtkmbepgofajfkaaDoorAgBack
import Derived.Lib.ItoaNum
import Derived.Lib.Join
import Derived.Lib.LaidTab
namespace AG
noncomputable section
open Go Go.RowKit

/-- Decimal digits. -/
def digs : Nat → Nat → List UInt8
  | 0, _ => []
  | k + 1, u => if u < 10 then [UInt8.ofNat (48 + u)] else digs k (u / 10) ++ [UInt8.ofNat (48 + u % 10)]

theorem digs_ok : ∀ (k u : Nat), u < 10 ^ (k + 1) → digs (k + 1) u = Lib.decDigits u
  | 0, u, h => by
    have h' : u < 10 := by simpa using h
    rw [Lib.decDigits, dif_pos h', digs, if_pos h']
  | k + 1, u, h => by
    rw [Lib.decDigits, digs]
    by_cases h' : u < 10
    · rw [dif_pos h', if_pos h']
    · rw [dif_neg h', if_neg h', digs_ok k (u / 10) (by rw [Nat.pow_succ] at h; omega)]

def itoaB (n : Nat) : ByteArray := ⟨(digs 20 n).toArray⟩

def tabAt (m : Mem) (g : Nat) (zs : List Int) : Bool :=
  match m.get g with
  | some (.cells c false) => eqL (eqV 2) c (zs.map fun z => .int .u64 z)
  | _ => false

def itoaEv (g : Nat) (_ : Caller) (args : List AV) (m : Mem) : Option (AV × Mem) :=
  match args with
  | [.int .i64 n] => if 0 ≤ n ∧ n ≤ 9223372036854775807 then (if tabAt m g Lib.pow10Tab = true then some (.str (itoaB n.toNat), m) else none) else none
  | _ => none

theorem MStep.newer {P : Program} {ρ : Rho} {m : Mem} {w w' : World} (hm : MR P ρ m w) (hb : Below w.heap.size w w') : MStep P ρ m w ρ m w' :=
  ⟨hm.of_heap (fun _ hk => hb.block _ (AliveM.lt hm hk)), ρ.le_refl, ⟨hb.os, hb.tape, hb.output, hb.size, fun k hk _ => hb.block k hk, fun _ h => .inl h, fun _ h => .inl h⟩⟩

theorem vrs_ints {ρ : Rho} {k : IntKind} : ∀ {zs : List Int} {rs : List Value}, VRs ρ (zs.map fun z => AV.int k z) rs → rs = zs.map fun z => Value.int k z
  | [], rs, h => by simpa only [List.map_nil, VRs] using h
  | z :: r, rs, h => by
    simp only [List.map_cons, VRs, VR] at h
    obtain ⟨q, rest, rfl, rfl, h2⟩ := h
    rw [vrs_ints h2, List.map_cons]

theorem tab_is {P : Program} {ρ : Rho} {m : Mem} {w : World} (hm : MR P ρ m w) {name : String} {g : Nat} (hg : P.globalNamed name = some g) (hlt : g < P.globals.size) {zs : List Int} (h : tabAt m g zs = true) : Lib.TabIs P w name .u64 zs := by
  unfold tabAt at h
  split at h
  · rename_i c hget
    have hc := eqL_spec (eqV_spec 2) h
    obtain ⟨x, hx, h1, h2, h3⟩ := hm.glob g hlt
    obtain ⟨x', hx', rc, e, fz, b1, b2, _, _, b5⟩ := hm.blk g _ hget
    rw [hx] at hx'; cases hx'
    have hsz := b5 rfl h3
    rw [h2, Nat.zero_add] at hsz
    rw [h2, List.drop_zero, List.take_of_length_le (by simp; omega), hc] at b2
    have := vrs_ints b2
    unfold Lib.TabIs World.var?
    rw [hg]
    simp only [Option.bind_some]
    rw [← h1, b1]
    simp only [Option.some.injEq]
    exact Array.toList_inj.1 (by rw [this])
  · cases h

/-- strconv.Itoa. -/
theorem itoa_ok {P : Program} {f g : Nat} {fn : Func} (hf : P.funcs[f]? = some fn) (hn : fn.name ≠ "runtime.NumGoroutine") (hb : fn.body.isSome = true) {name : String} (hg : P.globalNamed name = some g) (hlt : g < P.globals.size)
    (hc : ∀ (n : Int) (w : World), 0 ≤ n → n ≤ 9223372036854775807 → Lib.TabIs P w name .u64 Lib.pow10Tab → Calls P f #[.int .i64 n] w fun e w' => e = .returned (.string ⟨(Lib.itoa n).toArray⟩) ∧ Below w.heap.size w w') : PrimOk P f (itoaEv g) := by
  intro call _ args m v m' h
  refine ⟨⟨fn, hf, hn, hb⟩, fun ρ rargs w hm ha => ?_⟩
  unfold itoaEv at h
  split at h
  · rename_i n
    split at h
    · rename_i hb
      split at h
      · rename_i ht
        simp only [Option.some.injEq, Prod.mk.injEq] at h
        obtain ⟨rfl, rfl⟩ := h
        simp only [VRs, VR] at ha
        obtain ⟨r, rest, e1, rfl, rfl⟩ := ha
        have e2 : rargs = #[.int .i64 n] := Array.toList_inj.1 e1
        subst e2
        refine (hc n w hb.1 hb.2 (tab_is hm hg hlt ht)).mono ?_
        rintro e w' ⟨rfl, hw⟩
        refine ⟨_, ρ, rfl, ?_, MStep.newer hm hw⟩
        simp only [VR]
        have h1 : n.toNat < 10 ^ (19 + 1) := by
          have : (10 : Nat) ^ (19 + 1) = 100000000000000000000 := by decide
          omega
        have h2 : ¬ n < 0 := by omega
        rw [itoaB, digs_ok 19 _ h1, Lib.itoa, if_neg h2]
      · cases h
    · cases h
  · cases h

def strsOf : List AV → Option (List ByteArray)
  | [] => some []
  | .str s :: r => (strsOf r).map (s :: ·)
  | _ :: _ => none

theorem strsOf_ok {ρ : Rho} : ∀ {l : List AV} {xs : List ByteArray} {rs : List Value}, strsOf l = some xs → VRs ρ l rs → rs = xs.map Value.string
  | [], xs, rs, h, hv => by
    simp only [strsOf, Option.some.injEq] at h; subst h
    rw [List.map_nil]; simpa only [VRs] using hv
  | .str s :: r, xs, rs, h, hv => by
    simp only [strsOf, Option.map_eq_some_iff] at h
    obtain ⟨ys, h1, rfl⟩ := h
    simp only [VRs, VR] at hv
    obtain ⟨q, rest, rfl, rfl, h2⟩ := hv
    rw [strsOf_ok h1 h2]; rfl
  | .unk :: _, _, _, h, _ | .bool _ :: _, _, _, h, _ | .int _ _ :: _, _, _, h, _ | .nilp :: _, _, _, h, _ | .ptr _ _ :: _, _, _, h, _ | .loc _ _ :: _, _, _, h, _ | .nils :: _, _, _, h, _ | .es :: _, _, _, h, _
  | .slice _ _ _ _ _ :: _, _, _, h, _ | .nilm :: _, _, _, h, _ | .map _ :: _, _, _, h, _ | .fn _ _ :: _, _, _, h, _ | .nilf :: _, _, _, h, _ | .nili :: _, _, _, h, _ | .iface _ _ :: _, _, _, h, _
  | .agg _ :: _, _, _, h, _ | .tup _ :: _, _, _, h, _ => by simp [strsOf] at h

def joinB (xs : List ByteArray) (sep : ByteArray) : ByteArray := ⟨(Lib.join (xs.map (·.data.toList)) sep.data.toList).toArray⟩

def mSt (m : Mem) : St := { n := 0, t := [], l := [], m }

def joinEv (_ : Caller) (args : List AV) (m : Mem) : Option (AV × Mem) :=
  match args with
  | [x, .str sep] => match rowAt (mSt m) x with
    | some l => match strsOf l with
      | some xs => if l.length = lenH x ∧ l.length ≤ 2 ^ 40 ∧ (Lib.join (xs.map (·.data.toList)) sep.data.toList).length ≤ 140737488355328 then some (.str (joinB xs sep), m) else none
      | none => none
    | none => none
  | _ => none

theorem mSt_ok {P : Program} {ρ : Rho} {m : Mem} {w : World} (hm : MR P ρ m w) : SR P ρ (fun _ => 0) (mSt m) { tmps := #[], defers := [] } w :=
  ⟨rfl, rfl, fun u => by simp [mSt, look_nil, VT, VR], fun u t o h => by simp [mSt, look_nil] at h, fun t c h => by simp [mSt, lookL_nil] at h, fun t t' c c' h => by simp [mSt, lookL_nil] at h, fun t c h => by simp [mSt, lookL_nil] at h, hm⟩

/-- What the slice holds, in the model. -/
theorem slice_cells {P : Program} {ρ : Rho} {lam : Nat → Nat} {s : St} {a : Act} {w : World} (hs : SR P ρ lam s a w) {r : Value} {hv : AV} {xs : List AV} (h : VR ρ hv r) (h2 : rowAt s hv = some xs) :
    ∃ (q : Option Addr) (cap : Nat) (zs : List Value), r = .slice q (lenH hv) cap ∧ VRs ρ xs zs ∧ (lenH hv = 0 ∨ lenH hv ≤ cap ∧ ∃ bk o, q = some ⟨bk, o, none⟩ ∧ ∀ j, j < lenH hv → w.cell? ⟨bk, o + j, none⟩ = zs[j]?) := by
  unfold rowAt at h2
  split at h2
  · cases h2
    simp only [VR] at h; subst h
    exact ⟨none, 0, [], rfl, by simp [VRs], .inl rfl⟩
  · rename_i b o n c e'
    have h' := h
    simp only [VR] at h
    obtain ⟨x, C, hx', rfl, hle, hrest⟩ := h
    split at h2
    · rename_i hn
      cases h2
      exact ⟨_, C, [], rfl, by simp [VRs], .inl hn⟩
    · obtain ⟨b1, o1, zs, e1, l1, l2, l3⟩ := read_ok (r := .pointer (some ⟨x.blk, x.off + o, none⟩)) hs (VT.of_vr (by simp only [VR]; exact ⟨x, hx', rfl⟩)) h2
      cases e1
      refine ⟨_, C, zs, rfl, l1, .inr ⟨hle, x.blk, x.off + o, rfl, fun j hj => ?_⟩⟩
      simp only [lenH] at hj
      have hj' : j < zs.length := by omega
      rw [List.getElem?_eq_getElem hj']
      exact l3 j _ (List.getElem?_eq_getElem hj')
  · cases h2

/-- strings.Join. -/
theorem join_ok {P : Program} {f : Nat} {fn : Func} (hf : P.funcs[f]? = some fn) (hn : fn.name ≠ "runtime.NumGoroutine") (hb : fn.body.isSome = true)
    (h0 : ∀ (a : Option Addr) (c : Nat) (sep : ByteArray) (w : World), Calls P f #[.slice a 0 c, .string sep] w fun e w' => e = .returned (.string ⟨#[]⟩) ∧ w' = w)
    (hc : ∀ (bk o c : Nat) (xs : List ByteArray) (sep : ByteArray) (w : World), (∀ (j : Nat) x, xs[j]? = some x → w.cell? ⟨bk, o + j, none⟩ = some (.string x)) → bk < w.heap.size → xs.length ≤ 140737488355328 → xs.length ≤ c →
      (Lib.join (xs.map (·.data.toList)) sep.data.toList).length ≤ 140737488355328 →
      Calls P f #[.slice (some ⟨bk, o, none⟩) xs.length c, .string sep] w fun e w' => e = .returned (.string ⟨(Lib.join (xs.map (·.data.toList)) sep.data.toList).toArray⟩) ∧ Below w.heap.size w w') : PrimOk P f joinEv := by
  intro call _ args m v m' h
  refine ⟨⟨fn, hf, hn, hb⟩, fun ρ rargs w hm ha => ?_⟩
  unfold joinEv at h
  split at h
  case h_2 => cases h
  rename_i x sep
  split at h
  case h_2 => cases h
  rename_i l hl
  split at h
  case h_2 => cases h
  rename_i xs hxs
  split at h
  case isFalse => cases h
  rename_i hcond
  obtain ⟨c1, c2, c3⟩ := hcond
  simp only [Option.some.injEq, Prod.mk.injEq] at h
  obtain ⟨rfl, rfl⟩ := h
  simp only [VRs, VR] at ha
  obtain ⟨r, rest, e1, hr, r2, rest2, rfl, rfl, rfl⟩ := ha
  have e2 : rargs = #[r, .string sep] := Array.toList_inj.1 e1
  subst e2
  obtain ⟨q, cap, zs, rfl, hz, hq⟩ := slice_cells (mSt_ok hm) hr hl
  have hzs := strsOf_ok hxs hz
  have hlen : xs.length = lenH x := by rw [← c1, ← hz.length, hzs, List.length_map]
  rcases hq with h00 | ⟨hcap, bk, o, rfl, hcell⟩
  · have hx0 : xs = [] := List.length_eq_zero_iff.1 (by omega)
    subst hx0
    rw [h00]
    refine (h0 q cap sep w).mono ?_
    rintro e w' ⟨rfl, rfl⟩
    exact ⟨_, ρ, rfl, by simp [VR, joinB, Lib.join_nil], MStep.refl hm⟩
  · by_cases h00 : lenH x = 0
    · have hx0 : xs = [] := List.length_eq_zero_iff.1 (by omega)
      subst hx0
      rw [h00]
      refine (h0 _ cap sep w).mono ?_
      rintro e w' ⟨rfl, rfl⟩
      exact ⟨_, ρ, rfl, by simp [VR, joinB, Lib.join_nil], MStep.refl hm⟩
    · have hcells : ∀ (j : Nat) y, xs[j]? = some y → w.cell? ⟨bk, o + j, none⟩ = some (.string y) := fun j y hy => by
        have hj := (List.getElem?_eq_some_iff.1 hy).1
        rw [hcell j (by omega), hzs, List.getElem?_map, hy]; rfl
      have hbk : bk < w.heap.size := by
        obtain ⟨y, hy⟩ : ∃ y, xs[0]? = some y := ⟨_, List.getElem?_eq_getElem (by omega)⟩
        have := hcells 0 y hy
        unfold World.cell? at this
        cases hk : w.heap[bk]? with
        | none => simp [hk] at this
        | some _ => exact (Array.getElem?_eq_some_iff.1 hk).1
      rw [← hlen]
      refine (hc bk o cap xs sep w hcells hbk (by omega) (by omega) c3).mono ?_
      rintro e w' ⟨rfl, hw⟩
      exact ⟨_, ρ, rfl, by simp only [VR, joinB], MStep.newer hm hw⟩
end
end AG
