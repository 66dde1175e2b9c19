/- What the functions of instructions and their texts compute, and the laws of that. -/
import Derived.Test.YtekljfhfjncmjaaDoorAgCgT
namespace AG
open Go Go.Proofs.YtekljfhfjncmjaaDoor
set_option maxRecDepth 100000
set_option maxHeartbeats 4000000



theorem logOk_nil' : logOk [] = true := rfl
def powC : List AV := Lib.pow10Tab.map fun z => .int .u64 z
/-- The tables, and the powers of ten. -/
structure Tab2 (m : Mem) : Prop where
  t : Tab m
  p : m.get 7 = some (.cells powC false)
theorem pow_at {m : Mem} (h : Tab2 m) : tabAt m 7 Lib.pow10Tab = true := by
  unfold tabAt
  rw [h.p]
  show eqL (eqV 2) (Lib.pow10Tab.map fun z => AV.int .u64 z) (Lib.pow10Tab.map fun z => AV.int .u64 z) = true
  decide +kernel
theorem Tab2.ext {m m' : Mem} (h : Tab2 m) (k : Ext m m') (hn : 13 ≤ m.n) : Tab2 m' :=
  ⟨⟨(k.2 0 (by omega)).trans h.t.k, (k.2 2 (by omega)).trans h.t.s, (k.2 12 (by omega)).trans h.t.t⟩, (k.2 7 (by omega)).trans h.p⟩
theorem sign_at (n : Nat) (x : Int) (m : Mem) (hT : Tab m) (h : 1 ≤ x ∧ x ≤ 19) : run A (n + 2) 36 [.int .i64 x] m = some (.str (signB x.toNat), m) := by
  obtain ⟨s, hs, hn⟩ := signs_at x.toNat (by omega)
  have hb' : signB x.toNat = s := by unfold signB strAt; rw [hs]
  rw [hb', run_36]
  have c := right_spec n x
  unfold fnEv a36
  simp only [h.1, h.2, decide_true, Bool.and_true] at c ⊢
  have hs' : signs[0 + x.toNat * 1]? = some (.str s) := by rw [Nat.zero_add, Nat.mul_one]; exact hs
  have hb : 0 ≤ x ∧ x < ((20 : Nat) : Int) := by omega
  have hc2 : cellsAt signs (0 + x.toNat * 1) 1 = some [.str s] := by
    have hlt := (List.getElem?_eq_some_iff.1 hs').1
    have hv := (List.getElem?_eq_some_iff.1 hs').2
    unfold cellsAt
    rw [if_pos (by omega), List.drop_eq_getElem_cons hlt, hv]
    rfl
  simp only [codeEv, opsEv, oneEv, guardEv, opEv, St.opd, look_nil, look_cons, setT_nil, setT_cons, St.put, St.read, argsT, resEv, in_int, loc_int, loc_str, unEv, callWith, keepT, keepL, List.map, List.length, List.any, Option.map_some, Nat.reduceEqDiff, Nat.reduceAdd, Nat.reduceLT, if_true, if_false, Bool.or_false, Bool.not_true, Bool.false_eq_true, c, hT.s, hb, and_self, cells_one hs']
theorem un_at (n : Nat) (x : Int) (m : Mem) (h : x = 1 ∨ x = 2 ∨ x = 3) : run A (n + 1) 37 [.int .i64 x] m = some (.str (unB x.toNat), m) := by
  rw [run_37]
  unfold fnEv a37
  rcases h with rfl | rfl | rfl
  · simp only [codeEv, opsEv, oneEv, guardEv, opE_mov, opE_bin, St.opd, look_set, look_nil, look_cons, St.put, argsT, resEv, bin_ieq, in_int, loc_str, keepL, List.map, List.length, Option.map_some, Nat.reduceEqDiff, Int.reduceEq, Nat.reduceAdd, Nat.reduceLT, if_true, if_false, Bool.false_eq_true, Nat.succ_ne_self, decide_true, decide_false, keepT_setT, keepT_lit]; rfl
  · simp only [codeEv, opsEv, oneEv, guardEv, opE_mov, opE_bin, St.opd, look_set, look_nil, look_cons, St.put, argsT, resEv, bin_ieq, in_int, loc_str, keepL, List.map, List.length, Option.map_some, Nat.reduceEqDiff, Int.reduceEq, Nat.reduceAdd, Nat.reduceLT, if_true, if_false, Bool.false_eq_true, Nat.succ_ne_self, decide_true, decide_false, keepT_setT, keepT_lit]; rfl
  · simp only [codeEv, opsEv, oneEv, guardEv, opE_mov, opE_bin, St.opd, look_set, look_nil, look_cons, St.put, argsT, resEv, bin_ieq, in_int, loc_str, keepL, List.map, List.length, Option.map_some, Nat.reduceEqDiff, Int.reduceEq, Nat.reduceAdd, Nat.reduceLT, if_true, if_false, Bool.false_eq_true, Nat.succ_ne_self, decide_true, decide_false, keepT_setT, keepT_lit]; rfl
theorem itoa_at (n : Nat) (x : Int) (m : Mem) (hT : Tab2 m) (h : 0 ≤ x ∧ x ≤ 4294967295) : run A (n + 1) 38 [.int .i64 x] m = some (.str (itoaB x.toNat), m) := by
  rw [run_38]
  unfold fnEv a38 primFn
  dsimp only
  unfold itoaEv
  dsimp only
  rw [if_pos (by omega), if_pos (pow_at hT)]

/-- A row of texts that this call has made. -/
def PS (n0 : Nat) (m : Mem) (v : AV) (ps : List ByteArray) : Prop := ∃ b cap, v = .slice b 0 ps.length cap 1 ∧ n0 ≤ b ∧ m.get b = some (.cells (ps.map .str) true) ∧ (cap = none ∨ cap = some ps.length)
theorem PS.plain {n0 : Nat} {m : Mem} {v : AV} {ps : List ByteArray} (h : PS n0 m v ps) : (∀ ls, AV.locIn ls v = true) ∧ v.isLoc = false := by
  obtain ⟨b, cap, rfl, _⟩ := h
  exact ⟨fun _ => rfl, rfl⟩
theorem app_ps {n0 : Nat} {m : Mem} {v : AV} {ps : List ByteArray} (h : PS n0 m v ps) (x : ByteArray) (hn : n0 ≤ m.n) (hmn : m.n + 2 ≤ 2 ^ depth) (hl : ps.length ≤ 1000) :
    ∃ v' m', (∀ sn t l, appEv ⟨sn, t, l, m.push (.cells [.str x] true)⟩ none 1 16 v (.slice m.n 0 1 (some 1) 1) = some (v', ⟨sn, t, l, m'⟩)) ∧ PS n0 m' v' (ps ++ [x]) ∧ m'.n = m.n + 2 ∧ (∀ i, i < n0 → m'.get i = m.get i) := by
  obtain ⟨b, cap, rfl, hb, hg, hc⟩ := h
  have hf : m.full = false := not_full (by omega)
  have hbl := Mem.get_lt hg
  have hnew := Mem.get_push_new (m := m) (.cells [.str x] true)
  have hold : ∀ i, i < m.n → (m.push (.cells [.str x] true)).get i = m.get i := fun i hi => Mem.get_push_old _ hf (by omega)
  have hgp : (m.push (.cells [.str x] true)).get b = some (.cells (ps.map .str) true) := (hold b (by omega)).trans hg
  rcases hc with rfl | rfl
  · have hos : OS 1 n0 (m.push (.cells [.str x] true)) (.slice b 0 ps.length none 1) (ps.map .str) ps.length := .inr ⟨b, hb, rfl, hgp, by simp⟩
    obtain ⟨v', m', e1, e2, e3, e4⟩ := app_spec (ty := none) (bytes := 16) (by omega) hos (by' := m.n) (cp := some 1) (e := [.str x]) (ow := true) hnew rfl rfl (by rw [push_n]; omega) (by rw [push_n]; omega) (by omega) (by unfold maxLen; omega)
    refine ⟨v', m', e1, ?_, by rw [e3, push_n], fun i hi => (e4 i hi).trans (hold i (by omega))⟩
    rcases e2 with ⟨_, h2, _⟩ | ⟨b', h1, h2, h3, _⟩
    · simp at h2
    · exact ⟨b', none, by rw [h2, List.length_append]; rfl, h1, by rw [h3, List.map_append]; rfl, .inl rfl⟩
  · have hf2 : (m.push (.cells [.str x] true)).full = false := not_full (by rw [push_n]; omega)
    have hel : ∀ sn t l, (AV.slice m.n 0 1 (some 1) 1).elems ⟨sn, t, l, m.push (.cells [.str x] true)⟩ 1 = some (1, [.str x]) := by
      intro sn t l
      simp only [AV.elems, hnew]
      rfl
    refine ⟨.slice (m.n + 1) 0 (ps.length + 1) none 1, ((m.push (.cells [.str x] true)).push (.cells (ps.map .str ++ [.str x]) true)).noteO (m.n + 1) none, fun sn t l => ?_, ⟨m.n + 1, none, by simp, by omega, ?_, .inl rfl⟩, by rw [noteO_n, push_n, push_n], fun i hi => ?_⟩
    · have c1 : ¬ (ps.length + 1 ≤ ps.length) := by omega
      have c2 : cellsAt (ps.map AV.str) 0 (ps.length * 1) = some (ps.map .str) := by
        unfold cellsAt
        rw [if_pos (by simp), List.drop_zero, List.take_of_length_le (by simp)]
      have c4 : [AV.str x].all AV.one = true := rfl
      simp only [appEv, hel, c4, if_true, hf2, Bool.false_eq_true, if_false, hgp, if_neg c1, c2]
      rw [if_pos (by constructor <;> (try unfold maxLen) <;> omega)]
      rfl
    · rw [Mem.get_noteO, List.map_append]
      have := Mem.get_push_new (m := m.push (.cells [.str x] true)) (.cells (ps.map .str ++ [.str x]) true)
      rw [push_n] at this
      exact this
    · rw [Mem.get_noteO, Mem.get_push_old _ hf2 (by rw [push_n]; omega), hold i (by omega)]

end AG
