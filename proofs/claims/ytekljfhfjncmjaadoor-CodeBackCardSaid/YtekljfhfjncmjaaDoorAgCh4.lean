/- What the functions of instructions and their texts compute, and the laws of that. -/
import Derived.Test.YtekljfhfjncmjaaDoorAgCh3
namespace AG
open Go Go.Proofs.YtekljfhfjncmjaaDoor
set_option maxRecDepth 100000
set_option maxHeartbeats 4000000
theorem lenD : ∀ (f : Nat) (cur l : List UInt8), ∀ x ∈ Lib.fieldsGoD f cur l, x.length ≤ cur.length + l.length
  | 0, cur, l, x, h => by
    unfold Lib.fieldsGoD at h
    split at h
    · cases h
    · simp only [List.mem_singleton] at h; subst h; omega
  | f + 1, cur, l, x, h => by
    unfold Lib.fieldsGoD at h
    have hd : (l.drop (Lib.decodeL l).2).length ≤ l.length := by rw [List.length_drop]; omega
    split at h
    · split at h
      · cases h
      · simp only [List.mem_singleton] at h; subst h; omega
    · split at h
      · rcases List.mem_append.1 h with h | h
        · split at h
          · cases h
          · simp only [List.mem_singleton] at h; subst h; omega
        · have := lenD f [] _ x h
          simp only [List.length_nil] at this
          omega
      · have := lenD f _ _ x h
        rw [List.length_append, List.length_take, List.length_drop] at this
        omega
/-- The words of a text. -/
def wordsB (s : ByteArray) : List ByteArray := (Lib.fieldsD s.data.toList).map fun x => ⟨x.toArray⟩
theorem words_len (s : ByteArray) : ∀ w ∈ wordsB s, w.size ≤ s.size := by
  intro w h
  obtain ⟨x, hx, rfl⟩ := List.mem_map.1 h
  have := lenD _ _ _ x hx
  rw [List.length_nil, Nat.zero_add, Array.length_toList] at this
  show x.toArray.size ≤ s.data.size
  rw [List.size_toArray]
  exact this
def insOf (s w0 : ByteArray) (ws : List ByteArray) : Option (Nat × Int × Int × Int) :=
  if opOf w0 24 1 0 = 0 then none else
  match vals [kx 1 (opOf w0 24 1 0), kx 2 (opOf w0 24 1 0), kx 3 (opOf w0 24 1 0)] ws with
  | some [a, b, c] => if (textB (opOf w0 24 1 0) a b c).toList == s.toList then some (opOf w0 24 1 0, a, b, c) else none
  | _ => none
/-- The instruction of a text. -/
def parseP (s : ByteArray) : Option (Nat × Int × Int × Int) :=
  match wordsB s with
  | [] => none
  | w0 :: ws => if 4 < (w0 :: ws).length then none else insOf s w0 ws
def parseAV : Option (Nat × Int × Int × Int) → AV
  | none => .tup [.agg [.int .i64 0, .int .i64 0, .int .i64 0, .int .i64 0], .int .i64 11]
  | some (op, a, b, c) => .tup [.agg [.int .i64 (op : Int), .int .i64 a, .int .i64 b, .int .i64 c], .int .i64 0]
/-- What stands where a text is parsed. -/
structure TP (m : Mem) : Prop where
  t : Tab2 m
  i5 : ifaceAt m 5 = true
  i6 : ifaceAt m 6 = true
  sp : tabAtK .u8 m 3 Lib.asciiSpaceTab = true
  wh : whiteAt m 4 = true
  n : 15 ≤ m.n
theorem whiteAt_ext {m m' : Mem} {g : Nat} (k : Ext m m') (h : whiteAt m g = true) : whiteAt m' g = true := by
  unfold whiteAt at h
  split at h
  case h_2 => cases h
  rename_i T hg
  split at h
  case h_2 => cases h
  rename_i R hT
  split at h
  case h_2 => cases h
  rename_i c hR
  have g1 := (k.2 _ (Mem.get_lt hg)).trans hg
  have g2 := (k.2 _ (Mem.get_lt hT)).trans hT
  have g3 := (k.2 _ (Mem.get_lt hR)).trans hR
  unfold whiteAt
  simp only [g1, g2, g3]
  exact h
theorem TP.ext {m m' : Mem} (h : TP m) (k : Ext m m') : TP m' := by
  have hn := h.n
  refine ⟨h.t.ext k (by omega), ?_, ?_, ?_, whiteAt_ext k h.wh, Nat.le_trans h.n k.1⟩
  · unfold ifaceAt; rw [k.2 5 (by omega)]; exact h.i5
  · unfold ifaceAt; rw [k.2 6 (by omega)]; exact h.i6
  · unfold tabAtK; rw [k.2 3 (by omega)]; exact h.sp
theorem fields_at (n : Nat) (s : ByteArray) (m : Mem) (h : TP m) (hs : s.size < 4294967281) (hf : m.full = false) : run A (n + 1) 40 [.str s] m = some (.slice m.n 0 (wordsB s).length (some (wordsB s).length) 1, m.push (.cells ((wordsB s).map AV.str) true)) := by
  rw [run_40]
  unfold fnEv a40 primFn
  try dsimp only
  unfold fieldsEv
  try dsimp only
  rw [if_pos hs, if_pos h.sp, if_pos h.wh, if_neg (by rw [hf]; simp)]
  unfold wordsB
  rw [List.map_map, List.length_map, List.length_map]
  rfl
theorem text_run (N : Nat) (hN : 12 ≤ N) (op a b c : Int) (m : Mem) (hT : Tab2 m) (h13 : 13 ≤ m.n) (hmn : m.n + 8 ≤ 2 ^ depth) :
    ∃ m', run A N 13 [.agg [.int .i64 op, .int .i64 a, .int .i64 b, .int .i64 c]] m = some (.str (textB op a b c), m') ∧ Ext m m' ∧ m'.n ≤ m.n + 8 := by
  cases hk : codeOk op a b c
  · refine ⟨m, ?_, Ext.refl m, by omega⟩
    rw [textB, if_neg (by rw [hk]; simp)]
    exact text_bad N hN op a b c m hT.t hk
  · obtain ⟨m', h1, h2, h3⟩ := text_good N hN op a b c m hT h13 hmn hk
    refine ⟨m', ?_, h2, h3⟩
    rw [textB, if_pos hk]
    exact h1
theorem opOf_lt (s : ByteArray) : ∀ (k n acc : Nat), opOf s k n acc = acc ∨ (n ≤ opOf s k n acc ∧ opOf s k n acc < n + k)
  | 0, n, acc => .inl rfl
  | k + 1, n, acc => by
    unfold opOf
    rcases opOf_lt s k (n + 1) (if ((nameB n).toList == s.toList) = true then n else acc) with h | h
    · rw [h]
      split
      · exact .inr (by omega)
      · exact .inl rfl
    · exact .inr (by omega)
theorem vals_len : ∀ (ks : List Int) (ws : List ByteArray) (l : List Int), vals ks ws = some l → l.length = ks.length
  | [], _, l, h => by simp only [vals, Option.some.injEq] at h; subst h; rfl
  | k :: ks, [], l, h => by simp only [vals, Option.some.injEq] at h; subst h; simp
  | k :: ks, w :: ws, l, h => by
    rw [vals] at h
    split at h
    · cases hr : vals ks ws with
      | none => rw [hr] at h; cases h
      | some r =>
        rw [hr] at h
        simp only [Option.map_some, Option.some.injEq] at h
        subst h
        simp [vals_len ks ws r hr]
    · cases h

theorem parse_few (n : Nat) (s : ByteArray) (m : Mem) (hT : TP m) (hs : s.size < 4294967281) (hf : m.full = false) (hw : (wordsB s).length = 0 ∨ 4 < (wordsB s).length) :
    run A (n + 2) 15 [.str s] m = some (parseAV none, m.push (.cells ((wordsB s).map AV.str) true)) := by
  have hF := fields_at n s m hT hs hf
  rw [run_15]
  unfold fnEv a15 a15_R1
  rcases hw with hw | hw
  · rw [hw] at hF
    simp only [codeEv, opsEv, oneEv, guardEv, opE_mov, opE_pick, opE_alloc, opE_load1, opE_loadk, opE_store, opE_bin, opE_faddr, opE_call, opE_lenL, lenR_slice, St.opd, look_set, look_nil, look_cons, St.put, St.new, St.read, St.write, lookL_nil, lookL_cons, setL_nil, splice, argsT, resEv, bin_ieq, in_str, in_slice, in_loc, List.contains_cons, List.contains_nil, loc_str, fillEv, callWith, keepL, List.map, List.length, List.take, List.any, List.nil_append, Option.map_some, Nat.reduceEqDiff, Nat.reduceAdd, Nat.reduceLeDiff, Nat.reduceLT, if_true, if_false, Bool.or_false, beq_self_eq_true, Bool.false_eq_true, Nat.succ_ne_self, keepT_setT, keepT_lit, opE_build, hF]
    rfl
  · have h0 : ¬ (((wordsB s).length : Int) = 0) := by omega
    have h4 : ((wordsB s).length : Int) > 4 := by omega
    simp only [codeEv, opsEv, oneEv, guardEv, opE_mov, opE_pick, opE_alloc, opE_store, opE_bin, opE_call, opE_lenL, lenR_slice, St.opd, look_set, look_nil, look_cons, St.put, St.new, St.read, St.write, lookL_nil, lookL_cons, setL_nil, setL_cons, cellsAt_cons, splice, argsT, resEv, bin_igt, bin_ieq, in_str, in_slice, in_loc, List.contains_cons, List.contains_nil, one_int, loc_int, loc_str, loc_agg, cells_agg, fillEv, callWith, keepL, List.append_nil, List.map, List.length, List.take, List.drop, List.all, List.any, List.nil_append, List.take_succ_cons, List.drop_succ_cons, Option.map_some, Nat.reduceEqDiff, Nat.reduceAdd, Nat.reduceLeDiff, Nat.reduceLT, if_true, if_false, Bool.and_true, Bool.or_false, Bool.not_false, List.isEmpty_cons, beq_self_eq_true, Bool.false_eq_true, Nat.succ_ne_self, decide_true, decide_false, keepT_setT, keepT_lit, List.take_succ_cons, opE_build, hF, h0, h4]
    rfl
theorem d00 : decide (((0 : Nat) : Int) = 0) = true := rfl
theorem loop_opsq (s w0 : ByteArray) (b B nw : Nat) (hw : 0 < nw) (wc : List AV) (hw0 : cellsAt wc 0 1 = some [.str w0]) (x y z : AV) (cs : List AV) (h13 : 13 ≤ B) (hbB : b ≠ B) (N : Nat) (m : Mem) (T : List (Nat × AV)) (L : List (Nat × List AV)) {q : Option (Ex × St)} (hq : codeEv (run A N) (ev A N).2 a15_L2 ⟨119, T, L, m⟩ = q) (hN : 24 ≤ N) (hBm : B < m.n) (hmn : m.n ≤ 2 ^ depth) (hT : Tab m) (hb : m.get b = some (.cells wc true)) (hB : m.get B = some (.cells [.int .i64 0, x, y, z] true)) (hL : lookL L 2 = some cs) (hk : keepT [0, 2, 4, 5, 6] [2] T = [(0, .str s), (2, .loc 2 0), (4, .slice b 0 nw (some nw) 1), (5, .ptr B 0), (6, .int .i64 1)]) :
    ∃ T' L' m', q = some (.exit 0, ⟨119, T', L', m'⟩) ∧ lookL L' 2 = some cs ∧ keepT [0, 2, 4, 5] [2] T' = [(0, .str s), (2, .loc 2 0), (4, .slice b 0 nw (some nw) 1), (5, .ptr B 0)] ∧ SB B m m' ∧ m'.get B = some (.cells [.int .i64 (opOf w0 24 1 0 : Int), x, y, z] true) := by
  subst hq
  exact loop_ops s w0 b B nw hw wc hw0 x y z cs h13 hbB 24 1 0 N m T L (by omega) (by omega) hN hBm hmn hT hb hB hL hk
theorem parse_go (n : Nat) (hn : 70 ≤ n) (s : ByteArray) (m : Mem) (hT : TP m) (hs : s.size < 4294967281) (hmn : m.n + 20 ≤ 2 ^ depth) (w0 : ByteArray) (ws : List ByteArray) (hws : wordsB s = w0 :: ws) (h4 : ¬ 4 < (w0 :: ws).length) :
    ∃ m', run A (n + 2) 15 [.str s] m = some (parseAV (insOf s w0 ws), m') ∧ Ext m m' ∧ m'.n ≤ m.n + 12 := by
  have hf : m.full = false := not_full (by omega)
  have hF := fields_at n s m hT hs hf
  have hwl := words_len s
  have hnw : (wordsB s).length = ws.length + 1 := by rw [hws]; rfl
  have hW0 : (wordsB s)[0]? = some w0 := by rw [hws]; rfl
  have hWd : (wordsB s).drop 1 = ws := by rw [hws]; rfl
  rw [List.length_cons] at h4
  generalize wordsB s = W at *
  have hn15 := hT.n
  have hf1 : (m.push (.cells (W.map AV.str) true)).full = false := not_full (by rw [push_n]; omega)
  have x1 : Ext m (m.push (.cells (W.map AV.str) true)) := (Ext.refl m).push _ (by omega)
  have x2 : Ext m ((m.push (.cells (W.map AV.str) true)).push (.cells [.int .i64 0, .int .i64 0, .int .i64 0, .int .i64 0] true)) := x1.push _ (by rw [push_n]; omega)
  have T2 := hT.ext x2
  have h0 : ¬ ((W.length : Int) = 0) := by omega
  have h5 : ¬ ((W.length : Int) > 4) := by omega
  have hb2 : ((m.push (.cells (W.map AV.str) true)).push (.cells [.int .i64 0, .int .i64 0, .int .i64 0, .int .i64 0] true)).get m.n = some (.cells (W.map AV.str) true) := by
    rw [Mem.get_push_old _ hf1 (by rw [push_n]; omega), Mem.get_push_new]
  have hB2 : ((m.push (.cells (W.map AV.str) true)).push (.cells [.int .i64 0, .int .i64 0, .int .i64 0, .int .i64 0] true)).get (m.n + 1) = some (.cells [.int .i64 0, .int .i64 0, .int .i64 0, .int .i64 0] true) := Mem.get_push_new _
  rw [run_15]
  unfold fnEv a15 a15_R1
  simp only [codeEv, opsEv, oneEv, guardEv, opE_mov, opE_pick, opE_alloc, opE_load1, opE_loadk, opE_store, opE_bin, opE_faddr, opE_call, opE_lenL, lenR_slice, St.opd, look_set, look_nil, look_cons, St.put, St.new, St.read, St.write, lookL_nil, lookL_cons, setL_nil, setL_cons, splice, argsT, resEv, bin_igt, bin_ieq, in_str, in_ptr, in_slice, in_loc, List.contains_cons, List.contains_nil, one_int, loc_str, cells_agg, fillEv, callWith, keepL, List.append_nil, List.map, List.length, List.take, List.drop, List.all, List.any, List.nil_append, List.drop_succ_cons, Option.map_some, Nat.reduceEqDiff, Nat.reduceAdd, Nat.reduceLeDiff, Nat.reduceLT, if_true, if_false, Bool.and_true, Bool.or_false, Bool.not_false, List.isEmpty_cons, beq_self_eq_true, Bool.false_eq_true, Nat.succ_ne_self, decide_false, keepT_setT, keepT_lit, opE_build, push_n, hF, h0, h5, hf1]
  generalize hm2 : (m.push (.cells (W.map AV.str) true)).push (.cells [.int .i64 0, .int .i64 0, .int .i64 0, .int .i64 0] true) = m2 at *
  generalize hq : codeEv (run A (n + 1)) (ev A (n + 1)).2 a15_L2 _ = q
  have hBm : m.n + 1 < m2.n := by rw [← hm2, push_n, push_n]; omega
  have hfull : m2.n ≤ 2 ^ depth := by rw [← hm2, push_n, push_n]; omega
  obtain ⟨T', L', m3, rfl, hL', hk', hs3, hB3⟩ := loop_opsq s w0 m.n (m.n + 1) W.length (by omega) _ (words_at hW0) _ _ _ [.int .i64 0, .int .i64 0, .int .i64 0, .int .i64 0] (by omega) (by omega) (n + 1) m2 _ _ hq (by omega) hBm hfull T2.t.t hb2 hB2 (by simp only [lookL_cons, if_true]) (by simp only [keepT, List.map, look_set, look_cons, in_int, in_str, in_ptr, in_slice, in_loc, Nat.reduceEqDiff, if_true, if_false, List.contains_cons, List.contains_nil, beq_self_eq_true, Bool.or_false])
  by_cases hop : opOf w0 24 1 0 = 0
  · have hi : insOf s w0 ws = none := by unfold insOf; rw [if_pos hop]
    rw [hi]
    rw [hop] at hB3
    refine ⟨m3, ?_, ?_, ?_⟩
    · simp only [look_set, look_nil, look_cons, lookL_nil, lookL_cons, setL_nil, setL_cons, cellsAt_cons, bin_ieq, in_loc, List.contains_cons, List.contains_nil, one_int, loc_int, loc_agg, cells_agg, List.append_nil, List.map, List.length, List.take, List.drop, List.all, List.any, List.nil_append, List.take_succ_cons, List.drop_succ_cons, Option.map_some, Nat.reduceEqDiff, Nat.reduceAdd, Nat.reduceLeDiff, Nat.reduceLT, if_true, if_false, Bool.and_true, Bool.or_false, Bool.not_false, List.isEmpty_cons, beq_self_eq_true, Bool.false_eq_true, Nat.succ_ne_self, keepT_setT, List.take_succ_cons, hk', hL', hB3, d00]
      rfl
    · exact hs3.ext (hm2 ▸ x2) (by omega)
    · rw [hs3.1, ← hm2, push_n, push_n]; omega
  · have hoL := opOf_lt w0 24 1 0
    generalize hopd : opOf w0 24 1 0 = op at *
    have hop' : ¬ ((op : Int) = 0) := by omega
    have hopb : (0 : Int) ≤ (op : Int) ∧ (op : Int) < ((25 : Nat) : Int) := by omega
    have T3 := hs3.tab2 T2.t (by omega)
    have g0 := T3.t.k
    have g12 := T3.t.t
    have hkd := kind_at (op : Int) (by omega) (by omega)
    rw [Int.toNat_natCast] at hkd
    have hp : PW m3 m.n (m.n + 1) W (.int .i64 (op : Int)) (.int .i64 0) (.int .i64 0) (.int .i64 0) := ⟨T3, hs3.if5 (by omega) T2.i5, hs3.if6 (by omega) T2.i6, (hs3.2 _ (by omega)).trans hb2, hB3, by rw [hs3.1]; exact hBm, by rw [hs3.1]; exact hfull⟩
    simp only [codeEv, opsEv, oneEv, guardEv, opE_mov, opE_alloc, opE_load1, opE_loadk, opE_store, opE_faddr, opE_iaddrL, elemR_slice, St.opd, look_set, look_nil, look_cons, St.put, St.new, St.read, St.write, lookL_nil, lookL_cons, setL_nil, setL_cons, cellsAt_cons, splice, bin_ieq, in_str, in_ptr, in_slice, in_loc, List.contains_cons, List.contains_nil, one_int, cells_int, one_str, one_ptr, cells_ptr, cells_agg, fillEv, keepL, List.append_nil, List.map, List.length, List.take, List.drop, List.all, List.cons_append, List.nil_append, List.take_succ_cons, List.drop_succ_cons, List.length_cons, Option.map_some, Nat.reduceEqDiff, Nat.reduceAdd, Nat.reduceLeDiff, Nat.reduceLT, if_true, if_false, Bool.and_true, Bool.or_true, Bool.or_false, Bool.true_or, Bool.not_false, List.isEmpty_cons, beq_self_eq_true, Bool.false_eq_true, Nat.succ_ne_self, decide_false, keepT_setT, List.take_succ_cons, and_self, opE_build, Int.toNat_natCast, a15_R3, a15_R4, hk', hL', hB3, hop', hopb, g0, g12, hkd]
    generalize hq2 : codeEv (run A (n + 1)) (ev A (n + 1)).2 a15_L1 _ = q2
    obtain ⟨f1, f2⟩ := loop_vals0 (n + 1) s m.n (m.n + 1) (kx 1 op) (kx 2 op) (kx 3 op) W m3 [.int .i64 0, .int .i64 0, .int .i64 0, .int .i64 0] _ _ (by simp only [lookL_cons, Nat.reduceEqDiff, if_true, if_false]) (by simp only [lookL_cons, Nat.reduceEqDiff, if_true, if_false]) (by simp only [keepT, List.map, look_set, look_cons, in_int, in_str, in_ptr, in_slice, in_agg, in_loc, Nat.reduceEqDiff, if_true, if_false, List.contains_cons, List.contains_nil, beq_self_eq_true, Bool.or_false, Bool.true_or, Bool.or_true]) _ hp (by omega) (by omega) (by omega) (fun w hw => by have := hwl w hw; omega) rfl hq2
    rw [hWd] at f1 f2
    have hx3 : Ext m m3 := hs3.ext x2 (by omega)
    have hn3 : m3.n = m.n + 2 := by rw [hs3.1, ← hm2, push_n, push_n]
    cases hv : vals [kx 1 op, kx 2 op, kx 3 op] ws with
    | none =>
      have hi : insOf s w0 ws = none := by unfold insOf; rw [hopd, if_neg hop, hv]
      rw [hi]
      obtain ⟨T1, L1, m4, rfl, g2, g3, g4⟩ := f2 hv
      refine ⟨m4, ?_, g4.ext hx3 (by omega), by rw [g4.1, hn3]; omega⟩
      simp only [cellsAt_cons, loc_int, loc_agg, List.length, List.take, List.drop, List.any, List.take_succ_cons, Nat.reduceAdd, Nat.reduceLeDiff, if_true, if_false, Bool.or_false, Bool.false_eq_true, List.take_succ_cons, g2, g3.1, g3.2]
      rfl
    | some l =>
      have hl3 := vals_len _ _ _ hv
      obtain ⟨a, b, c, rfl⟩ : ∃ a b c, l = [a, b, c] := by
        match l, hl3 with
        | [a, b, c], _ => exact ⟨a, b, c, rfl⟩
      have hi : insOf s w0 ws = if (textB op a b c).toList == s.toList then some (op, a, b, c) else none := by unfold insOf; rw [hopd, if_neg hop, hv]
      rw [hi]
      obtain ⟨T1, L1, m4, rfl, g2, g3, g4, g5⟩ := f1 _ hv
      have hn4 : m4.n = m.n + 2 := by rw [g4.1, hn3]
      obtain ⟨m5, t1, x5, n5⟩ := text_run (n + 1) (by omega) (op : Int) a b c m4 (g4.tab2 T3 (by omega)) (by omega) (by omega)
      have g6 : m5.get (m.n + 1) = m4.get (m.n + 1) := x5.2 _ (by omega)
      rw [g5] at g6
      refine ⟨m5, ?_, (g4.ext hx3 (by omega)).trans x5, by omega⟩
      simp only [List.map, List.cons_append, List.nil_append] at g5 g6
      cases he : (textB op a b c).toList == s.toList
      · simp only [look_set, look_nil, look_cons, lookL_nil, lookL_cons, setL_nil, setL_cons, cellsAt_cons, in_loc, List.contains_cons, List.contains_nil, one_int, loc_int, loc_agg, cells_agg, List.append_nil, List.map, List.length, List.take, List.drop, List.all, List.any, List.nil_append, List.take_succ_cons, List.drop_succ_cons, Option.map_some, Nat.reduceEqDiff, Nat.reduceAdd, Nat.reduceLeDiff, Nat.reduceLT, if_true, if_false, Bool.and_true, Bool.or_false, Bool.not_false, List.isEmpty_cons, beq_self_eq_true, Bool.false_eq_true, Nat.succ_ne_self, keepT_setT, List.take_succ_cons, str_ne, g2, g3, g5, t1, he]
        rfl
      · simp only [look_set, look_nil, look_cons, lookL_nil, lookL_cons, setL_nil, setL_cons, cellsAt_cons, in_ptr, in_loc, List.contains_cons, List.contains_nil, one_int, loc_int, loc_agg, cells_agg, List.append_nil, List.map, List.length, List.take, List.drop, List.all, List.any, List.nil_append, List.take_succ_cons, List.drop_succ_cons, Option.map_some, Nat.reduceEqDiff, Nat.reduceAdd, Nat.reduceLeDiff, Nat.reduceLT, if_true, if_false, Bool.and_true, Bool.or_false, Bool.not_true, Bool.not_false, List.isEmpty_cons, beq_self_eq_true, Bool.false_eq_true, Nat.succ_ne_self, keepT_setT, List.take_succ_cons, str_ne, g2, g3, g5, g6, t1, he]
        rfl
end AG
