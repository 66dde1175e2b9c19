/- What the functions of instructions and their texts compute, and the laws of that. -/
import Derived.Test.YtekljfhfjncmjaaDoorAgCh4
namespace AG
open Go Go.Proofs.YtekljfhfjncmjaaDoor
set_option maxRecDepth 100000
set_option maxHeartbeats 4000000
theorem parse_run (N : Nat) (hN : 80 ≤ N) (s : ByteArray) (m : Mem) (hT : TP m) (hs : s.size < 4294967281) (hmn : m.n + 20 ≤ 2 ^ depth) :
    ∃ m', run A N 15 [.str s] m = some (parseAV (parseP s), m') ∧ Ext m m' ∧ m'.n ≤ m.n + 12 := by
  obtain ⟨n, rfl⟩ : ∃ n, N = n + 2 := ⟨N - 2, by omega⟩
  have few : ((wordsB s).length = 0 ∨ 4 < (wordsB s).length) → parseP s = none → ∃ m', run A (n + 2) 15 [.str s] m = some (parseAV (parseP s), m') ∧ Ext m m' ∧ m'.n ≤ m.n + 12 := by
    intro hw hp
    rw [hp]
    exact ⟨_, parse_few n s m hT hs (not_full (by omega)) hw, (Ext.refl m).push _ (by omega), by rw [push_n]; omega⟩
  cases hws : wordsB s with
  | nil => exact few (.inl (by rw [hws]; rfl)) (by unfold parseP; rw [hws])
  | cons w0 ws =>
    by_cases h4 : 4 < (w0 :: ws).length
    · exact few (.inr (by rw [hws]; exact h4)) (by unfold parseP; rw [hws]; exact if_pos h4)
    · have : parseP s = insOf s w0 ws := by unfold parseP; rw [hws]; exact if_neg h4
      rw [this]
      exact parse_go n (by omega) s m hT hs hmn w0 ws hws h4
theorem words_nil : wordsB ⟨#[]⟩ = [] := by decide +kernel
theorem parse_sound {s : ByteArray} {op : Nat} {a b c : Int} (h : parseP s = some (op, a, b, c)) : textB op a b c = s ∧ codeOk op a b c = true := by
  unfold parseP at h
  split at h
  · cases h
  rename_i w0 ws hws
  split at h
  · cases h
  unfold insOf at h
  split at h
  · cases h
  split at h
  case h_2 => cases h
  rename_i a' b' c' hv
  split at h
  case isFalse => cases h
  rename_i he
  simp only [Option.some.injEq, Prod.mk.injEq] at h
  obtain ⟨rfl, rfl, rfl, rfl⟩ := h
  have he' : textB (opOf w0 24 1 0) a' b' c' = s := by
    rw [text_eq] at he
    have := of_decide_eq_true he
    have e : ∀ x y : ByteArray, x.data.toList = y.data.toList → x = y := fun x y h => by
      cases x; cases y; simp only at h; exact congrArg _ (Array.toList_inj.1 h)
    exact e _ _ this
  refine ⟨he', ?_⟩
  cases hk : codeOk (opOf w0 24 1 0 : Int) a' b' c'
  · exfalso
    rw [textB, if_neg (by rw [hk]; simp)] at he'
    rw [← he', words_nil] at hws
    cases hws
  · rfl
theorem valW_piece {w n : Int} (hw : 0 ≤ w ∧ w ≤ 8) (h0 : ¬ w = 0) (h : fitsI w n = true) : ∃ x, piece w n = [x] ∧ valW w x = some n := by
  have hnn := fits_nonneg h
  unfold piece
  rw [if_neg h0]
  by_cases h7 : w = 7
  · subst h7
    simp [fitsI] at h
    refine ⟨_, if_pos rfl, ?_⟩
    unfold valW
    rw [if_pos rfl, find_signB (by omega) (by omega)]
    congr 1; omega
  · by_cases h8 : w = 8
    · subst h8
      simp [fitsI] at h
      refine ⟨_, by rw [if_neg (by omega), if_pos rfl], ?_⟩
      unfold valW
      rw [if_neg (by omega), if_pos rfl, find_unB (by omega) (by omega)]
      congr 1; omega
    · refine ⟨_, by rw [if_neg h7, if_neg h8], ?_⟩
      unfold valW
      rw [if_neg h7, if_neg h8, atoi_itoa _ (by omega)]
      dsimp only
      congr 1; omega
theorem kx_zero : ((List.range 25).all fun i => (!(kx 1 i == 0) || (kx 2 i == 0 && kx 3 i == 0)) && (!(kx 2 i == 0) || kx 3 i == 0)) = true := by decide +kernel
theorem kx_zeros {i : Nat} (h : i < 25) : (kx 1 i = 0 → kx 2 i = 0 ∧ kx 3 i = 0) ∧ (kx 2 i = 0 → kx 3 i = 0) := by
  have := List.all_eq_true.1 kx_zero i (List.mem_range.2 h)
  simp only [Bool.and_eq_true, Bool.or_eq_true, Bool.not_eq_true', beq_eq_false_iff_ne, beq_iff_eq] at this
  exact ⟨fun e => this.1.resolve_left fun k => k e, fun e => this.2.resolve_left fun k => k e⟩
theorem fits_zero {n : Int} (h : fitsI 0 n = true) : n = 0 := by simpa [fitsI] using h
theorem vals_pieces {k1 k2 k3 a b c : Int} (r1 : 0 ≤ k1 ∧ k1 ≤ 8) (r2 : 0 ≤ k2 ∧ k2 ≤ 8) (r3 : 0 ≤ k3 ∧ k3 ≤ 8) (z1 : k1 = 0 → k2 = 0 ∧ k3 = 0) (z2 : k2 = 0 → k3 = 0) (f1 : fitsI k1 a = true) (f2 : fitsI k2 b = true) (f3 : fitsI k3 c = true) :
    vals [k1, k2, k3] (piece k1 a ++ (piece k2 b ++ piece k3 c)) = some [a, b, c] := by
  have pz : ∀ n, piece 0 n = [] := fun n => rfl
  by_cases h1 : k1 = 0
  · obtain ⟨h2, h3⟩ := z1 h1
    subst h1; subst h2; subst h3
    rw [fits_zero f1, fits_zero f2, fits_zero f3]
    rfl
  · obtain ⟨x, e1, v1⟩ := valW_piece r1 h1 f1
    rw [e1]
    by_cases h2 : k2 = 0
    · have h3 := z2 h2
      subst h2; subst h3
      rw [fits_zero f2, fits_zero f3, pz]
      rw [List.append_nil, List.append_nil, vals, v1]
      rfl
    · obtain ⟨y, e2, v2⟩ := valW_piece r2 h2 f2
      rw [e2]
      by_cases h3 : k3 = 0
      · subst h3
        rw [fits_zero f3, pz]
        rw [List.append_nil, List.singleton_append, vals, v1]
        dsimp only
        rw [vals, v2]
        rfl
      · obtain ⟨z, e3, v3⟩ := valW_piece r3 h3 f3
        rw [e3, List.singleton_append, List.singleton_append, vals, v1]
        dsimp only
        rw [vals, v2]
        dsimp only
        rw [vals, v3]
        rfl
theorem parse_text {op a b c : Int} (h : codeOk op a b c = true) : parseP (textB op a b c) = some (op.toNat, a, b, c) := by
  obtain ⟨h1, f1, f2, f3⟩ := codeOk_fits h
  have hw : wordsB (textB op a b c) = parts op a b c := by
    unfold wordsB
    rw [text_fields h, List.map_map]
    have : ∀ l : List ByteArray, l.map ((fun x : List UInt8 => (⟨x.toArray⟩ : ByteArray)) ∘ fun x : ByteArray => x.data.toList) = l := by
      intro l
      induction l with
      | nil => rfl
      | cons x r ih => rw [List.map_cons, ih]; rfl
    exact this _
  have hlen : (parts op a b c).length ≤ 4 := by
    simp only [parts, List.length_cons, List.length_append, piece_len]
    split <;> split <;> split <;> omega
  unfold parseP
  rw [hw]
  unfold parts at hlen ⊢
  dsimp only
  rw [if_neg (by omega)]
  unfold insOf
  have ho : opOf (nameB op.toNat) 24 1 0 = op.toNat := opOf_name (by omega) (by omega)
  obtain ⟨z1, z2⟩ := kx_zeros (i := op.toNat) (by omega)
  rw [ho, if_neg (by omega), vals_pieces (kx_range h1.1 h1.2 1 (by simp)) (kx_range h1.1 h1.2 2 (by simp)) (kx_range h1.1 h1.2 3 (by simp)) z1 z2 f1 f2 f3]
  dsimp only
  have ht : (op.toNat : Int) = op := by omega
  rw [ht, if_pos (by simp)]
/-! A text begins and ends with no blank. -/
theorem tail_last : ∀ (r : List (List UInt8)) (x : List UInt8), (∀ y ∈ x :: r, y ≠ [] ∧ ∀ b ∈ y, b ≠ 32) → ∀ l, x ++ Lib.joinTail [32] r ≠ l ++ [32]
  | [], x, h, l, e => by
    have e' : x = l ++ [32] := by simpa [Lib.joinTail] using e
    exact (h x (by simp)).2 32 (by rw [e']; simp) rfl
  | y :: r, x, h, l, e => by
    have hj : Lib.joinTail [32] (y :: r) = [32] ++ (y ++ Lib.joinTail [32] r) := by simp [Lib.joinTail]
    rw [hj] at e
    have hy := tail_last r y (fun z hz => h z (List.mem_cons_of_mem _ hz))
    have hne : y ++ Lib.joinTail [32] r ≠ [] := by
      have := (h y (by simp)).1
      simp [this]
    rcases List.eq_nil_or_concat (y ++ Lib.joinTail [32] r) with h0 | ⟨q, z, hq⟩
    · exact hne h0
    · rw [List.concat_eq_append] at hq
      rw [hq, ← List.append_assoc, ← List.append_assoc] at e
      have hz : z = 32 := by
        have := List.append_inj_right' e rfl
        simpa using this
      exact hy q (by rw [hq, hz])
theorem okW_ne {l : List UInt8} (h : okW l = true) : l ≠ [] ∧ ∀ b ∈ l, b ≠ 32 := by
  obtain ⟨h1, h2, _⟩ := okW_spec h
  refine ⟨h1, fun b hb e => ?_⟩
  have := h2 b hb
  rw [e] at this
  exact absurd this (by decide)
theorem text_bytes {op a b c : Int} (h : codeOk op a b c = true) : ∃ x r, (textB op a b c).data.toList = x ++ Lib.joinTail [32] r ∧ ∀ y ∈ x :: r, y ≠ [] ∧ ∀ b ∈ y, b ≠ 32 := by
  have hp := okW_parts h
  refine ⟨(nameB op.toNat).data.toList, (piece (kx 1 op.toNat) a ++ (piece (kx 2 op.toNat) b ++ piece (kx 3 op.toNat) c)).map (·.data.toList), ?_, ?_⟩
  · rw [textB, if_pos h, ← Lib.join_cons]
    rfl
  · intro y hy
    exact okW_ne (hp y (by unfold parts; rw [List.map_cons]; exact hy))
theorem text_end {op a b c : Int} (h : codeOk op a b c = true) (l : List UInt8) : (textB op a b c).data.toList ≠ l ++ [32] := by
  obtain ⟨x, r, e, hx⟩ := text_bytes h
  rw [e]
  exact tail_last r x hx l
theorem text_beg {op a b c : Int} (h : codeOk op a b c = true) (l : List UInt8) : (textB op a b c).data.toList ≠ 32 :: l := by
  obtain ⟨x, r, e, hx⟩ := text_bytes h
  rw [e]
  obtain ⟨h1, h2⟩ := hx x (by simp)
  match x, h1, h2 with
  | b :: t, _, h2 =>
    intro e
    rw [List.cons_append] at e
    exact h2 b (by simp) (List.cons.inj e).1
theorem parse_none {s : ByteArray} (h : ∀ op a b c, codeOk op a b c = true → (textB op a b c).data.toList ≠ s.data.toList) : parseP s = none := by
  cases hp : parseP s with
  | none => rfl
  | some i =>
    obtain ⟨op, a, b, c⟩ := i
    obtain ⟨h1, h2⟩ := parse_sound hp
    exact absurd (by rw [h1]) (h op a b c h2)
theorem parse_after (t : ByteArray) : parseP (t ++ ⟨#[32]⟩) = none := parse_none fun op a b c h e => text_end h t.data.toList (by rw [e]; simp)
theorem parse_ahead (t : ByteArray) : parseP (⟨#[32]⟩ ++ t) = none := parse_none fun op a b c h e => text_beg h t.data.toList (by rw [e]; simp)
theorem str_add (x y : ByteArray) (h : x.size + y.size < 1000000) : binEv .add (.str x) (.str y) = some (.str (x ++ y)) := by
  show (if ((x.size + y.size : Nat) : Int) > IntKind.i64.max then none else some (AV.str (x ++ y))) = _
  rw [if_neg (by have : IntKind.i64.max = 9223372036854775807 := rfl
                 omega)]
theorem text_nil {op a b c : Int} : ((textB op a b c).toList == (ByteArray.mk #[]).toList) = !codeOk op a b c := by
  cases h : codeOk op a b c
  · rw [textB, if_neg (by rw [h]; simp)]; simp
  · rw [text_eq]
    obtain ⟨x, r, e, hx⟩ := text_bytes h
    rw [e]
    obtain ⟨h1, h2⟩ := hx x (by simp)
    match x, h1 with
    | b :: t, _ => simp
theorem text_size {op a b c : Int} (h : codeOk op a b c = true) : (textB op a b c).size ≤ 100 := by
  have hb := join_len (B := 20) _ (parts_b h)
  have hl : ((parts op a b c).map (·.data.toList)).length ≤ 4 := by
    rw [List.length_map]
    simp only [parts, List.length_cons, List.length_append, piece_len]
    split <;> split <;> split <;> omega
  have e : (textB op a b c).data.toList = Lib.join ((parts op a b c).map (·.data.toList)) [32] := by rw [textB, if_pos h]; rfl
  rw [← size_list, e]
  omega
theorem d11 : decide ((11 : Int) = 0) = false := rfl
theorem d1111 : decide ((11 : Int) = 11) = true := rfl
theorem d02 : decide ((2 : Int) = 0) = false := rfl
theorem dz : decide ((0 : Int) = 0) = true := rfl
theorem back_long (N : Nat) (op a b c : Int) (s : ByteArray) (m m' : Mem) (hl : run A N 11 [] m = some (.bool true, m')) (hs : 100 < s.size) : run A (N + 1) 5 [insA op a b c, .str s] m = some (.bool true, m') := by
  rw [run_5]
  have h' : (s.size : Int) > 100 := by omega
  unfold fnEv a5 insA
  simp only [codeEv, opsEv, oneEv, guardEv, opE_mov, opE_box, opE_bin, opE_un, opE_call, St.opd, look_set, look_nil, look_cons, St.put, St.new, lookL_nil, lookL_cons, setL_nil, argsT, resEv, bin_igt, in_str, in_agg, in_loc, List.contains_cons, List.contains_nil, loc_bool, cells_agg, unEv, callWith, keepL, List.map, List.length, List.any, Option.map_some, Nat.reduceEqDiff, Nat.reduceAdd, Nat.reduceLT, if_true, if_false, Bool.or_false, Bool.not_true, beq_self_eq_true, Bool.false_eq_true, Nat.succ_ne_self, decide_true, keepT_setT, keepT_lit, opE_lenS, hl, h']

theorem eff_nil (N : Nat) (hN : 5 ≤ N) {op a b c : Int} (h : codeOk op a b c = true) (m : Mem) (hT : Tab m) : ∃ x g k, run A N 14 [.agg [.int .i64 op, .int .i64 a, .int .i64 b, .int .i64 c], .nils] m = some (.tup [.int .i64 x, .int .i64 g, .bool k], m) ∧ g ≤ 1 := by
  have he := eff_ex N hN op a b c m hT .nils [] (.inl ⟨rfl, rfl⟩)
  unfold insA effI at he
  rw [if_pos h] at he
  have hs := kx_small op (codeOk_op h).1 (codeOk_op h).2
  split at he
  · split at he
    · exact ⟨_, _, _, he, by omega⟩
    · exact ⟨_, _, _, he, hs.2.2.2⟩
  · exact ⟨_, _, _, he, hs.2.2.2⟩
theorem jumps_on (N : Nat) (hN : 5 ≤ N) {op a b c : Int} (h : codeOk op a b c = true) (m : Mem) (hT : Tab m) : ∃ x j o, run A N 16 [.agg [.int .i64 op, .int .i64 a, .int .i64 b, .int .i64 c]] m = some (.tup [.int .i64 x, .bool j, .bool o], m) ∧ ((j || o) = true ∨ ((op = 1 ∨ op = 18) ∧ j = false ∧ o = false)) := by
  have he := jumps_ex N hN op a b c m hT
  unfold insA jumpsI at he
  rw [if_pos h] at he
  split at he
  · rename_i h1
    exact ⟨_, _, _, he, .inr ⟨h1, rfl, rfl⟩⟩
  · split at he
    · exact ⟨_, _, _, he, .inl rfl⟩
    · split at he
      · exact ⟨_, _, _, he, .inl rfl⟩
      · exact ⟨_, _, _, he, .inl rfl⟩

theorem back_bad0 (N : Nat) {op a b c : Int} (s : ByteArray) (m m1 m2 m3 m4 : Mem) (hl : run A N 11 [] m = some (.bool true, m1)) (hs : ¬ 100 < s.size) (p1 : run A N 15 [.str s] m1 = some (.tup [.agg [.int .i64 0, .int .i64 0, .int .i64 0, .int .i64 0], .int .i64 11], m2)) (p2 : m3 = m2) (t : ByteArray) (p4 : run A N 13 [.agg [.int .i64 op, .int .i64 a, .int .i64 b, .int .i64 c]] m3 = some (.str t, m4)) (hk : (t.toList == (ByteArray.mk #[]).toList) = true) (p5 : run A N 12 [.agg [.int .i64 op, .int .i64 a, .int .i64 b, .int .i64 c]] m4 = some (.int .i64 2, m4)) : run A (N + 1) 5 [insA op a b c, .str s] m = some (.bool true, m4) := by
  subst p2
  rw [run_5]
  have h' : ¬ ((s.size : Int) > 100) := by omega
  unfold fnEv a5 insA
  simp only [codeEv, opsEv, oneEv, guardEv, opE_mov, opE_pick, opE_alloc, opE_box, opE_loadk, opE_store, opE_bin, opE_eq, opE_un, opE_ext, opE_call, St.opd, look_set, look_nil, look_cons, St.put, St.new, St.read, St.write, lookL_nil, lookL_cons, setL_nil, setL_cons, cellsAt_cons, splice, argsT, resEv, bin_igt, bin_ieq, bin_ine, in_int, in_str, in_agg, in_loc, List.contains_cons, List.contains_nil, one_int, loc_bool, loc_str, loc_agg, cells_agg, unEv, callWith, keepL, List.append_nil, List.map, List.length, List.take, List.drop, List.all, List.any, List.nil_append, List.take_succ_cons, List.drop_succ_cons, List.getElem?_cons_succ, List.getElem?_cons_zero, Option.map_some, Nat.reduceEqDiff, Int.reduceEq, Nat.reduceAdd, Nat.reduceLeDiff, Nat.reduceLT, if_true, if_false, Bool.and_true, Bool.or_true, Bool.or_false, Bool.true_or, Bool.not_true, Bool.not_false, List.isEmpty_cons, beq_self_eq_true, Bool.false_eq_true, Nat.succ_ne_self, decide_false, beq_ft, keepT_setT, keepT_lit, List.take_succ_cons, opE_lenS, str_eqg, eqb, a5_R1, a5_R2, hl, h', p1, p4, p5, hk, beq_self_eq_true]

theorem back_good0 (N : Nat) {op a b c : Int} (s : ByteArray) (m m1 m2 m3 m4 : Mem) (hl : run A N 11 [] m = some (.bool true, m1)) (hs : ¬ 100 < s.size) (p1 : run A N 15 [.str s] m1 = some (.tup [.agg [.int .i64 0, .int .i64 0, .int .i64 0, .int .i64 0], .int .i64 11], m2)) (p2 : m3 = m2) (t : ByteArray) (p4 : run A N 13 [.agg [.int .i64 op, .int .i64 a, .int .i64 b, .int .i64 c]] m3 = some (.str t, m4)) (hk : (t.toList == (ByteArray.mk #[]).toList) = false) (p5 : run A N 12 [.agg [.int .i64 op, .int .i64 a, .int .i64 b, .int .i64 c]] m4 = some (.int .i64 0, m4)) (m5 m6 m7 : Mem) (p6 : run A N 15 [.str t] m4 = some (.tup [.agg [.int .i64 op, .int .i64 a, .int .i64 b, .int .i64 c], .int .i64 0], m5)) (ha1 : binEv .add (.str t) (.str ⟨#[32]⟩) = some (.str (t ++ ⟨#[32]⟩))) (ha2 : binEv .add (.str ⟨#[32]⟩) (.str t) = some (.str (⟨#[32]⟩ ++ t))) (p7 : run A N 15 [.str (t ++ ⟨#[32]⟩)] m5 = some (.tup [.agg [.int .i64 0, .int .i64 0, .int .i64 0, .int .i64 0], .int .i64 11], m6)) (p8 : run A N 15 [.str (⟨#[32]⟩ ++ t)] m6 = some (.tup [.agg [.int .i64 0, .int .i64 0, .int .i64 0, .int .i64 0], .int .i64 11], m7)) (x g : Int) (k : Bool) (p9 : run A N 14 [.agg [.int .i64 op, .int .i64 a, .int .i64 b, .int .i64 c], .nils] m7 = some (.tup [.int .i64 x, .int .i64 g, .bool k], m7)) (hg : g ≤ 1) :
    ∀ (x : Int) (j o : Bool), ((j || o) = true ∨ ((op = 1 ∨ op = 18) ∧ j = false ∧ o = false)) → run A N 16 [.agg [.int .i64 op, .int .i64 a, .int .i64 b, .int .i64 c]] m7 = some (.tup [.int .i64 x, .bool j, .bool o], m7) → run A (N + 1) 5 [insA op a b c, .str s] m = some (.bool true, m7) := by
  subst p2
  intro y j o hjo p10
  rw [run_5]
  have h' : ¬ ((s.size : Int) > 100) := by omega
  have hself : decide (op = op ∧ a = a ∧ b = b ∧ c = c) = true := by simp
  rcases hjo with hjo | ⟨h1 | h1, rfl, rfl⟩
  · cases j <;> cases o
    · cases hjo
    all_goals
      unfold fnEv a5 insA
      simp only [codeEv, opsEv, oneEv, guardEv, opE_mov, opE_pick, opE_alloc, opE_box, opE_loadk, opE_store, opE_bin, opE_eq, opE_un, opE_ext, opE_call, St.opd, look_set, look_nil, look_cons, St.put, St.new, St.read, St.write, lookL_nil, lookL_cons, setL_nil, setL_cons, cellsAt_cons, splice, argsT, resEv, bin_ile, bin_igt, bin_ieq, bin_ine, in_int, in_bool, in_str, in_agg, in_loc, List.contains_cons, List.contains_nil, one_int, loc_bool, loc_str, loc_nils, loc_agg, cells_agg, unEv, callWith, keepL, List.append_nil, List.map, List.length, List.take, List.drop, List.all, List.any, List.nil_append, List.take_succ_cons, List.drop_succ_cons, List.getElem?_cons_succ, List.getElem?_cons_zero, Option.map_some, Nat.reduceEqDiff, Int.reduceEq, Nat.reduceAdd, Nat.reduceLeDiff, Nat.reduceLT, if_true, if_false, Bool.and_true, Bool.or_true, Bool.or_false, Bool.true_or, Bool.not_true, Bool.not_false, List.isEmpty_cons, beq_self_eq_true, Bool.false_eq_true, Nat.succ_ne_self, decide_true, decide_false, beq_tf, beq_ft, keepT_setT, keepT_lit, List.take_succ_cons, and_self, opE_lenS, str_eqg, eq_ins, eqb, a5_R1, a5_R2, a5_R3, a5_R4, a5_R5, a5_R6, a5_R7, hl, h', p1, p4, p5, hk, p6, p7, p8, p9, p10, ha1, ha2, hg, beq_self_eq_true]
  · have e1 : decide (op = 1) = true := decide_eq_true h1
    unfold fnEv a5 insA
    simp only [codeEv, opsEv, oneEv, guardEv, opE_mov, opE_pick, opE_alloc, opE_box, opE_load1, opE_loadk, opE_store, opE_bin, opE_eq, opE_un, opE_faddr, opE_ext, opE_call, St.opd, look_set, look_nil, look_cons, St.put, St.new, St.read, St.write, lookL_nil, lookL_cons, setL_nil, setL_cons, cellsAt_cons, splice, argsT, resEv, bin_ile, bin_igt, bin_ieq, bin_ine, in_int, in_bool, in_str, in_agg, in_loc, List.contains_cons, List.contains_nil, one_int, loc_bool, loc_str, loc_nils, loc_agg, cells_agg, unEv, callWith, keepL, List.append_nil, List.map, List.length, List.take, List.drop, List.all, List.any, List.nil_append, List.take_succ_cons, List.drop_succ_cons, List.getElem?_cons_succ, List.getElem?_cons_zero, Option.map_some, Nat.reduceEqDiff, Int.reduceEq, Nat.reduceAdd, Nat.reduceLeDiff, Nat.reduceLT, if_true, if_false, Bool.and_true, Bool.or_true, Bool.or_false, Bool.true_or, Bool.not_true, Bool.not_false, List.isEmpty_cons, beq_self_eq_true, Bool.false_eq_true, Nat.succ_ne_self, decide_true, decide_false, beq_tf, beq_ft, keepT_setT, keepT_lit, List.take_succ_cons, and_self, opE_lenS, str_eqg, eq_ins, eqb, a5_R1, a5_R2, a5_R3, a5_R4, a5_R5, a5_R6, a5_R7, hl, h', p1, p4, p5, hk, p6, p7, p8, p9, p10, ha1, ha2, hg, e1, beq_self_eq_true]
  · have e1 : decide (op = 1) = false := decide_eq_false (by omega)
    have e18 : decide (op = 18) = true := decide_eq_true h1
    unfold fnEv a5 insA
    simp only [codeEv, opsEv, oneEv, guardEv, opE_mov, opE_pick, opE_alloc, opE_box, opE_load1, opE_loadk, opE_store, opE_bin, opE_eq, opE_un, opE_faddr, opE_ext, opE_call, St.opd, look_set, look_nil, look_cons, St.put, St.new, St.read, St.write, lookL_nil, lookL_cons, setL_nil, setL_cons, cellsAt_cons, splice, argsT, resEv, bin_ile, bin_igt, bin_ieq, bin_ine, in_int, in_bool, in_str, in_agg, in_loc, List.contains_cons, List.contains_nil, one_int, loc_bool, loc_str, loc_nils, loc_agg, cells_agg, unEv, callWith, keepL, List.append_nil, List.map, List.length, List.take, List.drop, List.all, List.any, List.nil_append, List.take_succ_cons, List.drop_succ_cons, List.getElem?_cons_succ, List.getElem?_cons_zero, Option.map_some, Nat.reduceEqDiff, Int.reduceEq, Nat.reduceAdd, Nat.reduceLeDiff, Nat.reduceLT, if_true, if_false, Bool.and_true, Bool.or_true, Bool.or_false, Bool.true_or, Bool.not_true, Bool.not_false, List.isEmpty_cons, beq_self_eq_true, Bool.false_eq_true, Nat.succ_ne_self, decide_true, decide_false, beq_ft, keepT_setT, keepT_lit, List.take_succ_cons, and_self, opE_lenS, str_eqg, eq_ins, eqb, a5_R1, a5_R2, a5_R3, a5_R4, a5_R5, a5_R6, a5_R7, hl, h', p1, p4, p5, hk, p6, p7, p8, p9, p10, ha1, ha2, hg, e1, e18, beq_self_eq_true]

theorem back_bad1 (N : Nat) {op a b c : Int} (s : ByteArray) (m m1 m2 m3 m4 : Mem) (hl : run A N 11 [] m = some (.bool true, m1)) (hs : ¬ 100 < s.size) (o1 a1 b1 c1 : Int) (p1 : run A N 15 [.str s] m1 = some (.tup [.agg [.int .i64 o1, .int .i64 a1, .int .i64 b1, .int .i64 c1], .int .i64 0], m2)) (p2 : run A N 13 [.agg [.int .i64 o1, .int .i64 a1, .int .i64 b1, .int .i64 c1]] m2 = some (.str s, m3)) (p3 : run A N 12 [.agg [.int .i64 o1, .int .i64 a1, .int .i64 b1, .int .i64 c1]] m3 = some (.int .i64 0, m3)) (t : ByteArray) (p4 : run A N 13 [.agg [.int .i64 op, .int .i64 a, .int .i64 b, .int .i64 c]] m3 = some (.str t, m4)) (hk : (t.toList == (ByteArray.mk #[]).toList) = true) (p5 : run A N 12 [.agg [.int .i64 op, .int .i64 a, .int .i64 b, .int .i64 c]] m4 = some (.int .i64 2, m4)) : run A (N + 1) 5 [insA op a b c, .str s] m = some (.bool true, m4) := by
  rw [run_5]
  have h' : ¬ ((s.size : Int) > 100) := by omega
  unfold fnEv a5 insA
  simp only [codeEv, opsEv, oneEv, guardEv, opE_mov, opE_pick, opE_alloc, opE_box, opE_loadk, opE_store, opE_bin, opE_eq, opE_un, opE_ext, opE_call, St.opd, look_set, look_nil, look_cons, St.put, St.new, St.read, St.write, lookL_nil, lookL_cons, setL_nil, setL_cons, cellsAt_cons, splice, argsT, resEv, bin_igt, bin_ieq, bin_ine, in_int, in_str, in_agg, in_loc, List.contains_cons, List.contains_nil, one_int, loc_bool, loc_str, loc_agg, cells_agg, unEv, callWith, keepL, List.append_nil, List.map, List.length, List.take, List.drop, List.all, List.any, List.nil_append, List.take_succ_cons, List.drop_succ_cons, List.getElem?_cons_succ, List.getElem?_cons_zero, Option.map_some, Nat.reduceEqDiff, Int.reduceEq, Nat.reduceAdd, Nat.reduceLeDiff, Nat.reduceLT, if_true, if_false, Bool.and_true, Bool.or_true, Bool.or_false, Bool.true_or, Bool.not_true, Bool.not_false, List.isEmpty_cons, beq_self_eq_true, Bool.false_eq_true, Nat.succ_ne_self, decide_true, decide_false, keepT_setT, keepT_lit, List.take_succ_cons, opE_lenS, str_ne, str_eqg, eqb, a5_R1, a5_R2, hl, h', p1, p2, p3, p4, p5, hk, beq_self_eq_true]

theorem back_good1 (N : Nat) {op a b c : Int} (s : ByteArray) (m m1 m2 m3 m4 : Mem) (hl : run A N 11 [] m = some (.bool true, m1)) (hs : ¬ 100 < s.size) (o1 a1 b1 c1 : Int) (p1 : run A N 15 [.str s] m1 = some (.tup [.agg [.int .i64 o1, .int .i64 a1, .int .i64 b1, .int .i64 c1], .int .i64 0], m2)) (p2 : run A N 13 [.agg [.int .i64 o1, .int .i64 a1, .int .i64 b1, .int .i64 c1]] m2 = some (.str s, m3)) (p3 : run A N 12 [.agg [.int .i64 o1, .int .i64 a1, .int .i64 b1, .int .i64 c1]] m3 = some (.int .i64 0, m3)) (t : ByteArray) (p4 : run A N 13 [.agg [.int .i64 op, .int .i64 a, .int .i64 b, .int .i64 c]] m3 = some (.str t, m4)) (hk : (t.toList == (ByteArray.mk #[]).toList) = false) (p5 : run A N 12 [.agg [.int .i64 op, .int .i64 a, .int .i64 b, .int .i64 c]] m4 = some (.int .i64 0, m4)) (m5 m6 m7 : Mem) (p6 : run A N 15 [.str t] m4 = some (.tup [.agg [.int .i64 op, .int .i64 a, .int .i64 b, .int .i64 c], .int .i64 0], m5)) (ha1 : binEv .add (.str t) (.str ⟨#[32]⟩) = some (.str (t ++ ⟨#[32]⟩))) (ha2 : binEv .add (.str ⟨#[32]⟩) (.str t) = some (.str (⟨#[32]⟩ ++ t))) (p7 : run A N 15 [.str (t ++ ⟨#[32]⟩)] m5 = some (.tup [.agg [.int .i64 0, .int .i64 0, .int .i64 0, .int .i64 0], .int .i64 11], m6)) (p8 : run A N 15 [.str (⟨#[32]⟩ ++ t)] m6 = some (.tup [.agg [.int .i64 0, .int .i64 0, .int .i64 0, .int .i64 0], .int .i64 11], m7)) (x g : Int) (k : Bool) (p9 : run A N 14 [.agg [.int .i64 op, .int .i64 a, .int .i64 b, .int .i64 c], .nils] m7 = some (.tup [.int .i64 x, .int .i64 g, .bool k], m7)) (hg : g ≤ 1) :
    ∀ (x : Int) (j o : Bool), ((j || o) = true ∨ ((op = 1 ∨ op = 18) ∧ j = false ∧ o = false)) → run A N 16 [.agg [.int .i64 op, .int .i64 a, .int .i64 b, .int .i64 c]] m7 = some (.tup [.int .i64 x, .bool j, .bool o], m7) → run A (N + 1) 5 [insA op a b c, .str s] m = some (.bool true, m7) := by
  intro y j o hjo p10
  rw [run_5]
  have h' : ¬ ((s.size : Int) > 100) := by omega
  have hself : decide (op = op ∧ a = a ∧ b = b ∧ c = c) = true := by simp
  rcases hjo with hjo | ⟨h1 | h1, rfl, rfl⟩
  · cases j <;> cases o
    · cases hjo
    all_goals
      unfold fnEv a5 insA
      simp only [codeEv, opsEv, oneEv, guardEv, opE_mov, opE_pick, opE_alloc, opE_box, opE_loadk, opE_store, opE_bin, opE_eq, opE_un, opE_ext, opE_call, St.opd, look_set, look_nil, look_cons, St.put, St.new, St.read, St.write, lookL_nil, lookL_cons, setL_nil, setL_cons, cellsAt_cons, splice, argsT, resEv, bin_ile, bin_igt, bin_ieq, bin_ine, in_int, in_bool, in_str, in_agg, in_loc, List.contains_cons, List.contains_nil, one_int, loc_bool, loc_str, loc_nils, loc_agg, cells_agg, unEv, callWith, keepL, List.append_nil, List.map, List.length, List.take, List.drop, List.all, List.any, List.nil_append, List.take_succ_cons, List.drop_succ_cons, List.getElem?_cons_succ, List.getElem?_cons_zero, Option.map_some, Nat.reduceEqDiff, Nat.reduceAdd, Nat.reduceLeDiff, Nat.reduceLT, if_true, if_false, Bool.and_true, Bool.or_true, Bool.or_false, Bool.true_or, Bool.not_true, Bool.not_false, List.isEmpty_cons, beq_self_eq_true, Bool.false_eq_true, Nat.succ_ne_self, decide_true, decide_false, beq_tf, keepT_setT, keepT_lit, List.take_succ_cons, and_self, opE_lenS, str_ne, str_eqg, eq_ins, eqb, a5_R1, a5_R2, a5_R3, a5_R4, a5_R5, a5_R6, a5_R7, hl, h', p1, p2, p3, p4, p5, hk, p6, p7, p8, p9, p10, ha1, ha2, hg, beq_self_eq_true]
  · have e1 : decide (op = 1) = true := decide_eq_true h1
    unfold fnEv a5 insA
    simp only [codeEv, opsEv, oneEv, guardEv, opE_mov, opE_pick, opE_alloc, opE_box, opE_load1, opE_loadk, opE_store, opE_bin, opE_eq, opE_un, opE_faddr, opE_ext, opE_call, St.opd, look_set, look_nil, look_cons, St.put, St.new, St.read, St.write, lookL_nil, lookL_cons, setL_nil, setL_cons, cellsAt_cons, splice, argsT, resEv, bin_ile, bin_igt, bin_ieq, bin_ine, in_int, in_bool, in_str, in_agg, in_loc, List.contains_cons, List.contains_nil, one_int, loc_bool, loc_str, loc_nils, loc_agg, cells_agg, unEv, callWith, keepL, List.append_nil, List.map, List.length, List.take, List.drop, List.all, List.any, List.nil_append, List.take_succ_cons, List.drop_succ_cons, List.getElem?_cons_succ, List.getElem?_cons_zero, Option.map_some, Nat.reduceEqDiff, Nat.reduceAdd, Nat.reduceLeDiff, Nat.reduceLT, if_true, if_false, Bool.and_true, Bool.or_true, Bool.or_false, Bool.true_or, Bool.not_true, Bool.not_false, List.isEmpty_cons, beq_self_eq_true, Bool.false_eq_true, Nat.succ_ne_self, decide_true, decide_false, beq_tf, keepT_setT, keepT_lit, List.take_succ_cons, and_self, opE_lenS, str_ne, str_eqg, eq_ins, eqb, a5_R1, a5_R2, a5_R3, a5_R4, a5_R5, a5_R6, a5_R7, hl, h', p1, p2, p3, p4, p5, hk, p6, p7, p8, p9, p10, ha1, ha2, hg, e1, beq_self_eq_true]
  · have e1 : decide (op = 1) = false := decide_eq_false (by omega)
    have e18 : decide (op = 18) = true := decide_eq_true h1
    unfold fnEv a5 insA
    simp only [codeEv, opsEv, oneEv, guardEv, opE_mov, opE_pick, opE_alloc, opE_box, opE_load1, opE_loadk, opE_store, opE_bin, opE_eq, opE_un, opE_faddr, opE_ext, opE_call, St.opd, look_set, look_nil, look_cons, St.put, St.new, St.read, St.write, lookL_nil, lookL_cons, setL_nil, setL_cons, cellsAt_cons, splice, argsT, resEv, bin_ile, bin_igt, bin_ieq, bin_ine, in_int, in_bool, in_str, in_agg, in_loc, List.contains_cons, List.contains_nil, one_int, loc_bool, loc_str, loc_nils, loc_agg, cells_agg, unEv, callWith, keepL, List.append_nil, List.map, List.length, List.take, List.drop, List.all, List.any, List.nil_append, List.take_succ_cons, List.drop_succ_cons, List.getElem?_cons_succ, List.getElem?_cons_zero, Option.map_some, Nat.reduceEqDiff, Nat.reduceAdd, Nat.reduceLeDiff, Nat.reduceLT, if_true, if_false, Bool.and_true, Bool.or_true, Bool.or_false, Bool.true_or, Bool.not_true, Bool.not_false, List.isEmpty_cons, beq_self_eq_true, Bool.false_eq_true, Nat.succ_ne_self, decide_true, decide_false, keepT_setT, keepT_lit, List.take_succ_cons, and_self, opE_lenS, str_ne, str_eqg, eq_ins, eqb, a5_R1, a5_R2, a5_R3, a5_R4, a5_R5, a5_R6, a5_R7, hl, h', p1, p2, p3, p4, p5, hk, p6, p7, p8, p9, p10, ha1, ha2, hg, e1, e18, beq_self_eq_true]
theorem back_run (N : Nat) (hN : 100 ≤ N) (op a b c : Int) (s : ByteArray) (m m1 : Mem) (hl : run A N 11 [] m = some (.bool true, m1)) (hT : TP m1) (hmn : m1.n + 200 ≤ 2 ^ depth) : ∃ m', run A (N + 1) 5 [insA op a b c, .str s] m = some (.bool true, m') := by
  by_cases hs : 100 < s.size
  · exact ⟨_, back_long N op a b c s m m1 hl hs⟩
  obtain ⟨m2, p1, x2, n2⟩ := parse_run N (by omega) s m1 hT (by omega) (by omega)
  have T2 := hT.ext x2
  have rest : ∀ m3, Ext m2 m3 → m3.n ≤ m2.n + 8 → (∀ m4 t, run A N 13 [.agg [.int .i64 op, .int .i64 a, .int .i64 b, .int .i64 c]] m3 = some (.str t, m4) → (t.toList == (ByteArray.mk #[]).toList) = true → run A N 12 [.agg [.int .i64 op, .int .i64 a, .int .i64 b, .int .i64 c]] m4 = some (.int .i64 2, m4) → ∃ m', run A (N + 1) 5 [insA op a b c, .str s] m = some (.bool true, m')) →
      (∀ m4 m5 m6 m7 t, run A N 13 [.agg [.int .i64 op, .int .i64 a, .int .i64 b, .int .i64 c]] m3 = some (.str t, m4) → (t.toList == (ByteArray.mk #[]).toList) = false → run A N 12 [.agg [.int .i64 op, .int .i64 a, .int .i64 b, .int .i64 c]] m4 = some (.int .i64 0, m4) →
        run A N 15 [.str t] m4 = some (.tup [.agg [.int .i64 op, .int .i64 a, .int .i64 b, .int .i64 c], .int .i64 0], m5) → binEv .add (.str t) (.str ⟨#[32]⟩) = some (.str (t ++ ⟨#[32]⟩)) → binEv .add (.str ⟨#[32]⟩) (.str t) = some (.str (⟨#[32]⟩ ++ t)) → run A N 15 [.str (t ++ ⟨#[32]⟩)] m5 = some (parseAV none, m6) → run A N 15 [.str (⟨#[32]⟩ ++ t)] m6 = some (parseAV none, m7) →
        ∀ (x g : Int) (k : Bool), run A N 14 [.agg [.int .i64 op, .int .i64 a, .int .i64 b, .int .i64 c], .nils] m7 = some (.tup [.int .i64 x, .int .i64 g, .bool k], m7) → g ≤ 1 → ∀ (y : Int) (j o : Bool), ((j || o) = true ∨ ((op = 1 ∨ op = 18) ∧ j = false ∧ o = false)) → run A N 16 [.agg [.int .i64 op, .int .i64 a, .int .i64 b, .int .i64 c]] m7 = some (.tup [.int .i64 y, .bool j, .bool o], m7) → ∃ m', run A (N + 1) 5 [insA op a b c, .str s] m = some (.bool true, m')) →
      ∃ m', run A (N + 1) 5 [insA op a b c, .str s] m = some (.bool true, m') := by
    intro m3 x3 n3 bad good
    have T3 := T2.ext x3
    have := T3.n
    obtain ⟨m4, p4, x4, n4⟩ := text_run N (by omega) op a b c m3 T3.t (by omega) (by omega)
    have T4 := T3.ext x4
    have hc := code_call N (by omega) op a b c m4 T4.t.t
    have ht := text_nil (op := op) (a := a) (b := b) (c := c)
    cases hk : codeOk op a b c
    · rw [hk] at hc ht
      exact bad m4 _ p4 ht hc
    · rw [hk] at hc ht
      have hsz := text_size hk
      have h1 : (ByteArray.mk #[32]).size = 1 := rfl
      obtain ⟨m5, p6, x5, n5⟩ := parse_run N (by omega) (textB op a b c) m4 T4 (by omega) (by omega)
      have T5 := T4.ext x5
      obtain ⟨m6, p7, x6, n6⟩ := parse_run N (by omega) (textB op a b c ++ ⟨#[32]⟩) m5 T5 (by rw [ByteArray.size_append]; omega) (by omega)
      have T6 := T5.ext x6
      obtain ⟨m7, p8, x7, n7⟩ := parse_run N (by omega) (⟨#[32]⟩ ++ textB op a b c) m6 T6 (by rw [ByteArray.size_append]; omega) (by omega)
      have T7 := T6.ext x7
      rw [parse_text hk] at p6
      rw [parse_after] at p7
      rw [parse_ahead] at p8
      have hop := codeOk_op hk
      have e : (op.toNat : Int) = op := by omega
      unfold parseAV at p6
      dsimp only at p6
      rw [e] at p6
      obtain ⟨x, g, k, p9, hg⟩ := eff_nil N (by omega) hk m7 T7.t.t
      obtain ⟨y, j, o, p10, hjo⟩ := jumps_on N (by omega) hk m7 T7.t.t
      exact good m4 m5 m6 m7 _ p4 ht hc p6 (str_add _ _ (by omega)) (str_add _ _ (by omega)) p7 p8 x g k p9 hg y j o hjo p10
  cases hp : parseP s with
  | none =>
    rw [hp] at p1
    refine rest m2 (Ext.refl m2) (by omega) (fun m4 t p4 h1 h2 => ⟨_, back_bad0 N s m m1 m2 m2 m4 hl hs p1 rfl t p4 h1 h2⟩) fun m4 m5 m6 m7 t p4 h1 h2 h3 h4 h5 h6 h7 x g k h8 h9 y j o h10 h11 => ⟨_, back_good0 N s m m1 m2 m2 m4 hl hs p1 rfl t p4 h1 h2 m5 m6 m7 h3 h4 h5 h6 h7 x g k h8 h9 y j o h10 h11⟩
  | some i =>
    obtain ⟨o1, a1, b1, c1⟩ := i
    rw [hp] at p1
    obtain ⟨e1, e2⟩ := parse_sound hp
    have := T2.n
    obtain ⟨m3, p2, x3, n3⟩ := text_run N (by omega) (o1 : Int) a1 b1 c1 m2 T2.t (by omega) (by omega)
    rw [e1] at p2
    have p3 := code_call N (by omega) (o1 : Int) a1 b1 c1 m3 (T2.ext x3).t.t
    rw [e2] at p3
    refine rest m3 x3 n3 (fun m4 t p4 h1 h2 => ⟨_, back_bad1 N s m m1 m2 m3 m4 hl hs _ _ _ _ p1 p2 p3 t p4 h1 h2⟩) fun m4 m5 m6 m7 t p4 h1 h2 h3 h4 h5 h6 h7 x g k h8 h9 y j o h10 h11 => ⟨_, back_good1 N s m m1 m2 m3 m4 hl hs _ _ _ _ p1 p2 p3 t p4 h1 h2 m5 m6 m7 h3 h4 h5 h6 h7 x g k h8 h9 y j o h10 h11⟩
theorem dself (x : Int) : decide (x = x) = true := by simp
theorem dself4 (x y z t : Int) : decide (x = x ∧ y = y ∧ z = z ∧ t = t) = true := by simp
theorem lv_t1 : textB 16 9 0 0 = ⟨#[106, 122, 32, 57]⟩ := by decide +kernel
theorem lv_k1 : codeOk 16 9 0 0 = true := by decide +kernel
theorem lv_t2 : textB 7 4 10 8 = ⟨#[115, 116, 120, 32, 52, 32, 49, 48, 32, 56]⟩ := by decide +kernel
theorem lv_t3 : textB 12 6 0 0 = ⟨#[98, 105, 110, 32, 115, 47]⟩ := by decide +kernel
theorem lv_p2 : parseP ⟨#[112, 117, 115, 104, 32, 48, 53]⟩ = none := by decide +kernel
theorem lv_p1 : parseP ⟨#[106, 122, 32, 57]⟩ = some (16, 9, 0, 0) := by
  rw [← lv_t1, parse_text lv_k1]; rfl
theorem lv_e1 : effI 7 1 1 8 [] = .tup [.int .i64 2, .int .i64 0, .bool true] := by kernel_rfl
theorem lv_e2 : effI 17 1 0 0 [0, 2] = .tup [.int .i64 2, .int .i64 1, .bool true] := by kernel_rfl
theorem lv_z : zerosEv [AV.int .i64 0] 2 = [.int .i64 0, .int .i64 0] := rfl
theorem lives_run (N : Nat) (hN : 100 ≤ N) (m : Mem) (hT : TP m) (hmn : m.n + 100 ≤ 2 ^ depth) : ∃ m', run A (N + 1) 11 [] m = some (.bool true, m') ∧ Ext m m' ∧ m'.n ≤ m.n + 60 := by
  obtain ⟨m1, p1, x1, n1⟩ := parse_run N (by omega) ⟨#[106, 122, 32, 57]⟩ m hT (by decide) (by omega)
  rw [lv_p1] at p1
  have T1 := hT.ext x1
  obtain ⟨m2, p2, x2, n2⟩ := parse_run N (by omega) ⟨#[112, 117, 115, 104, 32, 48, 53]⟩ m1 T1 (by decide) (by omega)
  rw [lv_p2] at p2
  have T2 := T1.ext x2
  have c1 := eff_ex N (by omega) 7 1 1 8 m2 T2.t.t .nils [] (.inl ⟨rfl, rfl⟩)
  rw [lv_e1] at c1
  have hf2 : m2.full = false := not_full (by omega)
  have x3 : Ext m2 (m2.push (.cells [.int .i64 0, .int .i64 2] true)) := (Ext.refl m2).push _ (by omega)
  have T3 := T2.ext x3
  have c2 := eff_ex N (by omega) 17 1 0 0 (m2.push (.cells [.int .i64 0, .int .i64 2] true)) T3.t.t (.slice m2.n 0 2 (some 2) 1) [0, 2] (.inr ⟨m2.n, 0, some 2, 1, rfl, fun i x hx => ⟨_, _, Mem.get_push_new _, by
    match i, hx with
    | 0, hx => cases hx; rfl
    | 1, hx => cases hx; rfl⟩⟩)
  rw [lv_e2] at c2
  obtain ⟨m4, c3, x4, n4⟩ := text_run N (by omega) 7 4 10 8 _ T3.t (by have := T3.n; omega) (by rw [push_n]; omega)
  rw [lv_t2] at c3
  have T4 := T3.ext x4
  rw [push_n] at n4
  obtain ⟨m5, c4, x5, n5⟩ := text_run N (by omega) 12 6 0 0 m4 T4.t (by have := T4.n; omega) (by omega)
  rw [lv_t3] at c4
  unfold insA at c1 c2
  replace p1 : run A N 15 [.str ⟨#[106, 122, 32, 57]⟩] m = some (.tup [.agg [.int .i64 16, .int .i64 9, .int .i64 0, .int .i64 0], .int .i64 0], m1) := p1
  replace p2 : run A N 15 [.str ⟨#[112, 117, 115, 104, 32, 48, 53]⟩] m1 = some (.tup [.agg [.int .i64 0, .int .i64 0, .int .i64 0, .int .i64 0], .int .i64 11], m2) := p2
  refine ⟨m5, ?_, (((x1.trans x2).trans x3).trans x4).trans x5, by omega⟩
  rw [run_11]
  unfold fnEv a11
  simp only [codeEv, opsEv, oneEv, guardEv, opE_mov, opE_pick, opE_alloc, opE_mkslc, opE_loadk, opE_store, opE_bin, opE_eq, opE_ext, opE_call, St.opd, look_set, look_nil, St.put, St.new, St.read, St.write, lookL_nil, lookL_cons, setL_nil, setL_cons, cellsAt_cons, splice, argsT, resEv, bin_ieq, one_int, cells_int, loc_bool, loc_str, loc_slice, loc_nils, loc_agg, cells_agg, fillEv, callWith, List.append_nil, List.map, List.length, List.take, List.drop, List.all, List.any, List.cons_append, List.nil_append, List.take_succ_cons, List.drop_succ_cons, List.length_cons, List.getElem?_cons_succ, List.getElem?_cons_zero, Option.map_some, Nat.reduceEqDiff, Nat.reduceAdd, Nat.reduceLeDiff, Nat.reduceLT, Nat.reduceMul, if_true, if_false, Bool.and_true, Bool.or_false, Bool.not_false, List.isEmpty_cons, beq_self_eq_true, Bool.false_eq_true, Nat.succ_ne_self, decide_true, Nat.reducePow, List.take_succ_cons, and_self, Nat.zero_mul, Nat.one_mul, str_eqg, opE_build, eq_ins, p1, p2, c1, c2, c3, c4, hf2, lv_z]
end AG
