/- What the functions of instructions and their texts compute, and the laws of that. -/
import Derived.Test.YtekljfhfjncmjaaDoorAgRh4
namespace AG
open Go Go.Proofs.YtekljfhfjncmjaaDoor
set_option maxRecDepth 100000
set_option maxHeartbeats 4000000
/-! What the reference parses is what the program parses. -/
theorem fd_digs : ∀ (k u : Nat) (r : List UInt8), u < 10 ^ k → 1 ≤ k → fd (digs k u ++ r) 0 = fd r (u : Int)
  | k + 1, u, r, h, _ => by
    have hb : ∀ n : Nat, n < 10 → (UInt8.ofNat (48 + n)).toNat = 48 + n := by
      intro n hn
      simp
      omega
    unfold digs
    by_cases h1 : u < 10
    · rw [if_pos h1, List.singleton_append, fd, hb u h1, if_neg (by omega)]
      congr 1; omega
    · rw [if_neg h1, List.append_assoc]
      have hk : 1 ≤ k := by
        rcases Nat.eq_zero_or_pos k with h0 | h0
        · subst h0; omega
        · exact h0
      have hp : (10 : Nat) ^ (k + 1) = 10 ^ k * 10 := Nat.pow_succ ..
      rw [fd_digs k (u / 10) _ (by omega) hk, List.singleton_append, fd, hb (u % 10) (by omega), if_neg (by omega)]
      congr 1; omega
theorem digs_head : ∀ (k u : Nat), 1 ≤ k → u < 10 ^ k → (digs k u)[0]? = some 48 → (digs k u).length = 1
  | k + 1, u, _, h, he => by
    unfold digs at he ⊢
    by_cases h1 : u < 10
    · rw [if_pos h1]; rfl
    · rw [if_neg h1] at he ⊢
      exfalso
      have hk : 1 ≤ k := by
        rcases Nat.eq_zero_or_pos k with h0 | h0
        · subst h0; omega
        · exact h0
      have hp : (10 : Nat) ^ (k + 1) = 10 ^ k * 10 := Nat.pow_succ ..
      obtain ⟨j, rfl⟩ : ∃ j, k = j + 1 := ⟨k - 1, by omega⟩
      have hne := digs_neP j (u / 10)
      have hl : 0 < (digs (j + 1) (u / 10)).length := List.length_pos_iff.2 hne
      rw [List.getElem?_append_left hl] at he
      have := digs_head (j + 1) (u / 10) hk (by omega) he
      have hz := fd_digs (j + 1) (u / 10) [] (by omega) hk
      rw [List.append_nil] at hz
      obtain ⟨x, hx⟩ := List.length_eq_one_iff.1 this
      rw [hx] at he hz
      simp only [List.getElem?_cons_zero, Option.some.injEq] at he
      subst he
      rw [fd, fd, if_neg (by decide), fd] at hz
      have e : ((48 : UInt8).toNat : Int) = 48 := rfl
      rw [e] at hz
      omega
theorem digs_len10 : ∀ (k j u : Nat), 1 ≤ k → u < 10 ^ k → (digs j u).length ≤ k
  | _, 0, _, _, _ => by simp [digs]
  | k + 1, j + 1, u, _, h => by
    unfold digs
    by_cases h1 : u < 10
    · rw [if_pos h1]; simp
    · rw [if_neg h1]
      have hp : (10 : Nat) ^ (k + 1) = 10 ^ k * 10 := Nat.pow_succ ..
      have hk : 1 ≤ k := by
        rcases Nat.eq_zero_or_pos k with h0 | h0
        · subst h0; omega
        · exact h0
      have := digs_len10 k j (u / 10) hk (by omega)
      rw [List.length_append, List.length_singleton]; omega
theorem findW_no {w : Int} (s : ByteArray) (h5 : ¬ w = 5) (h6 : ¬ w = 6) : ∀ k n, findW w s k n = 0
  | 0, _ => rfl
  | k + 1, n => by
    rw [findW]
    have : hitB w s n = false := by unfold hitB; rw [if_neg h5, if_neg h6]
    rw [if_neg (by rw [this]; simp)]
    exact findW_no s h5 h6 k (n + 1)
theorem numR_itoa {w : Int} (h5 : ¬ w = 5) (h6 : ¬ w = 6) (n : Nat) (hn : n ≤ 4294967295) : numR w (itoaB n) = n := by
  have hb : (itoaB n).data.toList = digs 20 n := rfl
  have hl := digs_len10 10 20 n (by omega) (by omega)
  have hs : (itoaB n).size = (digs 20 n).length := by rw [← size_list, hb]
  have hne := digs_neP 19 n
  unfold numR
  rw [findW_no _ h5 h6, if_neg (by simp), if_neg, hb]
  · have := fd_digs 20 n [] (by omega) (by omega)
    rw [List.append_nil] at this
    rw [this]; rfl
  · rintro (h | h | h | h | ⟨h, h'⟩)
    · rw [text_eq] at h
      have := of_decide_eq_true h
      rw [hb] at this
      exact hne this
    · exact h5 h
    · exact h6 h
    · omega
    · rw [hb] at h'
      have := digs_head 20 n (by omega) (by omega) h'
      omega
theorem findW_tabs : ((List.range 20).all fun i => i == 0 || findW 5 (signB i) 19 1 == i) = true ∧ ((List.range 4).all fun i => i == 0 || findW 6 (unB i) 19 1 == i) = true := by decide +kernel
theorem numR_piece {w n : Int} (hw : 0 ≤ w ∧ w ≤ 8) (h0 : ¬ w = 0) (h : fitsI w n = true) : ∃ x, piece w n = [x] ∧ numR (refK w) x = n := by
  have hnn := fits_nonneg h
  unfold piece
  rw [if_neg h0]
  by_cases h7 : w = 7
  · subst h7
    simp [fitsI] at h
    refine ⟨_, if_pos rfl, ?_⟩
    have hf := List.all_eq_true.1 findW_tabs.1 n.toNat (List.mem_range.2 (by omega))
    simp only [Bool.or_eq_true, beq_iff_eq] at hf
    have hf := hf.resolve_left (by omega)
    have e : refK 7 = 5 := rfl
    unfold numR
    rw [e, hf, if_pos (by omega)]
    omega
  · by_cases h8 : w = 8
    · subst h8
      simp [fitsI] at h
      refine ⟨_, by rw [if_neg (by omega), if_pos rfl], ?_⟩
      have hf := List.all_eq_true.1 findW_tabs.2 n.toNat (List.mem_range.2 (by omega))
      simp only [Bool.or_eq_true, beq_iff_eq] at hf
      have hf := hf.resolve_left (by omega)
      have e : refK 8 = 6 := rfl
      unfold numR
      rw [e, hf, if_pos (by omega)]
      omega
    · refine ⟨_, by rw [if_neg h7, if_neg h8], ?_⟩
      have hr : ¬ refK w = 5 ∧ ¬ refK w = 6 := by
        have hh : w = 1 ∨ w = 2 ∨ w = 3 ∨ w = 4 ∨ w = 5 ∨ w = 6 := by omega
        rcases hh with rfl | rfl | rfl | rfl | rfl | rfl <;> decide
      rw [numR_itoa hr.1 hr.2 _ (by omega)]
      omega
theorem valsR_pieces {k1 k2 k3 a b c : Int} (r1 : 0 ≤ k1 ∧ k1 ≤ 8) (r2 : 0 ≤ k2 ∧ k2 ≤ 8) (r3 : 0 ≤ k3 ∧ k3 ≤ 8) (z1 : k1 = 0 → k2 = 0 ∧ k3 = 0) (z2 : k2 = 0 → k3 = 0) (f1 : fitsI k1 a = true) (f2 : fitsI k2 b = true) (f3 : fitsI k3 c = true) :
    valsR [refK k1, refK k2, refK k3] (piece k1 a ++ (piece k2 b ++ piece k3 c)) = [a, b, c] := by
  have pz : ∀ n, piece 0 n = [] := fun n => rfl
  by_cases h1 : k1 = 0
  · obtain ⟨h2, h3⟩ := z1 h1
    subst h1; subst h2; subst h3
    rw [fits_zero f1, fits_zero f2, fits_zero f3]
    rfl
  · obtain ⟨x, e1, v1⟩ := numR_piece r1 h1 f1
    rw [e1]
    by_cases h2 : k2 = 0
    · have h3 := z2 h2
      subst h2; subst h3
      rw [fits_zero f2, fits_zero f3, pz]
      show [numR (refK k1) x, 0, 0] = _
      rw [v1]
    · obtain ⟨y, e2, v2⟩ := numR_piece r2 h2 f2
      rw [e2]
      by_cases h3 : k3 = 0
      · subst h3
        rw [fits_zero f3, pz]
        show [numR (refK k1) x, numR (refK k2) y, 0] = _
        rw [v1, v2]
      · obtain ⟨z, e3, v3⟩ := numR_piece r3 h3 f3
        rw [e3]
        show [numR (refK k1) x, numR (refK k2) y, numR (refK k3) z] = _
        rw [v1, v2, v3]
theorem spl_word : ∀ (x : List UInt8) (cur : ByteArray) (r : List UInt8), (∀ b ∈ x, b ≠ 32) → splB cur (x ++ r) = splB (cur ++ ⟨x.toArray⟩) r
  | [], cur, r, _ => by
    have : cur ++ ⟨#[]⟩ = cur := ba_ext (by simp)
    rw [List.nil_append]
    exact congrArg (fun z => splB z r) this.symm
  | b :: x, cur, r, h => by
    rw [List.cons_append, splB, if_neg (h b (by simp)), spl_word x _ r (fun y hy => h y (by simp [hy]))]
    congr 1
    apply ba_ext
    simp
theorem spl_join : ∀ (r : List (List UInt8)) (cur : ByteArray), (∀ y ∈ r, ∀ b ∈ y, b ≠ 32) → splB cur (Lib.joinTail [32] r) = cur :: r.map fun x => ⟨x.toArray⟩
  | [], cur, _ => rfl
  | y :: r, cur, h => by
    have hj : Lib.joinTail [32] (y :: r) = 32 :: (y ++ Lib.joinTail [32] r) := by simp [Lib.joinTail]
    rw [hj, splB, if_pos rfl, spl_word y _ _ (h y (by simp)), spl_join r _ (fun z hz => h z (by simp [hz]))]
    rw [List.map_cons]
    congr 2
theorem spl_text {op a b c : Int} (h : codeOk op a b c = true) : splB ⟨#[]⟩ (textB op a b c).data.toList = parts op a b c := by
  have hp := okW_parts h
  have e : (textB op a b c).data.toList = (nameB op.toNat).data.toList ++ Lib.joinTail [32] ((piece (kx 1 op.toNat) a ++ (piece (kx 2 op.toNat) b ++ piece (kx 3 op.toNat) c)).map (·.data.toList)) := by
    rw [textB, if_pos h, ← Lib.join_cons]
    rfl
  rw [e, spl_word _ _ _ (okW_ne (hp _ (by unfold parts; simp))).2, spl_join _ _ (fun y hy => (okW_ne (hp y (by unfold parts; rw [List.map_cons]; exact List.mem_cons_of_mem _ hy))).2)]
  unfold parts
  congr 1
  · rw [List.map_map]
    have : ∀ l : List ByteArray, l.map ((fun x : List UInt8 => (⟨x.toArray⟩ : ByteArray)) ∘ fun x : ByteArray => x.data.toList) = l := by
      intro l
      induction l with
      | nil => rfl
      | cons x r ih => rw [List.map_cons, ih]; rfl
    exact this _
theorem parseR_text {op a b c : Int} (h : codeOk op a b c = true) : parseR (textB op a b c) = some (op.toNat, a, b, c) := by
  obtain ⟨h1, f1, f2, f3⟩ := codeOk_fits h
  unfold parseR
  rw [spl_text h]
  unfold parts
  dsimp only
  have ho : opOf (nameB op.toNat) 24 1 0 = op.toNat := opOf_name (by omega) (by omega)
  have ht : (op.toNat : Int) = op := by omega
  obtain ⟨z1, z2⟩ := kx_zeros (i := op.toNat) (by omega)
  unfold refIns
  rw [ho, ht, hR_in 1 h1.1 h1.2, hR_in 2 h1.1 h1.2, hR_in 3 h1.1 h1.2, valsR_pieces (kx_range h1.1 h1.2 1 (by simp)) (kx_range h1.1 h1.2 2 (by simp)) (kx_range h1.1 h1.2 3 (by simp)) z1 z2 f1 f2 f3]
  dsimp only
  rw [if_pos h, if_pos (by simp)]
theorem parseR_sound {s : ByteArray} {op : Nat} {a b c : Int} (h : parseR s = some (op, a, b, c)) : textB op a b c = s ∧ codeOk op a b c = true := by
  unfold parseR at h
  split at h
  · cases h
  rename_i w0 ws hws
  unfold refIns at h
  split at h
  case h_2 => cases h
  rename_i a' b' c' hv
  split at h
  case isFalse => cases h
  rename_i hc
  split at h
  case isFalse => cases h
  rename_i he
  simp only [Option.some.injEq, Prod.mk.injEq] at h
  obtain ⟨rfl, rfl, rfl, rfl⟩ := h
  refine ⟨?_, hc⟩
  rw [text_eq] at he
  exact ba_ext (of_decide_eq_true he)
theorem parse_same (s : ByteArray) : parseR s = parseP s := by
  cases hp : parseP s with
  | some i =>
    obtain ⟨op, a, b, c⟩ := i
    obtain ⟨h1, h2⟩ := parse_sound hp
    have := parseR_text h2
    rw [h1] at this
    rw [this]
    simp
  | none =>
    cases hr : parseR s with
    | none => rfl
    | some i =>
      obtain ⟨op, a, b, c⟩ := i
      obtain ⟨h1, h2⟩ := parseR_sound hr
      have := parse_text h2
      rw [h1, hp] at this
      cases this
def slcR (sz : Nat) (x : AV) (lo hi mx : Option AV) (s : St) : Option (AV × St) := match x with
    | .nils => match bndsEv 0 0 lo hi mx with
      | some _ => some (.nils, s)
      | none => none
    | .slice b o n (some c) e => match bndsEv n c lo hi mx with
      | some (l, h, m) => some (.slice b (if m = l then o else o + l * sz) (h - l) (some (m - l)) e, s)
      | none => none
    | .slice b o n none e => match mx with
      | none => match bndsEv n n lo hi none with
        | some (l, h, _) => if l < n ∧ e = sz ∧ 0 < sz then some (.slice b (o + l * sz) (h - l) none e, s) else none
        | none => none
      | some mx => match bndsEv n n lo hi (some mx) with
        | some (l, h, m) => some (.slice b (if m = l then o else o + l * sz) (h - l) (some (m - l)) e, s)
        | none => none
    | _ => none
theorem opE_slcL (call : Caller) (sz : Nat) (x : Opd) (lo hi mx : Option Opd) (s : St) : opEv call (.slcL sz x lo hi mx) s = slcR sz (s.opd x) (lo.map s.opd) (hi.map s.opd) (mx.map s.opd) s := by
  cases mx <;> rfl
/-- A row of texts, or none. -/
def PN (n0 : Nat) (m : Mem) (v : AV) (ps : List ByteArray) : Prop := (v = .nils ∧ ps = []) ∨ PS n0 m v ps
theorem PN.plain {n0 : Nat} {m : Mem} {v : AV} {ps : List ByteArray} (h : PN n0 m v ps) : (∀ ls, AV.locIn ls v = true) ∧ v.isLoc = false := by
  rcases h with ⟨rfl, _⟩ | h
  · exact ⟨fun _ => rfl, rfl⟩
  · exact h.plain
theorem app_pn {n0 : Nat} {m : Mem} {v : AV} {ps : List ByteArray} (h : PN n0 m v ps) (x : ByteArray) (hn : n0 ≤ m.n) (hmn : m.n + 2 ≤ 2 ^ depth) (hl : ps.length ≤ 1000) :
    ∃ v' m', (∀ sn t l, appEv ⟨sn, t, l, m.push (.cells [.str x] true)⟩ none 1 16 v (.slice m.n 0 1 (some 1) 1) = some (v', ⟨sn, t, l, m'⟩)) ∧ PS n0 m' v' (ps ++ [x]) ∧ m'.n ≤ m.n + 2 ∧ m.n ≤ m'.n ∧ (∀ i, i < n0 → m'.get i = m.get i) := by
  rcases h with ⟨rfl, rfl⟩ | h
  · have hf1 : (m.push (.cells [.str x] true)).full = false := not_full (by rw [push_n]; omega)
    refine ⟨.slice (m.n + 1) 0 1 none 1, (m.push (.cells [.str x] true)).push (.cells [.str x] true), fun sn t l => ?_, ⟨m.n + 1, none, rfl, by omega, Mem.get_push_new _, .inl rfl⟩, by rw [push_n, push_n]; omega, by rw [push_n, push_n]; omega, fun i hi => (Mem.get_push_old _ hf1 (by rw [push_n]; omega)).trans (Mem.get_push_old _ (not_full (by omega)) (by omega))⟩
    have hg : (m.push (.cells [.str x] true)).get m.n = some (.cells [.str x] true) := Mem.get_push_new _
    have hc : cellsAt [AV.str x] 0 (1 * 1) = some [.str x] := rfl
    unfold appEv AV.elems
    simp only [hg, hc, hf1, List.all, AV.one, Bool.and_self, if_true, Bool.false_eq_true, if_false, push_n, Mem.noteO, show ¬ (1 : Nat) = 0 by omega]
    rw [if_pos (by decide)]
  · obtain ⟨v', m', h1, h2, h3, h4⟩ := app_ps h x hn hmn hl
    exact ⟨v', m', h1, h2, by omega, by omega, h4⟩

theorem b17_end (N : Nat) (again : AC → St → Option (Ex × St)) (j : Nat) (m : Mem) (_hT : Tab m) (v : AV) (hv : (∀ ls, AV.locIn ls v = true) ∧ v.isLoc = false) (T : List (Nat × AV)) (L : List (Nat × List AV)) (hk : keepT [0, 4, 5, 6] [] T = [(0, v), (4, .slice 12 6 24 (some 24) 6), (5, .int .i64 24), (6, .int .i64 (j : Int))]) (h : 24 ≤ j) : ∃ T' L', codeEv (run A N) again a17_B1 ⟨17, T, L, m⟩ = some (.exit 0, ⟨17, T', L', m⟩) ∧ keepT [0] [] T' = [(0, v)] := by
  have h' : ¬ (j : Int) < 24 := by omega
  have hv1 := hv.1
  unfold a17_B1
  exact ⟨_, _, by simp only [codeEv, opsEv, oneEv, guardEv, opE_bin, St.opd, look_set, look_nil, look_cons, St.put, bin_ilt, keepL, Option.map_some, Nat.reduceEqDiff, Nat.reduceLT, if_true, if_false, Bool.false_eq_true, Nat.succ_ne_self, decide_false, hk, h']; rfl, by simp only [keepT, List.map, look_set, look_cons, Nat.reduceEqDiff, if_true, if_false, hv1]⟩
theorem b17_more (N : Nat) (again : AC → St → Option (Ex × St)) (j : Nat) (m : Mem) (hT : Tab m) (v : AV) (hv : (∀ ls, AV.locIn ls v = true) ∧ v.isLoc = false) (T : List (Nat × AV)) (L : List (Nat × List AV)) (hk : keepT [0, 4, 5, 6] [] T = [(0, v), (4, .slice 12 6 24 (some 24) 6), (5, .int .i64 24), (6, .int .i64 (j : Int))]) (h : j < 24) (hf : m.full = false) (v' : AV) (hv' : (∀ ls, AV.locIn ls v' = true) ∧ v'.isLoc = false) (m' : Mem) (ha : ∀ sn t l, appEv ⟨sn, t, l, m.push (.cells [.str (nameB (j + 1))] true)⟩ none 1 16 v (.slice m.n 0 1 (some 1) 1) = some (v', ⟨sn, t, l, m'⟩)) :
    ∃ T' L', codeEv (run A N) again a17_B1 ⟨17, T, L, m⟩ = some (.norm, ⟨17, T', L', m'⟩) ∧ keepT [0, 4, 5, 6] [] T' = [(0, v'), (4, .slice 12 6 24 (some 24) 6), (5, .int .i64 24), (6, .int .i64 ((j + 1 : Nat) : Int))] := by
  have h' : (j : Int) < 24 := by omega
  have hb : 0 ≤ (j : Int) ∧ (j : Int) < ((24 : Nat) : Int) := by omega
  have hv1 := hv.1
  have hv2 := hv.2
  have hv1' := hv'.1
  have hg := hT.t
  have hkd : cellsAt kinds (6 + j * 6) 6 = some [.str (nameB (j + 1)), .int .i64 (kx 1 (j + 1)), .int .i64 (kx 2 (j + 1)), .int .i64 (kx 3 (j + 1)), .int .i64 (kx 4 (j + 1)), .int .i64 (kx 5 (j + 1))] := by
    have := kind_at ((j + 1 : Nat) : Int) (by omega) (by omega)
    rw [Int.toNat_natCast, show 0 + (j + 1) * 6 = 6 + j * 6 by omega] at this
    exact this
  have a1 := add_i j (by omega)
  unfold a17_B1
  exact ⟨_, _, by simp only [codeEv, opsEv, oneEv, guardEv, opE_mov, opE_alloc, opE_mkslc, opE_load1, opE_loadk, opE_store, opE_bin, opE_faddr, opE_iaddrL, opE_app, elemR_slice, St.opd, look_set, look_nil, look_cons, St.put, St.new, St.read, St.write, lookL_nil, lookL_cons, setL_nil, setL_cons, cellsAt_cons, splice, bin_ilt, in_int, in_slice, in_loc, List.contains_cons, List.contains_nil, one_int, one_str, cells_str, cells_agg, fillEv, keepL, List.append_nil, List.map, List.length, List.take, List.drop, List.all, List.nil_append, List.take_succ_cons, List.drop_succ_cons, Option.map_some, Nat.reduceEqDiff, Nat.reduceAdd, Nat.reduceLeDiff, Nat.reduceLT, if_true, if_false, Bool.and_true, Bool.or_false, Bool.not_false, List.isEmpty_cons, beq_self_eq_true, Bool.false_eq_true, Nat.succ_ne_self, decide_true, keepT_setT, Nat.reducePow, hz1, List.take_succ_cons, and_self, Nat.zero_mul, Nat.one_mul, Int.toNat_natCast, hk, h', hb, hg, hkd, hf, ha, a1, hv1, hv1']; rfl, by simp only [keepT, List.map, look_set, look_cons, in_int, in_slice, Nat.reduceEqDiff, if_true, if_false, hv1']⟩
theorem loop17 (n0 : Nat) (h13 : 13 ≤ n0) : ∀ (k j N : Nat) (m : Mem) (v : AV) (ps : List ByteArray) (T : List (Nat × AV)) (L : List (Nat × List AV)), j + k = 24 → ps.length = j → k + 1 ≤ N → n0 ≤ m.n → m.n + 2 * k + 2 ≤ 2 ^ depth → Tab m → PN n0 m v ps → keepT [0, 4, 5, 6] [] T = [(0, v), (4, .slice 12 6 24 (some 24) 6), (5, .int .i64 24), (6, .int .i64 (j : Int))] →
    ∃ T' L' m' v', codeEv (run A N) (ev A N).2 a17_L1 ⟨17, T, L, m⟩ = some (.exit 0, ⟨17, T', L', m'⟩) ∧ keepT [0] [] T' = [(0, v')] ∧ PN n0 m' v' (ps ++ (List.range' (j + 1) k).map nameB) ∧ (∀ i, i < n0 → m'.get i = m.get i) ∧ m.n ≤ m'.n ∧ m'.n ≤ m.n + 2 * k
  | 0, j, N, m, v, ps, T, L, hjk, hpl, hN, hn0, hmn, hT, hp, hk => by
    obtain ⟨T', L', e1, e2⟩ := b17_end N (ev A N).2 j m hT v hp.plain T L hk (by omega)
    exact ⟨T', L', m, v, by rw [a17_L1_step, e1], e2, by simpa using hp, fun _ _ => rfl, Nat.le_refl _, by omega⟩
  | k + 1, j, N, m, v, ps, T, L, hjk, hpl, hN, hn0, hmn, hT, hp, hk => by
    obtain ⟨n, rfl⟩ : ∃ n, N = n + 1 := ⟨N - 1, by omega⟩
    obtain ⟨v1, m1, ha, hp1, hm1, hm1', hk1⟩ := app_pn hp (nameB (j + 1)) hn0 (by omega) (by omega)
    obtain ⟨T1, L1, e1, e2⟩ := b17_more (n + 1) (ev A (n + 1)).2 j m hT v hp.plain T L hk (by omega) (not_full (by omega)) v1 hp1.plain m1 ha
    have hT1 : Tab m1 := ⟨(hk1 0 (by omega)).trans hT.k, (hk1 2 (by omega)).trans hT.s, (hk1 12 (by omega)).trans hT.t⟩
    obtain ⟨T', L', m', v', f1, f2, f3, f4, f5, f6⟩ := loop17 n0 h13 k (j + 1) n m1 v1 (ps ++ [nameB (j + 1)]) T1 L1 (by omega) (by rw [List.length_append, List.length_singleton]; omega) (by omega) (by omega) (by omega) hT1 (.inr hp1) e2
    refine ⟨T', L', m', v', ?_, f2, ?_, fun i hi => (f4 i hi).trans (hk1 i hi), by omega, by omega⟩
    · rw [a17_L1_step, e1]
      dsimp only
      rw [again_of]
      exact f1
    · rw [List.range'_succ, List.map_cons]
      rw [List.append_assoc, List.singleton_append] at f3
      exact f3
def namesB : List ByteArray := (List.range' 1 24).map nameB
theorem loop17q (N : Nat) (hN : 25 ≤ N) (m : Mem) (h13 : 13 ≤ m.n) (hmn : m.n + 60 ≤ 2 ^ depth) (hT : Tab m) (T : List (Nat × AV)) (L : List (Nat × List AV)) {q : Option (Ex × St)} (hq : codeEv (run A N) (ev A N).2 a17_L1 ⟨17, T, L, m⟩ = q) (hk : keepT [0, 4, 5, 6] [] T = [(0, .nils), (4, .slice 12 6 24 (some 24) 6), (5, .int .i64 24), (6, .int .i64 0)]) :
    ∃ T' L' m' v', q = some (.exit 0, ⟨17, T', L', m'⟩) ∧ keepT [0] [] T' = [(0, v')] ∧ PN m.n m' v' namesB ∧ Gr m m' 48 := by
  subst hq
  obtain ⟨T', L', m', v', e1, e2, e3, e4, e5, e6⟩ := loop17 m.n h13 24 0 N m .nils [] T L (by omega) rfl hN (Nat.le_refl _) (by omega) hT (.inl ⟨rfl, rfl⟩) hk
  exact ⟨T', L', m', v', e1, e2, e3, ⟨e5, e4⟩, by omega⟩
theorem names_run (N : Nat) (hN : 26 ≤ N) (m : Mem) (hT : Tab m) (h13 : 13 ≤ m.n) (hmn : m.n + 60 ≤ 2 ^ depth) : ∃ v m', run A N 17 [] m = some (v, m') ∧ PS m.n m' v namesB ∧ Gr m m' 48 := by
  obtain ⟨n, rfl⟩ : ∃ n, N = n + 1 := ⟨N - 1, by omega⟩
  have hg := hT.k
  have hs : ∀ st, slcR 6 (.slice 12 0 25 (some 25) 6) (some (.int .i64 1)) none none st = some (.slice 12 6 24 (some 24) 6, st) := fun st => rfl
  have h24 : ((24 : Nat) : Int) = 24 := rfl
  rw [run_17]
  unfold fnEv a17
  simp only [codeEv, opsEv, oneEv, guardEv, opE_mov, opE_load1, opE_lenL, lenR_slice, St.opd, look_set, look_nil, look_cons, St.put, St.read, cellsAt_cons, argsT, resEv, in_nils, keepL, List.map, List.length, List.take, List.drop, List.take_succ_cons, Option.map_some, Nat.reduceEqDiff, Nat.reduceAdd, Nat.reduceLeDiff, Nat.reduceLT, if_true, if_false, keepT_setT, List.take_succ_cons, opE_slcL, Option.map_none, hg, hs, h24]
  generalize hq : codeEv (run A n) (ev A n).2 a17_L1 _ = q
  obtain ⟨T', L', m', v', rfl, e2, e3, e4⟩ := loop17q n (by omega) m h13 hmn hT _ _ hq (by simp only [keepT, List.map, look_set, look_cons, in_int, in_slice, in_nils, Nat.reduceEqDiff, if_true, if_false, in_nils])
  obtain ⟨p1, p2⟩ := e3.plain
  have e3' : PS m.n m' v' namesB := by
    rcases e3 with ⟨_, h⟩ | h
    · have : namesB.length = 24 := by simp [namesB]
      rw [h] at this
      cases this
    · exact h
  refine ⟨v', m', ?_, e3', e4⟩
  simp only [look_set, look_nil, look_cons, Nat.reduceEqDiff, Nat.reduceLT, if_true, if_false, Bool.false_eq_true, e2, p2]

theorem b23_end (N : Nat) (again : AC → St → Option (Ex × St)) (b b2 nl j : Nat) (c c2 : Option Nat) (m : Mem) (T : List (Nat × AV)) (L : List (Nat × List AV)) (hk : keepT [0, 1, 5] [] T = [(0, .slice b 0 nl c 1), (1, .slice b2 0 nl c2 1), (5, .int .i64 (j : Int))]) (h : nl ≤ j) : ∃ T' L', codeEv (run A N) again a23_B1 ⟨26, T, L, m⟩ = some (.exit 0, ⟨26, T', L', m⟩) := by
  have h' : ¬ (j : Int) < (nl : Int) := by omega
  unfold a23_B1
  exact ⟨_, _, by simp only [codeEv, opsEv, oneEv, guardEv, opE_mov, opE_bin, opE_lenL, lenR_slice, St.opd, look_set, look_nil, look_cons, St.put, bin_ilt, keepL, Option.map_some, Nat.reduceEqDiff, Nat.reduceLT, if_true, if_false, Bool.false_eq_true, Nat.succ_ne_self, decide_false, hk, h']; rfl⟩
theorem b23_more (N : Nat) (again : AC → St → Option (Ex × St)) (b b2 nl j : Nat) (c c2 : Option Nat) (m : Mem) (T : List (Nat × AV)) (L : List (Nat × List AV)) (hk : keepT [0, 1, 5] [] T = [(0, .slice b 0 nl c 1), (1, .slice b2 0 nl c2 1), (5, .int .i64 (j : Int))]) (h : j < nl) (hj : j ≤ 1000) (cl cl2 : List AV) (ow ow2 : Bool) (hb : m.get b = some (.cells cl ow)) (hb2 : m.get b2 = some (.cells cl2 ow2)) (x : ByteArray) (h1 : cellsAt cl (0 + j * 1) 1 = some [.str x]) (h2 : cellsAt cl2 (0 + j * 1) 1 = some [.str x]) : ∃ T' L', codeEv (run A N) again a23_B1 ⟨26, T, L, m⟩ = some (.norm, ⟨26, T', L', m⟩) ∧ keepT [0, 1, 5] [] T' = [(0, .slice b 0 nl c 1), (1, .slice b2 0 nl c2 1), (5, .int .i64 ((j + 1 : Nat) : Int))] := by
  have h' : (j : Int) < (nl : Int) := by omega
  have h'' : 0 ≤ (j : Int) := by omega
  have a1 := add_i j (by omega)
  have hx : (x.toList == x.toList) = true := by simp
  unfold a23_B1
  exact ⟨_, _, by simp only [codeEv, opsEv, oneEv, guardEv, opE_mov, opE_load1, opE_bin, opE_iaddrL, opE_lenL, lenR_slice, elemR_slice, St.opd, look_set, look_nil, look_cons, St.put, St.read, bin_ilt, in_int, in_slice, keepL, careEv, dOneEv, dOpsEv, accOf, accEv, Option.toList_some, List.append_nil, List.map, Option.map_some, Nat.reduceEqDiff, Nat.reduceLT, if_true, if_false, Bool.and_true, Bool.and_false, Bool.not_true, Bool.not_false, beq_self_eq_true, Bool.false_eq_true, Nat.succ_ne_self, decide_true, keepT_setT, and_self, str_ne, AOp.kd, kd_rm, logOk_nil', Int.toNat_natCast, hk, h', h'', hb, hb2, h1, h2, str_ne, a1]; rfl, by simp only [keepT, List.map, look_set, look_cons, in_int, in_slice, Nat.reduceEqDiff, if_true, if_false]⟩
theorem loop23 (b b2 : Nat) (c c2 : Option Nat) (m : Mem) (ps : List ByteArray) (ow ow2 : Bool) (hb : m.get b = some (.cells (ps.map AV.str) ow)) (hb2 : m.get b2 = some (.cells (ps.map AV.str) ow2)) (hl : ps.length ≤ 1000) : ∀ (k j N : Nat) (T : List (Nat × AV)) (L : List (Nat × List AV)), j + k = ps.length → k + 1 ≤ N → keepT [0, 1, 5] [] T = [(0, .slice b 0 ps.length c 1), (1, .slice b2 0 ps.length c2 1), (5, .int .i64 (j : Int))] →
    ∃ T' L', codeEv (run A N) (ev A N).2 a23_L1 ⟨26, T, L, m⟩ = some (.exit 0, ⟨26, T', L', m⟩)
  | 0, j, N, T, L, hjk, hN, hk => by
    obtain ⟨T', L', e1⟩ := b23_end N (ev A N).2 b b2 ps.length j c c2 m T L hk (by omega)
    exact ⟨T', L', by rw [a23_L1_step, e1]⟩
  | k + 1, j, N, T, L, hjk, hN, hk => by
    obtain ⟨n, rfl⟩ : ∃ n, N = n + 1 := ⟨N - 1, by omega⟩
    obtain ⟨x, hx⟩ : ∃ x, ps[j]? = some x := ⟨_, List.getElem?_eq_getElem (by omega)⟩
    have hc := words_at hx
    obtain ⟨T1, L1, e1, e2⟩ := b23_more (n + 1) (ev A (n + 1)).2 b b2 ps.length j c c2 m T L hk (by omega) (by omega) _ _ ow ow2 hb hb2 x hc hc
    obtain ⟨T', L', h⟩ := loop23 b b2 c c2 m ps ow ow2 hb hb2 hl k (j + 1) n T1 L1 (by omega) (by omega) e2
    refine ⟨T', L', ?_⟩
    rw [a23_L1_step, e1]
    dsimp only
    rw [again_of]
    exact h
theorem loop23q (b b2 : Nat) (c c2 : Option Nat) (m : Mem) (ps : List ByteArray) (ow ow2 : Bool) (hb : m.get b = some (.cells (ps.map AV.str) ow)) (hb2 : m.get b2 = some (.cells (ps.map AV.str) ow2)) (hl : ps.length ≤ 1000) (N : Nat) (T : List (Nat × AV)) (L : List (Nat × List AV)) (hN : ps.length + 1 ≤ N) {q : Option (Ex × St)} (hq : codeEv (run A N) (ev A N).2 a23_L1 ⟨26, T, L, m⟩ = q) (hk : keepT [0, 1, 5] [] T = [(0, .slice b 0 ps.length c 1), (1, .slice b2 0 ps.length c2 1), (5, .int .i64 0)]) : ∃ T' L', q = some (.exit 0, ⟨26, T', L', m⟩) := by
  subst hq
  exact loop23 b b2 c c2 m ps ow ow2 hb hb2 hl ps.length 0 N T L (by omega) hN hk
theorem texts_run (N : Nat) (b b2 : Nat) (c c2 : Option Nat) (m : Mem) (ps : List ByteArray) (ow ow2 : Bool) (hN : ps.length + 2 ≤ N) (hb : m.get b = some (.cells (ps.map AV.str) ow)) (hb2 : m.get b2 = some (.cells (ps.map AV.str) ow2)) (hl : ps.length ≤ 1000) : run A N 23 [.slice b 0 ps.length c 1, .slice b2 0 ps.length c2 1] m = some (.bool true, m) := by
  obtain ⟨n, rfl⟩ : ∃ n, N = n + 1 := ⟨N - 1, by omega⟩
  have hself : decide ((ps.length : Int) = (ps.length : Int)) = true := by simp
  rw [run_23]
  unfold fnEv a23
  simp only [codeEv, opsEv, oneEv, guardEv, opE_mov, opE_bin, opE_lenL, lenR_slice, St.opd, look_set, look_nil, look_cons, St.put, argsT, resEv, bin_ine, in_slice, keepL, List.map, List.length, Option.map_some, Nat.reduceEqDiff, Nat.reduceAdd, Nat.reduceLT, if_true, if_false, Bool.not_true, Bool.false_eq_true, Nat.succ_ne_self, decide_true, keepT_setT, keepT_lit]
  generalize hq : codeEv (run A n) (ev A n).2 a23_L1 _ = q
  obtain ⟨T', L', rfl⟩ := loop23q b b2 c c2 m ps ow ow2 hb hb2 hl n _ _ (by omega) hq (by simp only [keepT, List.map, look_set, look_cons, in_int, in_slice, Nat.reduceEqDiff, if_true, if_false])
  simp only [look_set, loc_bool, Nat.reduceLT, if_true, if_false, Bool.false_eq_true]
theorem names_same : namesL = namesB.map AV.str := by
  unfold namesB
  apply List.ext_getElem?
  intro j
  by_cases h : j < 24
  · rw [names_at j h, List.getElem?_map, List.getElem?_map, List.getElem?_range' h]
    simp [Nat.add_comm]
  · rw [List.getElem?_eq_none (by have : namesL.length = 24 := rfl
                                  omega), List.getElem?_eq_none (by simp; omega)]
theorem lg8 (m m1 m2 m3 : Mem) : logOk [.eff m m1, .rw (.loc 3 0) 4 false, .eff m2 m3, .rw (.loc 3 0) 4 false] = true := rfl
theorem effI_tup (op a b c : Int) (l : List Int) : ∃ x g k, effI op a b c l = .tup [.int .i64 x, .int .i64 g, .bool k] := by
  unfold effI
  split
  · split
    · split
      · exact ⟨_, _, _, rfl⟩
      · exact ⟨_, _, _, rfl⟩
    · exact ⟨_, _, _, rfl⟩
  · exact ⟨_, _, _, rfl⟩
theorem jumpsI_tup (op a b c : Int) : ∃ x g k, jumpsI op a b c = .tup [.int .i64 x, .bool g, .bool k] := by
  unfold jumpsI
  split
  · split
    · exact ⟨_, _, _, rfl⟩
    · split
      · exact ⟨_, _, _, rfl⟩
      · split
        · exact ⟨_, _, _, rfl⟩
        · exact ⟨_, _, _, rfl⟩
  · exact ⟨_, _, _, rfl⟩
theorem parseAV_tup (r : Option (Nat × Int × Int × Int)) : ∃ o a b c e, parseAV r = .tup [.agg [.int .i64 o, .int .i64 a, .int .i64 b, .int .i64 c], .int .i64 e] := by
  cases r with
  | none => exact ⟨_, _, _, _, _, rfl⟩
  | some i =>
    obtain ⟨o, a, b, c⟩ := i
    exact ⟨_, _, _, _, _, rfl⟩
theorem calls_big (N : Nat) (op a b c : Int) (v : AV) (l : List Int) (s : ByteArray) (m m1 : Mem) (hv : RS iC 1 m v l) (hl : run A N 11 [] m = some (.bool true, m1)) (hs : 100 < l.length ∨ 100 < s.size) : run A (N + 1) 8 [.agg [.int .i64 op, .int .i64 a, .int .i64 b, .int .i64 c], v, .str s] m = some (.bool true, m1) := by
  rw [run_8]
  obtain ⟨p1, p2, p3, p4⟩ := hv.plain
  have p5 := hv.lenR
  unfold fnEv a8 a8_R1
  by_cases h1 : (l.length : Int) > 100
  · simp only [codeEv, opsEv, oneEv, guardEv, opE_mov, opE_pick, opE_box, opE_bin, opE_un, opE_call, opE_lenL, St.opd, look_set, look_nil, look_cons, St.put, St.new, lookL_nil, lookL_cons, setL_nil, argsT, resEv, bin_igt, in_str, in_agg, in_loc, List.contains_cons, List.contains_nil, loc_bool, cells_agg, unEv, callWith, keepL, List.map, List.length, List.any, Option.map_some, Nat.reduceEqDiff, Nat.reduceAdd, Nat.reduceLT, if_true, if_false, Bool.or_false, Bool.not_true, beq_self_eq_true, Bool.false_eq_true, Nat.succ_ne_self, decide_true, beq_tf, keepT_setT, keepT_lit, hl, p1, p5, h1]
  · have h2 : (s.size : Int) > 100 := by omega
    simp only [codeEv, opsEv, oneEv, guardEv, opE_mov, opE_pick, opE_box, opE_bin, opE_un, opE_call, opE_lenL, St.opd, look_set, look_nil, look_cons, St.put, St.new, lookL_nil, lookL_cons, setL_nil, argsT, resEv, bin_igt, in_str, in_agg, in_loc, List.contains_cons, List.contains_nil, loc_bool, cells_agg, unEv, callWith, keepL, List.map, List.length, List.any, Option.map_some, Nat.reduceEqDiff, Nat.reduceAdd, Nat.reduceLT, if_true, if_false, Bool.or_false, Bool.not_true, beq_self_eq_true, Bool.false_eq_true, Nat.succ_ne_self, decide_true, decide_false, keepT_setT, keepT_lit, opE_lenS, hl, p1, p5, h1, h2]
theorem calls_run (N : Nat) (hN : 200 ≤ N) (op a b c : Int) (v : AV) (l : List Int) (s : ByteArray) (m m1 : Mem) (hv : RS iC 1 m v l) (hx : Ext m m1) (hl : run A N 11 [] m = some (.bool true, m1)) (hT : TP m1) (hmn : m1.n + 1200 ≤ 2 ^ depth) : ∃ m', run A (N + 1) 8 [.agg [.int .i64 op, .int .i64 a, .int .i64 b, .int .i64 c], v, .str s] m = some (.bool true, m') := by
  by_cases hs : 100 < l.length ∨ 100 < s.size
  · exact ⟨_, calls_big N op a b c v l s m m1 hv hl hs⟩
  have hv1 := hv.ext hx
  have h13 := hT.n
  have c14 := eff_ex N (by omega) op a b c m1 hT.t.t v l hv1
  unfold insA at c14
  obtain ⟨m2, c18, g2⟩ := reff_run N (by omega) op a b c m1 (by omega) v l hv1
  obtain ⟨e1, e2, e3, he⟩ := effI_tup op a b c l
  rw [he] at c14 c18
  have T2 := hT.ext g2.1
  have n2 := g2.2
  have c16 := jumps_ex N (by omega) op a b c m2 T2.t.t
  unfold insA at c16
  obtain ⟨m3, c19, g3⟩ := rjumps_run N (by omega) op a b c m2 (by omega)
  obtain ⟨j1, j2, j3, hj⟩ := jumpsI_tup op a b c
  rw [hj] at c16 c19
  have T3 := T2.ext g3.1
  have n3 := g3.2
  obtain ⟨m4, c15, x4, n4⟩ := parse_run N (by omega) s m3 T3 (by omega) (by omega)
  have T4 := T3.ext x4
  obtain ⟨m5, c20, g5⟩ := rparse_run N (by omega) s (by omega) m4 T4.t (by have := T4.n; omega) (by omega)
  rw [parse_same] at c20
  obtain ⟨q1, q2, q3, q4, q5, hq⟩ := parseAV_tup (parseP s)
  rw [hq] at c15 c20
  have T5 := T4.ext g5.1
  have n5 := g5.2
  have c12 := code_call N (by omega) op a b c m5 T5.t.t
  obtain ⟨m6, c21, g6⟩ := rcheck_run N (by omega) op a b c m5 (by omega)
  generalize (if codeOk op a b c = true then (0 : Int) else 2) = ck at c12 c21
  have T6 := T5.ext g6.1
  have n6 := g6.2
  obtain ⟨m7, c13, x7, n7⟩ := text_run N (by omega) op a b c m6 T6.t (by have := T6.n; omega) (by omega)
  have T7 := T6.ext x7
  obtain ⟨m8, c22, g8⟩ := rtext_run N (by omega) op a b c m7 T7.t (by have := T7.n; omega) (by omega)
  have T8 := T7.ext g8.1
  have n8 := g8.2
  obtain ⟨v9, m9, c17, p9, g9⟩ := names_run N (by omega) m8 T8.t.t (by have := T8.n; omega) (by omega)
  have n9 := g9.2
  have c24 := rnames_run N (by omega) m9 (by omega)
  obtain ⟨b9, cap9, rfl, hb9, hg9, _⟩ := p9
  have hl24 : namesB.length = 24 := by simp [namesB]
  have hg10 : (m9.push (.cells namesL true)).get b9 = some (.cells (namesB.map AV.str) true) := (Mem.get_push_old _ (not_full (by omega)) (by have := Mem.get_lt hg9; omega)).trans hg9
  have hg11 : (m9.push (.cells namesL true)).get m9.n = some (.cells (namesB.map AV.str) true) := by rw [← names_same]; exact Mem.get_push_new _
  have c23 := texts_run N b9 m9.n cap9 (some 24) (m9.push (.cells namesL true)) namesB true true (by omega) hg10 hg11 (by omega)
  rw [hl24] at c17 c23
  rw [run_8]
  obtain ⟨p1, p2, p3, p4⟩ := hv.plain
  have p5 := hv.lenR
  have h1 : ¬ (l.length : Int) > 100 := by omega
  have h2 : ¬ (s.size : Int) > 100 := by omega
  refine ⟨m9.push (.cells namesL true), ?_⟩
  unfold fnEv a8
  simp only [codeEv, opsEv, oneEv, guardEv, opE_mov, opE_pick, opE_alloc, opE_box, opE_loadk, opE_store, opE_bin, opE_eq, opE_un, opE_ext, opE_call, opE_lenL, St.opd, look_set, look_nil, look_cons, St.put, St.new, St.read, St.write, lookL_nil, lookL_cons, setL_nil, setL_cons, cellsAt_cons, splice, argsT, resEv, bin_igt, bin_ieq, in_int, in_bool, in_str, in_agg, in_loc, List.contains_cons, List.contains_nil, one_int, loc_bool, loc_str, loc_slice, loc_agg, cells_agg, unEv, callWith, keepL, careEv, dOneEv, dOpsEv, accOf, accEv, Option.toList_some, List.append_nil, List.map, List.length, List.take, List.drop, List.all, List.any, List.cons_append, List.nil_append, List.take_succ_cons, List.drop_succ_cons, List.getElem?_cons_succ, List.getElem?_cons_zero, Option.map_some, Nat.reduceEqDiff, Nat.reduceAdd, Nat.reduceLeDiff, Nat.reduceLT, if_true, if_false, Bool.and_true, Bool.and_false, Bool.or_true, Bool.or_false, Bool.true_or, Bool.not_true, Bool.not_false, List.isEmpty_cons, beq_self_eq_true, Bool.false_eq_true, Nat.succ_ne_self, decide_true, decide_false, keepT_setT, keepT_lit, List.take_succ_cons, and_self, opE_lenS, str_eqg, eq_ins, eqb, AOp.kd, kd_rm, lg8, a8_R1, a8_R2, a8_R3, a8_R4, a8_R5, a8_R6, a8_R7, a8_R8, hl, p1, p2, p5, h1, h2, c14, c18, c16, c19, c15, c20, c12, c21, c13, c22, c17, c24, c23]
end AG
