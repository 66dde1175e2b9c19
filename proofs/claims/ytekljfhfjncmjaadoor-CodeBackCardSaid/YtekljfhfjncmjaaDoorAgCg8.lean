/- What the functions of instructions and their texts compute, and the laws of that. -/
import Derived.Test.YtekljfhfjncmjaaDoorAgCg7
namespace AG
open Go Go.Proofs.YtekljfhfjncmjaaDoor
set_option maxRecDepth 100000
set_option maxHeartbeats 4000000



theorem opE_build (call : Caller) (z : List AV) (parts : List (Nat × Nat × Opd)) (s : St) : opEv call (.build z parts) s = match fillEv z (parts.map fun (o, k, x) => (o, k, s.opd x)) with | some c => some (.agg c, s) | none => none := rfl
theorem kind_at (op : Int) (h1 : 1 ≤ op) (h2 : op < 25) : cellsAt kinds (0 + op.toNat * 6) 6 = some [.str (nameB op.toNat), .int .i64 (kx 1 op.toNat), .int .i64 (kx 2 op.toNat), .int .i64 (kx 3 op.toNat), .int .i64 (kx 4 op.toNat), .int .i64 (kx 5 op.toNat)] := by
  obtain ⟨s, hs⟩ := kind_ex op h1 h2
  have : nameB op.toNat = s := by
    unfold cellsAt at hs
    split at hs
    · simp only [Option.some.injEq] at hs
      have h0 : (kinds.drop (0 + op.toNat * 6))[0]? = some (.str s) := by
        have := congrArg (fun l => l[0]?) hs
        simpa using this
      rw [List.getElem?_drop, Nat.add_zero, Nat.zero_add] at h0
      unfold nameB strAt
      rw [h0]
    · cases hs
  rw [this]; exact hs
theorem loop13q (N : Nat) (hN : 6 ≤ N) (k1 a k2 b k3 c : Int) (n0 : Nat) (m : Mem) (v : AV) (ps : List ByteArray) (hps : PS n0 m v ps) (hT : Tab2 m) (h13 : 13 ≤ n0) (hn : n0 ≤ m.n) (hmn : m.n + 6 ≤ 2 ^ depth) (hl : ps.length ≤ 100)
    (f1 : fitsI k1 a = true) (f2 : fitsI k2 b = true) (f3 : fitsI k3 c = true) (w1 : 0 ≤ k1 ∧ k1 ≤ 8) (w2 : 0 ≤ k2 ∧ k2 ≤ 8) (w3 : 0 ≤ k3 ∧ k3 ≤ 8) {T : List (Nat × AV)} {L : List (Nat × List AV)} {q : Option (Ex × St)} (hq : codeEv (run A N) (ev A N).2 a13_L1 ⟨66, T, L, m⟩ = q) (hk : keepT [4, 33, 34] [] T = [(4, v), (33, G6 k1 a k2 b k3 c), (34, .int .i64 0)]) :
    ∃ T' L' m' v', q = some (.exit 0, ⟨66, T', L', m'⟩) ∧ keepT [4] [] T' = [(4, v')] ∧ PS n0 m' v' (ps ++ (piece k1 a ++ (piece k2 b ++ piece k3 c))) ∧ (m.n ≤ m'.n ∧ m'.n ≤ m.n + 6) ∧ (∀ i, i < n0 → m'.get i = m.get i) ∧ Tab2 m' := by
  subst hq
  exact loop13 N hN k1 a k2 b k3 c n0 m v ps T L hps hT h13 hn hmn hl hk f1 f2 f3 w1 w2 w3
theorem text_bad (N : Nat) (hN : 12 ≤ N) (op a b c : Int) (m : Mem) (hT : Tab m) (hok : codeOk op a b c = false) : run A N 13 [insA op a b c] m = some (.str ⟨#[]⟩, m) := by
  obtain ⟨n, rfl⟩ : ∃ n, N = n + 1 := ⟨N - 1, by omega⟩
  rw [run_13]
  have hc := code_call n (by omega) op a b c m hT
  rw [hok] at hc
  simp only [Bool.false_eq_true, if_false] at hc
  unfold fnEv a13 insA
  simp only [codeEv, opsEv, oneEv, guardEv, opE_mov, opE_box, opE_loadk, opE_bin, opE_call, St.opd, look_set, look_nil, look_cons, St.put, St.new, St.read, lookL_nil, lookL_cons, setL_nil, cellsAt_cons, argsT, resEv, bin_ine, in_agg, in_loc, List.contains_cons, List.contains_nil, loc_str, loc_agg, cells_agg, callWith, keepL, List.map, List.length, List.take, List.drop, List.any, List.take_succ_cons, Option.map_some, Nat.reduceEqDiff, Int.reduceEq, Nat.reduceAdd, Nat.reduceLeDiff, Nat.reduceLT, if_true, if_false, Bool.or_false, Bool.not_false, beq_self_eq_true, Bool.false_eq_true, Nat.succ_ne_self, decide_false, keepT_setT, keepT_lit, List.take_succ_cons, hc]
theorem text_good (N : Nat) (hN : 12 ≤ N) (op a b c : Int) (m : Mem) (hT : Tab2 m) (h13 : 13 ≤ m.n) (hmn : m.n + 8 ≤ 2 ^ depth) (hok : codeOk op a b c = true) :
    ∃ m', run A N 13 [insA op a b c] m = some (.str (joinB (parts op a b c) ⟨#[32]⟩), m') ∧ Ext m m' ∧ m'.n ≤ m.n + 8 := by
  obtain ⟨n, rfl⟩ : ∃ n, N = n + 1 := ⟨N - 1, by omega⟩
  rw [run_13]
  have hc := code_call n (by omega) op a b c m hT.t
  rw [hok] at hc
  simp only [if_true] at hc
  obtain ⟨h1, h2, h3, h4⟩ := codeOk_fits hok
  have hb : 0 ≤ op ∧ op < ((25 : Nat) : Int) := by omega
  have hs := kind_at op h1.1 h1.2
  have hf : m.full = false := not_full (by omega)
  have hps : PS m.n (m.push (.cells [.str (nameB op.toNat)] true)) (.slice m.n 0 1 (some 1) 1) [nameB op.toNat] := ⟨m.n, some 1, rfl, Nat.le_refl _, Mem.get_push_new _, .inr rfl⟩
  have hT1 : Tab2 (m.push (.cells [.str (nameB op.toNat)] true)) := hT.ext ((Ext.refl m).push _ (by omega)) h13
  have hlp := fun T L q => loop13q n (by omega) (kx 1 op.toNat) a (kx 2 op.toNat) b (kx 3 op.toNat) c m.n _ _ _ hps hT1 h13 (by rw [push_n]; omega) (by rw [push_n]; omega) (by simp) h2 h3 h4 (kx_range h1.1 h1.2 1 (by simp)) (kx_range h1.1 h1.2 2 (by simp)) (kx_range h1.1 h1.2 3 (by simp)) (T := T) (L := L) (q := q)
  unfold fnEv a13 insA
  simp only [codeEv, opsEv, oneEv, guardEv, opE_mov, opE_alloc, opE_box, opE_mkslc, opE_load1, opE_loadk, opE_store, opE_bin, opE_faddr, opE_iaddrL, opE_call, elemR_slice, St.opd, look_set, look_nil, look_cons, St.put, St.new, St.read, St.write, lookL_nil, lookL_cons, setL_nil, setL_cons, cellsAt_cons, splice, argsT, resEv, bin_ine, in_slice, in_agg, in_loc, List.contains_cons, List.contains_nil, one_int, cells_int, one_str, loc_str, cells_str, loc_agg, cells_agg, fillEv, callWith, keepL, List.append_nil, List.map, List.length, List.take, List.drop, List.all, List.any, List.cons_append, List.nil_append, List.take_succ_cons, List.drop_succ_cons, List.length_cons, Option.map_some, Nat.reduceEqDiff, Nat.reduceAdd, Nat.reduceLeDiff, Nat.reduceLT, if_true, if_false, Bool.and_true, Bool.or_true, Bool.or_false, Bool.true_or, Bool.not_true, Bool.not_false, List.isEmpty_cons, beq_self_eq_true, Bool.false_eq_true, Nat.succ_ne_self, decide_true, keepT_setT, keepT_lit, Nat.reducePow, hz1, List.take_succ_cons, and_self, Nat.zero_mul, Nat.one_mul, opE_build, hc, a13_R1, a13_R2, hT.t.k, hT.t.t, hb, hs, hf]
  generalize hq : codeEv (run A n) (ev A n).2 a13_L1 _ = q
  obtain ⟨T', L', m', v', rfl, hk', e3, e4, e5, e6⟩ := hlp _ _ _ hq (by simp only [keepT, List.map, look_set, look_cons, in_int, in_slice, in_agg, Nat.reduceEqDiff, if_true, if_false, G6])
  obtain ⟨p1, p2⟩ := e3.plain
  have pl : ∀ w n : Int, (piece w n).length ≤ 1 := fun w n => by rw [piece_len]; split <;> omega
  have l1 := pl (kx 1 op.toNat) a
  have l2 := pl (kx 2 op.toNat) b
  have l3 := pl (kx 3 op.toNat) c
  have e : [nameB op.toNat] ++ (piece (kx 1 op.toNat) a ++ (piece (kx 2 op.toNat) b ++ piece (kx 3 op.toNat) c)) = parts op a b c := rfl
  rw [e] at e3
  have hlen4 : (parts op a b c).length ≤ 4 := by
    simp only [parts, List.length_cons, List.length_append]
    omega
  have hb84 := join_len (B := 20) _ (parts_b hok)
  rw [List.length_map] at hb84
  have hj := join_at (n - 1) m' v' m.n _ e3 (by omega) (by omega)
  rw [show n - 1 + 1 = n by omega] at hj
  refine ⟨m', ?_, ⟨by rw [push_n] at e4; omega, fun i hi => (e5 i hi).trans (Mem.get_push_old _ hf (by omega))⟩, by rw [push_n] at e4; omega⟩
  simp only [look_set, look_nil, look_cons, loc_str, Nat.reduceEqDiff, Nat.reduceLT, if_true, if_false, Bool.false_eq_true, hk', p2, hj]

end AG
