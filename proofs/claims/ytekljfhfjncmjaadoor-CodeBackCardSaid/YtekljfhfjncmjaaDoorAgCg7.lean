/- What the functions of instructions and their texts compute, and the laws of that. -/
import Derived.Test.YtekljfhfjncmjaaDoorAgCg6
namespace AG
open Go Go.Proofs.YtekljfhfjncmjaaDoor
set_option maxRecDepth 100000
set_option maxHeartbeats 4000000



theorem b13_end (N : Nat) (again : AC → St → Option (Ex × St)) (k1 a k2 b k3 c : Int) (n0 : Nat) (m : Mem) (v : AV) (ps : List ByteArray) (T : List (Nat × AV)) (L : List (Nat × List AV)) (hps : PS n0 m v ps) (hk : keepT [4, 33, 34] [] T = [(4, v), (33, G6 k1 a k2 b k3 c), (34, .int .i64 3)]) :
    ∃ T' L', codeEv (run A N) again a13_B1 ⟨66, T, L, m⟩ = some (.exit 0, ⟨66, T', L', m⟩) ∧ keepT [4] [] T' = [(4, v)] := by
  obtain ⟨p1, p2⟩ := hps.plain
  unfold a13_B1
  exact ⟨_, _, by simp only [codeEv, opsEv, oneEv, guardEv, opE_bin, St.opd, look_set, look_nil, look_cons, St.put, bin_ilt, keepL, Option.map_some, Nat.reduceEqDiff, Int.reduceLT, Nat.reduceLT, if_true, if_false, Bool.false_eq_true, decide_false, hk, G6]; rfl, by simp only [keepT, List.map, look_set, look_cons, Nat.reduceEqDiff, if_true, if_false, p1]⟩

theorem b13_0 (N : Nat) (hN : 2 ≤ N) (again : AC → St → Option (Ex × St)) (k1 a k2 b k3 c : Int) (n0 : Nat) (m : Mem) (v : AV) (ps : List ByteArray) (T : List (Nat × AV)) (L : List (Nat × List AV)) (hps : PS n0 m v ps) (hT : Tab2 m) (h13 : 13 ≤ n0) (hn : n0 ≤ m.n) (hmn : m.n + 2 ≤ 2 ^ depth) (hl : ps.length ≤ 1000) (hk : keepT [4, 33, 34] [] T = [(4, v), (33, G6 k1 a k2 b k3 c), (34, .int .i64 0)]) (hf : fitsI k1 a = true) (_hw : 0 ≤ k1 ∧ k1 ≤ 8) :
    ∃ T' L' m' v', codeEv (run A N) again a13_B1 ⟨66, T, L, m⟩ = some (.norm, ⟨66, T', L', m'⟩) ∧ keepT [4, 33, 34] [] T' = [(4, v'), (33, G6 k1 a k2 b k3 c), (34, .int .i64 1)] ∧ PS n0 m' v' (ps ++ piece k1 a) ∧ (m.n ≤ m'.n ∧ m'.n ≤ m.n + 2) ∧ (∀ i, i < n0 → m'.get i = m.get i) ∧ Tab2 m' := by
  have tab : ∀ m' : Mem, (∀ i, i < n0 → m'.get i = m.get i) → Tab2 m' := fun m' h => ⟨⟨(h 0 (by omega)).trans hT.t.k, (h 2 (by omega)).trans hT.t.s, (h 12 (by omega)).trans hT.t.t⟩, (h 7 (by omega)).trans hT.p⟩
  have hnn := fits_nonneg hf
  by_cases h0 : k1 = 0
  · obtain ⟨T', L', e1, e2⟩ := b13_0_0 N again k1 a k2 b k3 c n0 m v ps T L hps hk h0
    have hp : piece k1 a = [] := by rw [h0]; rfl
    rw [hp, List.append_nil]
    exact ⟨T', L', m, v, e1, e2, hps, ⟨Nat.le_refl _, by omega⟩, fun _ _ => rfl, hT⟩
  · by_cases h7 : k1 = 7
    · have hr : 1 ≤ a ∧ a ≤ 19 := by rw [h7] at hf; simpa [fitsI] using hf
      obtain ⟨T', L', m', v', e1, e2, e3, e4, e5⟩ := b13_0_7 N hN again k1 a k2 b k3 c n0 m v ps T L hps hT hn hmn hl hk h7 hr
      have hp : piece k1 a = [signB a.toNat] := by rw [h7]; rfl
      rw [hp]
      exact ⟨T', L', m', v', e1, e2, e3, ⟨by omega, by omega⟩, e5, tab m' e5⟩
    · by_cases h8 : k1 = 8
      · have hr : a = 1 ∨ a = 2 ∨ a = 3 := by
          rw [h8] at hf
          have : 1 ≤ a ∧ a ≤ 3 := by simpa [fitsI] using hf
          omega
        obtain ⟨T', L', m', v', e1, e2, e3, e4, e5⟩ := b13_0_8 N hN again k1 a k2 b k3 c n0 m v ps T L hps hT hn hmn hl hk h8 hr
        have hp : piece k1 a = [unB a.toNat] := by rw [h8]; rfl
        rw [hp]
        exact ⟨T', L', m', v', e1, e2, e3, ⟨by omega, by omega⟩, e5, tab m' e5⟩
      · obtain ⟨T', L', m', v', e1, e2, e3, e4, e5⟩ := b13_0_i N hN again k1 a k2 b k3 c n0 m v ps T L hps hT hn hmn hl hk h0 h7 h8 hnn
        have hp : piece k1 a = [itoaB a.toNat] := by unfold piece; rw [if_neg h0, if_neg h7, if_neg h8]
        rw [hp]
        exact ⟨T', L', m', v', e1, e2, e3, ⟨by omega, by omega⟩, e5, tab m' e5⟩

theorem b13_1 (N : Nat) (hN : 2 ≤ N) (again : AC → St → Option (Ex × St)) (k1 a k2 b k3 c : Int) (n0 : Nat) (m : Mem) (v : AV) (ps : List ByteArray) (T : List (Nat × AV)) (L : List (Nat × List AV)) (hps : PS n0 m v ps) (hT : Tab2 m) (h13 : 13 ≤ n0) (hn : n0 ≤ m.n) (hmn : m.n + 2 ≤ 2 ^ depth) (hl : ps.length ≤ 1000) (hk : keepT [4, 33, 34] [] T = [(4, v), (33, G6 k1 a k2 b k3 c), (34, .int .i64 1)]) (hf : fitsI k2 b = true) (_hw : 0 ≤ k2 ∧ k2 ≤ 8) :
    ∃ T' L' m' v', codeEv (run A N) again a13_B1 ⟨66, T, L, m⟩ = some (.norm, ⟨66, T', L', m'⟩) ∧ keepT [4, 33, 34] [] T' = [(4, v'), (33, G6 k1 a k2 b k3 c), (34, .int .i64 2)] ∧ PS n0 m' v' (ps ++ piece k2 b) ∧ (m.n ≤ m'.n ∧ m'.n ≤ m.n + 2) ∧ (∀ i, i < n0 → m'.get i = m.get i) ∧ Tab2 m' := by
  have tab : ∀ m' : Mem, (∀ i, i < n0 → m'.get i = m.get i) → Tab2 m' := fun m' h => ⟨⟨(h 0 (by omega)).trans hT.t.k, (h 2 (by omega)).trans hT.t.s, (h 12 (by omega)).trans hT.t.t⟩, (h 7 (by omega)).trans hT.p⟩
  have hnn := fits_nonneg hf
  by_cases h0 : k2 = 0
  · obtain ⟨T', L', e1, e2⟩ := b13_1_0 N again k1 a k2 b k3 c n0 m v ps T L hps hk h0
    have hp : piece k2 b = [] := by rw [h0]; rfl
    rw [hp, List.append_nil]
    exact ⟨T', L', m, v, e1, e2, hps, ⟨Nat.le_refl _, by omega⟩, fun _ _ => rfl, hT⟩
  · by_cases h7 : k2 = 7
    · have hr : 1 ≤ b ∧ b ≤ 19 := by rw [h7] at hf; simpa [fitsI] using hf
      obtain ⟨T', L', m', v', e1, e2, e3, e4, e5⟩ := b13_1_7 N hN again k1 a k2 b k3 c n0 m v ps T L hps hT hn hmn hl hk h7 hr
      have hp : piece k2 b = [signB b.toNat] := by rw [h7]; rfl
      rw [hp]
      exact ⟨T', L', m', v', e1, e2, e3, ⟨by omega, by omega⟩, e5, tab m' e5⟩
    · by_cases h8 : k2 = 8
      · have hr : b = 1 ∨ b = 2 ∨ b = 3 := by
          rw [h8] at hf
          have : 1 ≤ b ∧ b ≤ 3 := by simpa [fitsI] using hf
          omega
        obtain ⟨T', L', m', v', e1, e2, e3, e4, e5⟩ := b13_1_8 N hN again k1 a k2 b k3 c n0 m v ps T L hps hT hn hmn hl hk h8 hr
        have hp : piece k2 b = [unB b.toNat] := by rw [h8]; rfl
        rw [hp]
        exact ⟨T', L', m', v', e1, e2, e3, ⟨by omega, by omega⟩, e5, tab m' e5⟩
      · obtain ⟨T', L', m', v', e1, e2, e3, e4, e5⟩ := b13_1_i N hN again k1 a k2 b k3 c n0 m v ps T L hps hT hn hmn hl hk h0 h7 h8 hnn
        have hp : piece k2 b = [itoaB b.toNat] := by unfold piece; rw [if_neg h0, if_neg h7, if_neg h8]
        rw [hp]
        exact ⟨T', L', m', v', e1, e2, e3, ⟨by omega, by omega⟩, e5, tab m' e5⟩

theorem b13_2 (N : Nat) (hN : 2 ≤ N) (again : AC → St → Option (Ex × St)) (k1 a k2 b k3 c : Int) (n0 : Nat) (m : Mem) (v : AV) (ps : List ByteArray) (T : List (Nat × AV)) (L : List (Nat × List AV)) (hps : PS n0 m v ps) (hT : Tab2 m) (h13 : 13 ≤ n0) (hn : n0 ≤ m.n) (hmn : m.n + 2 ≤ 2 ^ depth) (hl : ps.length ≤ 1000) (hk : keepT [4, 33, 34] [] T = [(4, v), (33, G6 k1 a k2 b k3 c), (34, .int .i64 2)]) (hf : fitsI k3 c = true) (_hw : 0 ≤ k3 ∧ k3 ≤ 8) :
    ∃ T' L' m' v', codeEv (run A N) again a13_B1 ⟨66, T, L, m⟩ = some (.norm, ⟨66, T', L', m'⟩) ∧ keepT [4, 33, 34] [] T' = [(4, v'), (33, G6 k1 a k2 b k3 c), (34, .int .i64 3)] ∧ PS n0 m' v' (ps ++ piece k3 c) ∧ (m.n ≤ m'.n ∧ m'.n ≤ m.n + 2) ∧ (∀ i, i < n0 → m'.get i = m.get i) ∧ Tab2 m' := by
  have tab : ∀ m' : Mem, (∀ i, i < n0 → m'.get i = m.get i) → Tab2 m' := fun m' h => ⟨⟨(h 0 (by omega)).trans hT.t.k, (h 2 (by omega)).trans hT.t.s, (h 12 (by omega)).trans hT.t.t⟩, (h 7 (by omega)).trans hT.p⟩
  have hnn := fits_nonneg hf
  by_cases h0 : k3 = 0
  · obtain ⟨T', L', e1, e2⟩ := b13_2_0 N again k1 a k2 b k3 c n0 m v ps T L hps hk h0
    have hp : piece k3 c = [] := by rw [h0]; rfl
    rw [hp, List.append_nil]
    exact ⟨T', L', m, v, e1, e2, hps, ⟨Nat.le_refl _, by omega⟩, fun _ _ => rfl, hT⟩
  · by_cases h7 : k3 = 7
    · have hr : 1 ≤ c ∧ c ≤ 19 := by rw [h7] at hf; simpa [fitsI] using hf
      obtain ⟨T', L', m', v', e1, e2, e3, e4, e5⟩ := b13_2_7 N hN again k1 a k2 b k3 c n0 m v ps T L hps hT hn hmn hl hk h7 hr
      have hp : piece k3 c = [signB c.toNat] := by rw [h7]; rfl
      rw [hp]
      exact ⟨T', L', m', v', e1, e2, e3, ⟨by omega, by omega⟩, e5, tab m' e5⟩
    · by_cases h8 : k3 = 8
      · have hr : c = 1 ∨ c = 2 ∨ c = 3 := by
          rw [h8] at hf
          have : 1 ≤ c ∧ c ≤ 3 := by simpa [fitsI] using hf
          omega
        obtain ⟨T', L', m', v', e1, e2, e3, e4, e5⟩ := b13_2_8 N hN again k1 a k2 b k3 c n0 m v ps T L hps hT hn hmn hl hk h8 hr
        have hp : piece k3 c = [unB c.toNat] := by rw [h8]; rfl
        rw [hp]
        exact ⟨T', L', m', v', e1, e2, e3, ⟨by omega, by omega⟩, e5, tab m' e5⟩
      · obtain ⟨T', L', m', v', e1, e2, e3, e4, e5⟩ := b13_2_i N hN again k1 a k2 b k3 c n0 m v ps T L hps hT hn hmn hl hk h0 h7 h8 hnn
        have hp : piece k3 c = [itoaB c.toNat] := by unfold piece; rw [if_neg h0, if_neg h7, if_neg h8]
        rw [hp]
        exact ⟨T', L', m', v', e1, e2, e3, ⟨by omega, by omega⟩, e5, tab m' e5⟩

theorem loop13 (N : Nat) (hN : 6 ≤ N) (k1 a k2 b k3 c : Int) (n0 : Nat) (m : Mem) (v : AV) (ps : List ByteArray) (T : List (Nat × AV)) (L : List (Nat × List AV)) (hps : PS n0 m v ps) (hT : Tab2 m) (h13 : 13 ≤ n0) (hn : n0 ≤ m.n) (hmn : m.n + 6 ≤ 2 ^ depth) (hl : ps.length ≤ 100) (hk : keepT [4, 33, 34] [] T = [(4, v), (33, G6 k1 a k2 b k3 c), (34, .int .i64 0)])
    (f1 : fitsI k1 a = true) (f2 : fitsI k2 b = true) (f3 : fitsI k3 c = true) (w1 : 0 ≤ k1 ∧ k1 ≤ 8) (w2 : 0 ≤ k2 ∧ k2 ≤ 8) (w3 : 0 ≤ k3 ∧ k3 ≤ 8) :
    ∃ T' L' m' v', codeEv (run A N) (ev A N).2 a13_L1 ⟨66, T, L, m⟩ = some (.exit 0, ⟨66, T', L', m'⟩) ∧ keepT [4] [] T' = [(4, v')] ∧ PS n0 m' v' (ps ++ (piece k1 a ++ (piece k2 b ++ piece k3 c))) ∧ (m.n ≤ m'.n ∧ m'.n ≤ m.n + 6) ∧ (∀ i, i < n0 → m'.get i = m.get i) ∧ Tab2 m' := by
  obtain ⟨n, rfl⟩ : ∃ n, N = n + 3 := ⟨N - 3, by omega⟩
  have pl : ∀ w n : Int, (piece w n).length ≤ 1 := fun w n => by rw [piece_len]; split <;> omega
  obtain ⟨T1, L1, m1, v1, a1, a2, a3, a4, a5, a6⟩ := b13_0 (n + 3) (by omega) (ev A (n + 3)).2 k1 a k2 b k3 c n0 m v ps T L hps hT h13 hn (by omega) (by omega) hk f1 w1
  obtain ⟨T2, L2, m2, v2, b1, b2, b3, b4, b5, b6⟩ := b13_1 (n + 2) (by omega) (ev A (n + 2)).2 k1 a k2 b k3 c n0 m1 v1 _ T1 L1 a3 a6 h13 (by omega) (by omega) (by have := pl k1 a; rw [List.length_append]; omega) a2 f2 w2
  obtain ⟨T3, L3, m3, v3, c1, c2, c3, c4, c5, c6⟩ := b13_2 (n + 1) (by omega) (ev A (n + 1)).2 k1 a k2 b k3 c n0 m2 v2 _ T2 L2 b3 b6 h13 (by omega) (by omega) (by have := pl k1 a; have := pl k2 b; rw [List.length_append, List.length_append]; omega) b2 f3 w3
  obtain ⟨T4, L4, d1, d2⟩ := b13_end n (ev A n).2 k1 a k2 b k3 c n0 m3 v3 _ T3 L3 c3 c2
  refine ⟨T4, L4, m3, v3, ?_, d2, by simpa [List.append_assoc] using c3, ⟨by omega, by omega⟩, fun i hi => (c5 i hi).trans ((b5 i hi).trans (a5 i hi)), c6⟩
  rw [a13_L1_step, a1]
  dsimp only
  rw [again_of, a13_L1_step, b1]
  dsimp only
  rw [again_of, a13_L1_step, c1]
  dsimp only
  rw [again_of, a13_L1_step, d1]

theorem digs_len : ∀ (k u : Nat), (digs k u).length ≤ k
  | 0, _ => Nat.le_refl _
  | k + 1, u => by
    unfold digs
    split
    · simp
    · rw [List.length_append]
      have := digs_len k (u / 10)
      simp; omega
theorem tail_len {B : Nat} : ∀ (r : List (List UInt8)), (∀ x ∈ r, x.length ≤ B) → (Lib.joinTail [32] r).length ≤ (B + 1) * r.length
  | [], _ => by simp [Lib.joinTail]
  | x :: r, h => by
    have ih := tail_len r (fun y hy => h y (List.mem_cons_of_mem _ hy))
    have hx := h x (List.mem_cons_self ..)
    have e : Lib.joinTail [32] (x :: r) = 32 :: (x ++ Lib.joinTail [32] r) := by simp [Lib.joinTail]
    rw [e, List.length_cons, List.length_append, List.length_cons, Nat.mul_succ]
    omega
theorem join_len {B : Nat} (l : List (List UInt8)) (h : ∀ x ∈ l, x.length ≤ B) : (Lib.join l [32]).length ≤ (B + 1) * l.length := by
  cases l with
  | nil => simp [Lib.join_nil]
  | cons x r =>
    rw [Lib.join_cons, List.length_append, List.length_cons, Nat.mul_succ]
    have := tail_len r (fun y hy => h y (List.mem_cons_of_mem _ hy))
    have hx := h x (List.mem_cons_self ..)
    omega
theorem names_len : (List.range 25).all (fun i => decide ((nameB i).data.toList.length ≤ 20)) = true := by decide +kernel
theorem signs_len : (List.range 20).all (fun i => decide ((signB i).data.toList.length ≤ 20)) = true := by decide +kernel
theorem unB_len (i : Nat) : (unB i).data.toList.length ≤ 20 := by
  unfold unB
  repeat' split
  all_goals decide
theorem piece_b {w n : Int} (h : fitsI w n = true) : ∀ x ∈ piece w n, x.data.toList.length ≤ 20 := by
  intro x hx
  unfold piece at hx
  split at hx
  · simp at hx
  · split at hx
    · rename_i h0 h7
      simp only [List.mem_singleton] at hx; subst hx
      subst h7
      simp [fitsI] at h
      exact of_decide_eq_true (List.all_eq_true.1 signs_len n.toNat (List.mem_range.2 (by omega)))
    · split at hx
      · simp only [List.mem_singleton] at hx; subst hx
        exact unB_len _
      · simp only [List.mem_singleton] at hx; subst hx
        have := digs_len 20 n.toNat
        simpa [itoaB] using this
theorem parts_b {op a b c : Int} (h : codeOk op a b c = true) : ∀ x ∈ (parts op a b c).map (·.data.toList), x.length ≤ 20 := by
  obtain ⟨h1, h2, h3, h4⟩ := codeOk_fits h
  intro x hx
  simp only [parts, List.map_cons, List.map_append, List.mem_cons, List.mem_append, List.mem_map] at hx
  rcases hx with rfl | ⟨y, hy, rfl⟩ | ⟨y, hy, rfl⟩ | ⟨y, hy, rfl⟩
  · exact of_decide_eq_true (List.all_eq_true.1 names_len op.toNat (List.mem_range.2 (by omega)))
  · exact piece_b h2 y hy
  · exact piece_b h3 y hy
  · exact piece_b h4 y hy
theorem strsOf_map : ∀ (ps : List ByteArray), strsOf (ps.map .str) = some ps
  | [] => rfl
  | x :: r => by simp [strsOf, strsOf_map r]
theorem join_at (n : Nat) (m : Mem) (v : AV) (n0 : Nat) (ps : List ByteArray) (h : PS n0 m v ps) (hl : ps.length ≤ 1000) (hj : (Lib.join (ps.map (·.data.toList)) [32]).length ≤ 100000) : run A (n + 1) 39 [v, .str ⟨#[32]⟩] m = some (.str (joinB ps ⟨#[32]⟩), m) := by
  rw [run_39]
  unfold fnEv a39 primFn
  dsimp only
  obtain ⟨b, cap, rfl, _, hg, _⟩ := h
  have hrow : rowAt (mSt m) (.slice b 0 ps.length cap 1) = some (ps.map .str) := by
    unfold rowAt
    by_cases h0 : ps.length = 0
    · have : ps = [] := List.length_eq_zero_iff.1 h0
      subst this; rfl
    · dsimp only
      rw [if_neg h0]
      simp only [St.read, mSt, hg, cellsAt]
      rw [if_pos (by simp), List.drop_zero, List.take_of_length_le (by simp)]
  unfold joinEv
  dsimp only
  rw [hrow]
  dsimp only
  rw [strsOf_map]
  dsimp only
  rw [if_pos ⟨by simp [lenH], by simp; omega, by
    show (Lib.join (ps.map (·.data.toList)) [32]).length ≤ 140737488355328
    omega⟩]

end AG
