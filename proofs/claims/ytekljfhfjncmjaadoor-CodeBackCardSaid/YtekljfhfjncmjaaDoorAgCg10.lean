/- What the functions of instructions and their texts compute, and the laws of that. -/
import Derived.Test.YtekljfhfjncmjaaDoorAgCg9
namespace AG
open Go Go.Proofs.YtekljfhfjncmjaaDoor
set_option maxRecDepth 100000
set_option maxHeartbeats 4000000



theorem byte_at {s : ByteArray} {k : Nat} {b : UInt8} (h : s.data.toList[k]? = some b) : s[k]? = some b := by
  have h' : s.data[k]? = some b := by rw [← Array.getElem?_toList]; exact h
  obtain ⟨hlt, hv⟩ := Array.getElem?_eq_some_iff.1 h'
  have hlt' : k < s.size := hlt
  rw [getElem?_pos s k hlt']
  exact congrArg some hv
theorem opE_lenS (call : Caller) (x : Opd) (s : St) : opEv call (.lenS x) s = match s.opd x with | .str a => some (.int .i64 a.size, s) | _ => none := rfl
theorem idx_str {s : ByteArray} {k : Nat} {b : UInt8} (h : s.data.toList[k]? = some b) (st : St) : idxR (.str s) (.int .i64 (k : Int)) st = some (.int .u8 (b.toNat : Int), st) := by
  have hg := byte_at h
  have h0 : (0 : Int) ≤ (k : Int) := by omega
  unfold idxR
  simp only [h0, if_true, Int.toNat_natCast, hg]
theorem u8_eq (x : Int) : binEv .eql (.int .u8 x) (.int .u8 32) = some (.bool (x == 32)) := rfl
theorem size_list (s : ByteArray) : s.data.toList.length = s.size := by rw [Array.length_toList]; rfl
theorem sps_cons (b : UInt8) (r : List UInt8) : sps (b :: r) = (if b = 32 then 1 else 0) + sps r := by
  unfold sps
  by_cases h : b = 32
  · subst h; simp; omega
  · simp [h]
def C4 (op a b c : Int) : List AV := [.int .i64 op, .int .i64 a, .int .i64 b, .int .i64 c]

theorem b4_end (N : Nat) (again : AC → St → Option (Ex × St)) (s : ByteArray) (w k : Nat) (m : Mem) (cs : List AV) (T : List (Nat × AV)) (L : List (Nat × List AV)) (hL : lookL L 1 = some cs) (hk : keepT [1, 3, 4, 5] [1] T = [(1, .loc 1 0), (3, .str s), (4, .int .i64 (w : Int)), (5, .int .i64 (k : Int))]) (h : s.size ≤ k) :
    ∃ T' L', codeEv (run A N) again a4_B2 ⟨121, T, L, m⟩ = some (.exit 0, ⟨121, T', L', m⟩) ∧ lookL L' 1 = some cs ∧ keepT [1, 4] [1] T' = [(1, .loc 1 0), (4, .int .i64 w)] := by
  have h' : ¬ (k : Int) < (s.size : Int) := by omega
  unfold a4_B2
  exact ⟨_, _, by simp only [codeEv, opsEv, oneEv, guardEv, opE_mov, opE_bin, St.opd, look_set, look_nil, look_cons, St.put, bin_ilt, keepL, Option.map_some, Nat.reduceEqDiff, Nat.reduceLT, if_true, if_false, Bool.false_eq_true, Nat.succ_ne_self, decide_false, opE_lenS, hk, hL, h']; rfl, by simp only [lookL_cons, if_true], by simp only [keepT, List.map, look_set, look_cons, in_int, in_loc, Nat.reduceEqDiff, if_true, if_false, List.contains_cons, List.contains_nil, beq_self_eq_true, Bool.or_false]⟩
theorem b4_sp (N : Nat) (again : AC → St → Option (Ex × St)) (s : ByteArray) (w k : Nat) (m : Mem) (cs : List AV) (T : List (Nat × AV)) (L : List (Nat × List AV)) (hL : lookL L 1 = some cs) (hk : keepT [1, 3, 4, 5] [1] T = [(1, .loc 1 0), (3, .str s), (4, .int .i64 (w : Int)), (5, .int .i64 (k : Int))]) (hb : s.data.toList[k]? = some 32) (hw : w ≤ 1000000) (hkk : k ≤ 1000000) :
    ∃ T' L', codeEv (run A N) again a4_B2 ⟨121, T, L, m⟩ = some (.norm, ⟨121, T', L', m⟩) ∧ lookL L' 1 = some cs ∧ keepT [1, 3, 4, 5] [1] T' = [(1, .loc 1 0), (3, .str s), (4, .int .i64 ((w + 1 : Nat) : Int)), (5, .int .i64 ((k + 1 : Nat) : Int))] := by
  have hlt : k < s.size := by rw [← size_list]; exact (List.getElem?_eq_some_iff.1 hb).1
  have h' : (k : Int) < (s.size : Int) := by omega
  have hx := fun st => idx_str hb st
  have e32 : (((32 : UInt8).toNat : Int) == 32) = true := rfl
  have a1 := add_i w hw
  have a2 := add_i k hkk
  unfold a4_B2
  exact ⟨_, _, by simp only [codeEv, opsEv, oneEv, guardEv, opE_mov, opE_bin, opE_idxS, St.opd, look_set, look_nil, look_cons, St.put, lookL_nil, lookL_cons, bin_ilt, in_int, in_str, in_loc, List.contains_cons, List.contains_nil, keepL, List.map, Option.map_some, Nat.reduceEqDiff, Nat.reduceLT, if_true, if_false, Bool.or_false, beq_self_eq_true, Nat.succ_ne_self, decide_true, keepT_setT, opE_lenS, hk, hL, h', hx, u8_eq, e32, a1, a2]; rfl, by simp only [lookL_cons, if_true], by simp only [keepT, List.map, look_set, look_cons, in_int, in_str, in_loc, Nat.reduceEqDiff, if_true, if_false, List.contains_cons, List.contains_nil, beq_self_eq_true, Bool.or_false]⟩
theorem b4_no (N : Nat) (again : AC → St → Option (Ex × St)) (s : ByteArray) (w k : Nat) (m : Mem) (cs : List AV) (T : List (Nat × AV)) (L : List (Nat × List AV)) (hL : lookL L 1 = some cs) (hk : keepT [1, 3, 4, 5] [1] T = [(1, .loc 1 0), (3, .str s), (4, .int .i64 (w : Int)), (5, .int .i64 (k : Int))]) {b : UInt8} (hb : s.data.toList[k]? = some b) (hne : ¬ b = 32) (hkk : k ≤ 1000000) :
    ∃ T' L', codeEv (run A N) again a4_B2 ⟨121, T, L, m⟩ = some (.norm, ⟨121, T', L', m⟩) ∧ lookL L' 1 = some cs ∧ keepT [1, 3, 4, 5] [1] T' = [(1, .loc 1 0), (3, .str s), (4, .int .i64 (w : Int)), (5, .int .i64 ((k + 1 : Nat) : Int))] := by
  have hlt : k < s.size := by rw [← size_list]; exact (List.getElem?_eq_some_iff.1 hb).1
  have h' : (k : Int) < (s.size : Int) := by omega
  have hx := fun st => idx_str hb st
  have e32 : ((b.toNat : Int) == 32) = false := by
    rw [beq_eq_false_iff_ne]
    intro e
    apply hne
    apply UInt8.toNat_inj.1
    have : (32 : UInt8).toNat = 32 := rfl
    omega
  have a2 := add_i k hkk
  unfold a4_B2
  exact ⟨_, _, by simp only [codeEv, opsEv, oneEv, guardEv, opE_mov, opE_bin, opE_idxS, St.opd, look_set, look_nil, look_cons, St.put, lookL_nil, lookL_cons, bin_ilt, in_int, in_str, in_loc, List.contains_cons, List.contains_nil, keepL, List.map, Option.map_some, Nat.reduceEqDiff, Nat.reduceLT, if_true, if_false, Bool.or_false, beq_self_eq_true, Bool.false_eq_true, Nat.succ_ne_self, decide_true, keepT_setT, opE_lenS, hk, hL, h', hx, u8_eq, e32, a2]; rfl, by simp only [lookL_cons, if_true], by simp only [keepT, List.map, look_set, look_cons, in_int, in_str, in_loc, Nat.reduceEqDiff, if_true, if_false, List.contains_cons, List.contains_nil, beq_self_eq_true, Bool.or_false]⟩

theorem loop4 (s : ByteArray) (m : Mem) (cs : List AV) : ∀ (r : List UInt8) (k w N : Nat) (T : List (Nat × AV)) (L : List (Nat × List AV)), s.data.toList.drop k = r → r.length < N → w + r.length ≤ 1000000 → k + r.length ≤ 1000000 → lookL L 1 = some cs → keepT [1, 3, 4, 5] [1] T = [(1, .loc 1 0), (3, .str s), (4, .int .i64 (w : Int)), (5, .int .i64 (k : Int))] →
    ∃ T' L', codeEv (run A N) (ev A N).2 a4_L2 ⟨121, T, L, m⟩ = some (.exit 0, ⟨121, T', L', m⟩) ∧ lookL L' 1 = some cs ∧ keepT [1, 4] [1] T' = [(1, .loc 1 0), (4, .int .i64 ((w + sps r : Nat) : Int))]
  | [], k, w, N, T, L, hr, hN, hw, hkk, hL, hk => by
    have hle : s.size ≤ k := by rw [← size_list]; exact List.drop_eq_nil_iff.1 hr
    obtain ⟨T', L', e1, e2, e3⟩ := b4_end N (ev A N).2 s w k m cs T L hL hk hle
    refine ⟨T', L', ?_, e2, e3⟩
    rw [a4_L2_step, e1]
  | b :: r, k, w, N, T, L, hr, hN, hw, hkk, hL, hk => by
    obtain ⟨g1, g2, g3⟩ := drop_cons_get hr
    obtain ⟨n, rfl⟩ : ∃ n, N = n + 1 := ⟨N - 1, by omega⟩
    simp only [List.length_cons] at hN hw hkk
    by_cases hb : b = 32
    · subst hb
      obtain ⟨T1, L1, e1, e2, e3⟩ := b4_sp (n + 1) (ev A (n + 1)).2 s w k m cs T L hL hk g1 (by omega) (by omega)
      obtain ⟨T', L', f1, f2, f3⟩ := loop4 s m cs r (k + 1) (w + 1) n T1 L1 g3 (by omega) (by omega) (by omega) e2 e3
      refine ⟨T', L', ?_, f2, by rw [f3, sps_cons, if_pos rfl, show w + 1 + sps r = w + (1 + sps r) by omega]⟩
      rw [a4_L2_step, e1]
      dsimp only
      rw [again_of]
      exact f1
    · obtain ⟨T1, L1, e1, e2, e3⟩ := b4_no (n + 1) (ev A (n + 1)).2 s w k m cs T L hL hk g1 hb (by omega)
      obtain ⟨T', L', f1, f2, f3⟩ := loop4 s m cs r (k + 1) w n T1 L1 g3 (by omega) (by omega) (by omega) e2 e3
      refine ⟨T', L', ?_, f2, by rw [f3, sps_cons, if_neg hb, Nat.zero_add]⟩
      rw [a4_L2_step, e1]
      dsimp only
      rw [again_of]
      exact f1

end AG
