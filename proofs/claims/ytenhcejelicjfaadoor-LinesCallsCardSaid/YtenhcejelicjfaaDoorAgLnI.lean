/- What the functions of sets and vectors compute, and the laws of that. -/
import Derived.Test.YtenhcejelicjfaaDoorAgLnH
namespace AG
open Go Go.Proofs.YtenhcejelicjfaaDoor
set_option maxRecDepth 100000
set_option maxHeartbeats 4000000



/-- Where a line's vector is. -/
def findL (x : Int) : List V → Nat → Option Nat
  | [], _ => none
  | v :: r, i => if v.line = x then some i else findL x r (i + 1)
def findAV : Option Nat → AV
  | none => .tup [.int .i64 0, .bool false]
  | some i => .tup [.int .i64 (i : Int), .bool true]

theorem find_loop (b o : Nat) (cap : Option Nat) (e : Nat) (m : Mem) (l : List V) (hl : l.length ≤ 1000000) (hm : ∀ (i : Nat) (x : V), l[i]? = some x → ∃ c own, m.get b = some (.cells c own) ∧ cellsAt c (o + i * 3) 3 = some x.c) (x : Int) :
    ∀ (r : List V) (i : Nat) (N : Nat) (T : List (Nat × AV)) (L : List (Nat × List AV)) (q : _), l.drop i = r → r.length + 1 ≤ N → codeEv (run A N) (ev A N).2 a18_L1 ⟨21, T, L, m⟩ = q → keepT [1, 8, 9, 10] [] T = [(1, .int .i64 x), (8, .slice b o l.length cap e), (9, .int .i64 l.length), (10, .int .i64 (i : Int))] →
      ∃ T' L', (q = some (.exit 0, ⟨21, T', L', m⟩) ∧ findL x r i = none) ∨ (∃ k, q = some (.ret, ⟨21, T', L', m⟩) ∧ findL x r i = some k ∧ look T' 4 = .int .i64 (k : Int) ∧ look T' 5 = .bool true)
  | [], i, N, T, L, q, hd, hN, hq, hk => by
    subst hq
    have hi : ¬ ((i : Int) < (l.length : Int)) := by
      have := List.drop_eq_nil_iff.1 hd
      omega
    rw [a18_L1_step]
    unfold a18_B1 findL
    exact ⟨_, _, .inl ⟨(by simp only [codeEv, opsEv, oneEv, guardEv, opEv, St.opd, look_set, look_cons, St.put, bin_ilt, keepL, Option.map_some, Nat.reduceEqDiff, Nat.reduceLT, if_true, if_false, Bool.false_eq_true, Nat.succ_ne_self, decide_false, hk, hi]; rfl), rfl⟩⟩
  | v :: r, i, N, T, L, q, hd, hN, hq, hk => by
    subst hq
    obtain ⟨hg, hi, hd'⟩ := drop_cons_get hd
    obtain ⟨n, rfl⟩ : ∃ n, N = n + 1 := ⟨N - 1, by simp only [List.length_cons] at hN; omega⟩
    obtain ⟨c, own, hc, hc3⟩ := hm i v hg
    have hi' := idx_ok hg
    have hadd := add_i i (by omega)
    rw [a18_L1_step]
    unfold a18_B1 findL
    by_cases c1 : v.line = x
    · exact ⟨_, _, .inr ⟨i, (by simp only [codeEv, opsEv, oneEv, guardEv, opEv, St.opd, look_set, look_cons, St.put, St.new, St.read, St.write, lookL, setL, cellsAt_cons, splice, bin_ilt, bin_ieq, in_int, in_slice, in_loc, List.contains_cons, List.contains_nil, one_int, cells_agg, keepL, List.append_nil, List.map, List.length, List.take, List.drop, List.all, List.nil_append, List.take_succ_cons, List.drop_succ_cons, Option.map_some, Nat.reduceEqDiff, Nat.reduceAdd, Nat.reduceLeDiff, Nat.reduceLT, if_true, if_false, Bool.and_true, Bool.or_false, Bool.not_false, List.isEmpty_cons, beq_self_eq_true, Nat.succ_ne_self, decide_true, keepT_setT, hk, hi', and_self, Int.toNat_natCast, hc, hc3, V.c_eq, c1]; rfl), (by simp only [c1, if_true]), (by simp only [look_set, look_cons, Nat.reduceEqDiff, if_true, if_false]), (by simp only [look_set, look_cons, Nat.reduceEqDiff, if_true, if_false])⟩⟩
    · simp only [codeEv, opsEv, oneEv, guardEv, opEv, St.opd, look_set, look_cons, St.put, St.new, St.read, St.write, lookL, setL, cellsAt_cons, splice, bin_ilt, bin_ieq, in_int, in_slice, in_loc, List.contains_cons, List.contains_nil, one_int, cells_agg, keepL, List.append_nil, List.map, List.length, List.take, List.drop, List.all, List.nil_append, List.take_succ_cons, List.drop_succ_cons, Option.map_some, Nat.reduceEqDiff, Nat.reduceAdd, Nat.reduceLeDiff, Nat.reduceLT, if_true, if_false, Bool.and_true, Bool.or_false, Bool.not_false, List.isEmpty_cons, beq_self_eq_true, Bool.false_eq_true, Nat.succ_ne_self, decide_true, decide_false, keepT_setT, hk, hi', and_self, Int.toNat_natCast, hc, hc3, V.c_eq, c1, hadd, again_of]
      exact find_loop b o cap e m l hl hm x r (i + 1) n _ _ _ hd' (by simp only [List.length_cons] at hN; omega) rfl (by simp only [keepT, List.map, look_set, look_cons, in_int, in_slice, Nat.reduceEqDiff, if_true, if_false])

theorem find_spec (N : Nat) (m : Mem) (v : AV) (l : List V) (hv : VS m v l) (hl : l.length ≤ 1000000) (hN : l.length + 3 ≤ N) (x : Int) : run A N 18 [v, .int .i64 x] m = some (findAV (findL x l 0), m) := by
  obtain ⟨n, rfl⟩ : ∃ n, N = n + 1 := ⟨N - 1, by omega⟩
  rw [run_18]
  unfold fnEv a18
  rcases hv with ⟨rfl, rfl⟩ | ⟨b, o, cap, e, rfl, hm⟩
  · simp only [codeEv, opsEv, oneEv, guardEv, opEv, St.opd, look_set, look_cons, St.put, argsT, resEv, bin_ilt, in_int, in_nils, loc_int, loc_bool, keepL, List.map, List.length, List.any, Option.map_some, Nat.reduceEqDiff, Nat.reduceAdd, Nat.reduceLT, if_true, if_false, Bool.or_false, Bool.false_eq_true, Nat.succ_ne_self, decide_false, keepT_setT, keepT_lit, a18_L1_step, a18_B1, findL, findAV, Int.lt_irrefl]
  · simp only [codeEv, opsEv, oneEv, guardEv, opEv, St.opd, look_set, look_cons, St.put, argsT, resEv, in_int, in_slice, keepL, List.map, List.length, List.any, Nat.reduceEqDiff, Nat.reduceAdd, Nat.reduceLT, if_true, if_false, Bool.or_false, Nat.succ_ne_self, keepT_setT, keepT_lit]
    generalize hq : codeEv (run A n) (ev A n).2 a18_L1 _ = q
    obtain ⟨T', L', ⟨rfl, h1⟩ | ⟨k, rfl, h1, h2, h3⟩⟩ := find_loop b o cap e m l hl hm x l 0 n _ _ q rfl (by omega) hq (by simp only [keepT, List.map, look_set, look_cons, in_int, in_slice, Nat.reduceEqDiff, if_true, if_false, Int.ofNat_zero])
    · simp only [look_set, loc_int, loc_bool, Nat.reduceEqDiff, Nat.reduceLT, if_true, if_false, Bool.or_false, Bool.false_eq_true, Nat.succ_ne_self, h1, findAV]
    · simp only [loc_int, loc_bool, if_false, Bool.or_false, Bool.false_eq_true, h2, h1, h3, findAV]


def pc8 (b : Nat) : Nat := (List.range 8).countP fun i => b.testBit i
theorem add_u8 (x y : Nat) (h : x + y < 256) : binEv .add (.int .u8 (x : Int)) (.int .u8 (y : Int)) = some (.int .u8 ((x + y : Nat) : Int)) := by
  simp only [binEv, if_true, intBin, IntKind.wrap, IntKind.bits]
  simp [IntKind.signed]
  omega
def a49c (S : ByteArray) : AFn := { n := 21, np := 1, res := [.tmp 2], body :=
 (.seq (.keep [0] [] (.reg [⟨(some 2), .mov (.val (.int .i64 0)), none⟩]))
 (.seq (.keep [0] [] (.dreg [(false, ⟨(some 3), .mov (.tmp 0), none⟩, false), (false, ⟨(some 4), .bin .shr (.tmp 3) (.val (.int .u64 24)), none⟩, false), (false, ⟨(some 5), .idxS (.val (.str S)) (.tmp 4), none⟩, false), (false, ⟨(some 6), .mov (.tmp 0), none⟩, false), (false, ⟨(some 7), .bin .shr (.tmp 6) (.val (.int .u64 16)), none⟩, false), (false, ⟨(some 8), .bin .and (.tmp 7) (.val (.int .u32 255)), none⟩, false), (false, ⟨(some 9), .idxS (.val (.str S)) (.tmp 8), none⟩, false), (false, ⟨(some 10), .bin .add (.tmp 5) (.tmp 9), none⟩, false), (false, ⟨(some 11), .mov (.tmp 0), none⟩, false), (false, ⟨(some 12), .bin .shr (.tmp 11) (.val (.int .u64 8)), none⟩, false), (false, ⟨(some 13), .bin .and (.tmp 12) (.val (.int .u32 255)), none⟩, false), (false, ⟨(some 14), .idxS (.val (.str S)) (.tmp 13), none⟩, false), (false, ⟨(some 15), .bin .add (.tmp 10) (.tmp 14), none⟩, false), (false, ⟨(some 16), .mov (.tmp 0), none⟩, false), (false, ⟨(some 17), .bin .and (.tmp 16) (.val (.int .u32 255)), none⟩, false), (false, ⟨(some 18), .idxS (.val (.str S)) (.tmp 17), none⟩, false), (false, ⟨(some 19), .bin .add (.tmp 15) (.tmp 18), none⟩, false), (false, ⟨(some 20), .conv .i64 (.tmp 19), none⟩, false), (false, ⟨(some 2), .mov (.tmp 20), none⟩, false)]))
 .ret)) }
def pop8 : ByteArray := ⟨#[0, 1, 1, 2, 1, 2, 2, 3, 1, 2, 2, 3, 2, 3, 3, 4, 1, 2, 2, 3, 2, 3, 3, 4, 2, 3, 3, 4, 3, 4, 4, 5, 1, 2, 2, 3, 2, 3, 3, 4, 2, 3, 3, 4, 3, 4, 4, 5, 2, 3, 3, 4, 3, 4, 4, 5, 3, 4, 4, 5, 4, 5, 5, 6, 1, 2, 2, 3, 2, 3, 3, 4, 2, 3, 3, 4, 3, 4, 4, 5, 2, 3, 3, 4, 3, 4, 4, 5, 3, 4, 4, 5, 4, 5, 5, 6, 2, 3, 3, 4, 3, 4, 4, 5, 3, 4, 4, 5, 4, 5, 5, 6, 3, 4, 4, 5, 4, 5, 5, 6, 4, 5, 5, 6, 5, 6, 6, 7, 1, 2, 2, 3, 2, 3, 3, 4, 2, 3, 3, 4, 3, 4, 4, 5, 2, 3, 3, 4, 3, 4, 4, 5, 3, 4, 4, 5, 4, 5, 5, 6, 2, 3, 3, 4, 3, 4, 4, 5, 3, 4, 4, 5, 4, 5, 5, 6, 3, 4, 4, 5, 4, 5, 5, 6, 4, 5, 5, 6, 5, 6, 6, 7, 2, 3, 3, 4, 3, 4, 4, 5, 3, 4, 4, 5, 4, 5, 5, 6, 3, 4, 4, 5, 4, 5, 5, 6, 4, 5, 5, 6, 5, 6, 6, 7, 3, 4, 4, 5, 4, 5, 5, 6, 4, 5, 5, 6, 5, 6, 6, 7, 4, 5, 5, 6, 5, 6, 6, 7, 5, 6, 6, 7, 6, 7, 7, 8]⟩
theorem pop8_tab : ∀ b : Nat, b < 256 → pop8[b]? = some (UInt8.ofNat (pc8 b)) := by decide +kernel
theorem pc8_le (b : Nat) : pc8 b ≤ 8 := List.countP_le_length

theorem count_gen (S : ByteArray) (hS : ∀ b : Nat, b < 256 → S[b]? = some (UInt8.ofNat (pc8 b))) (n : Nat) (x : BitVec 32) (m : Mem) :
    fnEv (run A n) (ev A n).2 (a49c S) [U x] m = some (.int .i64 ((pc8 (x >>> 24).toNat + pc8 ((x >>> 16) &&& 255#32).toNat + pc8 ((x >>> 8) &&& 255#32).toNat + pc8 (x &&& 255#32).toNat : Nat) : Int), m) := by
  have lt : ∀ y : BitVec 32, (y &&& 255#32).toNat < 256 := fun y => by
    rw [BitVec.toNat_and]
    exact Nat.lt_of_le_of_lt Nat.and_le_right (by decide)
  have lt0 : (x >>> 24).toNat < 256 := by
    rw [BitVec.toNat_ushiftRight, Nat.shiftRight_eq_div_pow]
    have := x.isLt
    omega
  have tn : ∀ b, (UInt8.ofNat (pc8 b)).toNat = pc8 b := fun b => by
    have := pc8_le b
    rw [UInt8.toNat_ofNat']
    omega
  have s1 := bin_shr x .u64 24 (by decide)
  have s2 := bin_shr x .u64 16 (by decide)
  have s3 := bin_shr x .u64 8 (by decide)
  have e1 : (24 : Int).toNat = 24 := rfl
  have e2 : (16 : Int).toNat = 16 := rfl
  have e3 : (8 : Int).toNat = 8 := rfl
  rw [e1] at s1; rw [e2] at s2; rw [e3] at s3
  have k1 := fun s => idxR_U s (hS _ lt0)
  have k2 := fun s => idxR_U s (hS _ (lt (x >>> 16)))
  have k3 := fun s => idxR_U s (hS _ (lt (x >>> 8)))
  have k4 := fun s => idxR_U s (hS _ (lt x))
  have b1 := pc8_le (x >>> 24).toNat
  have b2 := pc8_le ((x >>> 16) &&& 255#32).toNat
  have b3 := pc8_le ((x >>> 8) &&& 255#32).toNat
  have b4 := pc8_le (x &&& 255#32).toNat
  simp only [tn] at k1 k2 k3 k4
  generalize pc8 (x >>> 24).toNat = p1 at *
  generalize pc8 ((x >>> 16) &&& 255#32).toNat = p2 at *
  generalize pc8 ((x >>> 8) &&& 255#32).toNat = p3 at *
  generalize pc8 (x &&& 255#32).toNat = p4 at *
  have a1 := add_u8 p1 p2 (by omega)
  have a2 := add_u8 (p1 + p2) p3 (by omega)
  have a3 := add_u8 (p1 + p2 + p3) p4 (by omega)
  have hw := wrap_small (p1 + p2 + p3 + p4) (by omega)
  have lg : logOk [] = true := rfl
  unfold fnEv a49c
  simp only [codeEv, opsEv, oneEv, guardEv, opE_mov, opE_bin, opE_conv, opE_idxS, St.opd, look_set, look_cons, St.put, argsT, resEv, bin_and, in_U, loc_int, keepL, careEv, dOneEv, dOpsEv, accOf, accEv, List.append_nil, List.map, List.length, Option.map_some, Nat.reduceEqDiff, Nat.reduceAdd, Nat.reduceLT, if_true, if_false, Bool.and_false, Bool.not_true, Bool.false_eq_true, Nat.succ_ne_self, keepT_setT, keepT_lit, s1, s2, s3, c255, k1, k2, k3, k4, a1, a2, a3, hw, lg]

theorem testBit_and255 (x : BitVec 32) (i : Nat) (h : i < 8) : (x &&& 255#32).toNat.testBit i = x.getLsbD i := by
  rw [BitVec.testBit_toNat, BitVec.getLsbD_and]
  have : (255#32).getLsbD i = true := by
    match i, h with
    | 0, _ | 1, _ | 2, _ | 3, _ | 4, _ | 5, _ | 6, _ | 7, _ => rfl
  rw [this, Bool.and_true]
theorem count_bits (x : BitVec 32) : pc8 (x >>> 24).toNat + pc8 ((x >>> 16) &&& 255#32).toNat + pc8 ((x >>> 8) &&& 255#32).toNat + pc8 (x &&& 255#32).toNat = (bitsOf x).length := by
  have e1 : pc8 (x >>> 24).toNat = (List.range 8).countP fun i => x.getLsbD (24 + i) := by
    unfold pc8
    exact List.countP_congr fun i hi => by rw [BitVec.testBit_toNat, BitVec.getLsbD_ushiftRight]
  have e2 : ∀ k, pc8 ((x >>> k) &&& 255#32).toNat = (List.range 8).countP fun i => x.getLsbD (k + i) := by
    intro k
    unfold pc8
    exact List.countP_congr fun i hi => by rw [testBit_and255 _ _ (List.mem_range.1 hi), BitVec.getLsbD_ushiftRight]
  have e3 : pc8 (x &&& 255#32).toNat = (List.range 8).countP fun i => x.getLsbD i := by
    unfold pc8
    exact List.countP_congr fun i hi => by rw [testBit_and255 _ _ (List.mem_range.1 hi)]
  rw [e1, e2, e2, e3]
  unfold bitsOf
  rw [← List.countP_eq_length_filter]
  have r8 : List.range 8 = [0, 1, 2, 3, 4, 5, 6, 7] := rfl
  have r32 : List.range 32 = [0, 1, 2, 3, 4, 5, 6, 7, 8, 9, 10, 11, 12, 13, 14, 15, 16, 17, 18, 19, 20, 21, 22, 23, 24, 25, 26, 27, 28, 29, 30, 31] := rfl
  rw [r8, r32]
  simp only [List.countP_cons, List.countP_nil, Nat.reduceAdd, Nat.add_zero]
  omega
theorem count_spec (N : Nat) (hN : 2 ≤ N) (x : BitVec 32) (m : Mem) : run A N 17 [U x] m = some (.int .i64 ((bitsOf x).length : Int), m) := by
  obtain ⟨n, rfl⟩ : ∃ n, N = n + 2 := ⟨N - 2, by omega⟩
  have h := count_gen pop8 pop8_tab n x m
  rw [count_bits] at h
  have h2 : run A (n + 1) 49 [U x] m = some (.int .i64 ((bitsOf x).length : Int), m) := by
    rw [run_49]; exact h
  rw [run_17]
  unfold fnEv a17
  simp only [codeEv, opsEv, oneEv, guardEv, opEv, St.opd, look_set, look_cons, St.put, argsT, resEv, in_U, loc_int, loc_U, callWith, keepL, List.map, List.length, List.any, Nat.reduceEqDiff, Nat.reduceAdd, Nat.reduceLT, if_true, if_false, Bool.or_false, Bool.false_eq_true, Nat.succ_ne_self, keepT_setT, keepT_lit, h2]

end AG
