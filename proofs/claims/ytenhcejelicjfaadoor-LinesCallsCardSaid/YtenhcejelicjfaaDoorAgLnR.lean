/- What the functions of sets and vectors compute, and the laws of that. -/
import Derived.Test.YtenhcejelicjfaaDoorAgLnQ
namespace AG
open Go Go.Proofs.YtenhcejelicjfaaDoor
set_option maxRecDepth 100000
set_option maxHeartbeats 4000000



theorem a7_R1_ok (v : AV) (l : List V) (m : Mem) (hv : VS m v l) (w : AV) (u : List Int) (hw : IS m w u) (P E : BitVec 32) (lv ac x : Int) (N : Nat) (again : AC → St → Option (Ex × St)) (T : List (Nat × AV)) (L : List (Nat × List AV)) (q : _) (hq : codeEv (run A N) again a7_R1 ⟨136, T, L, m⟩ = q) (hk : keepT [0, 1, 2, 3, 4, 5, 6] [] T = [(0, U P), (1, U E), (2, .int .i64 lv), (3, .int .i64 ac), (4, v), (5, .int .i64 x), (6, w)]) :
    ∃ T', q = some (.norm, ⟨136, T', [], m⟩) ∧ keepT [0, 1, 2, 3, 4, 5, 6] [] T' = [(0, U P), (1, U E), (2, .int .i64 lv), (3, .int .i64 ac), (4, v), (5, .int .i64 x), (6, w)] ∧ look T' 36 = .bool (decide (40 < l.length) || decide (40 < u.length)) := by
  subst hq
  obtain ⟨p1, p2, p3, p4⟩ := hv.plain
  obtain ⟨q1, q2, q3, q4⟩ := hw.plain
  have hln := hv.lenR
  have hlu := hw.lenR
  unfold a7_R1
  rw [codeEv_keep, hk, keepL_nil]
  by_cases h : 40 < l.length
  · have h' : (40 : Int) < (l.length : Int) := by omega
    exact ⟨_, (by simp only [codeEv, opsEv, oneEv, guardEv, opE_mov, opE_pick, opE_bin, opE_lenL, St.opd, look_set, look_cons, St.put, bin_igt, Option.map_some, Nat.reduceEqDiff, Nat.reduceLT, if_true, if_false, Nat.succ_ne_self, decide_true, beq_tf, hln, h']; rfl), (by simp only [keepT, List.map, look_set, look_cons, in_int, in_U, Nat.reduceEqDiff, if_true, if_false, p1, q1]), (by simp only [look_set, look_cons, Nat.reduceEqDiff, if_true, if_false, h, decide_true, Bool.true_or])⟩
  · have h' : ¬ (40 : Int) < (l.length : Int) := by omega
    by_cases g : 40 < u.length
    · have g' : (40 : Int) < (u.length : Int) := by omega
      exact ⟨_, (by simp only [codeEv, opsEv, oneEv, guardEv, opE_mov, opE_pick, opE_bin, opE_lenL, St.opd, look_set, look_cons, St.put, bin_igt, Option.map_some, Nat.reduceEqDiff, Nat.reduceLT, if_true, if_false, beq_self_eq_true, Bool.false_eq_true, Nat.succ_ne_self, decide_true, decide_false, hln, hlu, h', g']; rfl), (by simp only [keepT, List.map, look_set, look_cons, in_int, in_U, Nat.reduceEqDiff, if_true, if_false, p1, q1]), (by simp only [look_set, look_cons, Nat.reduceEqDiff, if_true, if_false, h, g, decide_true, decide_false, Bool.false_or])⟩
    · have g' : ¬ (40 : Int) < (u.length : Int) := by omega
      exact ⟨_, (by simp only [codeEv, opsEv, oneEv, guardEv, opE_mov, opE_pick, opE_bin, opE_lenL, St.opd, look_set, look_cons, St.put, bin_igt, Option.map_some, Nat.reduceEqDiff, Nat.reduceLT, if_true, if_false, beq_self_eq_true, Bool.false_eq_true, Nat.succ_ne_self, decide_false, hln, hlu, h', g']; rfl), (by simp only [keepT, List.map, look_set, look_cons, in_int, in_U, Nat.reduceEqDiff, if_true, if_false, p1, q1]), (by simp only [look_set, look_cons, Nat.reduceEqDiff, if_true, if_false, h, g, decide_false, Bool.false_or])⟩

theorem a7_R2_ok (v : AV) (l : List V) (m : Mem) (hv : VS m v l) (w : AV) (u : List Int) (hw : IS m w u) (P E : BitVec 32) (lv ac x : Int) (hl : l.length ≤ 1000000) (N : Nat) (hN : 40 ≤ N) (hmn : m.n + 2 ≤ 2 ^ depth) (again : AC → St → Option (Ex × St)) (T : List (Nat × AV)) (L : List (Nat × List AV)) (q : _) (hq : codeEv (run A N) again a7_R2 ⟨136, T, L, m⟩ = q) (hk : keepT [0, 1, 2, 3, 4, 5, 6] [] T = [(0, U P), (1, U E), (2, .int .i64 lv), (3, .int .i64 ac), (4, v), (5, .int .i64 x), (6, w)]) :
    ∃ T' m', q = some (.norm, ⟨136, T', [], m'⟩) ∧ Ext m m' ∧ m'.n ≤ m.n + 2 ∧ keepT [0, 1, 2, 3, 4, 5, 6, 15, 16] [] T' = [(0, U P), (1, U E), (2, .int .i64 lv), (3, .int .i64 ac), (4, v), (5, .int .i64 x), (6, w), (15, .int .i64 (max 0 (bI (takeR P E lv ac l)))), (16, .bool (decide (0 ≤ bI (takeR P E lv ac l))))] := by
  subst hq
  obtain ⟨p1, p2, p3, p4⟩ := hv.plain
  obtain ⟨q1, q2, q3, q4⟩ := hw.plain
  obtain ⟨m', tk, x1, x2⟩ := take_spec N hN P E lv ac m v l hv hl hmn
  unfold takeAV at tk
  unfold a7_R2
  rw [codeEv_keep, hk, keepL_nil]
  exact ⟨_, m', (by simp only [codeEv, opsEv, oneEv, guardEv, opE_mov, opE_ext, opE_call, St.opd, look_set, look_cons, St.put, loc_int, loc_U, callWith, List.map, List.any, List.getElem?_cons_succ, List.getElem?_cons_zero, Option.map_some, Nat.reduceEqDiff, Nat.reduceLT, if_true, if_false, Bool.or_false, Bool.false_eq_true, Nat.succ_ne_self, tk, p2]; rfl), x1, x2, (by simp only [keepT, List.map, look_set, look_cons, in_int, in_U, in_bool, Nat.reduceEqDiff, if_true, if_false, p1, q1])⟩
theorem a7_R3_ok (v : AV) (l : List V) (m : Mem) (hv : VS m v l) (w : AV) (u : List Int) (hw : IS m w u) (P E : BitVec 32) (lv ac x : Int) (N : Nat) (hN : 200 ≤ N) (again : AC → St → Option (Ex × St)) (T : List (Nat × AV)) (L : List (Nat × List AV)) (q : _) (hq : codeEv (run A N) again a7_R3 ⟨136, T, L, m⟩ = q) (hk : keepT [0, 1, 2, 3, 4, 5, 6, 15, 16] [] T = [(0, U P), (1, U E), (2, .int .i64 lv), (3, .int .i64 ac), (4, v), (5, .int .i64 x), (6, w), (15, .int .i64 (max 0 (bI (takeR P E lv ac l)))), (16, .bool (decide (0 ≤ bI (takeR P E lv ac l))))]) :
    ∃ T', q = some (.norm, ⟨136, T', [], m⟩) ∧ keepT [0, 1, 4, 5, 6, 15, 16, 17, 18] [] T' = [(0, U P), (1, U E), (4, v), (5, .int .i64 x), (6, w), (15, .int .i64 (max 0 (bI (takeR P E lv ac l)))), (16, .bool (decide (0 ≤ bI (takeR P E lv ac l)))), (17, .int .i64 (max 0 (bI (takeR P E lv ac l)))), (18, .bool (decide (0 ≤ bI (takeR P E lv ac l))))] := by
  subst hq
  obtain ⟨p1, p2, p3, p4⟩ := hv.plain
  obtain ⟨q1, q2, q3, q4⟩ := hw.plain
  have tk := rtake_spec N hN P E lv ac m v l hv
  unfold takeAV at tk
  unfold a7_R3
  rw [codeEv_keep, hk, keepL_nil]
  exact ⟨_, (by simp only [codeEv, opsEv, oneEv, guardEv, opE_mov, opE_ext, opE_call, St.opd, look_set, look_cons, St.put, loc_int, loc_U, callWith, List.map, List.any, List.getElem?_cons_succ, List.getElem?_cons_zero, Option.map_some, Nat.reduceEqDiff, Nat.reduceLT, if_true, if_false, Bool.or_false, Bool.false_eq_true, Nat.succ_ne_self, tk, p2]; rfl), (by simp only [keepT, List.map, look_set, look_cons, in_int, in_U, in_bool, Nat.reduceEqDiff, if_true, if_false, p1, q1])⟩
theorem a7_R4_ok (v : AV) (l : List V) (m : Mem) (hv : VS m v l) (w : AV) (u : List Int) (hw : IS m w u) (P E : BitVec 32) (lv ac x : Int) (fi : Int) (fb : Bool) (hf : findAV (findL x l 0) = .tup [.int .i64 fi, .bool fb]) (hl : l.length ≤ 40) (N : Nat) (hN : 200 ≤ N) (again : AC → St → Option (Ex × St)) (T : List (Nat × AV)) (L : List (Nat × List AV)) (q : _) (hq : codeEv (run A N) again a7_R4 ⟨136, T, L, m⟩ = q) (hk : keepT [0, 1, 4, 5, 6, 15, 16, 17, 18] [] T = [(0, U P), (1, U E), (4, v), (5, .int .i64 x), (6, w), (15, .int .i64 (max 0 (bI (takeR P E lv ac l)))), (16, .bool (decide (0 ≤ bI (takeR P E lv ac l)))), (17, .int .i64 (max 0 (bI (takeR P E lv ac l)))), (18, .bool (decide (0 ≤ bI (takeR P E lv ac l))))]) :
    ∃ T', q = some (.norm, ⟨136, T', [], m⟩) ∧ keepT [0, 1, 4, 5, 6, 15, 16, 17, 18, 19, 20] [] T' = [(0, U P), (1, U E), (4, v), (5, .int .i64 x), (6, w), (15, .int .i64 (max 0 (bI (takeR P E lv ac l)))), (16, .bool (decide (0 ≤ bI (takeR P E lv ac l)))), (17, .int .i64 (max 0 (bI (takeR P E lv ac l)))), (18, .bool (decide (0 ≤ bI (takeR P E lv ac l)))), (19, .int .i64 fi), (20, .bool fb)] := by
  subst hq
  obtain ⟨p1, p2, p3, p4⟩ := hv.plain
  obtain ⟨q1, q2, q3, q4⟩ := hw.plain
  have fs := find_spec N m v l hv (by omega) (by omega) x
  rw [hf] at fs
  unfold a7_R4
  rw [codeEv_keep, hk, keepL_nil]
  exact ⟨_, (by simp only [codeEv, opsEv, oneEv, guardEv, opE_mov, opE_ext, opE_call, St.opd, look_set, look_cons, St.put, loc_int, callWith, List.map, List.any, List.getElem?_cons_succ, List.getElem?_cons_zero, Option.map_some, Nat.reduceEqDiff, Nat.reduceLT, if_true, if_false, Bool.or_false, Bool.false_eq_true, Nat.succ_ne_self, fs, p2]; rfl), (by simp only [keepT, List.map, look_set, look_cons, in_int, in_U, in_bool, Nat.reduceEqDiff, if_true, if_false, p1, q1])⟩
theorem a7_R5_ok (v : AV) (l : List V) (m : Mem) (hv : VS m v l) (w : AV) (u : List Int) (hw : IS m w u) (P E : BitVec 32) (lv ac x : Int) (fi : Int) (fb : Bool) (hf : findAV (findL x l 0) = .tup [.int .i64 fi, .bool fb]) (hl : l.length ≤ 40) (N : Nat) (hN : 200 ≤ N) (again : AC → St → Option (Ex × St)) (T : List (Nat × AV)) (L : List (Nat × List AV)) (q : _) (hq : codeEv (run A N) again a7_R5 ⟨136, T, L, m⟩ = q) (hk : keepT [0, 1, 4, 5, 6, 15, 16, 17, 18, 19, 20] [] T = [(0, U P), (1, U E), (4, v), (5, .int .i64 x), (6, w), (15, .int .i64 (max 0 (bI (takeR P E lv ac l)))), (16, .bool (decide (0 ≤ bI (takeR P E lv ac l)))), (17, .int .i64 (max 0 (bI (takeR P E lv ac l)))), (18, .bool (decide (0 ≤ bI (takeR P E lv ac l)))), (19, .int .i64 fi), (20, .bool fb)]) :
    ∃ T', q = some (.norm, ⟨136, T', [], m⟩) ∧ keepT [0, 1, 4, 5, 6, 15, 16, 17, 18, 19, 20, 21, 22] [] T' = [(0, U P), (1, U E), (4, v), (5, .int .i64 x), (6, w), (15, .int .i64 (max 0 (bI (takeR P E lv ac l)))), (16, .bool (decide (0 ≤ bI (takeR P E lv ac l)))), (17, .int .i64 (max 0 (bI (takeR P E lv ac l)))), (18, .bool (decide (0 ≤ bI (takeR P E lv ac l)))), (19, .int .i64 fi), (20, .bool fb), (21, .int .i64 fi), (22, .bool fb)] := by
  subst hq
  obtain ⟨p1, p2, p3, p4⟩ := hv.plain
  obtain ⟨q1, q2, q3, q4⟩ := hw.plain
  have fs := rfind_spec N m v l hv (by omega) (by omega) x
  rw [hf] at fs
  unfold a7_R5
  rw [codeEv_keep, hk, keepL_nil]
  exact ⟨_, (by simp only [codeEv, opsEv, oneEv, guardEv, opE_mov, opE_ext, opE_call, St.opd, look_set, look_cons, St.put, loc_int, callWith, List.map, List.any, List.getElem?_cons_succ, List.getElem?_cons_zero, Option.map_some, Nat.reduceEqDiff, Nat.reduceLT, if_true, if_false, Bool.or_false, Bool.false_eq_true, Nat.succ_ne_self, fs, p2]; rfl), (by simp only [keepT, List.map, look_set, look_cons, in_int, in_U, in_bool, Nat.reduceEqDiff, if_true, if_false, p1, q1])⟩

theorem a7_R6_ok (v : AV) (l : List V) (m : Mem) (hv : VS m v l) (w : AV) (u : List Int) (hw : IS m w u) (P E : BitVec 32) (lv ac x : Int) (fi : Int) (fb : Bool) (os : BitVec 32) (oe : Int) (hl : l.length ≤ 40) (hm0 : m.get 0 = some (.cells tab32 false)) (hmn : m.n + 200 ≤ 2 ^ depth) (N : Nat) (hN : 200 ≤ N) (again : AC → St → Option (Ex × St)) (T : List (Nat × AV)) (L : List (Nat × List AV)) (q : _) (hq : codeEv (run A N) again a7_R6 ⟨136, T, L, m⟩ = q) (hk : keepT [0, 1, 4, 5, 15, 16, 17, 18, 19, 20, 21, 22, 23, 24, 25, 26] [] T = [(0, U P), (1, U E), (4, v), (5, .int .i64 x), (15, .int .i64 (max 0 (bI (takeR P E lv ac l)))), (16, .bool (decide (0 ≤ bI (takeR P E lv ac l)))), (17, .int .i64 (max 0 (bI (takeR P E lv ac l)))), (18, .bool (decide (0 ≤ bI (takeR P E lv ac l)))), (19, .int .i64 fi), (20, .bool fb), (21, .int .i64 fi), (22, .bool fb), (23, U os), (24, .int .i64 oe), (25, U os), (26, .int .i64 oe)]) :
    ∃ T' m', q = some (.norm, ⟨136, T', [], m'⟩) ∧ look T' 14 = .bool true := by
  subst hq
  obtain ⟨p1, p2, p3, p4⟩ := hv.plain
  have hb32 : ∀ y : BitVec 32, (ints (bitsOf y)).length ≤ 32 := fun y => by unfold ints; rw [List.length_map]; exact bits_len y
  have ck := check_v N (by omega) m v l hv (by omega)
  have rck := rcheck_spec N (by omega) m v l hv
  obtain ⟨v1, m1, l1, x1, n1, i1⟩ := list_spec N (by omega) P m hm0 (by omega)
  have hp1 : 0 < m1.n := Nat.lt_of_lt_of_le (Nat.lt_of_le_of_lt (Nat.zero_le _) (Mem.get_lt hm0)) x1.1
  obtain ⟨v2, m2, l2, x2, n2, i2⟩ := rlist_spec N (by omega) P m1 hp1 (by omega)
  have is := ints_spec N m2 v1 v2 (ints (bitsOf P)) (by have := hb32 P; omega) (i1.ext x2) i2 (by have := hb32 P; omega)
  have h1 := has_spec N (by omega) P x m2
  have h2 := rhas_spec N (by omega) P x m2
  have cs := count_spec N (by omega) E m2
  have hp2 : 0 < m2.n := Nat.lt_of_lt_of_le hp1 x2.1
  obtain ⟨v3, m3, l3, x3, n3, i3⟩ := rlist_spec N (by omega) E m2 hp2 (by omega)
  obtain ⟨a1, a2, _, _⟩ := i1.plain
  obtain ⟨b1, b2, _, _⟩ := i2.plain
  obtain ⟨d1, d2, _, _⟩ := i3.plain
  have ln3 := i3.lenR
  have e3 : (ints (bitsOf E)).length = (bitsOf E).length := by unfold ints; rw [List.length_map]
  rw [e3] at ln3
  have t0 : ∀ y : Int, (y = y) = True := fun y => eq_self y
  have bt : ∀ b : Bool, (b == b) = true := fun b => by cases b <;> rfl
  unfold a7_R6
  rw [codeEv_keep, hk, keepL_nil]
  exact ⟨_, m3, (by simp only [codeEv, opsEv, oneEv, guardEv, opE_mov, opE_pick, opE_bin, opE_eq, opE_call, opE_lenL, St.opd, look_set, look_cons, St.put, bin_ueq, bin_ieq, loc_int, loc_U, callWith, List.map, List.any, Option.map_some, Nat.reduceEqDiff, Nat.reduceLT, if_true, if_false, Bool.or_false, beq_self_eq_true, Bool.false_eq_true, Nat.succ_ne_self, decide_true, eqEv, ck, rck, l1, l2, is, h1, h2, cs, l3, ln3, p2, a2, b2]; rfl), (by simp only [look_set, look_cons, Nat.reduceEqDiff, if_true, if_false])⟩

theorem calls_run (n : Nat) (hn : 300 ≤ n) (P E : BitVec 32) (lv ac x : Int) (m0 m : Mem) (hl0 : run A n 11 [] m0 = some (.bool true, m)) (v : AV) (l : List V) (hv : VS m v l) (w : AV) (u : List Int) (hw : IS m w u) (hm0 : m.get 0 = some (.cells tab32 false)) (hmn : m.n + 300 ≤ 2 ^ depth) :
    ∃ m', run A (n + 1) 7 [U P, U E, .int .i64 lv, .int .i64 ac, v, .int .i64 x, w] m0 = some (.bool true, m') := by
  rw [run_7]
  unfold fnEv a7
  obtain ⟨p1, p2, p3, p4⟩ := hv.plain
  obtain ⟨q1, q2, q3, q4⟩ := hw.plain
  simp only [codeEv, opsEv, oneEv, guardEv, opE_mov, opE_un, opE_ext, opE_call, St.opd, look_set, look_cons, St.put, argsT, resEv, in_int, in_U, unEv, callWith, keepL, List.map, List.length, List.any, Option.map_some, Nat.reduceEqDiff, Nat.reduceAdd, Nat.reduceLT, if_true, if_false, Bool.or_false, Bool.not_true, Bool.false_eq_true, Nat.succ_ne_self, keepT_setT, keepT_lit, p1, q1, hl0]
  generalize hq : codeEv (run A n) (ev A n).2 a7_R1 _ = q
  obtain ⟨T1, rfl, hk1, h36⟩ := a7_R1_ok v l m hv w u hw P E lv ac x n _ _ _ q hq (by simp only [keepT, List.map, look_set, look_cons, in_int, in_U, Nat.reduceEqDiff, if_true, if_false, p1, q1])
  simp only [Nat.reduceLT, if_true, h36]
  by_cases c1 : 40 < l.length
  · exact ⟨m, by simp only [look_set, loc_bool, if_true, if_false, Bool.true_or, Bool.false_eq_true, decide_true, c1]⟩
  by_cases c2 : 40 < u.length
  · exact ⟨m, by simp only [look_set, loc_bool, if_true, if_false, Bool.or_true, Bool.false_eq_true, decide_true, decide_false, c1, c2]⟩
  simp only [if_false, Bool.or_false, Bool.false_eq_true, decide_false, c1, c2]
  obtain ⟨fi, fb, hf⟩ : ∃ (fi : Int) (fb : Bool), findAV (findL x l 0) = .tup [.int .i64 fi, .bool fb] := by
    cases findL x l 0 with
    | none => exact ⟨_, _, rfl⟩
    | some i => exact ⟨_, _, rfl⟩
  generalize hq : codeEv (run A n) (ev A n).2 a7_R2 _ = q
  obtain ⟨T2, m2, rfl, x2, n2, hk2⟩ := a7_R2_ok v l m hv w u hw P E lv ac x (by omega) n (by omega) (by omega) _ _ _ q hq hk1
  have hv2 := hv.ext x2
  have hw2 := hw.ext x2
  have hm2 : m2.get 0 = some (.cells tab32 false) := (x2.2 0 (Nat.lt_of_le_of_lt (Nat.zero_le _) (Mem.get_lt hm0))).trans hm0
  simp only []
  generalize hq : codeEv (run A n) (ev A n).2 a7_R3 _ = q
  obtain ⟨T3, rfl, hk3⟩ := a7_R3_ok v l m2 hv2 w u hw2 P E lv ac x n (by omega) _ _ _ q hq hk2
  simp only []
  generalize hq : codeEv (run A n) (ev A n).2 a7_R4 _ = q
  obtain ⟨T4, rfl, hk4⟩ := a7_R4_ok v l m2 hv2 w u hw2 P E lv ac x fi fb hf (by omega) n (by omega) _ _ _ q hq hk3
  simp only []
  generalize hq : codeEv (run A n) (ev A n).2 a7_R5 _ = q
  obtain ⟨T5, rfl, hk5⟩ := a7_R5_ok v l m2 hv2 w u hw2 P E lv ac x fi fb hf (by omega) n (by omega) _ _ _ q hq hk4
  have o1 := of_spec n m2 w u hw2 (by omega) (by omega)
  have o2 := rof_spec n m2 w u hw2 (by omega) (by omega)
  generalize (ofL 0#32 u).1 = os at o1 o2
  generalize (ofL 0#32 u).2 = oe at o1 o2
  simp only [look_set, look_cons, in_int, in_U, in_bool, List.map, List.getElem?_cons_succ, List.getElem?_cons_zero, Option.map_some, Nat.reduceEqDiff, Nat.reduceLT, if_true, if_false, Bool.false_eq_true, Nat.succ_ne_self, keepT_setT, hk5, p1, q1, q2, o1, o2]
  generalize hq : codeEv (run A n) (ev A n).2 a7_R6 _ = q
  obtain ⟨T6, m6, rfl, h14⟩ := a7_R6_ok v l m2 hv2 w u hw2 P E lv ac x fi fb os oe (by omega) hm2 (by omega) n (by omega) _ _ _ q hq (by simp only [keepT, List.map, look_set, look_cons, in_int, in_U, in_bool, Nat.reduceEqDiff, if_true, if_false, p1])
  exact ⟨m6, by simp only [loc_bool, if_false, Bool.false_eq_true, h14]⟩

end AG
