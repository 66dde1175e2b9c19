/- What MaskOrder computes. -/
import Derived.Test.YtenhcejelicjfaaDoorAgMaskP
namespace AG
open Go Go.Proofs.YtenhcejelicjfaaDoor
set_option maxRecDepth 100000
set_option maxHeartbeats 4000000
theorem dOps_append (call : Caller) : ∀ (l1 l2 : List (Bool × AOper × Bool)) (s s1 s2 : St) (g1 g2 : List Acc), dOpsEv call l1 s = some (s1, g1) → dOpsEv call l2 s1 = some (s2, g2) → dOpsEv call (l1 ++ l2) s = some (s2, g1 ++ g2)
  | [], l2, s, s1, s2, g1, g2, h, k => by
    simp only [dOpsEv, Option.some.injEq, Prod.mk.injEq] at h
    obtain ⟨rfl, rfl⟩ := h
    simpa using k
  | o :: l1, l2, s, s1, s2, g1, g2, h, k => by
    simp only [dOpsEv] at h
    split at h
    · rename_i s' h1
      split at h
      · rename_i s3 lg h2
        simp only [Option.some.injEq, Prod.mk.injEq] at h
        obtain ⟨rfl, rfl⟩ := h
        have := dOps_append call l1 l2 s' s3 s2 lg g2 h2 k
        simp only [List.cons_append, dOpsEv, h1, this, List.append_assoc]
      · cases h
    · cases h

/-- What the long row of conditions finds in the frame. -/
structure Base (T : List (Nat × AV)) : Prop where
  h4 : look T 4 = .loc 4 0
  h5 : look T 5 = .loc 5 0
  h6 : look T 6 = .loc 6 0
  h7 : look T 7 = .loc 7 0
  h9 : look T 9 = .loc 9 0
  h10 : look T 10 = .loc 10 0
  h11 : look T 11 = .loc 11 0
def locs (a b c j X Y : Mk) (op x y z : Int) : List (Nat × List AV) :=
  [(4, [U a.may, U a.must, .int .i64 a.fr, .int .i64 a.to]), (5, [U b.may, U b.must, .int .i64 b.fr, .int .i64 b.to]), (6, [U c.may, U c.must, .int .i64 c.fr, .int .i64 c.to]),
   (7, [.int .i64 op, .int .i64 x, .int .i64 y, .int .i64 z]), (9, [U j.may, U j.must, .int .i64 j.fr, .int .i64 j.to]), (10, [U X.may, U X.must, .int .i64 X.fr, .int .i64 X.to]), (11, [U Y.may, U Y.must, .int .i64 Y.fr, .int .i64 Y.to])]
def seg0 : List (Bool × AOper × Bool) := [(false, ⟨(some 36), .load (some 4) (.tmp 9), none⟩, false), (false, ⟨(some 37), .call 30 [(.tmp 36)], none⟩, false), (false, ⟨(some 38), .bin .eql (.tmp 37) (.val (.int .i64 0)), none⟩, false), (false, ⟨(some 39), .mov (.tmp 38), none⟩, false), (false, ⟨(some 40), .load (some 4) (.tmp 9), (some (39, true))⟩, true), (false, ⟨(some 41), .load (some 4) (.tmp 5), (some (39, true))⟩, false), (false, ⟨(some 42), .load (some 4) (.tmp 4), (some (39, true))⟩, false), (false, ⟨(some 43), .call 31 [(.tmp 41), (.tmp 42)], (some (39, true))⟩, false), (false, ⟨(some 44), .eq false (.agg [(0, 0), (1, 0), (2, 0), (3, 0)]) (.tmp 40) (.tmp 43), (some (39, true))⟩, false), (false, ⟨(some 45), .pick (.tmp 39) (.tmp 44) (.val (.bool false)), none⟩, false), (false, ⟨(some 46), .mov (.tmp 45), none⟩, false)]
def seg1 : List (Bool × AOper × Bool) := [(false, ⟨(some 47), .load (some 4) (.tmp 4), (some (46, true))⟩, false), (false, ⟨(some 48), .load (some 4) (.tmp 9), (some (46, true))⟩, false), (false, ⟨(some 49), .call 32 [(.tmp 47), (.tmp 48)], (some (46, true))⟩, false), (false, ⟨(some 50), .pick (.tmp 46) (.tmp 49) (.val (.bool false)), none⟩, false), (false, ⟨(some 51), .mov (.tmp 50), none⟩, false)]
def seg2 : List (Bool × AOper × Bool) := [(false, ⟨(some 52), .load (some 4) (.tmp 5), (some (51, true))⟩, false), (false, ⟨(some 53), .load (some 4) (.tmp 9), (some (51, true))⟩, false), (false, ⟨(some 54), .call 32 [(.tmp 52), (.tmp 53)], (some (51, true))⟩, false), (false, ⟨(some 55), .pick (.tmp 51) (.tmp 54) (.val (.bool false)), none⟩, false), (false, ⟨(some 56), .mov (.tmp 55), none⟩, false)]
def seg3 : List (Bool × AOper × Bool) := [(false, ⟨(some 57), .load (some 4) (.tmp 4), (some (56, true))⟩, false), (false, ⟨(some 58), .load (some 4) (.tmp 6), (some (56, true))⟩, false), (false, ⟨(some 59), .call 32 [(.tmp 57), (.tmp 58)], (some (56, true))⟩, false), (false, ⟨(some 60), .un .not (.tmp 59), (some (56, true))⟩, false), (false, ⟨(some 61), .mov (.tmp 60), (some (56, true))⟩, false), (false, ⟨(some 62), .load (some 4) (.tmp 5), (some (61, false))⟩, false), (false, ⟨(some 63), .load (some 4) (.tmp 6), (some (61, false))⟩, false), (false, ⟨(some 64), .call 32 [(.tmp 62), (.tmp 63)], (some (61, false))⟩, false), (false, ⟨(some 65), .un .not (.tmp 64), (some (61, false))⟩, false), (false, ⟨(some 66), .pick (.tmp 61) (.val (.bool true)) (.tmp 65), (some (56, true))⟩, false), (false, ⟨(some 67), .mov (.tmp 66), (some (56, true))⟩, false), (false, ⟨(some 68), .load (some 4) (.tmp 9), (some (67, false))⟩, false), (false, ⟨(some 69), .load (some 4) (.tmp 6), (some (67, false))⟩, false), (false, ⟨(some 70), .call 32 [(.tmp 68), (.tmp 69)], (some (67, false))⟩, false), (false, ⟨(some 71), .pick (.tmp 67) (.val (.bool true)) (.tmp 70), (some (56, true))⟩, false), (false, ⟨(some 72), .pick (.tmp 56) (.tmp 71) (.val (.bool false)), none⟩, false), (false, ⟨(some 73), .mov (.tmp 72), none⟩, false)]
def seg4 : List (Bool × AOper × Bool) := [(false, ⟨(some 74), .load (some 4) (.tmp 4), (some (73, true))⟩, false), (false, ⟨(some 75), .load (some 4) (.tmp 5), (some (73, true))⟩, false), (false, ⟨(some 76), .call 32 [(.tmp 74), (.tmp 75)], (some (73, true))⟩, false), (false, ⟨(some 77), .un .not (.tmp 76), (some (73, true))⟩, false), (false, ⟨(some 78), .mov (.tmp 77), (some (73, true))⟩, false), (false, ⟨(some 79), .load (some 4) (.tmp 5), (some (78, false))⟩, false), (false, ⟨(some 80), .load (some 4) (.tmp 4), (some (78, false))⟩, false), (false, ⟨(some 81), .call 32 [(.tmp 79), (.tmp 80)], (some (78, false))⟩, false), (false, ⟨(some 82), .un .not (.tmp 81), (some (78, false))⟩, false), (false, ⟨(some 83), .pick (.tmp 78) (.val (.bool true)) (.tmp 82), (some (73, true))⟩, false), (false, ⟨(some 84), .mov (.tmp 83), (some (73, true))⟩, false), (false, ⟨(some 85), .load (some 4) (.tmp 4), (some (84, false))⟩, false), (false, ⟨(some 86), .load (some 4) (.tmp 5), (some (84, false))⟩, false), (false, ⟨(some 87), .eq false (.agg [(0, 0), (1, 0), (2, 0), (3, 0)]) (.tmp 85) (.tmp 86), (some (84, false))⟩, false), (false, ⟨(some 88), .pick (.tmp 84) (.val (.bool true)) (.tmp 87), (some (73, true))⟩, false), (false, ⟨(some 89), .pick (.tmp 73) (.tmp 88) (.val (.bool false)), none⟩, false), (false, ⟨(some 90), .mov (.tmp 89), none⟩, false)]
def seg5 : List (Bool × AOper × Bool) := [(false, ⟨(some 91), .load (some 4) (.tmp 4), (some (90, true))⟩, false), (false, ⟨(some 92), .load (some 4) (.tmp 5), (some (90, true))⟩, false), (false, ⟨(some 93), .call 32 [(.tmp 91), (.tmp 92)], (some (90, true))⟩, false), (false, ⟨(some 94), .un .not (.tmp 93), (some (90, true))⟩, false), (false, ⟨(some 95), .mov (.tmp 94), (some (90, true))⟩, false), (false, ⟨(some 96), .load (some 4) (.tmp 5), (some (95, false))⟩, false), (false, ⟨(some 97), .load (some 4) (.tmp 6), (some (95, false))⟩, false), (false, ⟨(some 98), .call 32 [(.tmp 96), (.tmp 97)], (some (95, false))⟩, false), (false, ⟨(some 99), .un .not (.tmp 98), (some (95, false))⟩, false), (false, ⟨(some 100), .pick (.tmp 95) (.val (.bool true)) (.tmp 99), (some (90, true))⟩, false), (false, ⟨(some 101), .mov (.tmp 100), (some (90, true))⟩, false), (false, ⟨(some 102), .load (some 4) (.tmp 4), (some (101, false))⟩, false), (false, ⟨(some 103), .load (some 4) (.tmp 6), (some (101, false))⟩, false), (false, ⟨(some 104), .call 32 [(.tmp 102), (.tmp 103)], (some (101, false))⟩, false), (false, ⟨(some 105), .pick (.tmp 101) (.val (.bool true)) (.tmp 104), (some (90, true))⟩, false), (false, ⟨(some 106), .pick (.tmp 90) (.tmp 105) (.val (.bool false)), none⟩, false), (false, ⟨(some 107), .mov (.tmp 106), none⟩, false)]
def seg6 : List (Bool × AOper × Bool) := [(false, ⟨(some 108), .load (some 4) (.tmp 10), (some (107, true))⟩, false), (false, ⟨(some 109), .call 30 [(.tmp 108)], (some (107, true))⟩, false), (false, ⟨(some 110), .bin .eql (.tmp 109) (.val (.int .i64 0)), (some (107, true))⟩, false), (false, ⟨(some 111), .pick (.tmp 107) (.tmp 110) (.val (.bool false)), none⟩, false), (false, ⟨(some 112), .mov (.tmp 111), none⟩, false)]
def seg7 : List (Bool × AOper × Bool) := [(false, ⟨(some 113), .load (some 4) (.tmp 10), (some (112, true))⟩, false), (false, ⟨(some 114), .load (some 4) (.tmp 11), (some (112, true))⟩, false), (false, ⟨(some 115), .call 32 [(.tmp 113), (.tmp 114)], (some (112, true))⟩, false), (false, ⟨(some 116), .pick (.tmp 112) (.tmp 115) (.val (.bool false)), none⟩, false), (false, ⟨(some 117), .mov (.tmp 116), none⟩, false)]
def seg8 : List (Bool × AOper × Bool) := [(false, ⟨(some 118), .load (some 4) (.tmp 7), (some (117, true))⟩, false), (false, ⟨(some 119), .load (some 4) (.tmp 10), (some (117, true))⟩, false), (false, ⟨(some 120), .call 27 [(.tmp 118), (.tmp 119)], (some (117, true))⟩, false), (false, ⟨(some 121), .load (some 4) (.tmp 10), (some (117, true))⟩, true), (false, ⟨(some 122), .eq false (.agg [(0, 0), (1, 0), (2, 0), (3, 0)]) (.tmp 120) (.tmp 121), (some (117, true))⟩, false), (false, ⟨(some 123), .pick (.tmp 117) (.tmp 122) (.val (.bool false)), none⟩, false), (false, ⟨(some 8), .mov (.tmp 123), none⟩, false)]

theorem seg0_ok (n : Nat) (a b c j X Y : Mk) (op x y z e : Int) (m : Mem) (he : run A (n + 5) 50 [insA op x y z] m = some (.int .i64 e, m)) (T : List (Nat × AV)) (hT : Base T) (F1 : j.ok = true) (F2 : decide (j = b.join a) = true) :
    ∃ T', dOpsEv (run A (n + 6)) seg0 { n := 124, t := T, l := locs a b c j X Y op x y z, m := m } = some ({ n := 124, t := T', l := locs a b c j X Y op x y z, m := m }, []) ∧ Base T' ∧ look T' 46 = .bool true := by
  have ck := fun M : Mk => check_mk (n + 5) M m
  have jn := fun M N : Mk => join_mk (n + 4) M N m
  have wi := fun M N : Mk => within_mk (n + 3) M N m
  have dd := fun M : Mk => do_mk (n + 1) op x y z e M m he
  have eq := fun M N : Mk => eq_mk M N
  obtain ⟨h4, h5, h6, h7, h9, h10, h11⟩ := hT
  unfold insA at dd
  simp only [av_cells] at ck jn wi dd eq
  unfold seg0 locs
  refine ⟨_, by simp only [guardEv, opEv, St.opd, look_set, St.put, St.read, lookL, cellsAt_cons, bin_ieq, loc_agg, callWith, careEv, dOneEv, dOpsEv, accOf, accEv, Option.toList_some, List.append_nil, List.map, List.length, List.take, List.drop, List.any, List.take_succ_cons, Option.map_some, Nat.reduceEqDiff, Nat.reduceAdd, Nat.reduceLeDiff, Nat.reduceLT, if_true, if_false, Bool.and_false, Bool.or_false, Bool.not_true, beq_self_eq_true, Bool.false_eq_true, Nat.succ_ne_self, decide_true, h4, h5, h9, ck, jn, eq, F1, F2]; rfl, ⟨?_, ?_, ?_, ?_, ?_, ?_, ?_⟩, ?_⟩ <;> simp only [look_set, h4, h5, h6, h7, h9, h10, h11, Nat.reduceEqDiff, if_true, if_false]

theorem seg1_ok (n : Nat) (a b c j X Y : Mk) (op x y z e : Int) (m : Mem) (he : run A (n + 5) 50 [insA op x y z] m = some (.int .i64 e, m)) (T : List (Nat × AV)) (hT : Base T) (hin : look T 46 = .bool true) (F3 : a.within j = true) :
    ∃ T', dOpsEv (run A (n + 6)) seg1 { n := 124, t := T, l := locs a b c j X Y op x y z, m := m } = some ({ n := 124, t := T', l := locs a b c j X Y op x y z, m := m }, []) ∧ Base T' ∧ look T' 51 = .bool true := by
  have ck := fun M : Mk => check_mk (n + 5) M m
  have jn := fun M N : Mk => join_mk (n + 4) M N m
  have wi := fun M N : Mk => within_mk (n + 3) M N m
  have dd := fun M : Mk => do_mk (n + 1) op x y z e M m he
  have eq := fun M N : Mk => eq_mk M N
  obtain ⟨h4, h5, h6, h7, h9, h10, h11⟩ := hT
  unfold insA at dd
  simp only [av_cells] at ck jn wi dd eq
  unfold seg1 locs
  refine ⟨_, by simp only [guardEv, opEv, St.opd, look_set, St.put, St.read, lookL, cellsAt_cons, loc_agg, callWith, careEv, dOneEv, dOpsEv, accOf, accEv, Option.toList_some, List.append_nil, List.map, List.length, List.take, List.drop, List.any, List.take_succ_cons, Nat.reduceEqDiff, Nat.reduceAdd, Nat.reduceLeDiff, Nat.reduceLT, if_true, if_false, Bool.and_false, Bool.or_false, Bool.not_true, beq_self_eq_true, Bool.false_eq_true, Nat.succ_ne_self, hin, h4, h9, wi, F3]; rfl, ⟨?_, ?_, ?_, ?_, ?_, ?_, ?_⟩, ?_⟩ <;> simp only [look_set, h4, h5, h6, h7, h9, h10, h11, Nat.reduceEqDiff, if_true, if_false]

theorem seg2_ok (n : Nat) (a b c j X Y : Mk) (op x y z e : Int) (m : Mem) (he : run A (n + 5) 50 [insA op x y z] m = some (.int .i64 e, m)) (T : List (Nat × AV)) (hT : Base T) (hin : look T 51 = .bool true) (F3 : b.within j = true) :
    ∃ T', dOpsEv (run A (n + 6)) seg2 { n := 124, t := T, l := locs a b c j X Y op x y z, m := m } = some ({ n := 124, t := T', l := locs a b c j X Y op x y z, m := m }, []) ∧ Base T' ∧ look T' 56 = .bool true := by
  have ck := fun M : Mk => check_mk (n + 5) M m
  have jn := fun M N : Mk => join_mk (n + 4) M N m
  have wi := fun M N : Mk => within_mk (n + 3) M N m
  have dd := fun M : Mk => do_mk (n + 1) op x y z e M m he
  have eq := fun M N : Mk => eq_mk M N
  obtain ⟨h4, h5, h6, h7, h9, h10, h11⟩ := hT
  unfold insA at dd
  simp only [av_cells] at ck jn wi dd eq
  unfold seg2 locs
  refine ⟨_, by simp only [guardEv, opEv, St.opd, look_set, St.put, St.read, lookL, cellsAt_cons, loc_agg, callWith, careEv, dOneEv, dOpsEv, accOf, accEv, Option.toList_some, List.append_nil, List.map, List.length, List.take, List.drop, List.any, List.take_succ_cons, Nat.reduceEqDiff, Nat.reduceAdd, Nat.reduceLeDiff, Nat.reduceLT, if_true, if_false, Bool.and_false, Bool.or_false, Bool.not_true, beq_self_eq_true, Bool.false_eq_true, Nat.succ_ne_self, hin, h5, h9, wi, F3]; rfl, ⟨?_, ?_, ?_, ?_, ?_, ?_, ?_⟩, ?_⟩ <;> simp only [look_set, h4, h5, h6, h7, h9, h10, h11, Nat.reduceEqDiff, if_true, if_false]

theorem seg3_ok (n : Nat) (a b c j X Y : Mk) (op x y z e : Int) (m : Mem) (he : run A (n + 5) 50 [insA op x y z] m = some (.int .i64 e, m)) (T : List (Nat × AV)) (hT : Base T) (hin : look T 56 = .bool true) (F4 : a.within c = true → b.within c = true → j.within c = true) :
    ∃ T', dOpsEv (run A (n + 6)) seg3 { n := 124, t := T, l := locs a b c j X Y op x y z, m := m } = some ({ n := 124, t := T', l := locs a b c j X Y op x y z, m := m }, []) ∧ Base T' ∧ look T' 73 = .bool true := by
  have ck := fun M : Mk => check_mk (n + 5) M m
  have jn := fun M N : Mk => join_mk (n + 4) M N m
  have wi := fun M N : Mk => within_mk (n + 3) M N m
  have dd := fun M : Mk => do_mk (n + 1) op x y z e M m he
  have eq := fun M N : Mk => eq_mk M N
  obtain ⟨h4, h5, h6, h7, h9, h10, h11⟩ := hT
  unfold insA at dd
  simp only [av_cells] at ck jn wi dd eq
  unfold seg3 locs
  cases q1 : a.within c
  · refine ⟨_, by simp only [guardEv, opEv, St.opd, look_set, St.put, St.read, lookL, cellsAt_cons, loc_agg, unEv, callWith, careEv, dOneEv, dOpsEv, accOf, accEv, Option.toList_some, List.append_nil, List.map, List.length, List.take, List.drop, List.any, List.take_succ_cons, Option.map_some, Nat.reduceEqDiff, Nat.reduceAdd, Nat.reduceLeDiff, Nat.reduceLT, if_true, if_false, Bool.and_false, Bool.or_false, Bool.not_true, Bool.not_false, beq_self_eq_true, Bool.false_eq_true, Nat.succ_ne_self, beq_tf, hin, h4, h6, wi, q1]; rfl, ⟨?_, ?_, ?_, ?_, ?_, ?_, ?_⟩, ?_⟩ <;> simp only [look_set, h4, h5, h6, h7, h9, h10, h11, Nat.reduceEqDiff, if_true, if_false]
  · cases q2 : b.within c
    · refine ⟨_, by simp only [guardEv, opEv, St.opd, look_set, St.put, St.read, lookL, cellsAt_cons, loc_agg, unEv, callWith, careEv, dOneEv, dOpsEv, accOf, accEv, Option.toList_some, List.append_nil, List.map, List.length, List.take, List.drop, List.any, List.take_succ_cons, Option.map_some, Nat.reduceEqDiff, Nat.reduceAdd, Nat.reduceLeDiff, Nat.reduceLT, if_true, if_false, Bool.and_false, Bool.or_false, Bool.not_true, Bool.not_false, beq_self_eq_true, Bool.false_eq_true, Nat.succ_ne_self, beq_tf, hin, h4, h5, h6, wi, q1, q2]; rfl, ⟨?_, ?_, ?_, ?_, ?_, ?_, ?_⟩, ?_⟩ <;> simp only [look_set, h4, h5, h6, h7, h9, h10, h11, Nat.reduceEqDiff, if_true, if_false]
    · have F4 := F4 q1 q2
      refine ⟨_, by simp only [guardEv, opEv, St.opd, look_set, St.put, St.read, lookL, cellsAt_cons, loc_agg, unEv, callWith, careEv, dOneEv, dOpsEv, accOf, accEv, Option.toList_some, List.append_nil, List.map, List.length, List.take, List.drop, List.any, List.take_succ_cons, Option.map_some, Nat.reduceEqDiff, Nat.reduceAdd, Nat.reduceLeDiff, Nat.reduceLT, if_true, if_false, Bool.and_false, Bool.or_false, Bool.not_true, beq_self_eq_true, Bool.false_eq_true, Nat.succ_ne_self, hin, h4, h5, h6, h9, wi, F4, q1, q2]; rfl, ⟨?_, ?_, ?_, ?_, ?_, ?_, ?_⟩, ?_⟩ <;> simp only [look_set, h4, h5, h6, h7, h9, h10, h11, Nat.reduceEqDiff, if_true, if_false]

theorem seg4_ok (n : Nat) (a b c j X Y : Mk) (op x y z e : Int) (m : Mem) (he : run A (n + 5) 50 [insA op x y z] m = some (.int .i64 e, m)) (T : List (Nat × AV)) (hT : Base T) (hin : look T 73 = .bool true) (F5 : a.within b = true → b.within a = true → decide (a = b) = true) :
    ∃ T', dOpsEv (run A (n + 6)) seg4 { n := 124, t := T, l := locs a b c j X Y op x y z, m := m } = some ({ n := 124, t := T', l := locs a b c j X Y op x y z, m := m }, []) ∧ Base T' ∧ look T' 90 = .bool true := by
  have ck := fun M : Mk => check_mk (n + 5) M m
  have jn := fun M N : Mk => join_mk (n + 4) M N m
  have wi := fun M N : Mk => within_mk (n + 3) M N m
  have dd := fun M : Mk => do_mk (n + 1) op x y z e M m he
  have eq := fun M N : Mk => eq_mk M N
  obtain ⟨h4, h5, h6, h7, h9, h10, h11⟩ := hT
  unfold insA at dd
  simp only [av_cells] at ck jn wi dd eq
  unfold seg4 locs
  cases q1 : a.within b
  · refine ⟨_, by simp only [guardEv, opEv, St.opd, look_set, St.put, St.read, lookL, cellsAt_cons, loc_agg, unEv, callWith, careEv, dOneEv, dOpsEv, accOf, accEv, Option.toList_some, List.append_nil, List.map, List.length, List.take, List.drop, List.any, List.take_succ_cons, Option.map_some, Nat.reduceEqDiff, Nat.reduceAdd, Nat.reduceLeDiff, Nat.reduceLT, if_true, if_false, Bool.and_false, Bool.or_false, Bool.not_true, Bool.not_false, beq_self_eq_true, Bool.false_eq_true, Nat.succ_ne_self, beq_tf, hin, h4, h5, wi, q1]; rfl, ⟨?_, ?_, ?_, ?_, ?_, ?_, ?_⟩, ?_⟩ <;> simp only [look_set, h4, h5, h6, h7, h9, h10, h11, Nat.reduceEqDiff, if_true, if_false]
  · cases q2 : b.within a
    · refine ⟨_, by simp only [guardEv, opEv, St.opd, look_set, St.put, St.read, lookL, cellsAt_cons, loc_agg, unEv, callWith, careEv, dOneEv, dOpsEv, accOf, accEv, Option.toList_some, List.append_nil, List.map, List.length, List.take, List.drop, List.any, List.take_succ_cons, Option.map_some, Nat.reduceEqDiff, Nat.reduceAdd, Nat.reduceLeDiff, Nat.reduceLT, if_true, if_false, Bool.and_false, Bool.or_false, Bool.not_true, Bool.not_false, beq_self_eq_true, Bool.false_eq_true, Nat.succ_ne_self, beq_tf, hin, h4, h5, wi, q1, q2]; rfl, ⟨?_, ?_, ?_, ?_, ?_, ?_, ?_⟩, ?_⟩ <;> simp only [look_set, h4, h5, h6, h7, h9, h10, h11, Nat.reduceEqDiff, if_true, if_false]
    · have F5 := F5 q1 q2
      refine ⟨_, by simp only [guardEv, opEv, St.opd, look_set, St.put, St.read, lookL, cellsAt_cons, loc_agg, unEv, callWith, careEv, dOneEv, dOpsEv, accOf, accEv, Option.toList_some, List.append_nil, List.map, List.length, List.take, List.drop, List.any, List.take_succ_cons, Option.map_some, Nat.reduceEqDiff, Nat.reduceAdd, Nat.reduceLeDiff, Nat.reduceLT, if_true, if_false, Bool.and_false, Bool.or_false, Bool.not_true, beq_self_eq_true, Bool.false_eq_true, Nat.succ_ne_self, hin, h4, h5, wi, eq, F5, q1, q2]; rfl, ⟨?_, ?_, ?_, ?_, ?_, ?_, ?_⟩, ?_⟩ <;> simp only [look_set, h4, h5, h6, h7, h9, h10, h11, Nat.reduceEqDiff, if_true, if_false]

theorem seg5_ok (n : Nat) (a b c j X Y : Mk) (op x y z e : Int) (m : Mem) (he : run A (n + 5) 50 [insA op x y z] m = some (.int .i64 e, m)) (T : List (Nat × AV)) (hT : Base T) (hin : look T 90 = .bool true) (F6 : a.within b = true → b.within c = true → a.within c = true) :
    ∃ T', dOpsEv (run A (n + 6)) seg5 { n := 124, t := T, l := locs a b c j X Y op x y z, m := m } = some ({ n := 124, t := T', l := locs a b c j X Y op x y z, m := m }, []) ∧ Base T' ∧ look T' 107 = .bool true := by
  have ck := fun M : Mk => check_mk (n + 5) M m
  have jn := fun M N : Mk => join_mk (n + 4) M N m
  have wi := fun M N : Mk => within_mk (n + 3) M N m
  have dd := fun M : Mk => do_mk (n + 1) op x y z e M m he
  have eq := fun M N : Mk => eq_mk M N
  obtain ⟨h4, h5, h6, h7, h9, h10, h11⟩ := hT
  unfold insA at dd
  simp only [av_cells] at ck jn wi dd eq
  unfold seg5 locs
  cases q1 : a.within b
  · refine ⟨_, by simp only [guardEv, opEv, St.opd, look_set, St.put, St.read, lookL, cellsAt_cons, loc_agg, unEv, callWith, careEv, dOneEv, dOpsEv, accOf, accEv, Option.toList_some, List.append_nil, List.map, List.length, List.take, List.drop, List.any, List.take_succ_cons, Option.map_some, Nat.reduceEqDiff, Nat.reduceAdd, Nat.reduceLeDiff, Nat.reduceLT, if_true, if_false, Bool.and_false, Bool.or_false, Bool.not_true, Bool.not_false, beq_self_eq_true, Bool.false_eq_true, Nat.succ_ne_self, beq_tf, hin, h4, h5, wi, q1]; rfl, ⟨?_, ?_, ?_, ?_, ?_, ?_, ?_⟩, ?_⟩ <;> simp only [look_set, h4, h5, h6, h7, h9, h10, h11, Nat.reduceEqDiff, if_true, if_false]
  · cases q2 : b.within c
    · refine ⟨_, by simp only [guardEv, opEv, St.opd, look_set, St.put, St.read, lookL, cellsAt_cons, loc_agg, unEv, callWith, careEv, dOneEv, dOpsEv, accOf, accEv, Option.toList_some, List.append_nil, List.map, List.length, List.take, List.drop, List.any, List.take_succ_cons, Option.map_some, Nat.reduceEqDiff, Nat.reduceAdd, Nat.reduceLeDiff, Nat.reduceLT, if_true, if_false, Bool.and_false, Bool.or_false, Bool.not_true, Bool.not_false, beq_self_eq_true, Bool.false_eq_true, Nat.succ_ne_self, beq_tf, hin, h4, h5, h6, wi, q1, q2]; rfl, ⟨?_, ?_, ?_, ?_, ?_, ?_, ?_⟩, ?_⟩ <;> simp only [look_set, h4, h5, h6, h7, h9, h10, h11, Nat.reduceEqDiff, if_true, if_false]
    · have F6 := F6 q1 q2
      refine ⟨_, by simp only [guardEv, opEv, St.opd, look_set, St.put, St.read, lookL, cellsAt_cons, loc_agg, unEv, callWith, careEv, dOneEv, dOpsEv, accOf, accEv, Option.toList_some, List.append_nil, List.map, List.length, List.take, List.drop, List.any, List.take_succ_cons, Option.map_some, Nat.reduceEqDiff, Nat.reduceAdd, Nat.reduceLeDiff, Nat.reduceLT, if_true, if_false, Bool.and_false, Bool.or_false, Bool.not_true, beq_self_eq_true, Bool.false_eq_true, Nat.succ_ne_self, hin, h4, h5, h6, wi, F6, q1, q2]; rfl, ⟨?_, ?_, ?_, ?_, ?_, ?_, ?_⟩, ?_⟩ <;> simp only [look_set, h4, h5, h6, h7, h9, h10, h11, Nat.reduceEqDiff, if_true, if_false]

theorem seg6_ok (n : Nat) (a b c j X Y : Mk) (op x y z e : Int) (m : Mem) (he : run A (n + 5) 50 [insA op x y z] m = some (.int .i64 e, m)) (T : List (Nat × AV)) (hT : Base T) (hin : look T 107 = .bool true) (F7 : X.ok = true) :
    ∃ T', dOpsEv (run A (n + 6)) seg6 { n := 124, t := T, l := locs a b c j X Y op x y z, m := m } = some ({ n := 124, t := T', l := locs a b c j X Y op x y z, m := m }, []) ∧ Base T' ∧ look T' 112 = .bool true := by
  have ck := fun M : Mk => check_mk (n + 5) M m
  have jn := fun M N : Mk => join_mk (n + 4) M N m
  have wi := fun M N : Mk => within_mk (n + 3) M N m
  have dd := fun M : Mk => do_mk (n + 1) op x y z e M m he
  have eq := fun M N : Mk => eq_mk M N
  obtain ⟨h4, h5, h6, h7, h9, h10, h11⟩ := hT
  unfold insA at dd
  simp only [av_cells] at ck jn wi dd eq
  unfold seg6 locs
  refine ⟨_, by simp only [guardEv, opEv, St.opd, look_set, St.put, St.read, lookL, cellsAt_cons, bin_ieq, loc_agg, callWith, careEv, dOneEv, dOpsEv, accOf, accEv, Option.toList_some, List.append_nil, List.map, List.length, List.take, List.drop, List.any, List.take_succ_cons, Option.map_some, Nat.reduceEqDiff, Nat.reduceAdd, Nat.reduceLeDiff, Nat.reduceLT, if_true, if_false, Bool.and_false, Bool.or_false, Bool.not_true, beq_self_eq_true, Bool.false_eq_true, Nat.succ_ne_self, decide_true, hin, h10, ck, F7]; rfl, ⟨?_, ?_, ?_, ?_, ?_, ?_, ?_⟩, ?_⟩ <;> simp only [look_set, h4, h5, h6, h7, h9, h10, h11, Nat.reduceEqDiff, if_true, if_false]

theorem seg7_ok (n : Nat) (a b c j X Y : Mk) (op x y z e : Int) (m : Mem) (he : run A (n + 5) 50 [insA op x y z] m = some (.int .i64 e, m)) (T : List (Nat × AV)) (hT : Base T) (hin : look T 112 = .bool true) (F8 : X.within Y = true) :
    ∃ T', dOpsEv (run A (n + 6)) seg7 { n := 124, t := T, l := locs a b c j X Y op x y z, m := m } = some ({ n := 124, t := T', l := locs a b c j X Y op x y z, m := m }, []) ∧ Base T' ∧ look T' 117 = .bool true := by
  have ck := fun M : Mk => check_mk (n + 5) M m
  have jn := fun M N : Mk => join_mk (n + 4) M N m
  have wi := fun M N : Mk => within_mk (n + 3) M N m
  have dd := fun M : Mk => do_mk (n + 1) op x y z e M m he
  have eq := fun M N : Mk => eq_mk M N
  obtain ⟨h4, h5, h6, h7, h9, h10, h11⟩ := hT
  unfold insA at dd
  simp only [av_cells] at ck jn wi dd eq
  unfold seg7 locs
  refine ⟨_, by simp only [guardEv, opEv, St.opd, look_set, St.put, St.read, lookL, cellsAt_cons, loc_agg, callWith, careEv, dOneEv, dOpsEv, accOf, accEv, Option.toList_some, List.append_nil, List.map, List.length, List.take, List.drop, List.any, List.take_succ_cons, Nat.reduceEqDiff, Nat.reduceAdd, Nat.reduceLeDiff, Nat.reduceLT, if_true, if_false, Bool.and_false, Bool.or_false, Bool.not_true, beq_self_eq_true, Bool.false_eq_true, Nat.succ_ne_self, hin, h10, h11, wi, F8]; rfl, ⟨?_, ?_, ?_, ?_, ?_, ?_, ?_⟩, ?_⟩ <;> simp only [look_set, h4, h5, h6, h7, h9, h10, h11, Nat.reduceEqDiff, if_true, if_false]

theorem seg8_ok (n : Nat) (a b c j X Y : Mk) (op x y z e : Int) (m : Mem) (he : run A (n + 5) 50 [insA op x y z] m = some (.int .i64 e, m)) (T : List (Nat × AV)) (hT : Base T) (hin : look T 117 = .bool true) (F9 : decide (X.doI e op x = X) = true) :
    ∃ T', dOpsEv (run A (n + 6)) seg8 { n := 124, t := T, l := locs a b c j X Y op x y z, m := m } = some ({ n := 124, t := T', l := locs a b c j X Y op x y z, m := m }, []) ∧ Base T' ∧ look T' 8 = .bool true := by
  have ck := fun M : Mk => check_mk (n + 5) M m
  have jn := fun M N : Mk => join_mk (n + 4) M N m
  have wi := fun M N : Mk => within_mk (n + 3) M N m
  have dd := fun M : Mk => do_mk (n + 1) op x y z e M m he
  have eq := fun M N : Mk => eq_mk M N
  obtain ⟨h4, h5, h6, h7, h9, h10, h11⟩ := hT
  unfold insA at dd
  simp only [av_cells] at ck jn wi dd eq
  unfold seg8 locs
  refine ⟨_, by simp only [guardEv, opEv, St.opd, look_set, St.put, St.read, lookL, cellsAt_cons, loc_agg, callWith, careEv, dOneEv, dOpsEv, accOf, accEv, Option.toList_some, List.append_nil, List.map, List.length, List.take, List.drop, List.any, List.take_succ_cons, Option.map_some, Nat.reduceEqDiff, Nat.reduceAdd, Nat.reduceLeDiff, Nat.reduceLT, if_true, if_false, Bool.and_false, Bool.or_false, Bool.not_true, beq_self_eq_true, Bool.false_eq_true, Nat.succ_ne_self, hin, h7, h10, dd, eq, F9]; rfl, ⟨?_, ?_, ?_, ?_, ?_, ?_, ?_⟩, ?_⟩ <;> simp only [look_set, h4, h5, h6, h7, h9, h10, h11, Nat.reduceEqDiff, if_true, if_false]

theorem row_ok (n : Nat) (a b c : Mk) (op x y z e : Int) (m : Mem) (he : run A (n + 5) 50 [insA op x y z] m = some (.int .i64 e, m)) (hx : e = 0 → op = 21 → 0 ≤ x ∧ x ≤ 15) (ha : a.ok = true) (hb : b.ok = true) (T : List (Nat × AV)) (hT : Base T) :
    ∃ T', dOpsEv (run A (n + 6)) (seg0 ++ (seg1 ++ (seg2 ++ (seg3 ++ (seg4 ++ (seg5 ++ (seg6 ++ (seg7 ++ seg8)))))))) { n := 124, t := T, l := locs a b c (a.join b) (a.doI e op x) ((a.join b).doI e op x) op x y z, m := m } =
      some ({ n := 124, t := T', l := locs a b c (a.join b) (a.doI e op x) ((a.join b).doI e op x) op x y z, m := m }, []) ∧ look T' 8 = .bool true := by
  obtain ⟨T0, d0, b0, r0⟩ := seg0_ok n a b c (a.join b) (a.doI e op x) ((a.join b).doI e op x) op x y z e m he T hT (join_ok ha hb) (decide_eq_true (join_comm ha hb).symm)
  obtain ⟨T1, d1, b1, r1⟩ := seg1_ok n a b c (a.join b) (a.doI e op x) ((a.join b).doI e op x) op x y z e m he T0 b0 r0 (within_joinL ha hb)
  obtain ⟨T2, d2, b2, r2⟩ := seg2_ok n a b c (a.join b) (a.doI e op x) ((a.join b).doI e op x) op x y z e m he T1 b1 r1 (within_joinR ha hb)
  obtain ⟨T3, d3, b3, r3⟩ := seg3_ok n a b c (a.join b) (a.doI e op x) ((a.join b).doI e op x) op x y z e m he T2 b2 r2 join_within
  obtain ⟨T4, d4, b4, r4⟩ := seg4_ok n a b c (a.join b) (a.doI e op x) ((a.join b).doI e op x) op x y z e m he T3 b3 r3 (fun p q => decide_eq_true (within_antisymm p q))
  obtain ⟨T5, d5, b5, r5⟩ := seg5_ok n a b c (a.join b) (a.doI e op x) ((a.join b).doI e op x) op x y z e m he T4 b4 r4 within_trans
  obtain ⟨T6, d6, b6, r6⟩ := seg6_ok n a b c (a.join b) (a.doI e op x) ((a.join b).doI e op x) op x y z e m he T5 b5 r5 (do_ok ha hx)
  obtain ⟨T7, d7, b7, r7⟩ := seg7_ok n a b c (a.join b) (a.doI e op x) ((a.join b).doI e op x) op x y z e m he T6 b6 r6 (do_within (within_joinL ha hb) hx)
  obtain ⟨T8, d8, b8, r8⟩ := seg8_ok n a b c (a.join b) (a.doI e op x) ((a.join b).doI e op x) op x y z e m he T7 b7 r7 (decide_eq_true do_again)
  exact ⟨T8, dOps_append _ _ _ _ _ _ _ _ d0 (dOps_append _ _ _ _ _ _ _ _ d1 (dOps_append _ _ _ _ _ _ _ _ d2 (dOps_append _ _ _ _ _ _ _ _ d3 (dOps_append _ _ _ _ _ _ _ _ d4 (dOps_append _ _ _ _ _ _ _ _ d5 (dOps_append _ _ _ _ _ _ _ _ d6 (dOps_append _ _ _ _ _ _ _ _ d7 d8))))))), r8⟩
def row : List (Bool × AOper × Bool) := seg0 ++ (seg1 ++ (seg2 ++ (seg3 ++ (seg4 ++ (seg5 ++ (seg6 ++ (seg7 ++ seg8)))))))
def b9 : AFn := { n := 124, np := 4, res := [.tmp 8], body :=
 (.seq (.reg [⟨(some 4), .box (some 4) (.tmp 0), none⟩, ⟨(some 5), .box (some 5) (.tmp 1), none⟩, ⟨(some 6), .box (some 6) (.tmp 2), none⟩, ⟨(some 7), .box (some 7) (.tmp 3), none⟩, ⟨(some 8), .mov (.val (.bool false)), none⟩])
 (.seq (.seq (.reg [⟨(some 12), .call 29 [], none⟩, ⟨(some 13), .un .not (.tmp 12), none⟩])
 (.cond (.tmp 13) (.seq (.reg [⟨(some 8), .mov (.val (.bool false)), none⟩])
 .ret) .skip))
 (.seq (.seq (.reg [⟨(some 14), .load (some 4) (.tmp 4), none⟩, ⟨(some 15), .call 30 [(.tmp 14)], none⟩, ⟨(some 16), .bin .neq (.tmp 15) (.val (.int .i64 0)), none⟩, ⟨(some 17), .mov (.tmp 16), none⟩, ⟨(some 18), .load (some 4) (.tmp 5), (some (17, false))⟩, ⟨(some 19), .call 30 [(.tmp 18)], (some (17, false))⟩, ⟨(some 20), .bin .neq (.tmp 19) (.val (.int .i64 0)), (some (17, false))⟩, ⟨(some 21), .pick (.tmp 17) (.val (.bool true)) (.tmp 20), none⟩, ⟨(some 22), .mov (.tmp 21), none⟩, ⟨(some 23), .load (some 4) (.tmp 6), (some (22, false))⟩, ⟨(some 24), .call 30 [(.tmp 23)], (some (22, false))⟩, ⟨(some 25), .bin .neq (.tmp 24) (.val (.int .i64 0)), (some (22, false))⟩, ⟨(some 26), .pick (.tmp 22) (.val (.bool true)) (.tmp 25), none⟩])
 (.cond (.tmp 26) (.seq (.reg [⟨(some 8), .mov (.val (.bool true)), none⟩])
 .ret) .skip))
 (.seq (.reg [⟨(some 27), .load (some 4) (.tmp 4), none⟩, ⟨(some 28), .load (some 4) (.tmp 5), none⟩, ⟨(some 29), .call 31 [(.tmp 27), (.tmp 28)], none⟩, ⟨(some 9), .alloc (some 9) [(.int .u32 0), (.int .u32 0), (.int .i64 0), (.int .i64 0)], none⟩, ⟨none, .store 4 (.tmp 9) (.tmp 29), none⟩])
 (.seq (.dreg [(false, ⟨(some 30), .load (some 4) (.tmp 7), none⟩, false), (false, ⟨(some 31), .load (some 4) (.tmp 4), none⟩, false), (false, ⟨(some 32), .call 27 [(.tmp 30), (.tmp 31)], none⟩, false), (false, ⟨(some 33), .load (some 4) (.tmp 7), none⟩, true), (false, ⟨(some 34), .load (some 4) (.tmp 9), none⟩, true), (false, ⟨(some 35), .call 27 [(.tmp 33), (.tmp 34)], none⟩, false), (false, ⟨(some 10), .alloc (some 10) [(.int .u32 0), (.int .u32 0), (.int .i64 0), (.int .i64 0)], none⟩, true), (false, ⟨(some 11), .alloc (some 11) [(.int .u32 0), (.int .u32 0), (.int .i64 0), (.int .i64 0)], none⟩, true), (false, ⟨none, .store 4 (.tmp 10) (.tmp 32), none⟩, false), (false, ⟨none, .store 4 (.tmp 11) (.tmp 35), none⟩, false)])
 (.seq (.dreg row)
 .ret)))))) }

theorem a9_eq : a9 = b9 := rfl

theorem order_run (n : Nat) (a b c : Mk) (op x y z : Int) (m m' : Mem) (hT : Tab m') (hl : run A (n + 6) 29 [] m = some (.bool true, m')) :
    run A (n + 7) 9 [a.av, b.av, c.av, insA op x y z] m = some (.bool true, m') := by
  rw [run_9, a9_eq]
  obtain ⟨e, he, hx⟩ := codeCheck_spec (n + 1) op x y z m' hT
  have ck := fun M : Mk => check_mk (n + 5) M m'
  have jn := fun M N : Mk => join_mk (n + 4) M N m'
  have dd := fun M : Mk => do_mk (n + 1) op x y z e M m' he
  have he0 := he
  have hrow := fun (ha : a.ok = true) (hb : b.ok = true) (T : List (Nat × AV)) (hT : Base T) => row_ok n a b c op x y z e m' he hx ha hb T hT
  unfold locs at hrow
  unfold insA at dd ⊢
  simp only [av_cells] at ck jn dd ⊢
  unfold fnEv b9
  by_cases ha : a.ok = true
  · by_cases hb : b.ok = true
    · by_cases hc : c.ok = true
      · have hrow := hrow ha hb
        simp only [codeEv, opsEv, oneEv, guardEv, opEv, St.opd, look_set, look_cons, St.put, St.new, St.read, St.write, lookL, setL, cellsAt_cons, splice, argsT, resEv, bin_ine, one_int, loc_agg, cells_agg, one_U, unEv, callWith, careEv, dOneEv, dOpsEv, accOf, accEv, Option.toList_some, List.append_nil, List.map, List.length, List.take, List.drop, List.all, List.any, List.nil_append, List.take_succ_cons, List.drop_succ_cons, Option.map_some, Nat.reduceEqDiff, Nat.reduceAdd, Nat.reduceLeDiff, Nat.reduceLT, if_true, if_false, Bool.and_true, Bool.and_false, Bool.or_false, Bool.not_true, Bool.not_false, List.isEmpty_cons, beq_self_eq_true, Bool.false_eq_true, Nat.succ_ne_self, decide_true, u_0, lg0, hl, ck, jn, dd, ha, hb, hc]
        generalize hq : dOpsEv (run A (n + 6)) row _ = q
        rw [show row = seg0 ++ (seg1 ++ (seg2 ++ (seg3 ++ (seg4 ++ (seg5 ++ (seg6 ++ (seg7 ++ seg8))))))) from rfl] at hq
        have hrow' := fun (T : List (Nat × AV)) (q : _) (h : dOpsEv _ _ { n := 124, t := T, l := _, m := _ } = q) (hB : Base T) => (hrow T hB).imp fun T' k => (⟨h.symm.trans k.1, k.2⟩ : _ ∧ _)
        obtain ⟨T', d, r⟩ := hrow' _ _ hq (by constructor <;> simp only [look_set, look_cons, Nat.reduceEqDiff, if_true, if_false] <;> rfl)
        subst d
        simp only [loc_bool, if_true, if_false, Bool.false_eq_true, lg0, r]
      · simp only [codeEv, opsEv, oneEv, guardEv, opEv, St.opd, look_set, look_cons, St.put, St.new, St.read, lookL, setL, cellsAt_cons, argsT, resEv, bin_ine, loc_bool, loc_agg, cells_agg, unEv, callWith, List.map, List.length, List.take, List.drop, List.any, List.take_succ_cons, Option.map_some, Nat.reduceEqDiff, Nat.reduceAdd, Nat.reduceLeDiff, Nat.reduceLT, if_true, if_false, Bool.or_false, Bool.not_true, Bool.not_false, beq_self_eq_true, Bool.false_eq_true, Nat.succ_ne_self, decide_true, decide_false, hl, ck, ha, hb, hc, eq20]
    · simp only [codeEv, opsEv, oneEv, guardEv, opEv, St.opd, look_set, look_cons, St.put, St.new, St.read, lookL, setL, cellsAt_cons, argsT, resEv, bin_ine, loc_bool, loc_agg, cells_agg, unEv, callWith, List.map, List.length, List.take, List.drop, List.any, List.take_succ_cons, Option.map_some, Nat.reduceEqDiff, Nat.reduceAdd, Nat.reduceLeDiff, Nat.reduceLT, if_true, if_false, Bool.or_false, Bool.not_true, Bool.not_false, beq_self_eq_true, Bool.false_eq_true, Nat.succ_ne_self, decide_true, decide_false, beq_tf, hl, ck, ha, hb, eq20]
  · simp only [codeEv, opsEv, oneEv, guardEv, opEv, St.opd, look_set, look_cons, St.put, St.new, St.read, lookL, setL, cellsAt_cons, argsT, resEv, bin_ine, loc_bool, loc_agg, cells_agg, unEv, callWith, List.map, List.length, List.take, List.drop, List.any, List.take_succ_cons, Option.map_some, Nat.reduceEqDiff, Nat.reduceAdd, Nat.reduceLeDiff, Nat.reduceLT, if_true, if_false, Bool.or_false, Bool.not_true, Bool.not_false, Bool.false_eq_true, Nat.succ_ne_self, decide_false, beq_tf, hl, ck, ha, eq20]

end AG
