/- What the functions of sets and vectors compute, and the laws of that. -/
import Derived.Test.YtenhcejelicjfaaDoorAgLnF
namespace AG
open Go Go.Proofs.YtenhcejelicjfaaDoor
set_option maxRecDepth 100000
set_option maxHeartbeats 4000000


def tab32 : List AV := [.int .u8 0, .int .u8 1, .int .u8 28, .int .u8 2, .int .u8 29, .int .u8 14, .int .u8 24, .int .u8 3, .int .u8 30, .int .u8 22, .int .u8 20, .int .u8 15, .int .u8 25, .int .u8 17, .int .u8 4, .int .u8 8, .int .u8 31, .int .u8 27, .int .u8 13, .int .u8 23, .int .u8 21, .int .u8 19, .int .u8 16, .int .u8 7, .int .u8 26, .int .u8 12, .int .u8 18, .int .u8 6, .int .u8 11, .int .u8 5, .int .u8 10, .int .u8 9]

/-- The bits that are set, from the low one. -/
def bitsOf (x : BitVec 32) : List Nat := (List.range 32).filter fun i => x.getLsbD i

theorem bits_mem {x : BitVec 32} {k : Nat} : k ∈ bitsOf x ↔ x.getLsbD k = true := by
  unfold bitsOf
  rw [List.mem_filter, List.mem_range]
  constructor
  · exact fun h => h.2
  · intro h
    refine ⟨?_, h⟩
    rcases Nat.lt_or_ge k 32 with h1 | h1
    · exact h1
    · rw [BitVec.getLsbD_of_ge x k h1] at h; cases h
theorem bits_sorted (x : BitVec 32) : (bitsOf x).Pairwise (· < ·) := List.pairwise_lt_range.filter _
theorem bits_nil {x : BitVec 32} : bitsOf x = [] ↔ x = 0#32 := by
  constructor
  · intro h
    apply BitVec.eq_of_getLsbD_eq
    intro i hi
    cases hb : x.getLsbD i
    · simp
    · have := bits_mem.2 hb
      rw [h] at this; cases this
  · rintro rfl
    unfold bitsOf
    rw [List.filter_eq_nil_iff]
    intro a _; simp
theorem neg_bit (x : BitVec 32) (k : Nat) (h : x.getLsbD k = true) (hl : ∀ j, j < k → x.getLsbD j = false) (i : Nat) (hi : i < 32) : (-x).getLsbD i = (x.getLsbD i ^^ decide (k < i)) := by
  rw [BitVec.getLsbD_neg]
  congr 1
  simp only [hi, decide_true, Bool.true_and]
  congr 1
  rw [eq_iff_iff]
  constructor
  · rintro ⟨j, hj, hb⟩
    by_cases hjk : j < k
    · rw [hl j hjk] at hb; cases hb
    · omega
  · exact fun hk => ⟨k, hk, h⟩
theorem low_bit (x : BitVec 32) (k : Nat) (h : x.getLsbD k = true) (hl : ∀ j, j < k → x.getLsbD j = false) : x &&& -x = 1#32 <<< k := by
  have hk : k < 32 := by
    rcases Nat.lt_or_ge k 32 with h1 | h1
    · exact h1
    · rw [BitVec.getLsbD_of_ge x k h1] at h; cases h
  apply BitVec.eq_of_getLsbD_eq
  intro i hi
  rw [BitVec.getLsbD_and, neg_bit x k h hl i hi, BitVec.getLsbD_shiftLeft, BitVec.getLsbD_one]
  rcases Nat.lt_trichotomy i k with h1 | h1 | h1
  · simp [hl i h1, h1]
  · subst h1; simp [h, hi]
  · have : ¬ i < k := by omega
    have h2 : ¬ i - k = 0 := by omega
    simp [h1, h2]
theorem less_bit (x : BitVec 32) (k : Nat) (h : x.getLsbD k = true) (hl : ∀ j, j < k → x.getLsbD j = false) (i : Nat) (hi : i < 32) : (x &&& (x - 1#32)).getLsbD i = (decide (k < i) && x.getLsbD i) := by
  rw [← BitVec.not_neg, BitVec.getLsbD_and, BitVec.getLsbD_not, neg_bit x k h hl i hi]
  simp only [hi, decide_true, Bool.true_and]
  cases x.getLsbD i <;> cases decide (k < i) <;> rfl
theorem bits_cons {x : BitVec 32} {k : Nat} {r : List Nat} (h : bitsOf x = k :: r) : x.getLsbD k = true ∧ k < 32 ∧ (∀ j, j < k → x.getLsbD j = false) ∧ bitsOf (x &&& (x - 1#32)) = r := by
  have hk : x.getLsbD k = true := bits_mem.1 (by rw [h]; exact List.mem_cons_self ..)
  have hs := bits_sorted x
  rw [h, List.pairwise_cons] at hs
  have hl : ∀ j, j < k → x.getLsbD j = false := by
    intro j hj
    cases hb : x.getLsbD j
    · rfl
    · have := bits_mem.2 hb
      rw [h] at this
      rcases List.mem_cons.1 this with h1 | h1
      · omega
      · have := hs.1 j h1; omega
  refine ⟨hk, ?_, hl, ?_⟩
  · rcases Nat.lt_or_ge k 32 with h1 | h1
    · exact h1
    · rw [BitVec.getLsbD_of_ge x k h1] at hk; cases hk
  · have e : bitsOf (x &&& (x - 1#32)) = (bitsOf x).filter (fun i => decide (k < i)) := by
      unfold bitsOf
      rw [List.filter_filter]
      exact List.filter_congr fun i hi => less_bit x k hk hl i (List.mem_range.1 hi)
    rw [e, h, List.filter_cons, if_neg (by simp)]
    exact List.filter_eq_self.2 fun a ha => by simpa using hs.1 a ha

theorem bin_mul (x y : BitVec 32) : binEv .mul (U x) (U y) = some (U (x * y)) := by
  have e : IntKind.u32.wrap ((x.toNat : Int) * (y.toNat : Int)) = ((x * y).toNat : Int) := by
    rw [u32_wrap, BitVec.toNat_mul, Int.natCast_emod, Int.natCast_mul]
    rfl
  simp only [U, binEv, if_true, intBin]
  rw [e]
theorem bin_subU (x y : BitVec 32) : binEv .sub (U x) (U y) = some (U (x - y)) := by
  simp only [U, binEv, if_true, intBin]
  congr 2
  rw [u32_wrap, BitVec.toNat_sub]
  have := x.isLt; have := y.isLt
  omega
theorem un_neg (x : BitVec 32) : unEv .neg (U x) = some (U (-x)) := by
  have e : U (0#32) = .int .u32 0 := rfl
  have h := bin_subU 0#32 x
  rw [BitVec.zero_sub] at h
  rw [← h]
  rfl
theorem mulc : AV.int .u32 125613361 = U 125613361#32 := rfl
theorem c255 : AV.int .u32 255 = U 255#32 := rfl

def isU8 : Option AV → Nat → Bool
  | some (.int .u8 x), k => x == (k : Int)
  | _, _ => false
theorem isU8_eq {x : Option AV} {k : Nat} (h : isU8 x k = true) : x = some (.int .u8 (k : Int)) := by
  unfold isU8 at h
  split at h
  · simp only [beq_iff_eq] at h; rw [h]
  · cases h
theorem tz_tab' : ∀ k : Nat, k < 32 → isU8 (tab32[(((1#32 <<< k) * 125613361#32) >>> 27).toNat]?) k = true := by decide +kernel
theorem tz_tab (k : Nat) (h : k < 32) : tab32[(((1#32 <<< k) * 125613361#32) >>> 27).toNat]? = some (.int .u8 (k : Int)) := isU8_eq (tz_tab' k h)

theorem tz_mul (k : Nat) (h : k < 32) : ∃ y : BitVec 32, binEv .mul (U (1#32 <<< k)) (.int .u32 125613361) = some (U y) ∧ tab32[(y >>> 27).toNat]? = some (.int .u8 (k : Int)) :=
  ⟨(1#32 <<< k) * 125613361#32, by rw [mulc]; exact bin_mul _ _, tz_tab k h⟩
theorem tab_len {z : Nat} {v : AV} (h : tab32[z]? = some v) : z < 32 := (List.getElem?_eq_some_iff.1 h).1
theorem wrap_small (k : Nat) (h : k < 1000) : IntKind.i64.wrap (k : Int) = k := by
  simp only [IntKind.wrap, IntKind.bits]
  simp [IntKind.signed]
  omega
def a48c (C : Int) : AFn := { n := 14, np := 1, res := [.tmp 2], body :=
 (.seq (.keep [0] [] (.reg [⟨(some 2), .mov (.val (.int .i64 0)), none⟩]))
 (.seq (.seq (.keep [0] [] (.reg [⟨(some 3), .mov (.tmp 0), none⟩, ⟨(some 4), .bin .eql (.tmp 3) (.val (.int .u32 0)), none⟩]))
 (.cond (.tmp 4) (.seq (.keep [] [] (.reg [⟨(some 2), .mov (.val (.int .i64 32)), none⟩]))
 .ret) .skip))
 (.seq (.keep [0] [] (.reg [⟨(some 5), .mov (.tmp 0), none⟩, ⟨(some 6), .mov (.tmp 0), none⟩, ⟨(some 7), .un .neg (.tmp 6), none⟩, ⟨(some 8), .bin .and (.tmp 5) (.tmp 7), none⟩, ⟨(some 9), .bin .mul (.tmp 8) (.val (.int .u32 C)), none⟩, ⟨(some 10), .bin .shr (.tmp 9) (.val (.int .u64 27)), none⟩, ⟨(some 11), .iaddrA 32 1 (.val (.ptr 0 0)) (.tmp 10), none⟩, ⟨(some 12), .load none (.tmp 11), none⟩, ⟨(some 13), .conv .i64 (.tmp 12), none⟩, ⟨(some 2), .mov (.tmp 13), none⟩]))
 .ret))) }
theorem tz_gen (C : Int) (n : Nat) (x w y : BitVec 32) (k : Nat) (hk : k < 32) (hne : ¬ x = 0#32) (hl : x &&& -x = w) (hy : binEv .mul (U w) (.int .u32 C) = some (U y)) (ht : tab32[(y >>> 27).toNat]? = some (.int .u8 (k : Int))) (m : Mem) (hm : m.get 0 = some (.cells tab32 false)) :
    fnEv (run A n) (ev A n).2 (a48c C) [U x] m = some (.int .i64 (k : Int), m) := by
  have hsh := bin_shr y .u64 27 (by decide)
  have h27 : (27 : Int).toNat = 27 := rfl
  have hw := wrap_small k (by omega)
  have hlt := tab_len ht
  unfold fnEv a48c
  simp only [codeEv, opsEv, oneEv, guardEv, opEv, St.opd, look_set, look_cons, St.put, St.read, argsT, resEv, bin_and, bin_ueq, in_U, keepL, List.map, List.length, Option.map_some, Nat.reduceEqDiff, Nat.reduceAdd, Nat.reduceLT, if_true, if_false, Bool.false_eq_true, Nat.succ_ne_self, decide_false, u_0, keepT_setT, keepT_lit, hne, un_neg, hl, hy, hsh, h27]
  simp only [U]
  generalize (y >>> 27).toNat = z at *
  have c1 := cells_one ht
  have z1 : (0 : Int) ≤ z ∧ (z : Int) < (32 : Nat) := by omega
  simp only [look_set, look_cons, loc_int, Nat.reduceEqDiff, Nat.reduceLT, if_true, if_false, Bool.false_eq_true, z1, and_self, Int.toNat_natCast, hm, Nat.zero_add, Nat.mul_one, c1, hw]

theorem tz_spec (N : Nat) (hN : 1 ≤ N) (x : BitVec 32) (k : Nat) (r : List Nat) (hx : bitsOf x = k :: r) (m : Mem) (hm : m.get 0 = some (.cells tab32 false)) : run A N 48 [U x] m = some (.int .i64 (k : Int), m) := by
  obtain ⟨n, rfl⟩ : ∃ n, N = n + 1 := ⟨N - 1, by omega⟩
  rw [run_48]
  obtain ⟨h1, hk, h2, _⟩ := bits_cons hx
  have hne : ¬ x = 0#32 := fun h => by rw [h] at h1; simp at h1
  obtain ⟨y, hy, ht⟩ := tz_mul k hk
  exact tz_gen 125613361 n x _ y k hk hne (low_bit x k h1 h2) hy ht m hm

/-- A slice of rows. -/
def RS {α : Type} (f : α → List AV) (c : Nat) (m : Mem) (v : AV) (l : List α) : Prop := (v = .nils ∧ l = []) ∨ ∃ b o cap e, v = .slice b o l.length cap e ∧ ∀ (i : Nat) (x : α), l[i]? = some x → ∃ cs own, m.get b = some (.cells cs own) ∧ cellsAt cs (o + i * c) c = some (f x)
theorem RS.ext {α : Type} {f : α → List AV} {c : Nat} {m m' : Mem} {v : AV} {l : List α} (h : RS f c m v l) (k : Ext m m') : RS f c m' v l := by
  rcases h with h | ⟨b, o, cap, e, rfl, h⟩
  · exact .inl h
  · refine .inr ⟨b, o, cap, e, rfl, fun i x hx => ?_⟩
    obtain ⟨cs, own, h1, h2⟩ := h i x hx
    exact ⟨cs, own, (k.2 b (Mem.get_lt h1)).trans h1, h2⟩
theorem RS.plain {α : Type} {f : α → List AV} {c : Nat} {m : Mem} {v : AV} {l : List α} (hv : RS f c m v l) : (∀ ls, AV.locIn ls v = true) ∧ v.isLoc = false ∧ AV.one v = true ∧ v.cells? = some [v] := by
  rcases hv with ⟨rfl, _⟩ | ⟨b, o, cap, e, rfl, _⟩ <;> exact ⟨fun _ => rfl, rfl, rfl, rfl⟩
def iC (x : Int) : List AV := [.int .i64 x]
theorem iC_eq (x : Int) : iC x = [.int .i64 x] := rfl
abbrev IS := RS iC 1

/-- A slice that the run has made itself. -/
def OS (c : Nat) (n0 : Nat) (m : Mem) (v : AV) (cs : List AV) (n : Nat) : Prop := (v = .nils ∧ cs = [] ∧ n = 0) ∨ ∃ b, n0 ≤ b ∧ v = .slice b 0 n none c ∧ m.get b = some (.cells cs true) ∧ cs.length = n * c
theorem OS.rs {α : Type} {f : α → List AV} {c n0 : Nat} (hf : ∀ x, (f x).length = c) {m : Mem} {v : AV} {l : List α} (h : OS c n0 m v (l.flatMap f) l.length) : RS f c m v l := by
  rcases h with ⟨rfl, _, h⟩ | ⟨b, _, rfl, h1, h2⟩
  · exact .inl ⟨rfl, List.length_eq_zero_iff.1 h⟩
  · exact .inr ⟨b, 0, none, c, rfl, fun i x hx => ⟨_, _, h1, flat_cells f c hf hx⟩⟩
theorem OS.plain {c n0 : Nat} {m : Mem} {v : AV} {cs : List AV} {n : Nat} (hv : OS c n0 m v cs n) : (∀ ls, AV.locIn ls v = true) ∧ v.isLoc = false ∧ AV.one v = true ∧ v.cells? = some [v] := by
  rcases hv with ⟨rfl, _⟩ | ⟨b, _, rfl, _⟩ <;> exact ⟨fun _ => rfl, rfl, rfl, rfl⟩
theorem OS.push {c n0 : Nat} {m : Mem} {v : AV} {cs : List AV} {n : Nat} (hv : OS c n0 m v cs n) (b : ABlk) (hf : m.n < 2 ^ depth) : OS c n0 (m.push b) v cs n := by
  rcases hv with h | ⟨k, h0, rfl, h1, h2⟩
  · exact .inl h
  · exact .inr ⟨k, h0, rfl, (Mem.get_push_old b (not_full hf) (by have := Mem.get_lt h1; omega)).trans h1, h2⟩

theorem app_spec {c n0 bytes : Nat} (hc : 0 < c) {m : Mem} {v : AV} {cs : List AV} {n : Nat} (hv : OS c n0 m v cs n) {by' : Nat} {cp : Option Nat} {e : List AV} {ow : Bool} (hy : m.get by' = some (.cells e ow)) (he : e.length = c) (h1 : e.all AV.one = true)
    (hmn : m.n < 2 ^ depth) (hn0 : n0 ≤ m.n) (hb : (2 * (n + 1)) * bytes ≤ 281474976710656) (hn : n + 1 ≤ maxLen) :
    ∃ v' m', (∀ sn t l, appEv ⟨sn, t, l, m⟩ c bytes v (.slice by' 0 1 cp c) = some (v', ⟨sn, t, l, m'⟩)) ∧ OS c n0 m' v' (cs ++ e) (n + 1) ∧ m'.n = m.n + 1 ∧ (∀ i, i < n0 → m'.get i = m.get i) := by
  have hel : ∀ sn t l, (AV.slice by' 0 1 cp c).elems ⟨sn, t, l, m⟩ c = some (1, e) := by
    intro sn t l
    simp only [AV.elems, hy]
    have : cellsAt e 0 (1 * c) = some e := by
      unfold cellsAt
      rw [if_pos (by omega)]
      simp [← he]
    rw [this]
  have hf := not_full hmn
  rcases hv with ⟨rfl, rfl, rfl⟩ | ⟨b, h0, rfl, h2, h3⟩
  · refine ⟨.slice m.n 0 1 none c, m.push (.cells e true), fun sn t l => ?_, .inr ⟨m.n, hn0, rfl, Mem.get_push_new _, by simp [he]⟩, rfl, fun i hi => Mem.get_push_old _ hf (by omega)⟩
    simp only [appEv, hel, h1, hf, if_true, Bool.false_eq_true, if_false]
    rw [if_neg (by decide), if_pos (by constructor <;> omega)]
  · have hbl := Mem.get_lt h2
    refine ⟨.slice m.n 0 (n + 1) none c, (m.set b .dead).push (.cells (cs ++ e) true), fun sn t l => ?_, .inr ⟨m.n, hn0, rfl, ?_, by simp [he, h3, Nat.add_mul]⟩, rfl, fun i hi => ?_⟩
    · simp only [appEv, hel, h1, hf, if_true, Bool.false_eq_true, if_false, h2]
      have c1 : ¬ (0 + (n + 1) * c ≤ cs.length) := by rw [h3, Nat.add_mul]; omega
      have c2 : cellsAt cs 0 (n * c) = some cs := by
        unfold cellsAt
        rw [if_pos (by omega)]
        simp [← h3]
      rw [if_pos ⟨trivial, hc⟩, if_neg c1, c2]
      simp only
      rw [if_pos ⟨hb, hn⟩]
    · have := Mem.get_push_new (m := m.set b .dead) (.cells (cs ++ e) true)
      rw [set_n] at this
      exact this
    · rw [Mem.get_push_old _ (by rw [not_full]; rw [set_n]; exact hmn) (by rw [set_n]; omega), Mem.get_set_ne _ (by omega) hbl (by omega)]

end AG
