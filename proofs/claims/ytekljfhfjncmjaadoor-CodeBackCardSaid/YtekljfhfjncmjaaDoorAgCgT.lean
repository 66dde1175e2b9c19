/- What the functions of instructions and their texts compute, and the laws of that. -/
import Derived.Test.YtekljfhfjncmjaaDoorAgCg2
namespace AG
open Go Go.Proofs.YtekljfhfjncmjaaDoor
set_option maxRecDepth 100000
set_option maxHeartbeats 4000000
/-! ### the texts of instructions, in plain words -/

def strAt (l : List AV) (i : Nat) : ByteArray := match l[i]? with | some (.str s) => s | _ => ⟨#[]⟩
def nameB (op : Nat) : ByteArray := strAt kinds (op * 6)
def signB (n : Nat) : ByteArray := strAt signs n
def unB (n : Nat) : ByteArray := if n = 1 then ⟨#[110, 101, 103]⟩ else if n = 2 then ⟨#[110, 111, 116]⟩ else if n = 3 then ⟨#[122, 101, 114, 111]⟩ else ⟨#[]⟩
/-- What a number adds to the text. -/
def piece (w n : Int) : List ByteArray := if w = 0 then [] else if w = 7 then [signB n.toNat] else if w = 8 then [unB n.toNat] else [itoaB n.toNat]
def parts (op a b c : Int) : List ByteArray := nameB op.toNat :: (piece (kx 1 op.toNat) a ++ (piece (kx 2 op.toNat) b ++ piece (kx 3 op.toNat) c))
def textB (op a b c : Int) : ByteArray := if codeOk op a b c = true then joinB (parts op a b c) ⟨#[32]⟩ else ⟨#[]⟩

def noSp (l : List UInt8) : Bool := l.all fun b => b != 32
def sps (l : List UInt8) : Nat := (l.filter fun b => b == 32).length

theorem digs_digit : ∀ (k u : Nat), ∀ b ∈ digs k u, 48 ≤ b.toNat ∧ b.toNat ≤ 57
  | 0, _, b, h => by simp [digs] at h
  | k + 1, u, b, h => by
    unfold digs at h
    split at h
    · rename_i hu
      simp only [List.mem_singleton] at h; subst h
      have : (UInt8.ofNat (48 + u)).toNat = 48 + u := by simp; omega
      omega
    · rw [List.mem_append] at h
      rcases h with h | h
      · exact digs_digit k _ b h
      · simp only [List.mem_singleton] at h; subst h
        have : (UInt8.ofNat (48 + u % 10)).toNat = 48 + u % 10 := by simp; omega
        omega

def valD (l : List UInt8) : Nat := l.foldl (fun acc b => acc * 10 + (b.toNat - 48)) 0
theorem valD_snoc (l : List UInt8) (b : UInt8) : valD (l ++ [b]) = valD l * 10 + (b.toNat - 48) := by simp [valD, List.foldl_append]
theorem valD_digs : ∀ (k u : Nat), u < 10 ^ k → valD (digs k u) = u
  | 0, u, h => by simp at h; subst h; rfl
  | k + 1, u, h => by
    unfold digs
    split
    · rename_i hu
      have : (UInt8.ofNat (48 + u)).toNat = 48 + u := by simp; omega
      simp [valD]; omega
    · rename_i hu
      have : (UInt8.ofNat (48 + u % 10)).toNat = 48 + u % 10 := by simp; omega
      rw [valD_snoc, valD_digs k (u / 10) (by rw [Nat.pow_succ] at h; omega), this]
      omega

theorem itoaB_inj {n m : Nat} (hn : n < 10 ^ 20) (hm : m < 10 ^ 20) (h : itoaB n = itoaB m) : n = m := by
  have h1 : digs 20 n = digs 20 m := by
    have := congrArg (fun b => b.data.toList) h
    simpa [itoaB] using this
  rw [← valD_digs 20 n hn, ← valD_digs 20 m hm, h1]

theorem itoaB_noSp (n : Nat) : noSp (itoaB n).data.toList = true := by
  unfold noSp
  rw [List.all_eq_true]
  intro b hb
  have h := digs_digit 20 n b (by simpa [itoaB] using hb)
  simp only [bne_iff_ne, ne_eq]
  intro e
  subst e
  simp at h

theorem noSp_sps {l : List UInt8} (h : noSp l = true) : sps l = 0 := by
  unfold sps
  rw [List.length_eq_zero_iff, List.filter_eq_nil_iff]
  intro b hb
  have := List.all_eq_true.1 h b hb
  simpa using this

theorem sps_append (a b : List UInt8) : sps (a ++ b) = sps a + sps b := by simp [sps]

theorem sps_tail : ∀ (r : List (List UInt8)), (∀ x ∈ r, noSp x = true) → sps (Lib.joinTail [32] r) = r.length
  | [], _ => rfl
  | x :: r, h => by
    have ih := sps_tail r (fun y hy => h y (List.mem_cons_of_mem _ hy))
    have hx := noSp_sps (h x (List.mem_cons_self ..))
    have e : Lib.joinTail [32] (x :: r) = [32] ++ (x ++ Lib.joinTail [32] r) := by simp [Lib.joinTail]
    rw [e, sps_append, sps_append, hx, ih]
    simp [sps]; omega

theorem sps_join (x : List UInt8) (r : List (List UInt8)) (h : ∀ y ∈ x :: r, noSp y = true) : sps (Lib.join (x :: r) [32]) = r.length := by
  rw [Lib.join_cons, sps_append, noSp_sps (h x (List.mem_cons_self ..)), sps_tail r (fun y hy => h y (List.mem_cons_of_mem _ hy)), Nat.zero_add]

/-- A text without blanks ahead of what is empty or begins with a blank is told. -/
theorem cut_eq : ∀ {x y T U : List UInt8}, noSp x = true → noSp y = true → (T = [] ∨ ∃ t, T = 32 :: t) → (U = [] ∨ ∃ t, U = 32 :: t) → x ++ T = y ++ U → x = y ∧ T = U
  | [], [], _, _, _, _, _, _, h => ⟨rfl, h⟩
  | [], b :: y, T, U, _, hy, hT, _, h => by
    simp only [noSp, List.all_cons, Bool.and_eq_true, bne_iff_ne, ne_eq] at hy
    rcases hT with rfl | ⟨t, rfl⟩
    · simp at h
    · simp only [List.nil_append, List.cons_append, List.cons.injEq] at h
      exact absurd h.1.symm hy.1
  | b :: x, [], T, U, hx, _, _, hU, h => by
    simp only [noSp, List.all_cons, Bool.and_eq_true, bne_iff_ne, ne_eq] at hx
    rcases hU with rfl | ⟨t, rfl⟩
    · simp at h
    · simp only [List.nil_append, List.cons_append, List.cons.injEq] at h
      exact absurd h.1 hx.1
  | a :: x, b :: y, T, U, hx, hy, hT, hU, h => by
    simp only [noSp, List.all_cons, Bool.and_eq_true] at hx hy
    simp only [List.cons_append, List.cons.injEq] at h
    obtain ⟨e1, e2⟩ := cut_eq (x := x) (y := y) hx.2 hy.2 hT hU h.2
    exact ⟨by rw [h.1, e1], e2⟩

theorem tail_form (r : List (List UInt8)) : Lib.joinTail [32] r = [] ∨ ∃ t, Lib.joinTail [32] r = 32 :: t := by
  cases r with
  | nil => exact .inl rfl
  | cons x r => exact .inr ⟨x ++ Lib.joinTail [32] r, by simp [Lib.joinTail]⟩

theorem tail_inj : ∀ {r q : List (List UInt8)}, (∀ x ∈ r, noSp x = true) → (∀ x ∈ q, noSp x = true) → Lib.joinTail [32] r = Lib.joinTail [32] q → r = q
  | [], [], _, _, _ => rfl
  | [], y :: q, _, _, h => by simp [Lib.joinTail] at h
  | x :: r, [], _, _, h => by simp [Lib.joinTail] at h
  | x :: r, y :: q, hr, hq, h => by
    have e : ∀ (x : List UInt8) (r : List (List UInt8)), Lib.joinTail [32] (x :: r) = 32 :: (x ++ Lib.joinTail [32] r) := fun x r => by simp [Lib.joinTail]
    rw [e, e] at h
    simp only [List.cons.injEq, true_and] at h
    obtain ⟨e1, e2⟩ := cut_eq (hr x (List.mem_cons_self ..)) (hq y (List.mem_cons_self ..)) (tail_form r) (tail_form q) h
    rw [e1, tail_inj (fun z hz => hr z (List.mem_cons_of_mem _ hz)) (fun z hz => hq z (List.mem_cons_of_mem _ hz)) e2]

theorem join_inj {x y : List UInt8} {r q : List (List UInt8)} (hr : ∀ z ∈ x :: r, noSp z = true) (hq : ∀ z ∈ y :: q, noSp z = true) (h : Lib.join (x :: r) [32] = Lib.join (y :: q) [32]) : x :: r = y :: q := by
  rw [Lib.join_cons, Lib.join_cons] at h
  obtain ⟨e1, e2⟩ := cut_eq (hr x (List.mem_cons_self ..)) (hq y (List.mem_cons_self ..)) (tail_form r) (tail_form q) h
  rw [e1, tail_inj (fun z hz => hr z (List.mem_cons_of_mem _ hz)) (fun z hz => hq z (List.mem_cons_of_mem _ hz)) e2]

theorem names_fact : (List.range 25).all (fun i => noSp (nameB i).data.toList && (List.range 25).all fun j => i == 0 || j == 0 || i == j || !((nameB i).data.toList == (nameB j).data.toList)) = true := by decide +kernel
theorem signs_fact : (List.range 20).all (fun i => noSp (signB i).data.toList && (List.range 20).all fun j => i == j || !((signB i).data.toList == (signB j).data.toList)) = true := by decide +kernel

theorem nameB_noSp {i : Nat} (h : i < 25) : noSp (nameB i).data.toList = true := by
  have := List.all_eq_true.1 names_fact i (List.mem_range.2 h)
  simp only [Bool.and_eq_true] at this
  exact this.1
theorem nameB_inj {i j : Nat} (hi : 1 ≤ i ∧ i < 25) (hj : 1 ≤ j ∧ j < 25) (h : nameB i = nameB j) : i = j := by
  have := List.all_eq_true.1 names_fact i (List.mem_range.2 hi.2)
  simp only [Bool.and_eq_true] at this
  have h2 := List.all_eq_true.1 this.2 j (List.mem_range.2 hj.2)
  rw [h] at h2
  simp at h2
  omega
theorem signB_noSp {i : Nat} (h : i < 20) : noSp (signB i).data.toList = true := by
  have := List.all_eq_true.1 signs_fact i (List.mem_range.2 h)
  simp only [Bool.and_eq_true] at this
  exact this.1
theorem signB_inj {i j : Nat} (hi : i < 20) (hj : j < 20) (h : signB i = signB j) : i = j := by
  have := List.all_eq_true.1 signs_fact i (List.mem_range.2 hi)
  simp only [Bool.and_eq_true] at this
  have h2 := List.all_eq_true.1 this.2 j (List.mem_range.2 hj)
  rw [h] at h2
  simpa using h2
theorem unB_noSp (i : Nat) : noSp (unB i).data.toList = true := by
  unfold unB
  repeat' split
  all_goals decide
theorem unB_inj {i j : Nat} (hi : 1 ≤ i ∧ i ≤ 3) (hj : 1 ≤ j ∧ j ≤ 3) (h : unB i = unB j) : i = j := by
  have h' := congrArg (fun b => b.data.toList) h
  have hi' : i = 1 ∨ i = 2 ∨ i = 3 := by omega
  have hj' : j = 1 ∨ j = 2 ∨ j = 3 := by omega
  rcases hi' with rfl | rfl | rfl <;> rcases hj' with rfl | rfl | rfl <;> first | rfl | (exact absurd h' (by decide))

theorem kx_range {op : Int} (h1 : 1 ≤ op) (h2 : op < 25) (j : Nat) (hj : j = 1 ∨ j = 2 ∨ j = 3) : 0 ≤ kx j op.toNat ∧ kx j op.toNat ≤ 8 := by
  have hall : (List.range 25).all (fun i => decide ((0 ≤ kx 1 i ∧ kx 1 i ≤ 8) ∧ (0 ≤ kx 2 i ∧ kx 2 i ≤ 8) ∧ (0 ≤ kx 3 i ∧ kx 3 i ≤ 8))) = true := by decide +kernel
  have := of_decide_eq_true (List.all_eq_true.1 hall op.toNat (List.mem_range.2 (by omega)))
  rcases hj with rfl | rfl | rfl
  · exact this.1
  · exact this.2.1
  · exact this.2.2

theorem fits_nonneg {w n : Int} (h : fitsI w n = true) : 0 ≤ n ∧ n ≤ 4294967295 := by
  unfold fitsI at h
  repeat' split at h
  all_goals simp at h
  all_goals omega

theorem piece_noSp {w n : Int} (h : fitsI w n = true) : ∀ x ∈ piece w n, noSp x.data.toList = true := by
  intro x hx
  unfold piece at hx
  unfold fitsI at h
  split at hx
  · simp at hx
  · split at hx
    · rename_i h0 h7
      simp only [List.mem_singleton] at hx; subst hx
      subst h7
      simp at h
      exact signB_noSp (by omega)
    · split at hx
      · simp only [List.mem_singleton] at hx; subst hx
        exact unB_noSp _
      · simp only [List.mem_singleton] at hx; subst hx
        exact itoaB_noSp _

theorem piece_len (w n : Int) : (piece w n).length = if w = 0 then 0 else 1 := by
  unfold piece
  repeat' split
  all_goals first | rfl | contradiction

theorem piece_inj {w n m : Int} (hw : 0 ≤ w ∧ w ≤ 8) (hn : fitsI w n = true) (hm : fitsI w m = true) (h : piece w n = piece w m) : n = m := by
  have n1 := fits_nonneg hn
  have m1 := fits_nonneg hm
  unfold piece at h
  by_cases h0 : w = 0
  · subst h0
    simp [fitsI] at hn hm
    omega
  · by_cases h7 : w = 7
    · subst h7
      simp only [show ¬ ((7 : Int) = 0) by decide, if_false, if_true, List.cons.injEq, and_true] at h
      simp [fitsI] at hn hm
      have := signB_inj (by omega) (by omega) h
      omega
    · by_cases h8 : w = 8
      · subst h8
        simp only [show ¬ ((8 : Int) = 0) by decide, show ¬ ((8 : Int) = 7) by decide, if_false, if_true, List.cons.injEq, and_true] at h
        simp [fitsI] at hn hm
        have := unB_inj (by omega) (by omega) h
        omega
      · simp only [h0, h7, h8, if_false, List.cons.injEq, and_true] at h
        have := itoaB_inj (by have : (10 : Nat) ^ 20 = 100000000000000000000 := by decide
                              omega) (by have : (10 : Nat) ^ 20 = 100000000000000000000 := by decide
                                         omega) h
        omega

theorem codeOk_fits {op a b c : Int} (h : codeOk op a b c = true) : (1 ≤ op ∧ op < 25) ∧ fitsI (kx 1 op.toNat) a = true ∧ fitsI (kx 2 op.toNat) b = true ∧ fitsI (kx 3 op.toNat) c = true := by
  unfold codeOk at h
  simp only [Bool.and_eq_true, decide_eq_true_eq] at h
  exact ⟨⟨h.1, h.2.1⟩, h.2.2.1, h.2.2.2.1, h.2.2.2.2⟩

theorem parts_noSp {op a b c : Int} (h : codeOk op a b c = true) : ∀ x ∈ (parts op a b c).map (·.data.toList), noSp x = true := by
  obtain ⟨h1, h2, h3, h4⟩ := codeOk_fits h
  intro x hx
  simp only [parts, List.map_cons, List.map_append, List.mem_cons, List.mem_append, List.mem_map] at hx
  rcases hx with rfl | ⟨y, hy, rfl⟩ | ⟨y, hy, rfl⟩ | ⟨y, hy, rfl⟩
  · exact nameB_noSp (by omega)
  · exact piece_noSp h2 y hy
  · exact piece_noSp h3 y hy
  · exact piece_noSp h4 y hy

/-- How many blanks. -/
theorem text_sps {op a b c : Int} (h : codeOk op a b c = true) : sps (textB op a b c).data.toList = (if kx 1 op.toNat = 0 then 0 else 1) + ((if kx 2 op.toNat = 0 then 0 else 1) + (if kx 3 op.toNat = 0 then 0 else 1)) := by
  have hp := parts_noSp h
  rw [textB, if_pos h]
  simp only [joinB, parts, List.map_cons] at hp ⊢
  rw [sps_join _ _ hp]
  simp only [List.length_map, List.length_append, piece_len]

theorem bytes_inj {l q : List ByteArray} (h : l.map (·.data.toList) = q.map (·.data.toList)) : l = q := by
  induction l generalizing q with
  | nil => cases q with
    | nil => rfl
    | cons => simp at h
  | cons x r ih => cases q with
    | nil => simp at h
    | cons y s =>
      simp only [List.map_cons, List.cons.injEq] at h
      have h1 : x.data = y.data := Array.toList_inj.1 h.1
      rw [ih h.2]
      congr 1
      cases x; cases y; simp_all

/-- **Different instructions have different texts.** -/
theorem text_inj {op a b c op' a' b' c' : Int} (h : codeOk op a b c = true) (h' : codeOk op' a' b' c' = true) (ht : (textB op a b c).data.toList = (textB op' a' b' c').data.toList) : op = op' ∧ a = a' ∧ b = b' ∧ c = c' := by
  have hp := parts_noSp h
  have hp' := parts_noSp h'
  obtain ⟨h1, h2, h3, h4⟩ := codeOk_fits h
  obtain ⟨h1', h2', h3', h4'⟩ := codeOk_fits h'
  rw [textB, if_pos h, textB, if_pos h'] at ht
  have e : (parts op a b c).map (·.data.toList) = (parts op' a' b' c').map (·.data.toList) := by
    simp only [joinB, List.toList_toArray] at ht
    simp only [parts, List.map_cons] at hp hp' ht ⊢
    exact join_inj hp hp' ht
  have e2 := bytes_inj e
  simp only [parts, List.cons.injEq] at e2
  have hop : op = op' := by
    have := nameB_inj (by omega) (by omega) e2.1
    omega
  subst hop
  have k1 := kx_range h1.1 h1.2 1 (by simp)
  have k2 := kx_range h1.1 h1.2 2 (by simp)
  have k3 := kx_range h1.1 h1.2 3 (by simp)
  obtain ⟨p1, p2⟩ := List.append_inj e2.2 (by rw [piece_len, piece_len])
  obtain ⟨p3, p4⟩ := List.append_inj p2 (by rw [piece_len, piece_len])
  exact ⟨rfl, piece_inj k1 h2 h2' p1, piece_inj k2 h3 h3' p3, piece_inj k3 h4 h4' p4⟩

end AG
