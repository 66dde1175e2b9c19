/- The abstract machine, part 10b: operations of values and the memory alone. -/
import Derived.Test.YtkmbepgofajfkaaDoorAgOps6
import Derived.Lib.UnsafeStr
import Derived.Lib.ConvBytes
import Derived.Lib.MakeNoZero
import Derived.Laws.BytesString
import Derived.Laws.Externs
import Derived.KernelRfl
namespace AG
noncomputable section
open Go Go.RowKit
section
variable {P : Program} {ρ ρ' : Rho} {m m' : Mem} {w w' : World}
theorem MStep.fresh (hm : MR P ρ m w) (hf : m.full = false) {b : ABlk} {x : At} (hx : x.blk = w.heap.size) (hos : w'.os = w.os) (htape : w'.tape = w.tape) (hout : w'.output = w.output) (hsz : w.heap.size ≤ w'.heap.size)
    (hold : ∀ k, k < w.heap.size → w'.heap[k]? = w.heap[k]?) (hb : BR ρ x w' b) (hd : w.drawn ≤ w'.drawn := by first | exact Nat.le_refl _ | exact Nat.le_add_right _ _ | exact Nat.le_trans (Nat.le_succ _) (Nat.le_succ _) | simp) : MStep P ρ m w (ρ ++ [x]) (m.push b) w' := by
  have hna : ¬ AliveM ρ m x.blk := fun h => by have := AliveM.lt hm h; omega
  refine ⟨hm.push hf hna (fun k hk => hold k (AliveM.lt hm hk)) hb, Rho.le_append _ _, ⟨hos, htape, hout, hsz, fun k hk _ => hold k hk, fun k hk => ?_, fun k hk => ?_, hd⟩⟩
  · rcases OwnM.push hm hf hk with h | h
    · exact .inl h
    · exact .inr (by omega)
  · rcases AliveM.push hm hf hk with h | h
    · exact .inl h
    · exact .inr (by omega)
end
section
variable {P : Program} {o : Oper} {a : Act} {w w' : World} {next : Act → World → Prop} {Q : Exit → Act → World → Prop}
variable {ρ ρ' : Rho} {lam : Nat → Nat} {s s' : St} {v : AV} {r : Value} {call : Caller}
theorem xp_inv {k : XP} {l : List Opd} (he : opEv call (.xp k l) s = some (v, s')) : (l.map s.opd).any AV.isLoc = false ∧ xpEv k (l.map s.opd) = some v ∧ s' = s := by
  simp only [opEv] at he
  split at he
  · cases he
  · rename_i hl
    simp only [Option.map_eq_some_iff, Prod.mk.injEq] at he
    obtain ⟨u, h1, rfl, rfl⟩ := he
    exact ⟨by simpa using hl, h1, rfl⟩
theorem xm_inv {k : XM} {l : List Opd} (he : opEv call (.xm k l) s = some (v, s')) : (l.map s.opd).any AV.isLoc = false ∧ ∃ m', xmEv k (l.map s.opd) s.m = some (v, m') ∧ s' = { s with m := m' } := by
  simp only [opEv, callWith] at he
  split at he
  · cases he
  · rename_i hl
    split at he
    · rename_i u m' h1
      simp only [Option.some.injEq, Prod.mk.injEq] at he
      obtain ⟨rfl, rfl⟩ := he
      exact ⟨by simpa using hl, m', h1, rfl⟩
    · cases he
theorem elemsM_eq (s : St) (x : AV) (sz : Nat) : elemsM s.m x sz = x.elems s sz := by
  cases x <;> rfl
theorem op_mkif {t : TypeId} {d : TypeDesc} {x : Operand} {x' : Opd} (ho : o.op = .makeInterface t x) (ht : P.underlying t = some d) (hd : ∀ ms, d ≠ .interface ms) (hx : opd P x = some x') (hs : SR P ρ lam s a w)
    (he : opEv call (.xp (.mkif t) [x']) s = some (v, s')) (hk : After P ρ lam s a w v s' o.dst next) : o.wp P a w next Q := by
  obtain ⟨hl, he, rfl⟩ := xp_inv he
  simp only [List.map_cons, List.map_nil, xpEv, Option.some.injEq] at he
  subst he
  have h := (hs.opd hx).vr (by simpa using hl)
  refine ok_plain hs hk (r := .iface t (a.eval x)) ?_ (by simp only [VR]; exact ⟨_, rfl, h⟩)
  simp only [execOp, ho, Instr.makeInterface, Sem.run_bind, run_underlying ht, Result.andThen_ok]
  cases d <;> first | rfl | exact absurd rfl (hd _)
theorem op_sid {src dst : TypeId} {x : Operand} {x' : Opd} (ho : o.op = .convert src dst x) (h1 : P.underlying src = some .string) (h2 : P.underlying dst = some .string) (hx : opd P x = some x') (hs : SR P ρ lam s a w)
    (he : opEv call (.xp .sid [x']) s = some (v, s')) (hk : After P ρ lam s a w v s' o.dst next) : o.wp P a w next Q := by
  obtain ⟨hl, he, rfl⟩ := xp_inv he
  simp only [List.map_cons, List.map_nil] at he
  unfold xpEv at he
  split at he <;> try (first | (cases he; done) | (exfalso; simp_all; done))
  rename_i c b _ heq
  simp only [List.cons.injEq, and_true] at heq
  cases he
  have h := hs.opd hx
  rw [heq] at h; simp only [VT, VR] at h
  exact ok_plain hs hk (r := .string b) (by simp [execOp, ho, h, convert, run_underlying h1, run_underlying h2]) (by simp [VR])
theorem op_tas {t xt : TypeId} {d : TypeDesc} {ok : Bool} {z : Value} {i : TypeInfo} {x : Operand} {x' : Opd} (ho : o.op = .typeAssert x xt t ok) (ht : P.underlying t = some d) (hd : ∀ ms, d ≠ .interface ms) (hi : P.info? t = some i) (hz : i.zero = some z) (hx : opd P x = some x') (hs : SR P ρ lam s a w)
    (he : opEv call (.xp (.tas t ok (cAV z)) [x']) s = some (v, s')) (hk : After P ρ lam s a w v s' o.dst next) : o.wp P a w next Q := by
  obtain ⟨hl, he', rfl⟩ := xp_inv he
  clear he
  have he := he'
  clear he'
  simp only [List.map_cons, List.map_nil] at he
  have h := hs.opd hx
  have hzv := cAV_ok ρ z
  generalize s'.opd x' = y at he h
  cases y <;> simp only [xpEv, reduceCtorEq] at he
  case nili =>
    simp only [VT, VR] at h
    split at he
    · rename_i hok
      cases he; subst hok
      refine ok_plain hs hk (r := .tuple #[z, .bool false]) ?_ (by simp only [VR]; exact ⟨_, rfl, by simp only [VRs]; exact ⟨_, _, rfl, hzv, _, _, rfl, by simp [VR], rfl⟩⟩)
      have hrun : (Instr.typeAssert .nilIface xt t true).run P w = .ok (.tuple #[z, .bool false]) w := by
        unfold Instr.typeAssert
        simp only [Sem.run_bind, run_underlying ht, Result.andThen_ok]
        cases d <;> first | (simp [run_zero hi hz]; done) | exact absurd rfl (hd _)
      simp [execOp, ho, h, hrun]
    · cases he
  case iface u y =>
    simp only [VT, VR] at h
    obtain ⟨rx, hr, hy⟩ := h
    split at he
    · rename_i hu
      subst hu
      simp only [Option.some.injEq] at he
      refine ok_plain hs hk (r := if ok then .tuple #[rx, .bool true] else rx) ?_ ?_
      · have hrun : (Instr.typeAssert (.iface u rx) xt u ok).run P w = .ok (if ok then .tuple #[rx, .bool true] else rx) w := by
          unfold Instr.typeAssert
          simp only [Sem.run_bind, run_underlying ht, Result.andThen_ok]
          cases d <;> first | (simp; done) | exact absurd rfl (hd _)
        simp [execOp, ho, hr, hrun]
      · subst he
        cases ok
        · simpa using hy
        · simp only [if_true, VR]; exact ⟨_, rfl, by simp only [VRs]; exact ⟨_, _, rfl, hy, _, _, rfl, by simp [VR], rfl⟩⟩
    · rename_i hu
      split at he
      · rename_i hok
        cases he; subst hok
        refine ok_plain hs hk (r := .tuple #[z, .bool false]) ?_ (by simp only [VR]; exact ⟨_, rfl, by simp only [VRs]; exact ⟨_, _, rfl, hzv, _, _, rfl, by simp [VR], rfl⟩⟩)
        have hrun : (Instr.typeAssert (.iface u rx) xt t true).run P w = .ok (.tuple #[z, .bool false]) w := by
          unfold Instr.typeAssert
          simp only [Sem.run_bind, run_underlying ht, Result.andThen_ok]
          cases d <;> first | (simp [run_zero hi hz, hu]; done) | exact absurd rfl (hd _)
        simp [execOp, ho, hr, hrun]
      · cases he
theorem op_cap {t e : TypeId} {x : Operand} {x' : Opd} (ho : o.op = .call { callee := .builtin .cap, args := #[x], argTypes := #[t] }) (ht : P.underlying t = some (.slice e)) (hx : opd P x = some x') (hs : SR P ρ lam s a w)
    (he : opEv call (.xp .cap [x']) s = some (v, s')) (hk : After P ρ lam s a w v s' o.dst next) : o.wp P a w next Q := by
  obtain ⟨hl, he, rfl⟩ := xp_inv he
  simp only [List.map_cons, List.map_nil] at he
  have h := hs.opd hx
  unfold xpEv at he
  split at he <;> try (first | (cases he; done) | (exfalso; simp_all; done))
  · rename_i heq
    simp only [List.cons.injEq, and_true] at heq
    cases he
    rw [heq] at h; simp only [VT, VR] at h
    exact ok_plain hs hk (r := .int .i64 0) (by simp [execOp, ho, h, resolve, invoke, builtin, Builtin.cap_, run_underlying ht, goInt]) (by simp [VR])
  · rename_i b off n c e' _ heq
    simp only [List.cons.injEq, and_true] at heq
    cases he
    rw [heq] at h; simp only [VT, VR] at h
    obtain ⟨y, C, hy, hr, _, _, rfl⟩ := h
    exact ok_plain hs hk (r := .int .i64 C) (by simp [execOp, ho, hr, resolve, invoke, builtin, Builtin.cap_, run_underlying ht, goInt]) (by simp [VR])
theorem op_usd {t : TypeId} {x : Operand} {x' : Opd} (ho : o.op = .call { callee := .builtin .unsafeSliceData, args := #[x], argTypes := #[t] }) (hx : opd P x = some x') (hs : SR P ρ lam s a w)
    (he : opEv call (.xp .usd [x']) s = some (v, s')) (hk : After P ρ lam s a w v s' o.dst next) : o.wp P a w next Q := by
  obtain ⟨hl, he, rfl⟩ := xp_inv he
  simp only [List.map_cons, List.map_nil] at he
  have h := hs.opd hx
  unfold xpEv at he
  split at he <;> try (first | (cases he; done) | (exfalso; simp_all; done))
  · rename_i heq
    simp only [List.cons.injEq, and_true] at heq
    cases he
    rw [heq] at h; simp only [VT, VR] at h
    exact ok_plain hs hk (r := .pointer none) (by simp [execOp, ho, h, resolve, invoke, builtin, Lib.run_unsafeSliceData_nil]) (by simp [VR])
  · rename_i b off n c e' _ heq
    simp only [List.cons.injEq, and_true] at heq
    split at he
    · cases he
    · rename_i hc
      cases he
      rw [heq] at h; simp only [VT, VR] at h
      obtain ⟨y, C, hy, hr, hn, _, hcap⟩ := h
      have hC : C ≠ 0 := by
        cases c with
        | none => simp only [capOf] at hc; omega
        | some c' => simp only [capOf] at hc hcap; omega
      exact ok_plain hs hk (r := .pointer (some ⟨y.blk, y.off + off, none⟩)) (by simp [execOp, ho, hr, resolve, invoke, builtin, Lib.run_unsafeSliceData_row _ _ _ _ _ _ hC]) (by simp only [VR]; exact ⟨y, hy, rfl⟩)
theorem bytesOf_ok : ∀ {c : List AV} {b : List UInt8} {rs : List Value}, bytesOf c = some b → VRs ρ c rs → ∃ ns : List Int, rs = ns.map (Value.int .u8) ∧ b = ns.map fun n => UInt8.ofNat n.toNat
  | [], b, rs, h, hr => by
    simp only [bytesOf, Option.some.injEq] at h; subst h
    simp only [VRs] at hr; subst hr
    exact ⟨[], rfl, rfl⟩
  | x :: l, b, rs, h, hr => by
    unfold bytesOf at h
    split at h
    · rename_i heq; cases heq
    · rename_i n l2 heq
      cases heq
      split at h
      · rename_i b2 h2
        cases h
        simp only [VRs, VR] at hr
        obtain ⟨r, rest, rfl, rfl, h4⟩ := hr
        obtain ⟨ns, rfl, rfl⟩ := bytesOf_ok h2 h4
        exact ⟨n :: ns, rfl, rfl⟩
      · cases h
    · cases h
theorem op_b2s {src dst e : TypeId} {x : Operand} {x' : Opd} (ho : o.op = .convert src dst x) (h1 : P.underlying src = some (.slice e)) (h8 : P.underlying e = some (.int .u8)) (h2 : P.underlying dst = some .string) (hx : opd P x = some x') (hs : SR P ρ lam s a w)
    (he : opEv call (.xm .b2s [x']) s = some (v, s')) (hk : After P ρ lam s a w v s' o.dst next) : o.wp P a w next Q := by
  obtain ⟨hl, m', he', rfl⟩ := xm_inv he
  clear he
  simp only [List.map_cons, List.map_nil, xmEv] at he'
  have h := hs.opd hx
  rw [elemsM_eq] at he'
  generalize s.opd x' = y at he' h
  have key : ∀ n c b, y.elems s 1 = some (n, c) → bytesOf c = some b → (y = .nils ∨ ∃ B o' n' c' e', y = .slice B o' n' c' e') → v = .str ⟨b.toArray⟩ → m' = s.m → o.wp P a w next Q := by
    intro n c b q1 q2 q3 q4 q5
    subst q4; subst q5
    obtain ⟨news, hsrc, hv⟩ := elems_ok hs h q1
    obtain ⟨ns, rfl, rfl⟩ := bytesOf_ok q2 hv
    have hcount := hsrc.count
    rcases q3 with rfl | ⟨B, o', n', c', e', rfl⟩
    · simp only [VT, VR] at h
      have hn0 : ns = [] := by
        simp only [AV.elems, Option.some.injEq, Prod.mk.injEq] at q1
        obtain ⟨rfl, rfl⟩ := q1
        simp at hcount
        exact hcount
      subst hn0
      refine ok_plain hs hk (r := .string .empty) ?_ (by simp only [VR]; rfl)
      simp [execOp, ho, h, run_convert_bytes_string w src dst e none 0 0 h1 h8 h2, Conv.bytesToString]
    · simp only [VT, VR] at h
      obtain ⟨Y, C, hY, hr, hn, _, _⟩ := h
      have hnn : n = n' := by
        have := hsrc.len w
        rw [hr] at this
        simp [Builtin.lenOf] at this
        exact this.symm
      subst hnn
      have hc := hsrc.cells w (fun _ => rfl)
      rw [hr] at hc
      simp only [Builtin.firstCells, Nat.mul_one] at hc
      have := run_bytesToString (P := P) w ⟨Y.blk, Y.off + o', none⟩ n C ns hc
      refine ok_plain hs hk (r := .string ⟨(ns.map fun n => UInt8.ofNat n.toNat).toArray⟩) ?_ (by simp [VR])
      have e1 : (ns.foldl (fun r n => r.push (UInt8.ofNat n.toNat)) ByteArray.empty) = ⟨(ns.map fun n => UInt8.ofNat n.toNat).toArray⟩ := by
        rw [foldl_push_bytes]
        apply ByteArray.ext
        simp
      rw [e1] at this
      simp [execOp, ho, hr, run_convert_bytes_string w src dst e _ _ _ h1 h8 h2, this]
  cases hy : y.elems s 1 with
  | none => rw [hy] at he'; simp at he'
  | some q =>
    obtain ⟨n, c⟩ := q
    rw [hy] at he'
    cases y <;> simp only [reduceCtorEq] at he'
    case nils =>
      split at he'
      · rename_i b hb
        simp only [Option.some.injEq, Prod.mk.injEq] at he'
        exact key n c b hy hb (.inl rfl) he'.1.symm he'.2.symm
      · cases he'
    case slice B o' n' c' e' =>
      split at he'
      · rename_i b hb
        simp only [Option.some.injEq, Prod.mk.injEq] at he'
        exact key n c b hy hb (.inr ⟨_, _, _, _, _, rfl⟩) he'.1.symm he'.2.symm
      · cases he'
theorem op_s2b {src dst e : TypeId} {x : Operand} {x' : Opd} (ho : o.op = .convert src dst x) (h1 : P.underlying src = some .string) (h2 : P.underlying dst = some (.slice e)) (h8 : P.underlying e = some (.int .u8)) (hx : opd P x = some x') (hs : SR P ρ lam s a w)
    (he : opEv call (.xm .s2b [x']) s = some (v, s')) (hk : After P ρ lam s a w v s' o.dst next) : o.wp P a w next Q := by
  obtain ⟨hl, m', he', rfl⟩ := xm_inv he
  clear he
  simp only [List.map_cons, List.map_nil] at he'
  have h := hs.opd hx
  generalize s.opd x' = y at he' h
  cases y <;> simp only [xmEv, reduceCtorEq] at he'
  case str b =>
    split at he'
    · cases he'
    · rename_i hf
      split at he'
      case isFalse => cases he'
      rename_i hmax
      simp only [Option.some.injEq, Prod.mk.injEq] at he'
      obtain ⟨rfl, rfl⟩ := he'
      simp only [VT, VR] at h
      have hrun := Lib.run_convert_string_bytes (P := P) w src dst e b h1 h2 h8
      have hsz : (Lib.bytesCells w e b).size = grownCap w b.size 0 e := by
        have := grownCap_ge w b.size 0 e
        simp only [Lib.bytesCells, Array.size_append, Array.size_map, Array.size_replicate]
        show b.size + _ = _
        omega
      have hge := grownCap_ge w b.size 0 e
      refine ok_step hs hk (r := .slice (some ⟨w.heap.size, 0, none⟩) b.size (grownCap w b.size 0 e)) (w' := Lib.bytesWorld w e b) (by simp [execOp, ho, h, hrun])
        (MStep.fresh (x := ⟨w.heap.size, 0, grownCap w b.size 0 e, 0⟩) hs.mem (by simpa using hf) rfl ?_ ?_ ?_ (by rw [Lib.bytesWorld_size]; omega) (fun k hk => Lib.bytesWorld_at_old w e b k hk)
          ⟨_, e, _, Lib.bytesWorld_at_new w e b, ?_, fun h => (by cases h), ?_⟩) ?_
      · unfold Lib.bytesWorld World.freeze; rfl
      · unfold Lib.bytesWorld World.freeze; rfl
      · unfold Lib.bytesWorld World.freeze; rfl
      · have : ((Lib.bytesCells w e b).toList.drop 0).take (bytesAV b).length = b.data.toList.map fun x => Value.int .u8 x.toNat := by
          rw [List.drop_zero]
          simp only [Lib.bytesCells, Array.toList_append, Array.toList_map]
          rw [List.take_left' (by simp [bytesAV])]
        rw [this]
        exact bytesAV_ok b
      · rw [hsz]
        simp only [bytesAV, List.length_map, Array.length_toList]
        have hb : b.data.size = b.size := rfl
        constructor
        · omega
        · intro _ h0
          omega
      · simp only [VR]
        exact ⟨⟨w.heap.size, 0, grownCap w b.size 0 e, 0⟩, grownCap w b.size 0 e, by rw [← hs.mem.len]; simp, rfl, hge, grownCap_le_maxLen w b.size 0 e hmax, .inl (by simp)⟩
theorem op_rngS {t : TypeId} {x : Operand} {x' : Opd} (ho : o.op = .range t x) (ht : P.underlying t = some .string) (hx : opd P x = some x') (hs : SR P ρ lam s a w)
    (he : opEv call (.xm .rngS [x']) s = some (v, s')) (hk : After P ρ lam s a w v s' o.dst next) : o.wp P a w next Q := by
  obtain ⟨hl, m', he', rfl⟩ := xm_inv he
  clear he
  simp only [List.map_cons, List.map_nil] at he'
  have h := hs.opd hx
  generalize s.opd x' = y at he' h
  cases y <;> simp only [xmEv, reduceCtorEq] at he'
  case str b =>
    split at he'
    · cases he'
    · rename_i hf
      simp only [Option.some.injEq, Prod.mk.injEq] at he'
      obtain ⟨rfl, rfl⟩ := he'
      simp only [VT, VR] at h
      refine ok_step hs hk (r := .pointer (some ⟨w.heap.size, 0, none⟩)) (w' := w.alloc (.stringIter b 0)) ?_ (MStep.new (n := 0) (t := 0) hs.mem (by simpa using hf) ⟨heap_alloc_new w _, rfl⟩) ?_
      · simp [execOp, ho, h, Instr.range, run_underlying ht]
      · simp only [VR]; exact ⟨⟨w.heap.size, 0, 0, 0⟩, by rw [← hs.mem.len]; simp, rfl⟩
theorem setObj_get (w : World) (r : Nat) (o : Obj) (h : r < w.heap.size) : ({ w with heap := w.heap.setIfInBounds r o } : World).heap[r]? = some o := by
  simp [h]
theorem setObj_ne (w : World) (r k : Nat) (o : Obj) (h : k ≠ r) : ({ w with heap := w.heap.setIfInBounds r o } : World).heap[k]? = w.heap[k]? := by
  simp [Ne.symm h]
theorem op_nxtS {x : Operand} {x' : Opd} (ho : o.op = .next x true) (hx : opd P x = some x') (hs : SR P ρ lam s a w)
    (he : opEv call (.xm .nxtS [x']) s = some (v, s')) (hk : After P ρ lam s a w v s' o.dst next) : o.wp P a w next Q := by
  obtain ⟨hl, m', he', rfl⟩ := xm_inv he
  clear he
  simp only [List.map_cons, List.map_nil] at he'
  have h := hs.opd hx
  generalize s.opd x' = y at he' h
  cases y <;> simp only [xmEv, reduceCtorEq] at he'
  case ptr B O =>
    split at he'
    · rename_i h0
      subst h0
      split at he'
      · rename_i b p hb
        simp only [VT, VR] at h
        obtain ⟨X, hX, hr⟩ := h
        obtain ⟨X', hX', hit, hoff⟩ := hs.mem.blk _ _ hb
        rw [hX] at hX'; cases hX'
        rw [hoff] at hr
        have hlt : X.blk < w.heap.size := (Array.getElem?_eq_some_iff.1 hit).1
        split at he'
        · rename_i hp
          simp only [Option.some.injEq, Prod.mk.injEq] at he'
          obtain ⟨rfl, rfl⟩ := he'
          refine ok_step hs hk (r := .tuple #[.bool true, .int .i64 p, .int .i32 (Utf8.decode b p).1]) (w' := { w with heap := w.heap.setIfInBounds X.blk (.stringIter b (p + (Utf8.decode b p).2)) }) ?_
            (MStep.set hs.mem hb rfl hX rfl rfl rfl (by simp) (fun k hk => setObj_ne w _ _ _ hk) ⟨setObj_get w _ _ hlt, hoff⟩) ?_
          · simp [execOp, ho, hr, Instr.next, getObj, setObj, Sem.run, hit, hp, goInt]
          · simp only [VR]
            exact ⟨_, rfl, by simp [VRs, VR]⟩
        · rename_i hp
          simp only [Option.some.injEq, Prod.mk.injEq] at he'
          obtain ⟨rfl, rfl⟩ := he'
          refine ok_plain hs hk (r := .tuple #[.bool false]) ?_ (by simp only [VR]; exact ⟨_, rfl, by simp [VRs, VR]⟩)
          simp [execOp, ho, hr, Instr.next, getObj, setObj, Sem.run, hit, hp]
      · cases he'
    · cases he'
theorem op_allocT {t : TypeId} {z : List AV} (ho : o.op = .alloc t) (hz : zeroOf P t = some z) (hs : SR P ρ lam s a w)
    (he : opEv call (.xm (.allocT t z) []) s = some (v, s')) (hk : After P ρ lam s a w v s' o.dst next) : o.wp P a w next Q := by
  obtain ⟨i, zv, hi, hzv, rfl⟩ := zeroOf_ok hz
  obtain ⟨hl, m', he', rfl⟩ := xm_inv he
  clear he
  simp only [List.map_nil, xmEv] at he'
  split at he'
  · cases he'
  · rename_i hf
    simp only [Option.some.injEq, Prod.mk.injEq] at he'
    obtain ⟨rfl, rfl⟩ := he'
    have hc := cAVs_ok ρ zv.cells.toList
    have hlen := hc.length
    have hbr : BR ρ ⟨w.heap.size, 0, zv.cells.size, t⟩ (w.alloc (.cells zv.cells t)) (.cells (cAV.go zv.cells.toList) true) := by
      refine ⟨zv.cells, t, (0, 0), heap_alloc_new w _, ?_, fun _ => ⟨rfl, rfl, rfl⟩, by simp at hlen; dsimp only; omega⟩
      rw [List.drop_zero, List.take_of_length_le (by omega)]; exact hc
    refine ok_step hs hk (r := .pointer (some ⟨w.heap.size, 0, none⟩)) (w' := w.alloc (.cells zv.cells t)) (by simp [execOp, ho, Instr.alloc, run_zero hi hzv, newVar, newRow])
      ((MStep.new hs.mem (by simpa using hf) hbr).note (x := ⟨w.heap.size, 0, zv.cells.size, t⟩) (by rw [← hs.mem.len]; simp) rfl (fun _ => rfl)) ?_
    simp only [VR]
    exact ⟨⟨w.heap.size, 0, zv.cells.size, t⟩, by rw [← hs.mem.len]; simp, rfl⟩
theorem run_loadBytesN (w : World) : ∀ (l : List Int) (a : Addr) (acc : ByteArray), (∀ (j : Nat) x, l[j]? = some x → w.cell? (a.add j) = some (.int .u8 x)) →
    (loadBytes a acc l.length).run P w = .ok ⟨acc.data ++ (l.map fun n => UInt8.ofNat n.toNat).toArray⟩ w
  | [], a, acc, _ => by simp [loadBytes]
  | x :: l, a, acc, h => by
    have h0 : w.cell? a = some (.int .u8 x) := by
      have := h 0 x rfl
      simpa [Addr.add] using this
    have ih := run_loadBytesN w l (a.add 1) (acc.push (UInt8.ofNat x.toNat)) (fun j y hy => by
      have := h (j + 1) y (by simpa using hy)
      have e : (a.add 1).add j = a.add (j + 1) := by
        unfold Addr.add
        by_cases hj : j = 0
        · subst hj; simp
        · simp [hj]; omega
      rw [e]; exact this)
    have hx : (x.toNat).toUInt8 = UInt8.ofNat x.toNat := rfl
    simp only [List.length_cons, loadBytes, Sem.run_bind, run_load, h0, Result.andThen, hx]
    rw [ih]
    congr 1
    apply ByteArray.ext
    simp [ByteArray.push]
theorem liesAt_row {e : TypeId} (hc : P.cellsOf e = 1) (count off n : Nat) (hn : off + n ≤ count) : liesAt P P.depth e count off e n = true := by
  have hd : P.depth = (2 * (P.types.size + Made.depth) + 1) + 1 := rfl
  rw [hd]
  simp only [liesAt, Bool.or_eq_true]
  left
  rw [hd]
  simp [rowAt, hc, hn, sameLayout, Nat.mod_one]
theorem run_unsafeString_at (w : World) (pt it ty e : TypeId) (hp : P.underlying pt = some (.pointer e)) (hc : P.cellsOf e = 1) (g off cells : Nat) (hsh : w.shape? g = some (e, cells)) (l : List Int) (h0 : l ≠ []) (hn : off + l.length ≤ cells) (h63 : l.length ≤ 9223372036854775807)
    (hcell : ∀ (j : Nat) x, l[j]? = some x → w.cell? ((⟨g, off, none⟩ : Addr).add j) = some (.int .u8 x)) :
    (Builtin.unsafeString_ #[pt, it] ty #[.pointer (some ⟨g, off, none⟩), .int .i64 l.length]).run P w = .ok (.string ⟨(l.map fun n => UInt8.ofNat n.toNat).toArray⟩) (w.freeze ⟨g, off, none⟩ l.length) := by
  have hl : l.length ≠ 0 := by simpa using h0
  have hlb := run_loadBytesN (P := P) w l ⟨g, off, none⟩ .empty hcell
  have hlies := liesAt_row (P := P) hc (cells / P.cellsOf e) off l.length (by rw [hc]; simpa using hn)
  have h63' : ¬ (9223372036854775807 : Int) < (l.length : Int) := by omega
  have hdef : Builtin.unsafeString_ #[pt, it] ty #[.pointer (some ⟨g, off, none⟩), .int .i64 l.length] =
      (do
        let n ← asInt (.int .i64 l.length)
        if n < 0 then runtimePanic (.error "unsafe.String: len out of range")
        if n > IntKind.i64.max then unsupported (.unsafePointer "String: a length above the largest int")
        if n = 0 then pure (.string .empty)
        else if ← variablesAt ⟨g, off, none⟩ (← elemOf pt) n.toNat then do
          let s ← loadBytes ⟨g, off, none⟩ .empty n.toNat
          freeze ⟨g, off, none⟩ n.toNat
          pure (.string s)
        else unsupported (.unsafePointer "String: not so many bytes at ptr")) := rfl
  rw [hdef]
  have hmax : IntKind.i64.max = 9223372036854775807 := rfl
  have hneg : ¬ (l.length : Int) < 0 := by omega
  simp [asInt, asIntOf, hmax, h63', hneg, hl, variablesAt, hsh, elemOf, run_underlying hp, hlies, hlb]
theorem op_ustr {t t' u : TypeId} {x y : Operand} {x' y' : Opd} (ho : o.op = .call { callee := .builtin .unsafeString, args := #[x, y], argTypes := #[t, t'] }) (ht : P.underlying t = some (.pointer u)) (h1 : P.cellsOf u = 1) (hx : opd P x = some x') (hy : opd P y = some y') (hs : SR P ρ lam s a w)
    (he : opEv call (.xm (.ustr u) [x', y']) s = some (v, s')) (hk : After P ρ lam s a w v s' o.dst next) : o.wp P a w next Q := by
  obtain ⟨hl, m', he', rfl⟩ := xm_inv he
  clear he
  simp only [List.map_cons, List.map_nil] at he'
  have h := hs.opd hx
  have g := hs.opd hy
  generalize s.opd x' = X at he' h
  generalize s.opd y' = Y at he' g
  have run : ∀ V U r w', a.eval x = V → a.eval y = U → (Builtin.unsafeString_ #[t, t'] o.type #[V, U]).run P w = .ok r w' → (execOp a.eval o).run P w = .ok (.value r) w' := by
    intro V U r w' e1 e2 e3
    simp [execOp, ho, resolve, invoke, builtin, e1, e2, e3]
  cases X <;> simp only [xmEv, reduceCtorEq] at he'
  case nilp =>
    cases Y <;> simp only [reduceCtorEq] at he'
    case int k n =>
      split at he'
      · rename_i hn
        subst hn
        simp only [Option.some.injEq, Prod.mk.injEq] at he'
        obtain ⟨rfl, rfl⟩ := he'
        simp only [VT, VR] at h g
        refine ok_plain hs hk (r := .string .empty) (run _ _ _ _ h g ?_) (by simp [VR])
        have hmax : IntKind.i64.max = 9223372036854775807 := rfl
        have hdef : Builtin.unsafeString_ #[t, t'] o.type #[.pointer none, .int k 0] =
          (do
            let n ← asInt (.int k 0)
            if n < 0 then runtimePanic (.error "unsafe.String: len out of range")
            if n > IntKind.i64.max then unsupported (.unsafePointer "String: a length above the largest int")
            if n = 0 then pure (.string .empty)
            else runtimePanic (.error "unsafe.String: ptr is nil and len is not zero")) := rfl
        rw [hdef]
        simp [asInt, asIntOf, hmax]
      · cases he'
  case ptr B O =>
    cases Y <;> try simp only [reduceCtorEq] at he'
    case int k n =>
      cases k <;> try simp only [reduceCtorEq] at he'
      case i64 =>
        split at he'
        case isFalse => cases he'
        rename_i hb0
        simp only [VT, VR] at h g
        obtain ⟨Z, hZ, hr⟩ := h
        split at he'
        · rename_i hn
          subst hn
          simp only [Option.some.injEq, Prod.mk.injEq] at he'
          obtain ⟨rfl, rfl⟩ := he'
          exact ok_plain hs hk (r := .string .empty) (run _ _ _ _ hr g (Lib.run_unsafeString_none w t t' o.type _)) (by simp [VR])
        · rename_i hn
          split at he'
          · rename_i c hb
            split at he'
            case isFalse => cases he'
            rename_i hty
            split at he'
            · rename_i l hcell
              split at he'
              · rename_i bs hbs
                simp only [Option.some.injEq, Prod.mk.injEq] at he'
                obtain ⟨rfl, rfl⟩ := he'
                obtain ⟨Z', hZ', rc, te, fz, g1, g2, g3, g4⟩ := hs.mem.blk _ _ hb
                rw [hZ] at hZ'; cases hZ'
                obtain ⟨rfl, g5, g6⟩ := g3 rfl
                obtain ⟨⟨u', z⟩, hq, hu'⟩ := Option.map_eq_some_iff.1 hty
                simp only at hu'; subst hu'
                obtain ⟨Z', hZ', hZt, _⟩ := hs.mem.tys _ _ _ hq
                rw [hZ] at hZ'; cases hZ'
                have hte : te = u' := by rw [← g6, hZt]
                subst hte
                have hread : s.read (.ptr B O) n.toNat = some l := by simp [St.read, hb, hcell]
                obtain ⟨b', off', vs, hr', k1, k2, k3⟩ := read_ok (r := .pointer (some ⟨Z.blk, Z.off + O, none⟩)) hs (by simp only [VT, VR]; exact ⟨Z, hZ, rfl⟩) hread
                cases hr'
                obtain ⟨ns, rfl, rfl⟩ := bytesOf_ok hbs k1
                have hlen : ns.length = n.toNat := by simpa using k2
                have hnn : (n : Int) = (ns.length : Int) := by omega
                have hol : O + n.toNat ≤ c.length := by
                  unfold cellsAt at hcell
                  split at hcell
                  · assumption
                  · cases hcell
                have hne : ns ≠ [] := by intro e; subst e; simp at hlen; omega
                have hrun := run_unsafeString_at (P := P) w t t' o.type te ht h1 Z.blk (Z.off + O) rc.size (by simp [World.shape?, g1]) ns hne (by omega) (by omega)
                  (fun j x hj => by rw [Addr.add_lit]; exact k3 j _ (by simp [hj]))
                rw [← hnn] at hrun
                have hheap : ∀ k, k ≠ Z.blk → (w.freeze ⟨Z.blk, Z.off + O, none⟩ ns.length).heap[k]? = w.heap[k]? := by
                  intro k hk'
                  unfold World.freeze
                  split
                  · rfl
                  · simp [Array.getElem?_modify, Ne.symm hk']
                refine ok_step hs hk (run _ _ _ _ hr g hrun) (MStep.set hs.mem hb rfl hZ ?_ ?_ ?_ ?_ hheap (b' := .cells c false) ⟨rc, te, _, by
                    unfold World.freeze
                    rw [if_neg (by simpa using hne)]
                    simp [Array.getElem?_modify, g1]
                    rfl, g2, (fun e => by cases e), g4.1, fun _ h0 => by omega⟩ (by unfold World.freeze; split <;> exact Nat.le_refl _)) (by simp [VR])
                · unfold World.freeze; split <;> rfl
                · unfold World.freeze; split <;> rfl
                · unfold World.freeze; split <;> rfl
                · unfold World.freeze; split <;> simp
              · cases he'
            · cases he'
          · cases he'
theorem rowAt_more {fits : TypeId → Bool} {e : TypeId} {n : Nat} (h : rowAt P fits n e 1 0 1 = true) (hc : P.cellsOf e ≠ 0) {count : Nat} (hk : 1 ≤ count) : rowAt P fits n e count 0 1 = true := by
  cases n with
  | zero => simp [rowAt] at h
  | succ n =>
    simp only [rowAt, hc, if_false, Nat.zero_div, Nat.zero_mod] at h ⊢
    have e1 : (0 < 1) = True := by simp
    have e2 : (0 < count) = True := by simp; omega
    have e3 : decide (0 + 1 ≤ count) = true := by simp; omega
    simp only [e2, e3] 
    simpa using h
theorem op_upU {src dst t : TypeId} {k : Nat} {x : Operand} {x' : Opd} (ho : o.op = .convert src dst x) (h1 : P.underlying src = some (.pointer t)) (h2 : P.underlying dst = some .unsafePointer) (hz : szOf P t = some k) (hk0 : ¬ k = 0) (hx : opd P x = some x') (hs : SR P ρ lam s a w)
    (he : opEv call (.xm .upU [x']) s = some (v, s')) (hk : After P ρ lam s a w v s' o.dst next) : o.wp P a w next Q := by
  obtain ⟨i, hi, rfl⟩ := szOf_ok hz
  obtain ⟨hl, m', he', rfl⟩ := xm_inv he
  clear he
  simp only [List.map_cons, List.map_nil] at he'
  have h := hs.opd hx
  generalize s.opd x' = X at he' h
  cases X <;> simp only [xmEv, reduceCtorEq] at he'
  case nilp =>
    simp only [Option.some.injEq, Prod.mk.injEq] at he'
    obtain ⟨rfl, rfl⟩ := he'
    simp only [VT, VR] at h
    exact ok_plain hs hk (r := .pointer none) (by simp [execOp, ho, h, convert, run_underlying h1, run_underlying h2, Conv.unsafePointer]) (by simp [VR])
  case ptr B O =>
    split at he'
    · rename_i c own hb
      split at he'
      · rename_i hO
        simp only [Option.some.injEq, Prod.mk.injEq] at he'
        obtain ⟨rfl, rfl⟩ := he'
        simp only [VT, VR] at h
        obtain ⟨Z, hZ, hr⟩ := h
        obtain ⟨Z', hZ', rc, te, fz, g1, g2, g3, g4⟩ := hs.mem.blk _ _ hb
        rw [hZ] at hZ'; cases hZ'
        have hsh : w.shape? Z.blk = some (te, rc.size) := by simp [World.shape?, g1]
        have hlt : ¬ rc.size ≤ Z.off + O := by omega
        refine ok_plain hs hk (r := .pointer (some ⟨Z.blk, Z.off + O, none⟩)) ?_ (by simp only [VR]; exact ⟨Z, hZ, rfl⟩)
        simp [execOp, ho, hr, convert, run_underlying h1, run_underlying h2, Conv.unsafePointer, Conv.seenAt, viewAt, cellsIn, hsh, run_sizeOf hi, hk0, hlt]
      · cases he'
    · cases he'
theorem op_upF {src dst u : TypeId} {k : Nat} {x : Operand} {x' : Opd} (ho : o.op = .convert src dst x) (h1 : P.underlying src = some .unsafePointer) (h2 : P.underlying dst = some (.pointer u)) (hz : szOf P u = some k) (hk0 : ¬ k = 0) (hx : opd P x = some x') (hs : SR P ρ lam s a w)
    (he : opEv call (.xm (.upF (upTbl P u)) [x']) s = some (v, s')) (hk : After P ρ lam s a w v s' o.dst next) : o.wp P a w next Q := by
  obtain ⟨i, hi, rfl⟩ := szOf_ok hz
  obtain ⟨hl, m', he', rfl⟩ := xm_inv he
  clear he
  simp only [List.map_cons, List.map_nil] at he'
  have h := hs.opd hx
  generalize s.opd x' = X at he' h
  cases X <;> simp only [xmEv, reduceCtorEq] at he'
  case nilp =>
    simp only [Option.some.injEq, Prod.mk.injEq] at he'
    obtain ⟨rfl, rfl⟩ := he'
    simp only [VT, VR] at h
    exact ok_plain hs hk (r := .pointer none) (by simp [execOp, ho, h, convert, run_underlying h1, run_underlying h2, Conv.unsafePointer]) (by simp [VR])
  case ptr B O =>
    split at he'
    · rename_i c e hb hty
      split at he'
      · rename_i hO
        simp only [Option.some.injEq, Prod.mk.injEq] at he'
        obtain ⟨rfl, rfl⟩ := he'
        obtain ⟨rfl, hany⟩ := hO
        obtain ⟨⟨e', sz⟩, hmem, hp⟩ := List.any_eq_true.1 hany
        simp only [Bool.and_eq_true, beq_iff_eq, decide_eq_true_eq] at hp
        obtain ⟨rfl, hsz⟩ := hp
        unfold upTbl at hmem
        obtain ⟨e2, hmem2, heq⟩ := List.mem_map.1 hmem
        simp only [Prod.mk.injEq] at heq
        obtain ⟨rfl, rfl⟩ := heq
        obtain ⟨_, hrow⟩ := List.mem_filter.1 hmem2
        simp only [Bool.and_eq_true, bne_iff_ne, ne_eq] at hrow
        simp only [VT, VR] at h
        obtain ⟨Z, hZ, hr⟩ := h
        obtain ⟨Z', hZ', rc, te, fz, g1, g2, g3, g4⟩ := hs.mem.blk _ _ hb
        rw [hZ] at hZ'; cases hZ'
        obtain ⟨rfl, g5, g6⟩ := g3 rfl
        obtain ⟨Z', hZ', hZt, hZ0⟩ := hs.mem.tys _ _ _ hty
        rw [hZ] at hZ'; cases hZ'
        have hte : te = e2 := by rw [← g6, hZt]
        subst hte
        have hoff := hZ0 rfl
        rw [hoff, Nat.add_zero] at hr
        have hsh : w.shape? Z.blk = some (te, rc.size) := by simp [World.shape?, g1]
        have hcount : 1 ≤ rc.size / P.cellsOf te := by
          rw [Nat.le_div_iff_mul_le (Nat.pos_of_ne_zero hrow.2)]
          omega
        have hlies : liesAt P P.depth te (rc.size / P.cellsOf te) 0 u 1 = true := by
          have hd : P.depth = (2 * (P.types.size + Made.depth) + 1) + 1 := rfl
          rw [hd]
          simp only [liesAt, Bool.or_eq_true]
          left
          exact rowAt_more hrow.1 hrow.2 hcount
        refine ok_plain hs hk (r := .pointer (some ⟨Z.blk, 0, none⟩)) ?_ (by simp only [VR]; exact ⟨Z, hZ, by rw [hoff]⟩)
        simp [execOp, ho, hr, convert, run_underlying h1, run_underlying h2, Conv.unsafePointer, Conv.seenAt, viewAt, variablesAt, hsh, run_sizeOf hi, hk0, hlies]
      · cases he'
    · cases he'
theorem find_noescape {fn : Func} (h : fn.name = "internal/abi.NoEscape") : Extern.find fn = some Extern.AbiNoEscape.same := by
  unfold Extern.find
  rw [h]
  have h1 : Extern.allGenericRows.lookup "internal/abi.NoEscape" = none := by kernel_rfl
  have h2 : Extern.allTypedRows.lookup "internal/abi.NoEscape" = none := by kernel_rfl
  have h3 : Extern.allRows.lookup "internal/abi.NoEscape" = some Extern.AbiNoEscape.same := by kernel_rfl
  simp only [h1, h2, h3]; rfl
theorem next_noescape {fn : Func} (h : fn.name = "internal/abi.NoEscape") (ho : fn.origin = fn.name ∨ fn.origin = "") : Extern.findNext fn = none := by
  have h1 : Extern.allNextRows.lookup "internal/abi.NoEscape" = none := by kernel_rfl
  have h2 : Extern.allNextRows.lookup "" = none := by kernel_rfl
  unfold Extern.findNext
  rcases ho with ho | ho <;> rw [ho, h]
  · simp only [h1]; rfl
  · simp only [h1, h2]; rfl
theorem find_mkz {fn : Func} (h : fn.name = "internal/bytealg.MakeNoZero") : Extern.find fn = some (Extern.BytealgMakeNoZero.makeNoZero fn.params fn.resultTypes) := by
  unfold Extern.find
  rw [h]
  have h1 : Extern.allGenericRows.lookup "internal/bytealg.MakeNoZero" = none := by kernel_rfl
  have h2 : Extern.allTypedRows.lookup "internal/bytealg.MakeNoZero" = some Extern.BytealgMakeNoZero.makeNoZero := by kernel_rfl
  simp only [h1, h2]; rfl
theorem next_mkz {fn : Func} (h : fn.name = "internal/bytealg.MakeNoZero") (ho : fn.origin = fn.name ∨ fn.origin = "") : Extern.findNext fn = none := by
  have h1 : Extern.allNextRows.lookup "internal/bytealg.MakeNoZero" = none := by kernel_rfl
  have h2 : Extern.allNextRows.lookup "" = none := by kernel_rfl
  unfold Extern.findNext
  rcases ho with ho | ho <;> rw [ho, h]
  · simp only [h1]; rfl
  · simp only [h1, h2]; rfl
theorem op_noescape {f : FuncId} {fn : Func} {args : Array Operand} {ts : Array TypeId} {x' : Opd} (ho : o.op = .call { callee := .value (.func f), args, argTypes := ts }) (hf : P.funcs[f]? = some fn) (hb : fn.body = none) (hor : fn.origin = fn.name ∨ fn.origin = "") (hname : fn.name = "internal/abi.NoEscape")
    (hl : opds P args.toList = some [x']) (hs : SR P ρ lam s a w) (he : opEv call (.mov x') s = some (v, s')) (hk : After P ρ lam s a w v s' o.dst next) : o.wp P a w next Q := by
  simp only [opEv, Option.some.injEq, Prod.mk.injEq] at he
  obtain ⟨rfl, rfl⟩ := he
  have hlist : ∃ x, args = #[x] ∧ opd P x = some x' := by
    obtain ⟨l⟩ := args
    cases l with
    | nil => simp [opds] at hl
    | cons x r =>
      simp only [opds] at hl
      split at hl
      · rename_i y r' h1 h2
        simp only [Option.some.injEq, List.cons.injEq] at hl
        obtain ⟨rfl, rfl⟩ := hl
        cases r with
        | nil => exact ⟨x, rfl, h1⟩
        | cons z r2 =>
          simp only [opds] at h2
          split at h2 <;> simp at h2
      · cases hl
  obtain ⟨x, rfl, hx⟩ := hlist
  refine ok_pure hs hk (r := a.eval x) ?_ (hs.opd hx) (hs.opd_live hx)
  have h1 := run_callFunc_extern (P := P) hf (by rw [hname]; decide) (by rw [hb]; rfl) (next_noescape hname hor) (find_noescape hname) #[a.eval x] w
  have hev : a.eval (.func f) = .func (.func f) #[] #[] := rfl
  simp [execOp, ho, resolve, Deferred.ofValue, hev, invoke, h1, show Extern.AbiNoEscape.same #[a.eval x] = pure (a.eval x) from rfl]
theorem op_mkz {f : FuncId} {fn : Func} {args : Array Operand} {ts : Array TypeId} {t e : TypeId} {x' : Opd} (ho : o.op = .call { callee := .value (.func f), args, argTypes := ts }) (hf : P.funcs[f]? = some fn) (hb : fn.body = none) (hor : fn.origin = fn.name ∨ fn.origin = "") (hname : fn.name = "internal/bytealg.MakeNoZero")
    (hres : fn.resultTypes.toList = [t]) (ht : P.underlying t = some (.slice e)) (hl : opds P args.toList = some [x']) (hs : SR P ρ lam s a w) (he : opEv call (.xm (.mkz (some e)) [x']) s = some (v, s')) (hk : After P ρ lam s a w v s' o.dst next) : o.wp P a w next Q := by
  obtain ⟨hloc, m', he', rfl⟩ := xm_inv he
  clear he
  have hlist : ∃ x, args = #[x] ∧ opd P x = some x' := by
    obtain ⟨l⟩ := args
    cases l with
    | nil => simp [opds] at hl
    | cons x r =>
      simp only [opds] at hl
      split at hl
      · rename_i y r' h1 h2
        simp only [Option.some.injEq, List.cons.injEq] at hl
        obtain ⟨rfl, rfl⟩ := hl
        cases r with
        | nil => exact ⟨x, rfl, h1⟩
        | cons z r2 =>
          simp only [opds] at h2
          split at h2 <;> simp at h2
      · cases hl
  obtain ⟨x, rfl, hx⟩ := hlist
  have hres' : fn.resultTypes = #[t] := by
    apply Array.ext'
    simpa using hres
  simp only [List.map_cons, List.map_nil] at he'
  have h := hs.opd hx
  generalize s.opd x' = X at he' h
  cases X <;> try simp only [xmEv, reduceCtorEq] at he'
  case int k n =>
    cases k <;> try simp only [reduceCtorEq] at he'
    case i64 =>
      split at he'
      case isFalse => cases he'
      rename_i hb0
      split at he'
      · cases he'
      rename_i hfull
      simp only [Option.some.injEq, Prod.mk.injEq] at he'
      obtain ⟨rfl, rfl⟩ := he'
      simp only [VT, VR] at h
      obtain ⟨N, rfl⟩ := Int.eq_ofNat_of_zero_le hb0.1
      obtain ⟨cs, q1, q2, q3⟩ := Lib.run_makeNoZero (P := P) w fn.params t e ht N (by omega)
      have h1 := run_callFunc_extern (P := P) hf (by rw [hname]; decide) (by rw [hb]; rfl) (next_mkz hname hor) (find_mkz hname) #[.int .i64 (N : Int)] w
      rw [hres'] at h1
      have hbr : BR ρ ⟨w.heap.size, 0, cs.size, e⟩ (w.drew.drew.alloc (.cells cs e)) (.cells (List.replicate N .unk) true) := by
        refine ⟨cs, e, (0, 0), heap_alloc_new w.drew.drew _, ?_, fun _ => ⟨rfl, rfl, rfl⟩, by simp; omega⟩
        refine VRs.of_get (by simp; omega) (fun i v r hv _ => ?_)
        rw [List.getElem?_replicate] at hv
        split at hv
        · cases hv; simp [VR]
        · cases hv
      simp only [Int.toNat_natCast] at hk ⊢
      have hst : MStep P ρ s.m w (ρ ++ [⟨w.heap.size, 0, cs.size, e⟩]) (s.m.push (.cells (List.replicate N .unk) true)) (w.drew.drew.alloc (.cells cs e)) :=
        MStep.fresh hs.mem (by simpa using hfull) rfl rfl rfl rfl (by show w.heap.size ≤ (w.heap.push _).size; simp) (fun k hk' => Below.heap_alloc w.drew.drew _ k hk') hbr
      have hev : a.eval (.func f) = .func (.func f) #[] #[] := rfl
      refine ok_step hs hk (r := .slice (some ⟨w.heap.size, 0, none⟩) N cs.size) (w' := w.drew.drew.alloc (.cells cs e)) ?_
        (hst.noteO (i := s.m.n) (o := some e) (fun u hu => ⟨⟨w.heap.size, 0, cs.size, e⟩, by rw [← hs.mem.len]; simp, by simpa using hu⟩)) ?_
      · simp [execOp, ho, resolve, Deferred.ofValue, hev, invoke, h, h1, q1]
      · simp only [VR]
        exact ⟨⟨w.heap.size, 0, cs.size, e⟩, cs.size, by rw [← hs.mem.len]; simp, rfl, q2, q3 (by unfold maxLen; omega), .inl (by simp)⟩
theorem lenV_ok {y : AV} {ry : Value} {n : Nat} (hn : lenV y = some n) (h : VT lam ρ y ry) : (∀ w : World, (Builtin.lenOf ry).run P w = .ok n w) ∧ ∀ (sz : Nat) (w : World), (Builtin.firstCells sz 0 ry).run P w = .ok #[] w := by
  cases y <;> simp only [lenV, reduceCtorEq, Option.some.injEq] at hn
  case nils =>
    subst hn
    simp only [VT, VR] at h; subst h
    exact ⟨fun w => rfl, fun sz w => by simp [Builtin.firstCells]⟩
  case slice B O N c e =>
    subst hn
    simp only [VT, VR] at h
    obtain ⟨Y, C, hY, rfl, _⟩ := h
    refine ⟨fun w => rfl, fun sz w => ?_⟩
    have := run_firstCells_some (P := P) w sz 0 ⟨Y.blk, Y.off + O, none⟩ N C [] (by simp) (fun j u hj => by simp at hj)
    exact this
  case str b =>
    subst hn
    simp only [VT, VR] at h; subst h
    exact ⟨fun w => rfl, fun sz w => by simp [Builtin.firstCells]⟩
theorem truncV_ok {y : AV} {ry : Value} {n k : Nat} (hn : lenV y = some n) (hk : k ≤ n) (hk0 : k ≠ 0) (h : VT lam ρ y ry) : ∃ ry', VT lam ρ (truncV y k) ry' ∧ (∀ w : World, (Builtin.lenOf ry').run P w = .ok k w) ∧ ∀ (sz : Nat), Builtin.firstCells sz k ry' = Builtin.firstCells sz k ry := by
  cases y <;> simp only [lenV, reduceCtorEq, Option.some.injEq] at hn
  case nils => omega
  case slice B O N c e =>
    subst hn
    simp only [VT, VR] at h
    obtain ⟨Y, C, hY, rfl, h1, h2, h3⟩ := h
    exact ⟨.slice (some ⟨Y.blk, Y.off + O, none⟩) k C, by simp only [truncV, VT, VR]; exact ⟨Y, C, hY, rfl, by omega, h2, h3⟩, fun w => rfl, fun sz => rfl⟩
  case str b =>
    subst hn
    simp only [VT, VR] at h; subst h
    have hsz : (b.extract 0 k).size = k := by simp; omega
    refine ⟨.string (b.extract 0 k), by simp [truncV, VT, VR], fun w => ?_, fun sz => ?_⟩
    · simp only [Builtin.lenOf, hsz, Sem.run_pure]
    · simp only [Builtin.firstCells]
      have : (b.extract 0 k).extract 0 k = b.extract 0 k := by
        apply ByteArray.ext
        simp
      rw [this]
theorem op_copy {t t' e : TypeId} {i : TypeInfo} {x y : Operand} {x' y' : Opd} (ho : o.op = .call { callee := .builtin .copy, args := #[x, y], argTypes := #[t, t'] }) (ht : P.underlying t = some (.slice e)) (hi : P.info? e = some i)
    (hx : opd P x = some x') (hy : opd P y = some y') (hs : SR P ρ lam s a w)
    (he : opEv call (.xm (.copy i.size) [x', y']) s = some (v, s')) (hk : After P ρ lam s a w v s' o.dst next) : o.wp P a w next Q := by
  obtain ⟨hloc, m', he', rfl⟩ := xm_inv he
  clear he
  simp only [List.map_cons, List.map_nil] at he'
  have h := hs.opd hx
  have g := hs.opd hy
  generalize s.opd x' = X at he' h
  generalize s.opd y' = Y at he' g
  simp only [xmEv] at he'
  have run : ∀ V r w', a.eval x = V → (Builtin.copy_ #[t, t'] o.type #[V, a.eval y]).run P w = .ok r w' → (execOp a.eval o).run P w = .ok (.value r) w' := by
    intro V r w' e1 e2
    simp [execOp, ho, resolve, invoke, builtin, e1, e2]
  split at he'
  case h_2 => cases he'
  rename_i n hn
  obtain ⟨l1, l2⟩ := lenV_ok (P := P) hn g
  cases X <;> try simp only [reduceCtorEq] at he'
  case nils =>
    simp only [Option.some.injEq, Prod.mk.injEq] at he'
    obtain ⟨rfl, rfl⟩ := he'
    simp only [VT, VR] at h
    refine ok_plain hs hk (r := .int .i64 0) (run _ _ _ h ?_) (by simp [VR])
    simp [Builtin.copy_, run_underlying ht, l1, l2, run_sizeOf hi, goInt]
  case slice B O D c e' =>
    simp only [VT, VR] at h
    obtain ⟨Z, C, hZ, hr, hDC, _, _⟩ := h
    split at he'
    · rename_i h0
      simp only [Option.some.injEq, Prod.mk.injEq] at he'
      obtain ⟨rfl, rfl⟩ := he'
      refine ok_plain hs hk (r := .int .i64 0) (run _ _ _ hr ?_) (by simp [VR])
      have h0' : n.min D = 0 := h0
      simp [Builtin.copy_, run_underlying ht, l1, h0', l2, run_sizeOf hi, goInt, storeCells]
    · rename_i h0
      obtain ⟨ry', t1, t2, t3⟩ := truncV_ok (P := P) (k := min n D) hn (Nat.min_le_left _ _) h0 g
      split at he'
      · rename_i nn cs ec hel hb
        split at he'
        · rename_i hc
          simp only [Option.some.injEq, Prod.mk.injEq] at he'
          obtain ⟨rfl, rfl⟩ := he'
          rw [elemsM_eq] at hel
          obtain ⟨news, hsrc, hv⟩ := elems_ok hs t1 hel
          have hnn : nn = min n D := by
            have h1 := hsrc.len w
            rw [t2 w] at h1
            simpa using h1.symm
          subst hnn
          have hcell := hsrc.cells w (fun _ => rfl)
          rw [t3] at hcell
          simp only [Bool.and_eq_true, decide_eq_true_eq, Bool.not_eq_true'] at hc
          have hwr : s.write (.ptr B O) cs = some { s with m := s.m.set B (.cells (splice ec O cs) true) } := by
            simp only [St.write, hc.1.1, hc.2, Bool.not_false, Bool.and_self, if_true, hb, if_pos hc.1.2]
          obtain ⟨b', off', w', q1, q2, q3, q4⟩ := write_ok (r := .pointer (some ⟨Z.blk, Z.off + O, none⟩)) hs (by simp only [VT, VR]; exact ⟨Z, hZ, rfl⟩) hv hwr
          cases q1
          have hm : (n.min D) = min n D := rfl
          refine wp_value (r := .int .i64 (min n D : Nat)) (run _ _ w' hr ?_) (hk ρ lam _ w' (by simp [VT, VR]) (fun t o e => by cases e) q3 ρ.le_refl q4)
          simp [Builtin.copy_, run_underlying ht, l1, hm, hcell, run_sizeOf hi, goInt, q2]
        · cases he'
      · cases he'
theorem run_ck_int (n : Nat) (e : Bool) {kt : TypeId} {ik : IntKind} (hu : P.underlying kt = some (.int ik)) (rx : Value) (w : World) : (Instr.checkKey e (n + 1) kt rx).run P w = .ok () w := by
  simp [Instr.checkKey, run_underlying hu]
theorem run_ck_str (n : Nat) (e : Bool) {kt : TypeId} (hu : P.underlying kt = some .string) (rx : Value) (w : World) : (Instr.checkKey e (n + 1) kt rx).run P w = .ok () w := by
  simp [Instr.checkKey, run_underlying hu]
theorem same_int (n : Nat) (k : IntKind) (m : Int) : Instr.sameBits n (.int k m) (.int k m) = true := by
  cases n <;> simp [Instr.sameBits]
theorem beqB_symm {a b : ByteArray} (h : (a == b) = true) : (b == a) = true := by
  rw [beq_toListBytes] at h ⊢
  have := eq_of_beq h
  simp [this]
theorem same_str (n : Nat) (m m' : ByteArray) (h : (m == m') = true) : Instr.sameBits n (.string m') (.string m) = true := by
  have := beqB_symm h
  cases n <;> simp only [Instr.sameBits, this]
theorem keyEq_ok {k : KeyK} {x y : AV} {rx ry : Value} {b : Bool} {kt : TypeId} (hk : keyK P kt = some k) (h : keyEq k x y = some b) (hx : VR ρ x rx) (hy : VR ρ y ry) :
    ∃ d, P.underlying kt = some d ∧ Instr.sameNow d rx ry = some b ∧ (b = true → Instr.sameBits 10000 ry rx = true) ∧ ∀ (e : Bool) (w : World), (Instr.checkKey e 10000 kt rx).run P w = .ok () w := by
  unfold keyK at hk
  split at hk
  · rename_i ik hu
    cases hk
    unfold keyEq at h
    split at h <;> try (first | (cases h; done) | (exfalso; simp_all; done))
    rename_i k1 m k2 n heq
    split at h
    · rename_i hkk
      cases h; subst hkk
      simp only [VR] at hx hy; subst hx; subst hy
      refine ⟨_, hu, by simp [Instr.sameNow], fun hb => ?_, fun e w => ?_⟩
      · simp only [beq_iff_eq] at hb; subst hb; exact same_int _ _ _
      · exact run_ck_int 9999 e hu _ w
    · cases h
  · rename_i hu
    cases hk
    unfold keyEq at h
    split at h <;> try (first | (cases h; done) | (exfalso; simp_all; done))
    rename_i m n heq
    cases h
    simp only [VR] at hx hy; subst hx; subst hy
    refine ⟨_, hu, by simp [Instr.sameNow], fun hb => ?_, fun e w => ?_⟩
    · exact same_str _ _ _ hb
    · exact run_ck_str 9999 e hu _ w
  · cases hk
def ERs (ρ : Rho) : List (AV × AV × Nat) → List MapEntry → Prop
  | [], l => l = []
  | (k, v, b) :: es, l => ∃ e r, l = e :: r ∧ VR ρ k e.key ∧ VR ρ v e.val ∧ e.born = b ∧ ERs ρ es r
theorem ERs.of_get {ρ : Rho} : ∀ {es : List (AV × AV × Nat)} {l : List MapEntry}, l.length = es.length → (∀ (i : Nat) (k v : AV) (b : Nat), es[i]? = some (k, v, b) → ∃ r, l[i]? = some r ∧ VR ρ k r.key ∧ VR ρ v r.val ∧ r.born = b) → ERs ρ es l
  | [], l, h, _ => by simp only [ERs]; simpa using h
  | (k, v, b) :: es, l, h, hh => by
    cases l with
    | nil => simp at h
    | cons e r =>
      obtain ⟨e', h1, h2, h3, h4⟩ := hh 0 k v b rfl
      cases h1
      simp only [ERs]
      exact ⟨_, _, rfl, h2, h3, h4, ERs.of_get (by simpa using h) (fun i k v b hi => by simpa using hh (i + 1) k v b (by simpa using hi))⟩
theorem ERs.length {ρ : Rho} : ∀ {es : List (AV × AV × Nat)} {l : List MapEntry}, ERs ρ es l → l.length = es.length
  | [], l, h => by simp only [ERs] at h; subst h; rfl
  | (k, v, b) :: es, l, h => by
    simp only [ERs] at h
    obtain ⟨e, r, rfl, _, _, _, h2⟩ := h
    simp [ERs.length h2]
theorem ERs.get {ρ : Rho} : ∀ {es : List (AV × AV × Nat)} {l : List MapEntry}, ERs ρ es l → ∀ (i : Nat) (k v : AV) (b : Nat), es[i]? = some (k, v, b) → ∃ r, l[i]? = some r ∧ VR ρ k r.key ∧ VR ρ v r.val ∧ r.born = b
  | [], l, h, i, k, v, b, hi => by simp at hi
  | (k0, v0, b0) :: es, l, h, i, k, v, b, hi => by
    simp only [ERs] at h
    obtain ⟨e, r, rfl, h1, h2, h3, h4⟩ := h
    cases i with
    | zero => simp at hi; obtain ⟨rfl, rfl, rfl⟩ := hi; exact ⟨e, rfl, h1, h2, h3⟩
    | succ i => simp at hi; simpa using ERs.get h4 i k v b hi
theorem ERs.set {ρ : Rho} : ∀ {es : List (AV × AV × Nat)} {l : List MapEntry} (i : Nat) {k v : AV} {rk rv : Value}, ERs ρ es l → VR ρ k rk → VR ρ v rv → ERs ρ (setE es i k v) (l.modify i fun e => { e with key := rk, val := rv })
  | [], l, i, k, v, rk, rv, h, _, _ => by simp only [ERs] at h; subst h; cases i <;> simp [setE, ERs]
  | (k0, v0, b0) :: es, l, i, k, v, rk, rv, h, hk, hv => by
    simp only [ERs] at h
    obtain ⟨e, r, rfl, h1, h2, h3, h4⟩ := h
    cases i with
    | zero => simp only [setE, List.modify_zero_cons, ERs]; exact ⟨_, _, rfl, hk, hv, h3, h4⟩
    | succ i => simp only [setE, List.modify_succ_cons, ERs]; exact ⟨_, _, rfl, h1, h2, h3, ERs.set i h4 hk hv⟩
theorem ERs.snoc {ρ : Rho} : ∀ {es : List (AV × AV × Nat)} {l : List MapEntry} {k v : AV} {b : Nat} {e : MapEntry}, ERs ρ es l → VR ρ k e.key → VR ρ v e.val → e.born = b → ERs ρ (es ++ [(k, v, b)]) (l ++ [e])
  | [], l, k, v, b, e, h, hk, hv, hb => by
    simp only [ERs] at h; subst h
    simp only [List.nil_append, ERs]
    exact ⟨e, [], rfl, hk, hv, hb, rfl⟩
  | (k0, v0, b0) :: es, l, k, v, b, e, h, hk, hv, hb => by
    simp only [ERs] at h
    obtain ⟨e0, r, rfl, h1, h2, h3, h4⟩ := h
    simp only [List.cons_append, ERs]
    exact ⟨_, _, rfl, h1, h2, h3, ERs.snoc h4 hk hv hb⟩
theorem findK_ok {k : KeyK} {x : AV} {rx : Value} {kt : TypeId} {d : TypeDesc} (hk : keyK P kt = some k) (hd : P.underlying kt = some d) (hx : VR ρ x rx) : ∀ {es : List (AV × AV × Nat)} {l : List MapEntry} {i : Nat} {q : Option (Nat × AV)}, ERs ρ es l → findK k x es i = some q →
    match q with
    | none => Instr.findNow d rx l i = some none
    | some (j, v) => ∃ e, i ≤ j ∧ l[j - i]? = some e ∧ VR ρ v e.val ∧ Instr.findNow d rx l i = some (some (j, e.val)) ∧ Instr.sameBits 10000 e.key rx = true
  | [], l, i, q, h, he => by
    simp only [ERs] at h; subst h
    simp only [findK, Option.some.injEq] at he; subst he
    simp [Instr.findNow]
  | (u, v, b) :: es, l, i, q, h, he => by
    simp only [ERs] at h
    obtain ⟨e, r, rfl, h1, h2, h3, h4⟩ := h
    unfold findK at he
    split at he
    · rename_i heq
      simp only [Option.some.injEq] at he; subst he
      obtain ⟨d', hd', k1, k2, _⟩ := keyEq_ok hk heq hx h1
      rw [hd] at hd'; cases hd'
      exact ⟨e, Nat.le_refl _, by simp, h2, by simp [Instr.findNow, k1], k2 rfl⟩
    · rename_i heq
      obtain ⟨d', hd', k1, k2, _⟩ := keyEq_ok hk heq hx h1
      rw [hd] at hd'; cases hd'
      have ih := findK_ok hk hd hx h4 he
      cases q with
      | none => simpa [Instr.findNow, k1] using ih
      | some jv =>
        obtain ⟨j, v'⟩ := jv
        obtain ⟨e', q1, q2, q3, q4, q5⟩ := ih
        refine ⟨e', by omega, ?_, q3, by simpa [Instr.findNow, k1] using q4, q5⟩
        have : j - i = (j - (i + 1)) + 1 := by omega
        rw [this]; simpa using q2
    · cases he
theorem run_getObj_map (w : World) {r : Nat} {es : Array MapEntry} {c : Nat} (h : w.heap[r]? = some (.map es c)) : (getObj r).run P w = .ok (.map es c) w := by
  simp [getObj, Sem.run, h]
theorem run_setObj_map (w : World) {r : Nat} {es : Array MapEntry} {c : Nat} (h : w.heap[r]? = some (.map es c)) (o : Obj) : (setObj r o).run P w = .ok () { w with heap := w.heap.setIfInBounds r o } := by
  simp [setObj, Sem.run, h]
theorem keyK_under {kt : TypeId} {k : KeyK} (h : keyK P kt = some k) : ∃ d, P.underlying kt = some d ∧ ∀ (e : Bool) (rx : Value) (w : World), (Instr.checkKey e 10000 kt rx).run P w = .ok () w := by
  unfold keyK at h
  split at h
  · rename_i ik hu
    exact ⟨_, hu, fun e rx w => run_ck_int 9999 e hu rx w⟩
  · rename_i hu
    exact ⟨_, hu, fun e rx w => run_ck_str 9999 e hu rx w⟩
  · cases h
theorem run_findKey (w : World) {kt : TypeId} {d : TypeDesc} {rx : Value} {l : List MapEntry} {q : Option (Nat × Value)} (hd : P.underlying kt = some d) (h : Instr.findNow d rx l 0 = some q) : (Instr.findKey kt rx l).run P w = .ok q w := by
  simp [Instr.findKey, run_underlying hd, h]
theorem op_mkmap {t : TypeId} {q : Option Operand} (ho : o.op = .makeMap t q) (hq : q = none ∨ ((∃ ik n, q = some (.const (.int ik n))) ∧ ∃ k e, P.underlying t = some (.map k e))) (hs : SR P ρ lam s a w)
    (he : opEv call (.xm .mkmap []) s = some (v, s')) (hk : After P ρ lam s a w v s' o.dst next) : o.wp P a w next Q := by
  obtain ⟨hl, m', he', rfl⟩ := xm_inv he
  clear he
  simp only [List.map_nil, xmEv] at he'
  split at he'
  · cases he'
  · rename_i hf
    simp only [Option.some.injEq, Prod.mk.injEq] at he'
    obtain ⟨rfl, rfl⟩ := he'
    have hbr : BR ρ ⟨w.heap.size, 0, 0, 0⟩ (w.alloc (.map #[] 0)) (.map [] 0) := ⟨#[], heap_alloc_new w _, rfl, fun i k v b h => by simp at h⟩
    refine ok_step hs hk (r := .map (some w.heap.size)) (w' := w.alloc (.map #[] 0)) ?_ (MStep.new hs.mem (by simpa using hf) hbr) ?_
    · rcases hq with rfl | ⟨⟨ik, n, rfl⟩, kt, e, ht⟩
      · simp [execOp, ho, Instr.makeMap]
      · simp [execOp, ho, Instr.makeMap, run_underlying ht, Act.eval, asInt, asIntOf]
    · simp only [VR]; exact ⟨⟨w.heap.size, 0, 0, 0⟩, by rw [← hs.mem.len]; simp, rfl⟩
theorem map_at {B : Nat} {es : List (AV × AV × Nat)} {c : Nat} (hs : SR P ρ lam s a w) (hb : s.m.get B = some (.map es c)) : ∃ Z res, ρ[B]? = some Z ∧ w.heap[Z.blk]? = some (.map res c) ∧ ERs ρ es res.toList := by
  obtain ⟨Z, hZ, res, h1, h2, h3⟩ := hs.mem.blk _ _ hb
  exact ⟨Z, res, hZ, h1, ERs.of_get (by simpa using h2) (fun i k v b hi => by simpa using h3 i k v b hi)⟩
theorem map_br {ρ : Rho} {Z : At} {w : World} {es : List (AV × AV × Nat)} {c : Nat} {res : Array MapEntry} (h1 : w.heap[Z.blk]? = some (.map res c)) (h2 : ERs ρ es res.toList) : BR ρ Z w (.map es c) :=
  ⟨res, h1, by simpa using h2.length, fun i k v b hi => by simpa using h2.get i k v b hi⟩
theorem op_mlk {t kt e : TypeId} {k : KeyK} {i' : TypeInfo} {z : Value} {ok : Bool} {x i : Operand} {x' i'' : Opd} (ho : o.op = .lookup t x i ok) (ht : P.underlying t = some (.map kt e)) (hkk : keyK P kt = some k) (hi' : P.info? e = some i') (hz : i'.zero = some z)
    (hx : opd P x = some x') (hi : opd P i = some i'') (hs : SR P ρ lam s a w)
    (he : opEv call (.xm (.mlk k (cAV z) ok) [x', i'']) s = some (v, s')) (hk : After P ρ lam s a w v s' o.dst next) : o.wp P a w next Q := by
  obtain ⟨hl, m', he', rfl⟩ := xm_inv he
  clear he
  simp only [List.map_cons, List.map_nil, List.any_cons, Bool.or_eq_false_iff] at he' hl
  have h := hs.opd hx
  have g := (hs.opd hi).vr hl.2.1
  have hzv := cAV_ok ρ z
  generalize s.opd x' = X at he' h
  generalize s.opd i'' = I at he' g
  simp only [xmEv] at he'
  obtain ⟨d, hd, hck⟩ := keyK_under hkk
  have fin : ∀ (V : Value) (q : Option (Nat × AV)) (es : List (AV × AV × Nat)) (res : Array MapEntry), ERs ρ es res.toList → findK k I es 0 = some q →
      (∀ (nd : Option (Nat × Value)), Instr.findNow d (a.eval i) res.toList 0 = some nd → (Instr.lookup t V (a.eval i) ok).run P w = .ok (if ok then .tuple #[(nd.map (·.2)).getD z, .bool nd.isSome] else (nd.map (·.2)).getD z) w) →
      a.eval x = V → v = (if ok then .tup [(q.map (·.2)).getD (cAV z), .bool q.isSome] else (q.map (·.2)).getD (cAV z)) → m' = s.m → o.wp P a w next Q := by
    intro V q es res hes hf hrun hV hv hm'
    subst hm'
    have hq := findK_ok hkk hd g hes hf
    have key : ∀ (nd : Option (Nat × Value)) (av : AV), Instr.findNow d (a.eval i) res.toList 0 = some nd → VR ρ av ((nd.map (·.2)).getD z) → v = (if ok then .tup [av, .bool nd.isSome] else av) → o.wp P a w next Q := by
      intro nd av h1 h2 h3
      subst h3
      have hr := hrun nd h1
      refine ok_plain hs hk (r := if ok then .tuple #[(nd.map (·.2)).getD z, .bool nd.isSome] else (nd.map (·.2)).getD z) (by simp [execOp, ho, hV, hr]) ?_
      cases ok
      · simpa using h2
      · simp only [if_true, VR]; exact ⟨_, rfl, by simp only [VRs]; exact ⟨_, _, rfl, h2, _, _, rfl, by simp [VR], rfl⟩⟩
    cases q with
    | none => exact key none (cAV z) hq (by simpa using hzv) hv
    | some jv =>
      obtain ⟨j, u⟩ := jv
      obtain ⟨en, _, _, q3, q4, _⟩ := hq
      exact key (some (j, en.val)) u q4 (by simpa using q3) hv
  cases X <;> try simp only [reduceCtorEq] at he'
  case nilm =>
    simp only [VT, VR] at h
    simp only [Option.some.injEq, Prod.mk.injEq] at he'
    exact fin (.map none) none [] #[] (by simp [ERs]) (by simp [findK]) (fun nd hnd => by
      simp only [Instr.findNow, Option.some.injEq] at hnd; subst hnd
      have hnd2 := run_findKey (P := P) w (l := []) (q := none) (rx := a.eval i) hd (by simp [Instr.findNow])
      cases ok <;> simp [Instr.lookup, run_underlying ht, hck, hnd2, run_zero hi' hz]) h (by rw [← he'.1]; cases ok <;> simp) he'.2.symm
  case map B =>
    split at he'
    · rename_i es c hb
      simp only [VT, VR] at h
      obtain ⟨Z, hZ, hr⟩ := h
      obtain ⟨Z', res, hZ', g1, g2⟩ := map_at hs hb
      rw [hZ] at hZ'; cases hZ'
      have hrun : ∀ (nd : Option (Nat × Value)), Instr.findNow d (a.eval i) res.toList 0 = some nd → (Instr.lookup t (.map (some Z.blk)) (a.eval i) ok).run P w = .ok (if ok then .tuple #[(nd.map (·.2)).getD z, .bool nd.isSome] else (nd.map (·.2)).getD z) w := by
        intro nd hnd
        have hnd2 := run_findKey (P := P) w hd hnd
        have hg := run_getObj_map (P := P) w g1
        cases nd with
        | none => cases ok <;> simp [Instr.lookup, run_underlying ht, hck, hg, hnd2, run_zero hi' hz]
        | some jv => obtain ⟨j, u⟩ := jv; cases ok <;> simp [Instr.lookup, run_underlying ht, hck, hg, hnd2]
      cases hf : findK k I es 0 with
      | none => rw [hf] at he'; cases he'
      | some q =>
        rw [hf] at he'
        cases q with
        | none =>
          simp only [Option.some.injEq, Prod.mk.injEq] at he'
          exact fin _ none es res g2 hf hrun hr (by rw [← he'.1]; cases ok <;> simp) he'.2.symm
        | some jv =>
          simp only [Option.some.injEq, Prod.mk.injEq] at he'
          exact fin _ (some jv) es res g2 hf hrun hr (by rw [← he'.1]; cases ok <;> simp) he'.2.symm
    · cases he'
theorem op_mup {t kt e : TypeId} {k : KeyK} {x i y : Operand} {x' i' y' : Opd} (ho : o.op = .mapUpdate t x i y ∨ o.op = .insert t x i y) (ht : P.underlying t = some (.map kt e)) (hkk : keyK P kt = some k)
    (hx : opd P x = some x') (hi : opd P i = some i') (hy : opd P y = some y') (hs : SR P ρ lam s a w)
    (he : opEv call (.xm (.mup k) [x', i', y']) s = some (v, s')) (hk : After P ρ lam s a w v s' o.dst next) : o.wp P a w next Q := by
  obtain ⟨hl, m', he', rfl⟩ := xm_inv he
  clear he
  simp only [List.map_cons, List.map_nil, List.any_cons, Bool.or_eq_false_iff] at he' hl
  have h := hs.opd hx
  have g := (hs.opd hi).vr hl.2.1
  have u := (hs.opd hy).vr hl.2.2.1
  generalize s.opd x' = X at he' h
  generalize s.opd i' = I at he' g
  generalize s.opd y' = Y at he' u
  obtain ⟨d, hd, hck⟩ := keyK_under hkk
  have exec : ∀ V w', a.eval x = V → (Instr.mapUpdate t V (a.eval i) (a.eval y)).run P w = .ok () w' → (execOp a.eval o).run P w = .ok .skip w' := by
    intro V w' e1 e2
    rcases ho with ho | ho <;> simp [execOp, ho, e1, e2]
  cases X <;> try simp only [xmEv, reduceCtorEq] at he'
  case map B =>
    simp only [VT, VR] at h
    obtain ⟨Z, hZ, hr⟩ := h
    split at he'
    · rename_i es c hb
      obtain ⟨Z', res, hZ', g1, g2⟩ := map_at hs hb
      rw [hZ] at hZ'; cases hZ'
      have hlt : Z.blk < w.heap.size := (Array.getElem?_eq_some_iff.1 g1).1
      have hg := run_getObj_map (P := P) w g1
      have hst := fun o => run_setObj_map (P := P) w g1 o
      split at he'
      · rename_i j u0 hf
        simp only [Option.some.injEq, Prod.mk.injEq] at he'
        obtain ⟨rfl, rfl⟩ := he'
        obtain ⟨en, _, q2, q3, q4, q5⟩ := findK_ok hkk hd g g2 hf
        have hfk := run_findKey (P := P) w hd q4
        have hen : res[j]? = some en := by simpa using q2
        have hrun : (Instr.mapUpdate t (.map (some Z.blk)) (a.eval i) (a.eval y)).run P w = .ok () { w with heap := w.heap.setIfInBounds Z.blk (.map (res.modify j fun e => { e with key := a.eval i, val := a.eval y }) c) } := by
          simp [Instr.mapUpdate, run_underlying ht, hck, hg, hfk, Instr.keyThatStays, hen, q5, hst]
        refine ok_skip hs hk (exec _ _ hr hrun) (MStep.set hs.mem hb rfl hZ rfl rfl rfl (by simp) (fun k' hk' => setObj_ne w _ _ _ hk') (map_br (setObj_get w _ _ hlt) ?_))
        rw [Array.toList_modify]
        exact g2.set j g u
      · rename_i hf
        split at he'
        · simp only [Option.some.injEq, Prod.mk.injEq] at he'
          obtain ⟨rfl, rfl⟩ := he'
          have q4 := findK_ok hkk hd g g2 hf
          have hfk := run_findKey (P := P) w hd q4
          have hrun : (Instr.mapUpdate t (.map (some Z.blk)) (a.eval i) (a.eval y)).run P w = .ok () { w with heap := w.heap.setIfInBounds Z.blk (.map (res.push { key := a.eval i, val := a.eval y, born := c }) (c + 1)) } := by
            simp [Instr.mapUpdate, run_underlying ht, hck, hg, hfk, hst]
          refine ok_skip hs hk (exec _ _ hr hrun) (MStep.set hs.mem hb rfl hZ rfl rfl rfl (by simp) (fun k' hk' => setObj_ne w _ _ _ hk') (map_br (setObj_get w _ _ hlt) ?_))
          rw [Array.toList_push]
          exact g2.snoc g u rfl
        · cases he'
      · cases he'
    · cases he'
theorem op_lenM {t kt e : TypeId} {x : Operand} {x' : Opd} (ho : o.op = .call { callee := .builtin .len, args := #[x], argTypes := #[t] }) (ht : P.underlying t = some (.map kt e)) (hx : opd P x = some x') (hs : SR P ρ lam s a w)
    (he : opEv call (.xm .lenM [x']) s = some (v, s')) (hk : After P ρ lam s a w v s' o.dst next) : o.wp P a w next Q := by
  obtain ⟨hl, m', he', rfl⟩ := xm_inv he
  clear he
  simp only [List.map_cons, List.map_nil] at he'
  have h := hs.opd hx
  generalize s.opd x' = X at he' h
  cases X <;> try simp only [xmEv, reduceCtorEq] at he'
  case nilm =>
    simp only [Option.some.injEq, Prod.mk.injEq] at he'
    obtain ⟨rfl, rfl⟩ := he'
    simp only [VT, VR] at h
    exact ok_plain hs hk (r := .int .i64 0) (by simp [execOp, ho, h, resolve, invoke, builtin, Builtin.len_, run_underlying ht, goInt]) (by simp [VR])
  case map B =>
    split at he'
    · rename_i es c hb
      simp only [Option.some.injEq, Prod.mk.injEq] at he'
      obtain ⟨rfl, rfl⟩ := he'
      simp only [VT, VR] at h
      obtain ⟨Z, hZ, hr⟩ := h
      obtain ⟨Z', res, hZ', g1, g2⟩ := map_at hs hb
      rw [hZ] at hZ'; cases hZ'
      have hlen : res.size = es.length := by simpa using g2.length
      exact ok_plain hs hk (r := .int .i64 res.size) (by simp [execOp, ho, hr, resolve, invoke, builtin, Builtin.len_, run_underlying ht, goInt, run_getObj_map w g1]) (by simp [VR, hlen])
    · cases he'
theorem op_mark {t e : TypeId} {x : Operand} {x' : Opd} (ho : o.op = .convert t t x) (h2 : P.underlying t = some (.slice e)) (h8 : P.underlying e = some (.int .u8)) (hx : opd P x = some x') (hs : SR P ρ lam s a w)
    (he : opEv call (.xm .mark [x']) s = some (v, s')) (hk : After P ρ lam s a w v s' o.dst next) : o.wp P a w next Q := by
  obtain ⟨hl, m', he', rfl⟩ := xm_inv he
  clear he
  simp only [List.map_cons, List.map_nil] at he'
  have h := hs.opd hx
  generalize s.opd x' = X at he' h
  cases X <;> try simp only [xmEv, reduceCtorEq] at he'
  case slice B O n C E =>
    split at he'
    · rename_i cs hb
      simp only [Option.some.injEq, Prod.mk.injEq] at he'
      obtain ⟨rfl, rfl⟩ := he'
      have hv := h
      simp only [VT, VR] at h
      obtain ⟨Z, c, hZ, hr, hrest⟩ := h
      obtain ⟨Z', hZ', rc, te, fz, g1, g2, g3, g4⟩ := hs.mem.blk _ _ hb
      rw [hZ] at hZ'; cases hZ'
      obtain ⟨rfl, g5, g6⟩ := g3 rfl
      have hsh : w.shape? Z.blk = some (te, rc.size) := by simp [World.shape?, g1]
      have hheap : ∀ k, k ≠ Z.blk → (w.freeze ⟨Z.blk, rc.size, none⟩ 1).heap[k]? = w.heap[k]? := by
        intro k hk'
        unfold World.freeze
        split
        · rfl
        · simp [Array.getElem?_modify, Ne.symm hk']
      refine ok_step hs hk (r := .slice (some ⟨Z.blk, Z.off + O, none⟩) n c) (w' := w.freeze ⟨Z.blk, rc.size, none⟩ 1) (by simp [execOp, ho, hr, convert, run_underlying h2, run_underlying h8, markStringish, hsh])
        (MStep.set hs.mem hb rfl hZ ?_ ?_ ?_ ?_ hheap (b' := .cells cs false) ⟨rc, te, _, by
          unfold World.freeze
          rw [if_neg (by decide)]
          simp [Array.getElem?_modify, g1]
          rfl, g2, (fun e => by cases e), g4.1, fun _ h0 => by omega⟩) (by rw [hr] at hv; exact hv)
      · unfold World.freeze; split <;> rfl
      · unfold World.freeze; split <;> rfl
      · unfold World.freeze; split <;> rfl
      · unfold World.freeze; split <;> simp
    · cases he'
theorem op_mclr {t kt e : TypeId} {x : Operand} {x' : Opd} (ho : o.op = .call { callee := .builtin .clear, args := #[x], argTypes := #[t] }) (ht : P.underlying t = some (.map kt e)) (hx : opd P x = some x') (hs : SR P ρ lam s a w)
    (he : opEv call (.xm .mclr [x']) s = some (v, s')) (hk : After P ρ lam s a w v s' o.dst next) : o.wp P a w next Q := by
  obtain ⟨hl, m', he', rfl⟩ := xm_inv he
  clear he
  simp only [List.map_cons, List.map_nil] at he'
  have h := hs.opd hx
  generalize s.opd x' = X at he' h
  cases X <;> try simp only [xmEv, reduceCtorEq] at he'
  case nilm =>
    simp only [Option.some.injEq, Prod.mk.injEq] at he'
    obtain ⟨rfl, rfl⟩ := he'
    simp only [VT, VR] at h
    exact ok_plain hs hk (r := .tuple #[]) (by simp [execOp, ho, h, resolve, invoke, builtin, Builtin.clear_, run_underlying ht]) (by simp [VR, VRs])
  case map B =>
    split at he'
    · rename_i es c hb
      simp only [Option.some.injEq, Prod.mk.injEq] at he'
      obtain ⟨rfl, rfl⟩ := he'
      simp only [VT, VR] at h
      obtain ⟨Z, hZ, hr⟩ := h
      obtain ⟨Z', res, hZ', g1, g2⟩ := map_at hs hb
      rw [hZ] at hZ'; cases hZ'
      have hlt : Z.blk < w.heap.size := (Array.getElem?_eq_some_iff.1 g1).1
      refine ok_step hs hk (r := .tuple #[]) (w' := { w with heap := w.heap.setIfInBounds Z.blk (.map #[] c) }) (by simp [execOp, ho, hr, resolve, invoke, builtin, Builtin.clear_, run_underlying ht, run_getObj_map w g1, run_setObj_map w g1])
        (MStep.set hs.mem hb rfl hZ rfl rfl rfl (by simp) (fun k' hk' => setObj_ne w _ _ _ hk') (map_br (setObj_get w _ _ hlt) (by simp [ERs]))) (by simp [VR, VRs])
    · cases he'
theorem op_sclr {t e : TypeId} {i : TypeInfo} {z : List AV} {x : Operand} {x' : Opd} (ho : o.op = .call { callee := .builtin .clear, args := #[x], argTypes := #[t] }) (ht : P.underlying t = some (.slice e)) (hi : P.info? e = some i) (hz : zeroOf P e = some z) (hzl : z.length = i.size ∧ 0 < i.size)
    (hx : opd P x = some x') (hs : SR P ρ lam s a w)
    (he : opEv call (.xm (.sclr i.size z) [x']) s = some (v, s')) (hk : After P ρ lam s a w v s' o.dst next) : o.wp P a w next Q := by
  obtain ⟨i', zv, hi', hzv, rfl⟩ := zeroOf_ok hz
  rw [hi] at hi'; cases hi'
  obtain ⟨hl, m', he', rfl⟩ := xm_inv he
  clear he
  simp only [List.map_cons, List.map_nil] at he'
  have h := hs.opd hx
  generalize s.opd x' = X at he' h
  cases X <;> try simp only [xmEv, reduceCtorEq] at he'
  case nils =>
    simp only [Option.some.injEq, Prod.mk.injEq] at he'
    obtain ⟨rfl, rfl⟩ := he'
    simp only [VT, VR] at h
    exact ok_plain hs hk (r := .tuple #[]) (by simp [execOp, ho, h, resolve, invoke, builtin, Builtin.clear_, run_underlying ht]) (by simp [VR, VRs])
  case slice B O D c e' =>
    simp only [VT, VR] at h
    obtain ⟨Z, C, hZ, hr, hDC, _, _⟩ := h
    split at he'
    · rename_i h0
      subst h0
      simp only [Option.some.injEq, Prod.mk.injEq] at he'
      obtain ⟨rfl, rfl⟩ := he'
      exact ok_plain hs hk (r := .tuple #[]) (by simp [execOp, ho, hr, resolve, invoke, builtin, Builtin.clear_, run_underlying ht]) (by simp [VR, VRs])
    · rename_i h0
      split at he'
      · rename_i ec hb
        split at he'
        · rename_i hc
          simp only [Option.some.injEq, Prod.mk.injEq] at he'
          obtain ⟨rfl, rfl⟩ := he'
          simp only [Bool.and_eq_true, decide_eq_true_eq, Bool.not_eq_true'] at hc
          have hzs := zeros_ok (ρ := ρ) (D * i.size) (cAVs_ok ρ zv.cells.toList) (by omega)
          have hsz : zv.cells.size = i.size := by
            have := (cAVs_ok ρ zv.cells.toList).length
            rw [← hzl.1, ← this]; simp
          have hwr : s.write (.ptr B O) (zerosEv (cAV.go zv.cells.toList) (D * i.size)) = some { s with m := s.m.set B (.cells (splice ec O (zerosEv (cAV.go zv.cells.toList) (D * i.size))) true) } := by
            simp only [St.write, hc.1.1, hc.2, Bool.not_false, Bool.and_self, if_true, hb, if_pos hc.1.2]
          obtain ⟨b', off', w', q1, q2, q3, q4⟩ := write_ok (r := .pointer (some ⟨Z.blk, Z.off + O, none⟩)) hs (by simp only [VT, VR]; exact ⟨Z, hZ, rfl⟩) hzs hwr
          cases q1
          have hzc : (Builtin.zeroCells zv.cells D).toList = ((Array.range (D * i.size)).map (zv.cells[· % zv.cells.size]!)).toList := by
            unfold Builtin.zeroCells
            rw [hsz]
          have hrun : (Builtin.clear_ #[t] o.type #[.slice (some ⟨Z.blk, Z.off + O, none⟩) D C]).run P w = .ok (.tuple #[]) w' := by
            unfold Builtin.clear_
            simp [run_underlying ht, run_zero hi hzv]
            rw [hzc, q2]; rfl
          refine wp_value (r := .tuple #[]) (by simp [execOp, ho, hr, resolve, invoke, builtin, hrun]) (hk ρ lam _ w' (by simp [VT, VR, VRs]) (fun t o e => by cases e) q3 ρ.le_refl q4)
        · cases he'
      · cases he'
end
end
end AG
