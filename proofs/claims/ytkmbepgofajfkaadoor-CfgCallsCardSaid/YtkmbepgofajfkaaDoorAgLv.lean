/- The functions of this seat, as the abstract machine has them; each is what its translation out of the program gives. Made by program. -/
import Derived.Test.YtkmbepgofajfkaaDoorAgF1
import Derived.Test.YtkmbepgofajfkaaDoorAgClosed
namespace Go.Proofs.YtkmbepgofajfkaaDoor
open AG
noncomputable section
set_option maxRecDepth 100000
set_option maxHeartbeats 4000000
/-- The listed tables. -/
def v_word_signs:List AV:=[.str ⟨#[]⟩,.str ⟨#[43]⟩,.str ⟨#[45]⟩,.str ⟨#[42]⟩,.str ⟨#[47]⟩,.str ⟨#[37]⟩,.str ⟨#[115,47]⟩,.str ⟨#[115,37]⟩,.str ⟨#[38]⟩,.str ⟨#[124]⟩,.str ⟨#[94]⟩,.str ⟨#[60,60]⟩,.str ⟨#[62,62]⟩,.str ⟨#[115,62,62]⟩,.str ⟨#[61,61]⟩,.str ⟨#[33,61]⟩,.str ⟨#[60]⟩,.str ⟨#[60,61]⟩,.str ⟨#[115,60]⟩,.str ⟨#[115,60,61]⟩]
def v_code_kinds:List AV:=[.str ⟨#[]⟩,.int .i64 0,.int .i64 0,.int .i64 0,.int .i64 0,.int .i64 0,.str ⟨#[104,97,108,116]⟩,.int .i64 0,.int .i64 0,.int .i64 0,.int .i64 0,.int .i64 0,.str ⟨#[112,117,115,104]⟩,.int .i64 2,.int .i64 0,.int .i64 0,.int .i64 0,.int .i64 1,.str ⟨#[112,111,112]⟩,.int .i64 0,.int .i64 0,.int .i64 0,.int .i64 1,.int .i64 0,.str ⟨#[108,100]⟩,.int .i64 1,.int .i64 0,.int .i64 0,.int .i64 0,.int .i64 1,.str ⟨#[115,116]⟩,.int .i64 1,.int .i64 3,.int .i64 0,.int .i64 1,.int .i64 0,.str ⟨#[108,100,120]⟩,.int .i64 1,.int .i64 4,.int .i64 0,.int .i64 1,.int .i64 1,.str ⟨#[115,116,120]⟩,.int .i64 1,.int .i64 4,.int .i64 3,.int .i64 2,.int .i64 0,.str ⟨#[108,100,108]⟩,.int .i64 1,.int .i64 0,.int .i64 0,.int .i64 0,.int .i64 1,.str ⟨#[115,116,108]⟩,.int .i64 1,.int .i64 3,.int .i64 0,.int .i64 1,.int .i64 0,.str ⟨#[105,110]⟩,.int .i64 1,.int .i64 0,.int .i64 0,.int .i64 0,.int .i64 1,.str ⟨#[111,117,116]⟩,.int .i64 1,.int .i64 0,.int .i64 0,.int .i64 1,.int .i64 0,.str ⟨#[98,105,110]⟩,.int .i64 7,.int .i64 0,.int .i64 0,.int .i64 2,.int .i64 1,.str ⟨#[117,110]⟩,.int .i64 8,.int .i64 0,.int .i64 0,.int .i64 1,.int .i64 1,.str ⟨#[99,117,116]⟩,.int .i64 3,.int .i64 0,.int .i64 0,.int .i64 1,.int .i64 1,.str ⟨#[106,109,112]⟩,.int .i64 1,.int .i64 0,.int .i64 0,.int .i64 0,.int .i64 0,.str ⟨#[106,122]⟩,.int .i64 1,.int .i64 0,.int .i64 0,.int .i64 1,.int .i64 0,.str ⟨#[99,97,108,108]⟩,.int .i64 1,.int .i64 0,.int .i64 0,.int .i64 0,.int .i64 1,.str ⟨#[114,101,116]⟩,.int .i64 0,.int .i64 0,.int .i64 0,.int .i64 1,.int .i64 0,.str ⟨#[101,110]⟩,.int .i64 5,.int .i64 0,.int .i64 0,.int .i64 0,.int .i64 0,.str ⟨#[100,105,115]⟩,.int .i64 5,.int .i64 0,.int .i64 0,.int .i64 0,.int .i64 0,.str ⟨#[108,118,108]⟩,.int .i64 6,.int .i64 0,.int .i64 0,.int .i64 0,.int .i64 0,.str ⟨#[112,116]⟩,.int .i64 0,.int .i64 0,.int .i64 0,.int .i64 0,.int .i64 0,.str ⟨#[98,101,103]⟩,.int .i64 1,.int .i64 0,.int .i64 0,.int .i64 0,.int .i64 0,.str ⟨#[101,110,100]⟩,.int .i64 1,.int .i64 0,.int .i64 0,.int .i64 0,.int .i64 0]
def v_image_checks:List AV:=[.fn 180 [],.fn 181 [],.fn 182 [],.fn 183 [],.fn 184 [],.fn 185 []]
/-- The blocks at the start: the listed variables,those of which nothing is said,what a slice leads to. -/
def blocks:List ABlk:=[.cells v_image_checks false,.cells [.slice 3 0 25 (some 25) 6] false,.cells v_word_signs false,.cells v_code_kinds false]
theorem lives36_run:isTrue (run A1 1000 36 [] (memOf blocks))=true:=by
 rw [←runF_eq]
 kernel_rfl
theorem lives36:PrimOk Tryd.prog 36 (closedEv blocks (.bool true)):=
 closed_ok A1_ok Tryd.func36 (by decide) rfl lives36_run (Nat.le_of_ble_eq_true (by kernel_rfl)) (by kernel_rfl) (Nat.le_of_ble_eq_true (by kernel_rfl))
end
end Go.Proofs.YtkmbepgofajfkaaDoor
