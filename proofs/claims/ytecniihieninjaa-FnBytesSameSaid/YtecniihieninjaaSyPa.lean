/- An evaluator of the model's code over symbolic values, and its soundness: part 14. No condition. -/
import Derived.Test.YtecniihieninjaaSyO
set_option linter.unusedVariables false
set_option linter.unusedSimpArgs false
namespace Go.Sx
open Go.RowKit
variable {T : Nat → Type} {U : Univ T} {P : Program}

section
variable {w0 : Frm} {M0 : Mem} {nt nid : Nat} {s : St T} {a : Act} {w : World} {ρ ρ' : Nat → Option Value} {M : Mem} {c : Step T} {o : Oper} {Tb : Calls_ T} {α : Type 1} {r : α}

theorem good_op (hU : UOk U) (hT : ∀ n F, Tb n = some F → SndE P U n F) (R : Rl U w0 M0 nt s nid a w ρ M) (h : (opQ P U Tb nid o.op).run s = some c) : Good P U w0 M0 s nid ρ M a w o c := by
  cases hop : o.op <;> rw [hop] at h
  case move x => exact good_move R (.inl hop) h
  case assign x => exact good_move R (.inr hop) h
  case pick x y z => exact good_pick R hop h
  case alloc t => exact good_alloc R hop h
  case box t x => exact good_box R hop h
  case build t p => exact good_build R hop h
  case buildSlice t n p => exact good_buildSlice hU R hop h
  case load t p => exact good_load hU R hop h
  case store t p x => exact good_store hU R hop h
  case nilCheck x => exact good_nilCheck R hop h
  case binOp op t x y t' => exact good_binOp R hop h
  case unOp op t x => exact good_unOp R hop h
  case convert t t' x => exact good_convert hU R hop h
  case makeSlice t l d => exact good_makeSlice hU R hop h
  case slice t x lo hi mx => exact good_slice hU R hop h
  case fieldAddr t x f => exact good_fieldAddr R hop h
  case field t x f => exact good_field R hop h
  case indexAddr t x i => exact good_indexAddr R hop h
  case index t x i => exact good_index R hop h
  case extract x i => exact good_extract R hop h
  case call cl =>
    cases hcl : cl.callee with
    | value f => exact good_call hU hT R hop hcl h
    | invoke x m => simp [opQ, hcl, RQ.run] at h
    | builtin b =>
      cases b
      case append => exact good_append hU R hop hcl h
      case len => exact good_len R hop hcl h
      case min => exact good_min R hop hcl h
      case max => exact good_max R hop hcl h
      all_goals simp [opQ, hcl, RQ.run] at h
  all_goals simp [opQ, RQ.run] at h
end
end Go.Sx
