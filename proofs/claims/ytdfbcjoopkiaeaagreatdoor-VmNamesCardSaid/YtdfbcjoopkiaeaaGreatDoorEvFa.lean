/-
  A reckoner for the program's form over abstract values and memory, run by the kernel, and its proof: if it answers, the form's own run answers so, whatever the tape. Part EvFa. No condition.
-/
import Derived.Test.YtdfbcjoopkiaeaaGreatDoorEvAa
import GoSem.ClaimGoes
import GoSem.ClaimFn
import Derived.JoinedOf
noncomputable section
namespace Go.Ev

/-! ## The functions that a call comes to, reckoned with a set as a number -/
def cloF (P : Program) : (fuel : Nat) → (todo : List FuncId) → (sn : Nat) → (seen : List FuncId) → List FuncId
  | 0, _, _, seen => seen.reverse
  | _ + 1, [], _, seen => seen.reverse
  | n + 1, f :: todo, sn, seen => cond (bitB sn f) (cloF P n todo sn seen) (forceN (sn ||| 2 ^ f) fun sn => cloF P n ((P.funcs[f]?).elim [] P.leadsTo ++ todo) sn (f :: seen))
theorem bitB_iff (m j : Nat) : bitB m j = m.testBit j := by
  rw [Bool.eq_iff_iff]
  refine ⟨bitB_spec, fun h => ?_⟩
  unfold bitB subB
  have : 2 ^ j ||| m = m := by
    apply Nat.eq_of_testBit_eq
    intro i
    rw [Nat.testBit_or, Nat.testBit_two_pow]
    by_cases e : j = i
    · subst e; rw [h]; simp
    · simp [e]
  rw [this]; simp
theorem cloF_eq (P : Program) : ∀ (n : Nat) (todo : List FuncId) (sn : Nat) (seen : List FuncId), (∀ j, sn.testBit j = seen.contains j) → cloF P n todo sn seen = P.closureVia n todo seen
  | 0, _, _, _, _ => by rw [cloF, Program.closureVia]
  | n + 1, [], _, _, _ => by rw [cloF, Program.closureVia]; exact fun h => by cases h
  | n + 1, f :: todo, sn, seen, h => by
    rw [cloF, Program.closureVia, bitB_iff, h f, forceN_eq]
    cases hc : seen.contains f
    · simp only [cond_false, Bool.false_eq_true, if_false]
      refine cloF_eq P n _ _ _ fun j => ?_
      rw [Nat.testBit_or, h j, Nat.testBit_two_pow, List.contains_cons]
      by_cases e : f = j
      · subst e; simp
      · have e' : (j == f) = false := by simpa using fun q => e q.symm
        simp [e, e']
    · simp only [cond_true, if_true]
      exact cloF_eq P n todo sn seen h
theorem closure_eq {P : Program} {f : FuncId} {n : Nat} {l : List FuncId} (hn : 1 + (P.funcs.toList.map fun g => (P.leadsTo g).length + 1).sum = n) (h : cloF P n [f] 0 [] = l) : P.closure f = l := by
  unfold Program.closure
  rw [hn, ← h]
  exact (cloF_eq P n [f] 0 [] fun j => by simp).symm
/-- No function of the program starts another goroutine. -/
theorem goes_none {P : Program} (h : (P.funcs.toList.any Func.goes) = false) (f : FuncId) : P.goes f = false := by
  have h' : P.funcs.any Func.goes = false := by rw [← Array.any_toList]; exact h
  unfold Program.goes
  rw [h', Bool.and_false, Bool.or_false]
  rw [List.any_eq_false] at h ⊢
  intro g _
  cases hg : P.funcs[g]? with
  | none => simp
  | some fn =>
    have hm : fn ∈ P.funcs.toList := by
      rw [← Array.getElem?_toList] at hg
      exact List.mem_of_getElem? hg
    simpa using h fn hm
theorem goesBy_none {P : Program} {c : OpenClaim} (hs : c.start = .entering) (h : (P.funcs.toList.any Func.goes) = false) : false = c.goesBy P := by
  unfold OpenClaim.goesBy Program.goesAt Program.goesFrom
  rw [hs]
  cases P.funcNamed c.func with
  | none => rfl
  | some f => simp [goes_none h f]
end Go.Ev
