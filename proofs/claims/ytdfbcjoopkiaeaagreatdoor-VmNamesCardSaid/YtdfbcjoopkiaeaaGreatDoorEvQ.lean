/-
  A reckoner for the program's form over abstract values and memory, run by the kernel, and its proof: if it answers, the form's own run answers so, whatever the tape. Part EvQ. No condition.
-/
import Derived.Test.YtdfbcjoopkiaeaaGreatDoorEvP
noncomputable section
namespace Go.Ev

variable {X : Fix} {Pr : Nat → Option Obj} {G : Nat → Option Blk} {φ : Nat → Option Nat} {κ : Nat → Nat} {m : Nat → Option Blk} {nx : Nat} {w : World} {E : Env}

theorem zeroCells_size (z : Array Value) (n : Nat) : (Builtin.zeroCells z n).size = n * z.size := by simp [Builtin.zeroCells]
/-- An append that grows. -/
theorem run_grow {P : Program} {t e : Nat} {ti te : TI} {i ie : TypeInfo} {z ze : Value} {de : TypeDesc} (hti : TIok P t ti i (.slice e) z) (hte : TIok P e te ie de ze)
    {ts : Array TypeId} (hts : ts[0]? = some t) (hts1 : ts[1]? = none ∨ ∃ t1 d1, ts[1]? = some t1 ∧ P.underlying t1 = some d1 ∧ ∀ k, d1 ≠ .int k)
    {base : Option Addr} {len cap n : Nat} {x : Value} {old new : List Value} {w : World} (hn : (Builtin.lenOf x).run P w = .ok n w) (hneed : cap < len + n) (hmax : len + n ≤ 16777216) (hby : te.bytes ≤ 65536)
    (hold : (Builtin.firstCells te.size len (.slice base len cap)).run P w.drew = .ok old.toArray w.drew) (hnew : (Builtin.firstCells te.size n x).run P w.drew = .ok new.toArray w.drew) (ty : TypeId) :
    ∃ newCap, len + n ≤ newCap ∧ (Builtin.append_ ts ty #[.slice base len cap, x]).run P w =
      .ok (.slice (some ⟨w.heap.size, 0, none⟩) (len + n) newCap) (w.drew.alloc (.cells (old.toArray ++ new.toArray ++ Builtin.zeroCells ze.cells (newCap - (len + n))) e)) := by
  refine ⟨(Question.appendCap (len + n) cap e).cut (w.tape w.drawn (.appendCap (len + n) cap e)), by simp only [Question.cut]; omega, ?_⟩
  have hnc := nextslicecap_le (len + n) cap hneed
  have hmul : Builtin.nextslicecap (len + n) cap * te.bytes ≤ (4 * 16777216 + 2048) * 65536 := Nat.mul_le_mul (by omega) hby
  have hforced : (Question.appendCap (len + n) cap e).forced = false := rfl
  have e0 : (#[.slice base len cap, x] : Array Value)[0]? = some (.slice base len cap) := rfl
  have e1 : (#[.slice base len cap, x] : Array Value)[1]? = some x := rfl
  have c1 : ¬ (len + n ≤ cap) := by omega
  have c2 : ¬ (((len + n : Nat) : Int) > IntKind.i64.max ∧ (false = true ∨ te.bytes = 0)) := by
    rintro ⟨h, _⟩
    simp [IntKind.max, IntKind.signed, IntKind.bits] at h
    omega
  have c3 : ¬ (Builtin.nextslicecap (len + n) cap * te.bytes > 2 ^ 48) := by
    have : (2 : Nat) ^ 48 = 281474976710656 := rfl
    omega
  rcases hts1 with h1 | ⟨t1, d1, h1, hu, hd⟩
  · simp only [Builtin.append_, hts, h1, e0, e1, Sem.run_bind, hti.run_und, Result.andThen_ok, hte.run_size, Sem.run_pure, Bool.false_eq_true, if_false, hn, Bool.not_false, if_true]
    rw [if_neg c1]
    simp only [Sem.run_bind, hte.run_info, Result.andThen_ok, hte.bytes]
    rw [if_neg (fun h => c2 ⟨h.1, h.2.imp (fun h => h.elim) id⟩)]
    simp only [Sem.run_bind, hte.run_info, Result.andThen_ok, hte.bytes]
    rw [if_neg c3]
    simp only [Sem.run_bind, run_choose, hforced, Bool.false_eq_true, if_false, Result.andThen_ok, World.drew_eq, hte.run_info, run_askRoom, hold, hnew, hte.run_zero, Go.newRow, run_newObj, Sem.run_pure, World.alloc_eq]
    rfl
  · have hu1 : ∀ w : World, (underlying t1).run P w = .ok d1 w := fun w => by simp [underlying, hu]
    cases d1 with
    | int k => exact absurd rfl (hd k)
    | _ =>
      simp only [Builtin.append_, hts, h1, e0, e1, Sem.run_bind, hti.run_und, Result.andThen_ok, hte.run_size, Sem.run_pure, hu1, Bool.false_eq_true, if_false, hn, Bool.not_false, if_true]
      rw [if_neg c1]
      simp only [Sem.run_bind, hte.run_info, Result.andThen_ok, hte.bytes]
      rw [if_neg (fun h => c2 ⟨h.1, h.2.imp (fun h => h.elim) id⟩)]
      simp only [Sem.run_bind, hte.run_info, Result.andThen_ok, hte.bytes]
      rw [if_neg c3]
      simp only [Sem.run_bind, run_choose, hforced, Bool.false_eq_true, if_false, Result.andThen_ok, World.drew_eq, hte.run_info, run_askRoom, hold, hnew, hte.run_zero, Go.newRow, run_newObj, Sem.run_pure, World.alloc_eq]
      rfl
/-- An append for which there is room. -/
theorem run_append_room {P : Program} {t e : Nat} {ti te : TI} {i ie : TypeInfo} {z ze : Value} {de : TypeDesc} (hti : TIok P t ti i (.slice e) z) (hte : TIok P e te ie de ze)
    {ts : Array TypeId} (hts : ts[0]? = some t) (hts1 : ts[1]? = none ∨ ∃ t1 d1, ts[1]? = some t1 ∧ P.underlying t1 = some d1 ∧ ∀ k, d1 ≠ .int k)
    {a : Addr} {len cap n : Nat} {x : Value} {new : List Value} {w w' : World} (hn : (Builtin.lenOf x).run P w = .ok n w) (hneed : len + n ≤ cap)
    (hnew : (Builtin.firstCells te.size n x).run P w = .ok new.toArray w) (hst : (storeCells (a.add (len * te.size)) new).run P w = .ok () w') (ty : TypeId) :
    (Builtin.append_ ts ty #[.slice (some a) len cap, x]).run P w = .ok (.slice (some a) (len + n) cap) w' := by
  have e0 : (#[.slice (some a) len cap, x] : Array Value)[0]? = some (.slice (some a) len cap) := rfl
  have e1 : (#[.slice (some a) len cap, x] : Array Value)[1]? = some x := rfl
  rcases hts1 with h1 | ⟨t1, d1, h1, hu, hd⟩
  · simp only [Builtin.append_, hts, h1, e0, e1, Sem.run_bind, hti.run_und, Result.andThen_ok, hte.run_size, Sem.run_pure, Bool.false_eq_true, if_false, hn, Bool.not_false, if_true]
    rw [if_pos hneed]
    simp only [Sem.run_bind, hnew, Result.andThen_ok, hst, Sem.run_pure]
  · have hu1 : ∀ w : World, (underlying t1).run P w = .ok d1 w := fun w => by simp [underlying, hu]
    cases d1 with
    | int k => exact absurd rfl (hd k)
    | _ =>
      simp only [Builtin.append_, hts, h1, e0, e1, Sem.run_bind, hti.run_und, Result.andThen_ok, hte.run_size, Sem.run_pure, hu1, Bool.false_eq_true, if_false, hn, Bool.not_false, if_true]
      rw [if_pos hneed]
      simp only [Sem.run_bind, hnew, Result.andThen_ok, hst, Sem.run_pure]
end Go.Ev
