/- The specification's Has, InTurn, after, before; Holds, Next and Last of both. -/
import Derived.Test.YtejcmdoalhnpeaaGreatDoorNext
import Derived.IntWalk
namespace Go.Proofs.YtejcmdoalhnpeaaGreatDoor
open Go.RowKit Go.Shelf

theorem wrapI (x : Int) (h1 : -9000000000000000000 ≤ x) (h2 : x ≤ 9000000000000000000) : IntKind.i64.wrap x = x := IntWalk.i64_in _ (by omega)




/-- none of the first k -/
def noT (l : List Tn) (n : Int) (k : Nat) : Prop := ∀ i (hi : i < l.length), i < k → tnIn l[i].p l[i].f l[i].l n = false
def noS (l : List Sp) (n : Int) (k : Nat) : Prop := ∀ i (hi : i < l.length), i < k → inB n l[i].lo l[i].hi = false
theorem noT_succ {l : List Tn} {n : Int} {k : Nat} (h : noT l n k) (hk : k < l.length) (hq : tnIn l[k].p l[k].f l[k].l n = false) : noT l n (k + 1) := by
  intro i hi h'
  by_cases e : i = k
  · subst e; exact hq
  · exact h i hi (by omega)
theorem noS_succ {l : List Sp} {n : Int} {k : Nat} (h : noS l n k) (hk : k < l.length) (hq : inB n l[k].lo l[k].hi = false) : noS l n (k + 1) := by
  intro i hi h'
  by_cases e : i = k
  · subst e; exact hq
  · exact h i hi (by omega)
theorem mem_hitT {S : Mn} {n : Int} {k : Nat} (hk : k < S.ts.length) (hq : tnIn S.ts[k].p S.ts[k].f S.ts[k].l n = true) : true = mem S n := by
  have : S.ts.any (fun t => tnIn t.p t.f t.l n) = true := List.any_eq_true.2 ⟨_, List.getElem_mem hk, hq⟩
  simp [mem, this]
theorem mem_hitS {S : Mn} {n : Int} {k : Nat} (hk : k < S.ss.length) (hq : inB n S.ss[k].lo S.ss[k].hi = true) : true = mem S n := by
  have : S.ss.any (fun s => inB n s.lo s.hi) = true := List.any_eq_true.2 ⟨_, List.getElem_mem hk, hq⟩
  simp [mem, this]
theorem mem_no {S : Mn} {n : Int} (h : noT S.ts n S.ts.length) (h' : noS S.ss n S.ss.length) : false = mem S n := by
  have e1 : S.ts.any (fun t => tnIn t.p t.f t.l n) = false := by
    simp only [List.any_eq_false]
    intro x hx
    obtain ⟨i, hi, rfl⟩ := List.getElem_of_mem hx
    simp [h i hi hi]
  have e2 : S.ss.any (fun s => inB n s.lo s.hi) = false := by
    simp only [List.any_eq_false]
    intro x hx
    obtain ⟨i, hi, rfl⟩ := List.getElem_of_mem hx
    simp [h' i hi hi]
  simp [mem, e1, e2]


end Go.Proofs.YtejcmdoalhnpeaaGreatDoor
