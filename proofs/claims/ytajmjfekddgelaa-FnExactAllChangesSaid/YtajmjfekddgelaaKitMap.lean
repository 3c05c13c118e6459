/- A set of strings as a map with bools that a call makes. -/
import Derived.Test.YtajmjfekddgelaaKit5
import Derived.Test.YtajmjfekddgelaaWalkA
import Derived.StringKeys
import Derived.Maps.Own
import Derived.Maps.OwnOps
import Derived.Maps.Views
namespace Go.Proofs.Ytajmjfekddgelaa
open Go.RowKit Go.Maps
set_option linter.unusedVariables false

def keyL (s : ByteArray) : Lit := .string s.data.toList
theorem keyL_inj {s t : ByteArray} (h : keyL s = keyL t) : s = t := by
  unfold keyL at h
  injection h with h
  exact bs_inj h
abbrev addS (D : DataW Unit) (s : ByteArray) : DataW Unit := D.put (keyL s) (.lit (.bool true))
def setD (l : List ByteArray) : DataW Unit := l.foldl addS (.map [])
theorem setD_nil : setD [] = .map [] := rfl
theorem setD_snoc (l : List ByteArray) (s : ByteArray) : setD (l ++ [s]) = (setD l).put (keyL s) (.lit (.bool true)) := by simp [setD]
theorem isMap_put {D : DataW Unit} (h : IsMap D) (k : Lit) (d : DataW Unit) : IsMap (D.put k d) := by
  obtain ⟨es, rfl⟩ := h
  exact ⟨_, rfl⟩
/-- whether a string is in a list -/
def hasB (l : List ByteArray) (s : ByteArray) : Bool := l.any fun t => decide (bs t = bs s)
theorem hasB_mem {l : List ByteArray} {s : ByteArray} : hasB l s = true ↔ s ∈ l := by
  unfold hasB
  rw [List.any_eq_true]
  constructor
  · rintro ⟨x, hx, e⟩
    have := bs_inj (of_decide_eq_true e)
    exact this ▸ hx
  · exact fun h => ⟨s, h, decide_eq_true rfl⟩
theorem setD_fold (s : ByteArray) : ∀ (l : List ByteArray) (D : DataW Unit), IsMap D → (l.foldl addS D).atKey (keyL s) (.lit (.bool false)) = if hasB l s = true then .lit (.bool true) else D.atKey (keyL s) (.lit (.bool false))
  | [], D, h => by simp [hasB]
  | x :: t, D, h => by
    have ih := setD_fold s t (addS D x) (isMap_put h _ _)
    rw [List.foldl_cons, ih]
    by_cases h1 : hasB t s = true
    · have h2 : hasB (x :: t) s = true := hasB_mem.2 (List.mem_cons_of_mem _ (hasB_mem.1 h1))
      rw [if_pos h1, if_pos h2]
    · rw [if_neg h1]
      by_cases h2 : s = x
      · subst h2
        rw [if_pos (hasB_mem.2 (List.mem_cons_self ..)), atKey_put_same h (by unfold keyL; trivial)]
      · have h3 : ¬ hasB (x :: t) s = true := fun e => by
          rcases List.mem_cons.1 (hasB_mem.1 e) with e | e
          · exact h2 e
          · exact h1 (hasB_mem.2 e)
        rw [if_neg h3, atKey_put_other (fun e => h2 (keyL_inj e))]
theorem setD_at (l : List ByteArray) (s : ByteArray) : (setD l).atKey (keyL s) (.lit (.bool false)) = .lit (.bool (hasB l s)) := by
  unfold setD
  rw [setD_fold s l _ ⟨[], rfl⟩]
  cases h : hasB l s with
  | true => rfl
  | false => rfl
theorem plainElem_bool_inv {H : Type} {P : Program} {e : TypeId} (he : P.underlying e = some .bool) {v : Value} {z : DataW H × List MemPlace} (h : plainElem P e v = some z) : ∃ x, v = .bool x ∧ z = (.lit (.bool x), []) := by
  unfold plainElem at h
  rw [he] at h
  cases v <;> simp at h
  rename_i x
  exact ⟨x, rfl, h.symm⟩
/-- 'm[k]' at bools -/
theorem wpList_lookup_own_bool {H : Type} {P : Program} (w : World) {ops : Array Oper} {rest : List Oper} {o : Oper} {a : Act} {Q : Exit → Act → World → Prop}
    (hg : o.guard = none) (m x : Operand) (t : TypeId) (hop : o.op = Op.lookup t m x false)
    (k e : TypeId) (K : Keyed P k) (ht : P.underlying t = some (.map k e)) (he : P.underlying e = some .bool) (hz : (zeroValue e).run P w = .ok (.bool false) w) (b n : Nat) (D : DataW H)
    (hm : a.eval m = .map (some b)) (hown : w.ownsMap P k (plainElem P e) b n D) (key : Value) (kl : Lit) (hx : a.eval x = key) (hkey : keyOf P k key = some kl)
    (hK : ∀ c : Bool, D.atKey kl (.lit (.bool false)) = .lit (.bool c) → wpList P ops Q rest (a.put o.dst (.bool c)) w) :
    wpList P ops Q (o :: rest) a w := by
  refine wpList_plain hg fun K' hK' => ?_
  obtain ⟨v, ps, hrun, hv⟩ := hown.lookup K ht hz (plainElem_bool he false) hkey
  obtain ⟨c, rfl, hc⟩ := plainElem_bool_inv he hv
  simp only [Prod.mk.injEq] at hc
  unfold Oper.wp
  simp [execOp, hop, hm, hx, hrun, Result.andThen]
  exact hK' _ _ (hK c hc.1)
abbrev OwnSet (w : World) (b n : Nat) (l : List ByteArray) : Prop := w.ownsMap Try.prog 9 (plainElem (H := Unit) Try.prog 4) b n (setD l)
theorem strKey : Keyed Try.prog 9 := string_keyed Try.underlying9
theorem zeroB (w : World) : (zeroValue 4).run Try.prog w = .ok (.bool false) w := by kernel_rfl
theorem keyOf_str {s : ByteArray} (h : s.size ≤ maxLen) : keyOf Try.prog 9 (.string s) = some (keyL s) := Go.WideMaps.keyOf_string_mk Try.underlying9 h
theorem OwnSet.below {w w' : World} {b n : Nat} {l : List ByteArray} (h : OwnSet w b n l) (hb : w'.heap[b]? = w.heap[b]?) : OwnSet w' b n l := by
  obtain ⟨es, clock, h1, F, hs, hD⟩ := h
  exact ⟨es, clock, hb.trans h1, F, hs, hD⟩
end Go.Proofs.Ytajmjfekddgelaa
