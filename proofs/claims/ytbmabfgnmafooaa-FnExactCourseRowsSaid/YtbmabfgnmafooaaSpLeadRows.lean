/- LeadRows, of the reference and of the program: what each returns. -/
import Derived.Test.YtbmabfgnmafooaaWalkHd
import Derived.Test.YtbmabfgnmafooaaWalkM
namespace Go.Proofs.Ytbmabfgnmafooaa
open Go.RowKit
set_option linter.unusedVariables false

theorem rowsTo_take (r : ByteArray) (cs : List ByteArray) (n : Nat) : (rowsTo r cs (n + 1)).take n = rowsTo r cs n := by
  rw [rowsTo_succ, List.take_append_of_le_length (by simp [rowsTo]), List.take_of_length_le (by simp [rowsTo])]
theorem Own.capI {w : World} {E : TypeId} {lo hi n c : Nat} {A : Option Addr} {xs : List Value} (h : Own w E lo hi A n c xs) : (n : Int) ≤ (c : Int) := by
  rcases h.1.2 with ⟨e, h0⟩ | ⟨g, cap, cur, e, _, _, h1, _⟩
  · omega
  · injection e with e1 e2 e3; omega
theorem rowsTo_length (r : ByteArray) (cs : List ByteArray) (n : Nat) : (rowsTo r cs n).length = n := by simp [rowsTo]
set_option maxRecDepth 100000 in
set_option maxHeartbeats 1000000 in
theorem leadRows_any (nm : ByteArray) (st : Int) (A : Option Addr) (n c : Nat) (ss : List ByteArray) (r : ByteArray) (W : World) (hn : n ≤ 40) (hr : Rd W A n (strsV ss)) (hrow : IsRow (bs r)) (hc : ∀ s ∈ ss, chB r.size s = true) :
    Calls Try.prog 68 #[.agg #[.string nm, .int .i64 st, .slice A n c], .string r] W fun e w' => ∃ A2 c2, e = .returned (.slice A2 n c2) ∧ Rd w' A2 n (strsV (rowsTo r ss n)) ∧ Below W.heap.size W w' := by
  have HL : Hid (∀ W', Below W.heap.size W W' → Calls Try.prog 74 #[.string r, .slice A n c] W' (RetS 9 (strsV (rowsTo r ss (n + 1))) W')) := fun W' h => rowsUnder_any A n c ss r W' hn (hr.below h) hrow hc
  have hbox := box3 W 27 (.string nm) (.int .i64 st) (.slice A n c)
  obtain ⟨B0, hB0⟩ : ∃ B, B = W.alloc (.cells #[.string nm, .int .i64 st, .slice A n c] 27) := ⟨_, rfl⟩
  rw [← hB0] at hbox
  have Hbox := Lib.hid hbox
  have hbB : Below W.heap.size W B0 := by rw [hB0]; exact below_alloc _ _
  have hsB : W.heap.size < B0.heap.size := by rw [hB0]; simp
  have hnI : (n : Int) ≤ ((n + 1 : Nat) : Int) := by omega
  have h0n : (0 : Int) ≤ (n : Int) := by omega
  clear hr hrow hc
  go_enter Try.func68, Try.ntmps68
  go_wp2
  rw [← hB0]
  obtain ⟨f0, f1, f2⟩ := hbox
  clear hB0
  have HL2 := Lib.hid (HL.out B0.drew hbB.drew)
  go_region_held3 (fun w' => w'.cell? ⟨W.heap.size, 1, none⟩ = some (.int .i64 st) ∧ w'.cell? ⟨W.heap.size, 2, none⟩ = some (.slice A n c))
    (first | go_keep | exact Hbox.out.2 | (exact (keep3 hb2 (by simpa using hsB) ⟨f0, f1, f2⟩).2))
    (first | (go_at_call 74; refine HL2.out.mono ?_; rintro e x2 ⟨A2, n2, c2, rfl, ho2, hb2⟩; (have hn2 : n2 = n + 1 := (by have := ho2.rd.slen; rw [rowsTo_length] at this; omega)); subst hn2; obtain ⟨g2, rfl, hg1, hg2, hg3⟩ := ho2.form (by omega); (have hcap : (n : Int) ≤ (c2 : Int) := (by have := ho2.capI; omega))))
  have HB2 : Hid (Below W.heap.size W x2) := hbB.drew.trans (hb2.mono hbB.drew.size)
  have HRd : Hid (Rd x2 (some ⟨g2, 0, none⟩) n (strsV (rowsTo r ss n))) := by
    have := ho2.rd.take (m := n) (by omega)
    rw [rowsTo_take] at this; exact this
  clear ho2
  go_wp2
  go_ret
  exact ⟨_, _, rfl, HRd.out, HB2.out⟩
end Go.Proofs.Ytbmabfgnmafooaa
