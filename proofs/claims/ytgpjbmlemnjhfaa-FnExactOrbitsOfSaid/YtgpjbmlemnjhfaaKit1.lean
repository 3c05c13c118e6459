/- Small laws on bits at int, and on a mask of the cells of a row that were met. -/
import Derived.Test.YtgpjbmlemnjhfaaPlain1
import Derived.WalkKit
import Derived.Laws.BitsAllLaws
import Derived.Laws.BitsLemmas
namespace Go.Proofs.Ytgpjbmlemnjhfaa
open Go.RowKit

theorem ret_b {b v : Bool} (h : b = v) : Ending.returned (.bool v) = .returned (.bool b) := by rw [h]
theorem ret_s {b v : ByteArray} (h : b = v) : Ending.returned (.string v) = .returned (.string b) := by rw [h]
theorem ret_i {b v : Int} (h : b = v) : Ending.returned (.int .i64 v) = .returned (.int .i64 b) := by rw [h]
theorem ret_sb {b v : ByteArray} {x : Bool} (h : b = v) : Ending.returned (.tuple #[.string v, .bool x]) = .returned (.tuple #[.string b, .bool x]) := by rw [h]
theorem ret_slb {A : Option Addr} {n c : Nat} {b v : Bool} (h : b = v) : Ending.returned (.tuple #[.slice A n c, .bool v]) = .returned (.tuple #[.slice A n c, .bool b]) := by rw [h]
theorem val_i {a b : Int} (h : a = b) : Value.int .i64 a = Value.int .i64 b := by rw [h]
theorem val_b {a b : Bool} (h : a = b) : Value.bool a = Value.bool b := by rw [h]

theorem ofInt_i64 (a : Nat) (ha : a < 9223372036854775808) : (BitVec.ofInt 64 (a : Int)).toNat = a := by
  rw [BitVec.ofInt_natCast, BitVec.toNat_ofNat]; exact Nat.mod_eq_of_lt (by omega)
theorem i64_and_nat (a b : Nat) (ha : a < 9223372036854775808) (hb : b < 9223372036854775808) : bits .and .i64 (a : Int) (b : Int) = ((a &&& b : Nat) : Int) := by
  have hx : a &&& b < 2 ^ 63 := Nat.and_lt_two_pow _ (by omega)
  show IntKind.i64.wrap ((BitVec.ofInt 64 (a : Int) &&& BitVec.ofInt 64 (b : Int)).toNat : Int) = _
  rw [BitVec.toNat_and, ofInt_i64 a ha, ofInt_i64 b hb, IntKind.wrap_i64]
  omega
theorem i64_or_nat (a b : Nat) (ha : a < 9223372036854775808) (hb : b < 9223372036854775808) : bits .or .i64 (a : Int) (b : Int) = ((a ||| b : Nat) : Int) := by
  have hx : a ||| b < 2 ^ 63 := Nat.or_lt_two_pow (by omega) (by omega)
  show IntKind.i64.wrap ((BitVec.ofInt 64 (a : Int) ||| BitVec.ofInt 64 (b : Int)).toNat : Int) = _
  rw [BitVec.toNat_or, ofInt_i64 a ha, ofInt_i64 b hb, IntKind.wrap_i64]
  omega

def maskN (l : List UInt8) : Nat := l.foldl (fun m c => m ||| 2 ^ dig c) 0
theorem maskN_snoc (l : List UInt8) (c : UInt8) : maskN (l ++ [c]) = maskN l ||| 2 ^ dig c := by simp [maskN]
theorem foldl_lt (l : List UInt8) (h : ∀ c ∈ l, dig c < 8) : ∀ m, m < 2 ^ 8 → l.foldl (fun m c => m ||| 2 ^ dig c) m < 2 ^ 8 := by
  induction l with
  | nil => intro m hm; exact hm
  | cons x t ih =>
    intro m hm
    refine ih (fun c hc => h c (by simp [hc])) _ (Nat.or_lt_two_pow hm ?_)
    exact Nat.pow_lt_pow_right (by omega) (h x (by simp))
theorem maskN_lt {l : List UInt8} (h : ∀ c ∈ l, dig c < 8) : maskN l < 256 := foldl_lt l h 0 (by omega)
theorem foldl_bit (l : List UInt8) (d : Nat) : ∀ m, (l.foldl (fun m c => m ||| 2 ^ dig c) m).testBit d = (m.testBit d || l.any fun c => dig c == d) := by
  induction l with
  | nil => intro m; simp
  | cons x t ih =>
    intro m
    simp only [List.foldl_cons, ih, Nat.testBit_or, Nat.testBit_two_pow, List.any_cons, Bool.or_assoc]
    congr 2
theorem maskN_bit (l : List UInt8) (d : Nat) : (maskN l).testBit d = l.any fun c => dig c == d := by
  unfold maskN; rw [foldl_bit]; simp

theorem mask_or {l : List UInt8} (h : ∀ c ∈ l, dig c < 8) {d : Nat} (hd : d < 8) : bits .or .i64 ((maskN l : Nat) : Int) (wrap64 (2 ^ d)) = ((maskN l ||| 2 ^ d : Nat) : Int) := by
  have h1 := maskN_lt h
  have h2 : (2 : Nat) ^ d < 2 ^ 8 := Nat.pow_lt_pow_right (by omega) hd
  have e : wrap64 (2 ^ d) = ((2 ^ d : Nat) : Int) := by
    obtain rfl | rfl | rfl | rfl | rfl | rfl | rfl | rfl : d = 0 ∨ d = 1 ∨ d = 2 ∨ d = 3 ∨ d = 4 ∨ d = 5 ∨ d = 6 ∨ d = 7 := by omega
    all_goals (unfold wrap64; simp)
  rw [e, i64_or_nat _ _ (by omega) (by omega)]
theorem mask_and {l : List UInt8} (h : ∀ c ∈ l, dig c < 8) (d : Nat) : (bits .and .i64 (((maskN l : Nat) : Int) / 2 ^ d) 1 == 1) = (maskN l).testBit d := by
  have h1 := maskN_lt h
  have e : ((maskN l : Nat) : Int) / 2 ^ d = ((maskN l / 2 ^ d : Nat) : Int) := by rw [Int.natCast_ediv, Int.natCast_pow]; rfl
  have h2 : maskN l / 2 ^ d ≤ maskN l := Nat.div_le_self _ _
  rw [e, show (1 : Int) = ((1 : Nat) : Int) from rfl, i64_and_nat _ _ (by omega) (by omega), Nat.and_one_is_mod, Nat.testBit_eq_decide_div_mod_eq]
  rw [Bool.eq_iff_iff]; simp; omega

theorem bs_get (s : ByteArray) (k : Nat) (h : k < s.size) : (bs s)[k]'(by rw [size_bs]; exact h) = s[k] := rfl
theorem take_snoc (s : ByteArray) (k : Nat) (h : k < s.size) : (bs s).take (k + 1) = (bs s).take k ++ [s[k]] := by
  rw [List.take_succ_eq_append_getElem (by rw [size_bs]; exact h), bs_get]
theorem get_mem (s : ByteArray) (k : Nat) (h : k < s.size) : s[k] ∈ bs s := by rw [← bs_get s k h]; exact List.getElem_mem _
theorem getD_bs (s : ByteArray) (k : Nat) (h : k < s.size) : (bs s).getD k 0 = s[k] := by
  rw [← bs_get s k h]; simp [List.getElem?_eq_getElem (show k < (bs s).length by rw [size_bs]; exact h)]

theorem mem_take_bs (s : ByteArray) (q k : Nat) (hq : q < k) (hs : q < s.size) : s[q] ∈ (bs s).take k := by
  rw [← bs_get s q hs, List.mem_take_iff_getElem]
  exact ⟨q, by rw [size_bs]; omega, rfl⟩

theorem ne_list {s t : ByteArray} (h : s ≠ t) : (s.toList == t.toList) = false := by
  rw [beq_eq_false_iff_ne, ByteArray.toList_eq, ByteArray.toList_eq]
  exact fun e => h (bs_inj e)

/-- the first k cells are fit for a row of n -/
def OkTo (l : List UInt8) (n k : Nat) : Prop := (∀ c ∈ l.take k, 49 ≤ c.toNat ∧ c.toNat ≤ 48 + n) ∧ (l.take k).Nodup
theorem OkTo.zero (l : List UInt8) (n : Nat) : OkTo l n 0 := by simp [OkTo]
theorem OkTo.dig {l : List UInt8} {n k : Nat} (h : OkTo l n k) (hn : n ≤ 8) : ∀ c ∈ l.take k, dig c < 8 := fun c hc => by
  have := h.1 c hc; unfold Go.Proofs.Ytgpjbmlemnjhfaa.dig; omega
theorem OkTo.succ {s : ByteArray} {n k : Nat} (h : OkTo (bs s) n k) (hk : k < s.size) (h1 : 49 ≤ s[k].toNat) (h2 : s[k].toNat ≤ 48 + n) (h3 : s[k] ∉ (bs s).take k) : OkTo (bs s) n (k + 1) := by
  unfold OkTo
  rw [take_snoc s k hk]
  refine ⟨fun c hc => ?_, ?_⟩
  · rcases List.mem_append.1 hc with hc | hc
    · exact h.1 c hc
    · simp at hc; subst hc; exact ⟨h1, h2⟩
  · rw [List.nodup_append]
    exact ⟨h.2, by simp, fun a ha b hb => by simp at hb; subst hb; rintro rfl; exact h3 ha⟩
theorem OkTo.row {s : ByteArray} (h : OkTo (bs s) s.size s.size) (h3 : 3 ≤ s.size) (h8 : s.size ≤ 8) : rowB s = true := by
  have e : (bs s).take s.size = bs s := by rw [← size_bs]; exact List.take_length
  unfold OkTo at h; rw [e] at h
  simp only [rowB, decide_eq_true_eq]
  exact ⟨by rw [size_bs]; exact h3, by rw [size_bs]; exact h8, by rw [size_bs]; exact h.1, h.2⟩
theorem row_len {s : ByteArray} (h : s.size < 3 ∨ 8 < s.size) : rowB s = false := by
  simp only [rowB, decide_eq_false_iff_not]
  intro hr
  have h1 := hr.1; have h2 := hr.2.1; rw [size_bs] at h1 h2; omega
theorem row_lo {s : ByteArray} {k : Nat} (hk : k < s.size) (h : s[k].toNat < 49 ∨ 48 + s.size < s[k].toNat) : rowB s = false := by
  simp only [rowB, decide_eq_false_iff_not]
  intro hr
  have := hr.2.2.1 _ (get_mem s k hk); rw [size_bs] at this; omega
theorem row_twice {s : ByteArray} {k : Nat} (hk : k < s.size) (h : s[k] ∈ (bs s).take k) : rowB s = false := by
  simp only [rowB, decide_eq_false_iff_not]
  intro hr
  have hn := hr.2.2.2
  rw [← List.take_append_drop (k + 1) (bs s), take_snoc s k hk, List.nodup_append, List.nodup_append] at hn
  exact hn.1.2.2 _ h _ (by simp) rfl
theorem dig_any {l : List UInt8} {c : UInt8} (h : ∀ x ∈ l, 49 ≤ x.toNat) (hc : 49 ≤ c.toNat) : (l.any fun x => dig x == dig c) = decide (c ∈ l) := by
  rw [Bool.eq_iff_iff]
  simp only [List.any_eq_true, beq_iff_eq, decide_eq_true_eq]
  constructor
  · rintro ⟨x, hx, e⟩
    have := h x hx
    unfold dig at e
    have : x = c := u8_eq (by omega)
    exact this ▸ hx
  · exact fun hm => ⟨c, hm, rfl⟩

end Go.Proofs.Ytgpjbmlemnjhfaa
