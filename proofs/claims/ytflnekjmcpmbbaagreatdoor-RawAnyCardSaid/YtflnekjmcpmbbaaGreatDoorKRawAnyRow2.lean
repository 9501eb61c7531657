/- Part 2 of the texts beneath: Pure, Num, Crc, Get. -/
import Derived.WalkKit
import Derived.Test.YtflnekjmcpmbbaaGreatDoorProg
import Derived.Test.YtflnekjmcpmbbaaGreatDoorKRawAnyRow1
import Derived.Lib.Hide
import Derived.Laws.Slices

/- The plain functions that the walks' contracts name: numbers as bytes, sums, seals, records. No program in sight. -/
set_option linter.unusedVariables false
set_option linter.unusedSimpArgs false
namespace Go.Proofs.YtflnekjmcpmbbaaGreatDoor

/-- P2.1: a number as bytes. -/
def putL (n : Nat) : List UInt8 := if 127 < n then UInt8.ofNat (n % 128 + 128) :: putL (n / 128) else [UInt8.ofNat n]
termination_by n
decreasing_by omega

theorem putL_big {n : Nat} (h : 127 < n) : putL n = UInt8.ofNat (n % 128 + 128) :: putL (n / 128) := by rw [putL, if_pos h]
theorem putL_small {n : Nat} (h : n ≤ 127) : putL n = [UInt8.ofNat n] := by rw [putL, if_neg (by omega)]
theorem putL_len : ∀ (k n : Nat), n < 128 ^ (k + 1) → (putL n).length ≤ k + 1
  | 0, n, h => by rw [putL_small (by omega)]; simp
  | k + 1, n, h => by
    by_cases hb : 127 < n
    · rw [putL_big hb]
      have := putL_len k (n / 128) (by rw [Nat.pow_succ] at h; omega)
      simp; omega
    · rw [putL_small (by omega)]; simp

/-- P3.1: the register behind one bit, one byte, some bytes; the sum. -/
def crcBit (x : Nat) : Nat := if x % 2 = 1 then (x / 2) ^^^ 3988292384 else x / 2
def crcBits : Nat → Nat → Nat
  | 0, x => x
  | k + 1, x => crcBits k (crcBit x)
def crcByte (x : Nat) (c : UInt8) : Nat := crcBits 8 (x ^^^ c.toNat)
def crcReg (bs : List UInt8) : Nat := bs.foldl crcByte 4294967295
def crcSum (bs : List UInt8) : Nat := crcReg bs ^^^ 4294967295
theorem xor_lt32 {a b : Nat} (ha : a < 4294967296) (hb : b < 4294967296) : a ^^^ b < 4294967296 := Nat.xor_lt_two_pow (n := 32) ha hb
theorem crcBit_lt {x : Nat} (h : x < 4294967296) : crcBit x < 4294967296 := by
  unfold crcBit
  split
  · exact xor_lt32 (by omega) (by omega)
  · omega
theorem crcBits_lt : ∀ (k : Nat) {x : Nat}, x < 4294967296 → crcBits k x < 4294967296
  | 0, _, h => h
  | k + 1, _, h => crcBits_lt k (crcBit_lt h)
theorem crcBits_succ : ∀ (k x : Nat), crcBits (k + 1) x = crcBit (crcBits k x)
  | 0, _ => rfl
  | k + 1, x => by rw [crcBits, crcBits_succ k (crcBit x)]; rfl
theorem crcByte_lt {x : Nat} (h : x < 4294967296) (c : UInt8) : crcByte x c < 4294967296 := by
  have := c.toNat_lt
  exact crcBits_lt 8 (xor_lt32 h (by omega))
theorem crcFold_lt : ∀ (bs : List UInt8) {x : Nat}, x < 4294967296 → bs.foldl crcByte x < 4294967296
  | [], _, h => h
  | c :: r, _, h => crcFold_lt r (crcByte_lt h c)
theorem crcReg_lt (bs : List UInt8) : crcReg bs < 4294967296 := crcFold_lt bs (by omega)
theorem crcSum_lt (bs : List UInt8) : crcSum bs < 4294967296 := xor_lt32 (crcReg_lt bs) (by omega)
theorem crcReg_snoc (bs : List UInt8) (c : UInt8) : crcReg (bs ++ [c]) = crcByte (crcReg bs) c := by simp [crcReg]
theorem take_succ_snoc (bs : List UInt8) (k : Nat) (h : k < bs.length) : bs.take (k + 1) = bs.take k ++ [bs[k]] := by
  rw [List.take_succ_eq_append_getElem h]

/-- P2.1: a text; four bytes. P3.1: a seal. -/
def textL (s : List UInt8) : List UInt8 := putL s.length ++ s
def fourL (n : Nat) : List UInt8 := [UInt8.ofNat n, UInt8.ofNat (n / 256), UInt8.ofNat (n / 65536), UInt8.ofNat (n / 16777216)]
theorem fourL_length (n : Nat) : (fourL n).length = 4 := rfl
def headL (b : List UInt8) : List UInt8 := fourL b.length ++ fourL (crcSum (fourL b.length)) ++ fourL (crcSum b)
def sealL (b : List UInt8) : List UInt8 := headL b ++ b
theorem headL_length (b : List UInt8) : (headL b).length = 12 := rfl
theorem sealL_length (b : List UInt8) : (sealL b).length = 12 + b.length := by unfold sealL; rw [List.length_append, headL_length]

/-- P2.1: reading a number: where it stops, what it is, how many bytes it takes (0: there is none). -/
def valL : List UInt8 → Nat
  | [] => 0
  | c :: r => c.toNat % 128 + 128 * valL r
def stopAt : Nat → List UInt8 → Option Nat
  | 0, _ => none
  | _ + 1, [] => none
  | f + 1, c :: r => if c.toNat < 128 then some 0 else (stopAt f r).map (· + 1)
def getL (b : List UInt8) : Nat × Nat :=
  match stopAt 10 b with
  | none => (0, 0)
  | some k => if (0 < k ∧ b[k]?.getD 0 = 0) ∨ (k = 9 ∧ 1 < (b[k]?.getD 0).toNat) then (0, 0) else (valL (b.take (k + 1)), k + 1)
theorem valL_lt : ∀ (l : List UInt8), valL l < 128 ^ l.length
  | [] => by simp [valL]
  | c :: r => by
    have := valL_lt r
    have h := Nat.mod_lt c.toNat (show 0 < 128 by omega)
    simp only [valL, List.length_cons, Nat.pow_succ]
    omega
theorem valL_snoc : ∀ (l : List UInt8) (c : UInt8), valL (l ++ [c]) = valL l + (c.toNat % 128) * 128 ^ l.length
  | [], c => by simp [valL]
  | x :: r, c => by
    simp only [List.cons_append, valL, valL_snoc r c, List.length_cons, Nat.pow_succ, Nat.mul_add, Nat.add_assoc]
    congr 2
    rw [Nat.mul_comm 128, Nat.mul_assoc]
/-- The first byte below 128 among the first f. -/
theorem stopAt_at : ∀ (f k : Nat) (b : List UInt8), k < f → k < b.length → (∀ j, j < k → 128 ≤ (b[j]?.getD 0).toNat) → (b[k]?.getD 0).toNat < 128 → stopAt f b = some k
  | 0, _, _, h, _, _, _ => by omega
  | _ + 1, _, [], _, h, _, _ => by simp at h
  | f + 1, 0, c :: r, _, _, _, h => by simp at h; simp [stopAt, h]
  | f + 1, k + 1, c :: r, h1, h2, h3, h4 => by
    have h0 := h3 0 (by omega)
    simp at h0
    have := stopAt_at f k r (by omega) (by simpa using h2) (fun j hj => by have := h3 (j + 1) (by omega); simpa using this) (by simpa using h4)
    simp [stopAt, Nat.not_lt.2 h0, this]
theorem stopAt_none : ∀ (f : Nat) (b : List UInt8), (∀ j, j < f → j < b.length → 128 ≤ (b[j]?.getD 0).toNat) → stopAt f b = none
  | 0, _, _ => rfl
  | _ + 1, [], _ => rfl
  | f + 1, c :: r, h => by
    have h0 := h 0 (by omega) (by simp)
    simp at h0
    have := stopAt_none f r (fun j hj hl => by have := h (j + 1) (by omega) (by simp; omega); simpa using this)
    simp [stopAt, Nat.not_lt.2 h0, this]
theorem stopAt_some : ∀ (f : Nat) (b : List UInt8) (k : Nat), stopAt f b = some k → k < f ∧ k < b.length ∧ (b[k]?.getD 0).toNat < 128
  | 0, _, _, h => by simp [stopAt] at h
  | _ + 1, [], _, h => by simp [stopAt] at h
  | f + 1, c :: r, k, h => by
    unfold stopAt at h
    split at h
    · cases h; simp_all
    · cases hs : stopAt f r with
      | none => simp [hs] at h
      | some j =>
        simp [hs] at h
        subst h
        have := stopAt_some f r j hs
        simp; omega
theorem drop_digit (bs : List UInt8) (K j : Nat) (hK : K < bs.length) (hj : j ≤ K) :
    valL ((bs.take (K + 1)).drop (K - j)) = (bs[K - j]'(by omega)).toNat % 128 + 128 * valL ((bs.take (K + 1)).drop (K + 1 - j)) := by
  have h1 : K - j < (bs.take (K + 1)).length := by simp; omega
  rw [List.drop_eq_getElem_cons h1]
  have h2 : K - j + 1 = K + 1 - j := by omega
  simp only [valL, h2, List.getElem_take]
theorem digit_len (bs : List UInt8) (K j : Nat) (hK : K < bs.length) (hj : j ≤ K + 1) : ((bs.take (K + 1)).drop (K + 1 - j)).length = j := by simp; omega
theorem getL_none (b : List UInt8) (h : ∀ j, j < 10 → j < b.length → 128 ≤ (b[j]?.getD 0).toNat) : getL b = (0, 0) := by
  unfold getL; rw [stopAt_none 10 b h]
theorem getL_bad (b : List UInt8) (k : Nat) (h10 : k < 10) (hk : k < b.length) (hb : ∀ j, j < k → 128 ≤ (b[j]?.getD 0).toNat) (hc : (b[k]?.getD 0).toNat < 128)
    (h : (0 < k ∧ b[k]?.getD 0 = 0) ∨ (k = 9 ∧ 1 < (b[k]?.getD 0).toNat)) : getL b = (0, 0) := by
  unfold getL; rw [stopAt_at 10 k b h10 hk hb hc]; simp only [if_pos h]
theorem getL_good (b : List UInt8) (k : Nat) (h10 : k < 10) (hk : k < b.length) (hb : ∀ j, j < k → 128 ≤ (b[j]?.getD 0).toNat) (hc : (b[k]?.getD 0).toNat < 128)
    (h : ¬ ((0 < k ∧ b[k]?.getD 0 = 0) ∨ (k = 9 ∧ 1 < (b[k]?.getD 0).toNat))) : getL b = (valL (b.take (k + 1)), k + 1) := by
  unfold getL; rw [stopAt_at 10 k b h10 hk hb hc]; simp only [if_neg h]
theorem getL_le (b : List UInt8) : (getL b).2 ≤ b.length ∧ (getL b).2 ≤ 10 := by
  unfold getL
  split
  · simp
  · rename_i k h
    have := stopAt_some _ _ _ h
    split
    · simp
    · simp only; omega
theorem getL_lt (b : List UInt8) : (getL b).1 < 18446744073709551616 := by
  unfold getL
  split
  · simp
  · rename_i k h
    have h1 := stopAt_some _ _ _ h
    split
    · simp
    · rename_i hc
      simp only
      have hs : b.take (k + 1) = b.take k ++ [b[k]?.getD 0] := by
        rw [List.take_succ_eq_append_getElem h1.2.1]
        simp [h1.2.1]
      have hv := valL_lt (b.take k)
      rw [hs, valL_snoc]
      have hl : (b.take k).length = k := by simp; omega
      rw [hl] at hv ⊢
      rcases Nat.lt_or_ge k 9 with h9 | h9
      · have h2 : (b[k]?.getD 0).toNat % 128 ≤ 127 := by omega
        have h3 : (128 : Nat) ^ k ≤ 128 ^ 8 := Nat.pow_le_pow_right (by omega) (by omega)
        have h4 := Nat.mul_le_mul h2 h3
        omega
      · obtain rfl : k = 9 := by omega
        have h5 : (b[9]?.getD 0).toNat ≤ 1 := by
          rcases Nat.lt_or_ge 1 (b[9]?.getD 0).toNat with h | h
          · exact absurd (Or.inr ⟨rfl, h⟩) hc
          · exact h
        have h6 : (b[9]?.getD 0).toNat % 128 ≤ 1 := by omega
        have h4 := Nat.mul_le_mul h6 (Nat.le_refl (128 ^ 9))
        omega

def getTextL (b : List UInt8) : List UInt8 × Nat :=
  if (getL b).2 = 0 ∨ b.length - (getL b).2 < (getL b).1 then ([], 0) else ((b.drop (getL b).2).take (getL b).1, (getL b).2 + (getL b).1)
theorem getTextL_bad (b : List UInt8) (h : (getL b).2 = 0 ∨ b.length - (getL b).2 < (getL b).1) : getTextL b = ([], 0) := by unfold getTextL; rw [if_pos h]
theorem getTextL_good (b : List UInt8) (h : ¬ ((getL b).2 = 0 ∨ b.length - (getL b).2 < (getL b).1)) : getTextL b = ((b.drop (getL b).2).take (getL b).1, (getL b).2 + (getL b).1) := by unfold getTextL; rw [if_neg h]
theorem getTextL_le (b : List UInt8) : (getTextL b).2 ≤ b.length ∧ (getTextL b).1.length ≤ b.length := by
  have h := (getL_le b).1
  unfold getTextL
  split
  · simp
  · rename_i hc
    simp only [List.length_take, List.length_drop]
    omega
def getFourL (b : List UInt8) : Nat := if b.length < 4 then 0 else (b[0]?.getD 0).toNat + 256 * (b[1]?.getD 0).toNat + 65536 * (b[2]?.getD 0).toNat + 16777216 * (b[3]?.getD 0).toNat

/-- A reader: what is left, and whether something did not go. -/
def stepR (s : List UInt8 × Bool) (n : Nat) : List UInt8 × Bool := if s.2 = true ∨ n = 0 then ([], true) else (s.1.drop n, false)
def numR (s : List UInt8 × Bool) (most : Nat) : Nat × (List UInt8 × Bool) :=
  let s' := stepR s (if most < (getL s.1).1 then 0 else (getL s.1).2)
  (if s'.2 then 0 else (getL s.1).1, s')
def textR (s : List UInt8 × Bool) : List UInt8 × (List UInt8 × Bool) :=
  let s' := stepR s (getTextL s.1).2
  (if s'.2 then [] else (getTextL s.1).1, s')
def doneR (s : List UInt8 × Bool) : Bool := !s.2 && s.1.length == 0
end Go.Proofs.YtflnekjmcpmbbaaGreatDoor

/- Walks: folio/number, and the reference's twins. -/
set_option linter.unusedVariables false
set_option linter.unusedSimpArgs false
namespace Go.Proofs.YtflnekjmcpmbbaaGreatDoor
open Go.RowKit

theorem infoU8 : (Tryz.prog.info? 5).map (fun i => (i.zero, i.size, i.bytes)) = some (some (.int .u8 0), 1, 1) := by kernel_rfl

theorem or128n (k : Nat) : bits BinOp.or IntKind.u8 ((k : Int) % 256) 128 = ((UInt8.ofNat (k % 128 + 128)).toNat : Int) := by
  have h : ∀ x : Fin 256, bits BinOp.or IntKind.u8 ((x.val : Nat) : Int) 128 = ((x.val % 128 + 128 : Nat) : Int) := by decide +kernel
  have h1 := h ⟨k % 256, by omega⟩
  simp only [Int.natCast_emod] at h1
  rw [show ((256 : Nat) : Int) = 256 from rfl] at h1
  rw [h1, UInt8.toNat_ofNat']
  congr 1
  omega
theorem or128 (k : Nat) : (Value.int .u8 (bits BinOp.or IntKind.u8 ((k : Int) % 256) 128)) = u8v (UInt8.ofNat (k % 128 + 128)) := by
  unfold u8v; rw [or128n]
theorem low8 (k : Nat) (h : k ≤ 127) : (Value.int .u8 (k : Int)) = u8v (UInt8.ofNat k) := by
  unfold u8v
  congr 1
  rw [UInt8.toNat_ofNat']
  omega

set_option maxHeartbeats 400000 in
set_option maxRecDepth 100000 in
theorem Put_any (N : Nat) (w : World) (hN : N < 18446744073709551616) :
    Calls Tryz.prog 61 #[.int .u64 N] w fun e w' => ∃ v, e = .returned v ∧ w'.ownsRow w.heap.size 5 1 v (putL N).length (bvs (putL N)) ∧ Kept noF w w' := by
  have HL : (putL N).length ≤ 10 := putL_len 9 N (by omega)
  clear hN
  go_enter Tryz.func61, Tryz.ntmps61
  go_wp2
  go_loopw [0, 3] (fun n b wr => ∃ (k : Nat) (pre : List UInt8), n = .int .u64 k ∧ k ≤ N ∧ putL N = pre ++ putL k ∧ wr.ownsRow w.heap.size 5 1 b pre.length (bvs pre) ∧ Kept noF w wr) (fun n _ _ => (intOf n).toNat)
  case atStart => exact ⟨N, [], rfl, Nat.le_refl _, rfl, World.ownsRow_nil _ _ _ _, Kept.refl _ _⟩
  case round =>
    obtain ⟨k, pre, rfl, hk, hput, hown, hkept⟩ := hrel
    have hpl : pre.length + 1 ≤ 11 := by rw [hput, List.length_append] at HL; omega
    have hsz := hkept.size
    have HP := Lib.hid hput; clear hput
    go_wp2_with (at_builtin; refine wpList_app rfl _ _ 23 rfl w.heap.size 5 (.int .u8 0) 1 1 Tryz.underlying23 infoU8 rfl (by decide) _ _ _ (by rfl) (own_kept0 hown ((Kept.refl _ _).alloc _)) _ 1 [_] (by rfl) (Reads.lit _ [_] _ 1 1 rfl (by omega)) (by simp [Value.oneCell']) (by omega) (by omega) (by simp; omega) ?_; intro v' w1 hown1 hgr1)
    · have hlt : (127 : Int) < (k : Int) := by assumption
      rw [or128] at hown1
      refine ⟨⟨k / 128, pre ++ [UInt8.ofNat (k % 128 + 128)], by go_num, by omega, ?_, by simpa [bvs_append, bvs] using hown1, (hkept.alloc _).grown hgr1 (fun k hk => .inr (own_from hown k hk))⟩, by simp [intOf]; omega⟩
      rw [HP.out, putL_big (by omega)]
      simp
    · have hge : (k : Int) ≤ 127 := by assumption
      rw [low8 k (by omega)] at hown1
      go_ret
      refine ⟨_, rfl, ?_, (hkept.alloc _).grown hgr1 (fun k hk => .inr (own_from hown k hk))⟩
      rw [HP.out, putL_small (by omega), List.length_append, bvs_append]
      exact hown1

theorem add128n (k : Nat) : ((UInt8.ofNat (k % 128 + 128)).toNat : Int) = (k : Int) % 128 + 128 := by
  rw [UInt8.toNat_ofNat']
  omega

set_option maxHeartbeats 400000 in
set_option maxRecDepth 100000 in
theorem refPut_any (N : Nat) (w : World) (hN : N < 18446744073709551616) :
    Calls Tryz.prog 29 #[.int .u64 N] w fun e w' => ∃ v, e = .returned v ∧ w'.ownsRow w.heap.size 5 1 v (putL N).length (bvs (putL N)) ∧ Kept noF w w' := by
  have HL : (putL N).length ≤ 10 := putL_len 9 N (by omega)
  have HN := Lib.hid hN
  clear hN
  go_enter Tryz.func29, Tryz.ntmps29
  go_wp2
  go_loopw [0, 3] (fun n b wr => ∃ (k : Nat) (pre : List UInt8), n = .int .u64 k ∧ k ≤ N ∧ putL N = pre ++ putL k ∧ wr.ownsRow w.heap.size 5 1 b pre.length (bvs pre) ∧ Kept noF w wr) (fun n _ _ => (intOf n).toNat)
  case atStart => exact ⟨N, [], rfl, Nat.le_refl _, rfl, World.ownsRow_nil _ _ _ _, Kept.refl _ _⟩
  case round =>
    obtain ⟨k, pre, rfl, hk, hput, hown, hkept⟩ := hrel
    have hpl : pre.length + 1 ≤ 11 := by rw [hput, List.length_append] at HL; omega
    have hsz := hkept.size
    have HP := Lib.hid hput; clear hput
    have hw : IntKind.u64.wrap ((k : Int) / 128) = (k : Int) / 128 := IntWalk.u64_in _ (by have := HN.out; omega)
    go_wp2_with (at_builtin; refine wpList_app rfl _ _ 23 rfl w.heap.size 5 (.int .u8 0) 1 1 Tryz.underlying23 infoU8 rfl (by decide) _ _ _ (by rfl) (own_kept0 hown ((Kept.refl _ _).alloc _)) _ 1 [_] (by rfl) (Reads.lit _ [_] _ 1 1 rfl (by omega)) (by simp [Value.oneCell']) (by omega) (by omega) (by simp; omega) ?_; intro v' w1 hown1 hgr1)
    · have hlt : (128 : Int) ≤ (k : Int) := by assumption
      refine ⟨⟨k / 128, pre ++ [UInt8.ofNat (k % 128 + 128)], by go_num, by omega, ?_, ?_, (hkept.alloc _).grown hgr1 (fun k hk => .inr (own_from hown k hk))⟩, by simp [intOf]; omega⟩
      · rw [HP.out, putL_big (by omega)]
        simp
      · rw [bvs_append, bvs_single, add128n, List.length_append]
        exact hown1
    · have hge : (k : Int) < 128 := by assumption
      rw [low8 k (by omega)] at hown1
      go_ret
      refine ⟨_, rfl, ?_, (hkept.alloc _).grown hgr1 (fun k hk => .inr (own_from hown k hk))⟩
      rw [HP.out, putL_small (by omega), List.length_append, bvs_append]
      exact hown1

theorem size_len (s : ByteArray) : s.size = s.data.toList.length := by rw [Array.length_toList]; rfl

set_option maxHeartbeats 400000 in
set_option maxRecDepth 100000 in
theorem Text_any (s : ByteArray) (w : World) (hs : s.size ≤ 140737488351232) :
    Calls Tryz.prog 62 #[.string s] w fun e w' => ∃ v, e = .returned v ∧ w'.ownsRow w.heap.size 5 1 v (textL s.data.toList).length (bvs (textL s.data.toList)) ∧ Kept noF w w' := by
  have HL : (putL s.size).length ≤ 10 := putL_len 9 _ (by omega)
  go_enter Tryz.func62, Tryz.ntmps62
  go_wp2_with (first | (go_at_call 61; refine (Put_any s.size _ (by omega)).mono ?_; rintro e w1 ⟨v1, rfl, hown, hkept⟩) | (at_builtin; refine wpList_appStr rfl _ _ 23 9 rfl w.heap.size 5 Tryz.underlying23 Tryz.underlying9 infoU8 _ _ _ (by rfl) hown s (by rfl) (by omega) hkept.size ?_; intro v' w2 hown2 hgr2))
  go_ret
  refine ⟨_, rfl, ?_, hkept.grown hgr2 (fun k hk => .inr (own_from hown k hk))⟩
  unfold textL
  rw [← size_len]
  exact hown2

set_option maxHeartbeats 400000 in
set_option maxRecDepth 100000 in
theorem refText_any (s : ByteArray) (w : World) (hs : s.size ≤ 140737488351232) :
    Calls Tryz.prog 30 #[.string s] w fun e w' => ∃ v, e = .returned v ∧ w'.ownsRow w.heap.size 5 1 v (textL s.data.toList).length (bvs (textL s.data.toList)) ∧ Kept noF w w' := by
  have HL : (putL s.size).length ≤ 10 := putL_len 9 _ (by omega)
  go_enter Tryz.func30, Tryz.ntmps30
  go_wp2_with (first | (go_at_call 29; refine (refPut_any s.size _ (by omega)).mono ?_; rintro e w1 ⟨v1, rfl, hown, hkept⟩) | (at_builtin; refine wpList_appStr rfl _ _ 23 9 rfl w.heap.size 5 Tryz.underlying23 Tryz.underlying9 infoU8 _ _ _ (by rfl) hown s (by rfl) (by omega) hkept.size ?_; intro v' w2 hown2 hgr2))
  go_ret
  refine ⟨_, rfl, ?_, hkept.grown hgr2 (fun k hk => .inr (own_from hown k hk))⟩
  unfold textL
  rw [← size_len]
  exact hown2

theorem byteN (n : Nat) : ((UInt8.ofNat n).toNat : Int) = (n : Int) % 256 := by
  rw [UInt8.toNat_ofNat']
  omega
theorem four_bvs (n : Nat) (hn : n < 4294967296) : bvs (fourL n) = [.int .u8 ((n : Int) % 256), .int .u8 ((n : Int) / 256 % 256), .int .u8 ((n : Int) / 65536 % 256), .int .u8 ((n : Int) / 16777216)] := by
  have h4 : ((n : Int) / 16777216) % 256 = (n : Int) / 16777216 := by omega
  rw [← h4]
  simp only [bvs, fourL, u8v, List.map_cons, List.map_nil, byteN, Int.natCast_ediv]
  rfl

set_option maxHeartbeats 400000 in
set_option maxRecDepth 100000 in
theorem Four_any (n : Nat) (w : World) (hn : n < 4294967296) :
    Calls Tryz.prog 71 #[.int .u32 n] w fun e w' => ∃ v, e = .returned v ∧ w'.ownsRow w.heap.size 5 1 v (fourL n).length (bvs (fourL n)) ∧ Kept noF w w' := by
  go_enter Tryz.func71, Tryz.ntmps71
  go_wp2
  go_ret
  rw [four_bvs n hn]
  exact ⟨_, rfl, own_lit w w.heap.size 5 1 _ 4 rfl (Nat.le_refl _) (by omega), (Kept.refl _ _).alloc _⟩

set_option maxHeartbeats 400000 in
set_option maxRecDepth 100000 in
theorem refFour_any (n : Nat) (w : World) (hn : n < 4294967296) :
    Calls Tryz.prog 46 #[.int .u32 n] w fun e w' => ∃ v, e = .returned v ∧ w'.ownsRow w.heap.size 5 1 v (fourL n).length (bvs (fourL n)) ∧ Kept noF w w' := by
  go_enter Tryz.func46, Tryz.ntmps46
  go_wp2
  go_ret
  rw [four_bvs n hn]
  exact ⟨_, rfl, own_lit w w.heap.size 5 1 _ 4 rfl (Nat.le_refl _) (by omega), (Kept.refl _ _).alloc _⟩
end Go.Proofs.YtflnekjmcpmbbaaGreatDoor

/- Walks: folio/crc, and the reference's twins. -/
set_option linter.unusedVariables false
set_option linter.unusedSimpArgs false
namespace Go.Proofs.YtflnekjmcpmbbaaGreatDoor
open Go.RowKit

theorem xor32 {a b : Nat} (ha : a < 4294967296) (hb : b < 4294967296) : bits BinOp.xor IntKind.u32 (a : Int) (b : Int) = ((a ^^^ b : Nat) : Int) := u32_xor_nat a b ha hb
theorem xorPoly {a : Nat} (ha : a < 4294967296) : bits BinOp.xor IntKind.u32 (a : Int) 3988292384 = ((a ^^^ 3988292384 : Nat) : Int) := u32_xor_nat a 3988292384 ha (by omega)

theorem crcStep {z : Nat} (hz : z < 4294967296) : bits BinOp.xor IntKind.u32 ((z : Int) / 2) (bits BinOp.and IntKind.u32 3988292384 (-bits BinOp.and IntKind.u32 (z : Int) 1 % 4294967296)) = ((crcBit z : Nat) : Int) := by
  have h1 : bits BinOp.and IntKind.u32 (z : Int) 1 = ((z % 2 : Nat) : Int) := by
    have := u32_and_nat z 1 hz (by omega)
    rw [Nat.and_one_is_mod] at this
    exact this
  rw [h1]
  unfold crcBit
  rcases Nat.mod_two_eq_zero_or_one z with h | h
  · rw [h, if_neg (by omega)]
    have h2 : bits BinOp.and IntKind.u32 3988292384 (-((0 : Nat) : Int) % 4294967296) = ((0 : Nat) : Int) := by decide +kernel
    rw [h2]
    have := u32_xor_nat (z / 2) 0 (by omega) (by omega)
    rw [Nat.xor_zero, Int.natCast_ediv] at this
    exact this
  · rw [h, if_pos rfl]
    have h2 : bits BinOp.and IntKind.u32 3988292384 (-((1 : Nat) : Int) % 4294967296) = ((3988292384 : Nat) : Int) := by decide +kernel
    rw [h2]
    have := u32_xor_nat (z / 2) 3988292384 (by omega) (by omega)
    rw [Int.natCast_ediv] at this
    exact this
theorem notMax {a : Nat} (ha : a < 4294967296) : bits BinOp.xor IntKind.u32 IntKind.u32.max (a : Int) = ((a ^^^ 4294967295 : Nat) : Int) := by
  have h : IntKind.u32.max = ((4294967295 : Nat) : Int) := by decide
  rw [h, xor32 (by omega) ha, Nat.xor_comm]
theorem ret_u32 {a b : Int} (h : a = b) : Ending.returned (.int .u32 a) = .returned (.int .u32 b) := by rw [h]

set_option maxHeartbeats 400000 in
set_option maxRecDepth 100000 in
theorem refSum_any (A : Option Addr) (c : Nat) (bs : List UInt8) (w : World) (hr : Reads w (.slice A bs.length c) 1 bs.length (bvs bs)) :
    Calls Tryz.prog 47 #[.slice A bs.length c] w fun e w' => e = .returned (.int .u32 (crcSum bs)) ∧ w = w' := by
  have hL := hr.2.1
  go_enter Tryz.func47, Tryz.ntmps47
  go_wp2
  go_loop [3, 4] (fun x i => ∃ k : Nat, k ≤ bs.length ∧ i = .int .i64 k ∧ x = .int .u32 (crcReg (bs.take k))) (fun _ i => bs.length - (intOf i).toNat)
  case atStart => exact ⟨0, Nat.zero_le _, rfl, rfl⟩
  case round =>
    obtain ⟨k, hk, rfl, rfl⟩ := hrel
    have h0 := crcReg_lt (bs.take k)
    by_cases hlt : k < bs.length
    · obtain ⟨b, o, rfl, hc⟩ := hr.at1 (by omega)
      have hcell := hc k _ (bvs_get bs k hlt)
      have h32 : bs[k].toNat < 4294967296 := by have := bs[k].toNat_lt; omega
      have hX := xor32 h0 h32
      have hR := crcReg_snoc (bs.take k) bs[k]
      rw [← take_succ_snoc bs k hlt] at hR
      unfold crcByte at hR
      have HR := Lib.hid hR
      have hY : (crcReg (bs.take k) ^^^ bs[k].toNat) < 4294967296 := xor_lt32 h0 h32
      clear hR hc
      generalize hx : crcReg (bs.take k) = x at *
      clear hx
      generalize hy : x ^^^ bs[k].toNat = y at *
      clear hy
      go_wp2
      go_loop [3, 5] (fun x j => ∃ q : Nat, q ≤ 8 ∧ j = .int .i64 q ∧ x = .int .u32 (crcBits q y)) (fun _ j => 8 - (intOf j).toNat)
      case atStart => exact ⟨0, Nat.zero_le _, rfl, rfl⟩
      case round =>
        obtain ⟨q, hq, rfl, rfl⟩ := hrel
        have hZ := crcBits_lt q hY
        have hB := crcBits_succ q y
        unfold crcBit at hB
        by_cases h8 : q < 8
        · have hP := xorPoly (show crcBits q y / 2 < 4294967296 by omega)
          have HB := Lib.hid hB
          clear hB
          simp only [Int.natCast_ediv, show ((2 : Nat) : Int) = 2 from rfl] at hP
          generalize hz : crcBits q y = z at *
          clear hz
          go_wp2
          · have h1 : ((z : Int) % 2 == 1) = true := by assumption
            refine ⟨⟨q + 1, by omega, by go_num, ?_⟩, by simp [intOf]; omega⟩
            rw [HB.out, if_pos (by simp at h1; omega)]
          · have h1 : ((z : Int) % 2 == 1) = false := by assumption
            refine ⟨⟨q + 1, by omega, by go_num, ?_⟩, by simp [intOf]; omega⟩
            rw [HB.out, if_neg (by simp at h1; omega)]
            rfl
        · obtain rfl : q = 8 := by omega
          rw [← HR.out] at *
          go_wp2
          exact ⟨⟨k + 1, by omega, by go_num, rfl⟩, by simp [intOf]; omega⟩
    · obtain rfl : k = bs.length := by omega
      have hN := notMax h0
      rw [List.take_length] at *
      go_wp2
      go_ret
      exact ⟨rfl, rfl⟩

set_option maxHeartbeats 400000 in
set_option maxRecDepth 100000 in
theorem Sum_any (A : Option Addr) (c : Nat) (bs : List UInt8) (w : World) (hr : Reads w (.slice A bs.length c) 1 bs.length (bvs bs)) :
    Calls Tryz.prog 72 #[.slice A bs.length c] w fun e w' => e = .returned (.int .u32 (crcSum bs)) ∧ w = w' := by
  have hL := hr.2.1
  go_enter Tryz.func72, Tryz.ntmps72
  go_wp2
  go_loop [3, 8] (fun x i => ∃ k : Nat, k ≤ bs.length ∧ i = .int .i64 k ∧ x = .int .u32 (crcReg (bs.take k))) (fun _ i => bs.length - (intOf i).toNat)
  case atStart => exact ⟨0, Nat.zero_le _, rfl, rfl⟩
  case round =>
    obtain ⟨k, hk, rfl, rfl⟩ := hrel
    have h0 := crcReg_lt (bs.take k)
    by_cases hlt : k < bs.length
    · obtain ⟨b, o, rfl, hc⟩ := hr.at1 (by omega)
      have hcell := hc k _ (bvs_get bs k hlt)
      have h32 : bs[k].toNat < 4294967296 := by have := bs[k].toNat_lt; omega
      have hX := xor32 h0 h32
      have hR := crcReg_snoc (bs.take k) bs[k]
      rw [← take_succ_snoc bs k hlt] at hR
      unfold crcByte at hR
      have HR := Lib.hid hR
      have hY : (crcReg (bs.take k) ^^^ bs[k].toNat) < 4294967296 := xor_lt32 h0 h32
      clear hR hc
      generalize hx : crcReg (bs.take k) = x at *
      clear hx
      generalize hy : x ^^^ bs[k].toNat = y at *
      clear hy
      go_wp2
      go_loop [3, 16] (fun x j => ∃ q : Nat, q ≤ 8 ∧ j = .int .i64 q ∧ x = .int .u32 (crcBits q y)) (fun _ j => 8 - (intOf j).toNat)
      case atStart => exact ⟨0, Nat.zero_le _, rfl, rfl⟩
      case round =>
        obtain ⟨q, hq, rfl, rfl⟩ := hrel
        have hZ := crcBits_lt q hY
        have hB := crcBits_succ q y
        unfold crcBit at hB
        by_cases h8 : q < 8
        · have hP := xorPoly (show crcBits q y / 2 < 4294967296 by omega)
          have HB := Lib.hid hB
          clear hB
          simp only [Int.natCast_ediv, show ((2 : Nat) : Int) = 2 from rfl] at hP
          generalize hz : crcBits q y = z at *
          clear hz
          have HS := Lib.hid (crcStep (z := z) (by omega))
          go_wp2
          refine ⟨⟨q + 1, by omega, by go_num, ?_⟩, by simp [intOf]; omega⟩
          rw [HS.out]
          unfold crcBit
          rw [HB.out]
        · obtain rfl : q = 8 := by omega
          rw [← HR.out] at *
          go_wp2
          exact ⟨⟨k + 1, by omega, by go_num, rfl⟩, by simp [intOf]; omega⟩
    · obtain rfl : k = bs.length := by omega
      have hN := notMax h0
      rw [List.take_length] at *
      go_wp2
      go_ret
      exact ⟨rfl, rfl⟩
end Go.Proofs.YtflnekjmcpmbbaaGreatDoor

/- Walks: folio/number: reading. -/
set_option linter.unusedVariables false
set_option linter.unusedSimpArgs false
namespace Go.Proofs.YtflnekjmcpmbbaaGreatDoor
open Go.RowKit

theorem orShift (x c k : Nat) (hx : x < 128 ^ k) (hk : k ≤ 9) (hc : c < 256) :
    ∃ y : Nat, bits BinOp.or IntKind.u64 (x : Int) (IntKind.u64.wrap (IntKind.u64.wrap (bits BinOp.and IntKind.u8 (c : Int) 127) * 2 ^ (7 * k))) = (y : Int) ∧ y < 18446744073709551616 ∧
      (k ≤ 8 ∨ c % 128 ≤ 1 → y = x + c % 128 * 128 ^ k) := by
  have h1 : bits BinOp.and IntKind.u8 (c : Int) 127 = ((c % 128 : Nat) : Int) := by
    have h : ∀ x : Fin 256, bits BinOp.and IntKind.u8 ((x.val : Nat) : Int) 127 = ((x.val % 128 : Nat) : Int) := by decide +kernel
    exact h ⟨c, hc⟩
  have hx64 : x < 18446744073709551616 := by
    have : 128 ^ k ≤ 128 ^ 9 := Nat.pow_le_pow_right (by omega) hk
    omega
  have h7 : (2 : Nat) ^ (7 * k) = 128 ^ k := by rw [Nat.pow_mul]
  have h2 : IntKind.u64.wrap (((c % 128 : Nat) : Int)) = ((c % 128 : Nat) : Int) := IntWalk.u64_in _ (by omega)
  have h3 : IntKind.u64.wrap (((c % 128 : Nat) : Int) * 2 ^ (7 * k)) = ((c % 128 * 128 ^ k % 18446744073709551616 : Nat) : Int) := by
    have e : (((c % 128 : Nat) : Int) * 2 ^ (7 * k)) = ((c % 128 * 128 ^ k : Nat) : Int) := by rw [← h7]; simp
    rw [e]
    simp [IntKind.wrap, IntKind.bits, IntKind.signed]
  rw [h1, h2, h3]
  have hm : c % 128 * 128 ^ k % 18446744073709551616 < 18446744073709551616 := Nat.mod_lt _ (by omega)
  refine ⟨x ||| (c % 128 * 128 ^ k % 18446744073709551616), u64_or_nat _ _ hx64 hm, Nat.or_lt_two_pow (n := 64) hx64 hm, fun hs => ?_⟩
  have hsm : c % 128 * 128 ^ k < 18446744073709551616 := by
    rcases hs with h8 | h1
    · have h4 : 128 ^ k ≤ 128 ^ 8 := Nat.pow_le_pow_right (by omega) h8
      have := Nat.mul_le_mul (show c % 128 ≤ 127 by omega) h4
      omega
    · have h4 : 128 ^ k ≤ 128 ^ 9 := Nat.pow_le_pow_right (by omega) hk
      have := Nat.mul_le_mul h1 h4
      omega
  rw [Nat.mod_eq_of_lt hsm, ← h7, Nat.or_comm, Nat.mul_comm, ← Nat.two_pow_add_eq_or_of_lt (by rw [h7]; exact hx)]
  omega

theorem u8_eq0 {c : UInt8} (h : c.toNat = 0) : c = 0 := by
  apply UInt8.toNat_inj.1; simpa using h

set_option maxHeartbeats 1000000 in
set_option maxRecDepth 100000 in
theorem Get_1 (A : Option Addr) (c : Nat) (bs : List UInt8) (w : World) (hr : Reads w (.slice A bs.length c) 1 bs.length (bvs bs)) (hbc : bs.length ≤ c) (h10 : bs.length ≤ 10) :
    Calls Tryz.prog 81 #[.slice A bs.length c] w fun e w' => e = .returned (.tuple #[.int .u64 (getL bs).1, .int .i64 (getL bs).2]) ∧ w = w' := by
  have hL := hr.2.1
  go_enter Tryz.func81, Tryz.ntmps81
  go_wp2
  go_loop [4, 13] (fun n i => ∃ k : Nat, k ≤ bs.length ∧ i = .int .i64 k ∧ (∀ j, j < k → 128 ≤ (bs[j]?.getD 0).toNat) ∧ ∃ x : Nat, n = .int .u64 x ∧ (k ≤ 9 → x = valL (bs.take k))) (fun _ i => bs.length - (intOf i).toNat)
  case atStart => exact ⟨0, Nat.zero_le _, rfl, fun j h => absurd h (by omega), 0, rfl, fun _ => rfl⟩
  case round =>
    obtain ⟨k, hk, rfl, hbig, x, rfl, hxv⟩ := hrel
    have HB := Lib.hid hbig
    clear hbig
    by_cases hlt : k < bs.length
    · obtain ⟨b, o, rfl, hc⟩ := hr.at1 (by omega)
      have hlb : k < bs.length := by omega
      have hcell := hc k _ (bvs_get bs k hlb)
      have h32 := bs[k].toNat_lt
      have hget : bs[k]?.getD 0 = bs[k] := by simp [hlb]
      have HG := Lib.hid hget
      have hx9 : x < 128 ^ k := by rw [hxv (by omega)]; have := valL_lt (bs.take k); rwa [List.length_take, Nat.min_eq_left (by omega)] at this
      obtain ⟨y, hy, hy64, hyv⟩ := orShift x bs[k].toNat k hx9 (by omega) h32
      have hval : valL (bs.take (k + 1)) = x + bs[k].toNat % 128 * 128 ^ k := by
        rw [take_succ_snoc bs k hlb, valL_snoc, hxv (by omega), List.length_take, Nat.min_eq_left (by omega)]
      have HY := Lib.hid hyv
      have HV := Lib.hid hval
      clear hc hget hx9 hyv hval hxv hy64
      by_cases h128 : 128 ≤ bs[k].toNat
      · go_wp2
        refine ⟨⟨k + 1, by omega, by go_num, fun j hj => ?_, y, rfl, fun h9 => ?_⟩, by simp [intOf]; omega⟩
        · rcases Nat.lt_or_ge j k with h | h
          · exact HB.out j h
          · obtain rfl : j = k := by omega
            rw [HG.out]; exact h128
        · rw [HV.out, HY.out (by omega)]
      · by_cases hbad : (0 < k ∧ bs[k] = 0) ∨ (k = 9 ∧ 1 < bs[k].toNat)
        · have HR := Lib.hid (getL_bad bs k (by omega) hlb HB.out (by rw [HG.out]; omega) (by rw [HG.out]; exact hbad))
          have hb2 : (0 < k ∧ bs[k].toNat = 0) ∨ (k = 9 ∧ 1 < bs[k].toNat) := by
            rcases hbad with ⟨h1, h2⟩ | h
            · exact .inl ⟨h1, by rw [h2]; rfl⟩
            · exact .inr h
          clear hbad
          rcases hb2 with ⟨h1, h2⟩ | ⟨h1, h2⟩
          · have h3 : ((bs[k].toNat : Int) == 0) = true := by simp [h2]
            have h4 : ((k : Int) == 0) = false := by simp; omega
            clear h2
            go_wp2
            go_ret2
            rw [HR.out]; exact ⟨rfl, rfl⟩
          · have h3 : ((bs[k].toNat : Int) == 0) = false := by simp; omega
            have h4 : ((k : Int) == 9) = true := by simp [h1]
            have h5 : 0 < k := by omega
            clear h1
            go_wp2
            go_ret2
            rw [HR.out]; exact ⟨rfl, rfl⟩
        · have HR := Lib.hid (getL_good bs k (by omega) hlb HB.out (by rw [HG.out]; omega) (by rw [HG.out]; exact hbad))
          have hz : ¬ (0 < k ∧ bs[k].toNat = 0) := fun h => hbad (.inl ⟨h.1, u8_eq0 h.2⟩)
          have hn : ¬ (k = 9 ∧ 1 < bs[k].toNat) := fun h => hbad (.inr h)
          have hyv : y = x + bs[k].toNat % 128 * 128 ^ k := HY.out (by omega)
          have HY2 := Lib.hid hyv
          clear hyv hbad
          rcases Nat.eq_zero_or_pos k with h0 | h0
          · have h1 : k ≤ 0 := by omega
            have h4 : ((k : Int) == 9) = false := by simp; omega
            clear hz hn h0
            cases h3 : ((bs[k].toNat : Int) == 0)
            all_goals
              go_wp2
              go_ret2
              rw [HR.out]
              exact ⟨by rw [HV.out, ← HY2.out]; rfl, rfl⟩
          · have h3 : ((bs[k].toNat : Int) == 0) = false := by simp; omega
            rcases Nat.lt_or_ge k 9 with h9 | h9
            · have h4 : ((k : Int) == 9) = false := by simp; omega
              clear hz hn
              go_wp2
              all_goals go_ret2
              all_goals (rw [HR.out]; exact ⟨by rw [HV.out, ← HY2.out]; rfl, rfl⟩)
            · have h4 : ((k : Int) == 9) = true := by simp; omega
              have h6 : bs[k].toNat ≤ 1 := by omega
              clear hz hn
              go_wp2
              all_goals go_ret2
              all_goals (rw [HR.out]; exact ⟨by rw [HV.out, ← HY2.out]; rfl, rfl⟩)
    · have HR := Lib.hid (getL_none bs (fun j hj hl => HB.out j (by omega)))
      clear hxv
      go_wp2
      go_ret2
      rw [HR.out]; exact ⟨rfl, rfl⟩

set_option maxHeartbeats 1000000 in
set_option maxRecDepth 100000 in
theorem Get_2 (A : Option Addr) (c : Nat) (bs : List UInt8) (w : World) (hr : Reads w (.slice A bs.length c) 1 bs.length (bvs bs)) (hbc : bs.length ≤ c) (h10 : 10 < bs.length) :
    Calls Tryz.prog 81 #[.slice A bs.length c] w fun e w' => e = .returned (.tuple #[.int .u64 (getL bs).1, .int .i64 (getL bs).2]) ∧ w = w' := by
  have hL := hr.2.1
  go_enter Tryz.func81, Tryz.ntmps81
  go_wp2
  go_loop [4, 13] (fun n i => ∃ k : Nat, k ≤ 10 ∧ i = .int .i64 k ∧ (∀ j, j < k → 128 ≤ (bs[j]?.getD 0).toNat) ∧ ∃ x : Nat, n = .int .u64 x ∧ (k ≤ 9 → x = valL (bs.take k))) (fun _ i => 10 - (intOf i).toNat)
  case atStart => exact ⟨0, Nat.zero_le _, rfl, fun j h => absurd h (by omega), 0, rfl, fun _ => rfl⟩
  case round =>
    obtain ⟨k, hk, rfl, hbig, x, rfl, hxv⟩ := hrel
    have HB := Lib.hid hbig
    clear hbig
    by_cases hlt : k < 10
    · obtain ⟨b, o, rfl, hc⟩ := hr.at1 (by omega)
      have hlb : k < bs.length := by omega
      have hcell := hc k _ (bvs_get bs k hlb)
      have h32 := bs[k].toNat_lt
      have hget : bs[k]?.getD 0 = bs[k] := by simp [hlb]
      have HG := Lib.hid hget
      have hx9 : x < 128 ^ k := by rw [hxv (by omega)]; have := valL_lt (bs.take k); rwa [List.length_take, Nat.min_eq_left (by omega)] at this
      obtain ⟨y, hy, hy64, hyv⟩ := orShift x bs[k].toNat k hx9 (by omega) h32
      have hval : valL (bs.take (k + 1)) = x + bs[k].toNat % 128 * 128 ^ k := by
        rw [take_succ_snoc bs k hlb, valL_snoc, hxv (by omega), List.length_take, Nat.min_eq_left (by omega)]
      have HY := Lib.hid hyv
      have HV := Lib.hid hval
      clear hc hget hx9 hyv hval hxv hy64
      by_cases h128 : 128 ≤ bs[k].toNat
      · go_wp2
        refine ⟨⟨k + 1, by omega, by go_num, fun j hj => ?_, y, rfl, fun h9 => ?_⟩, by simp [intOf]; omega⟩
        · rcases Nat.lt_or_ge j k with h | h
          · exact HB.out j h
          · obtain rfl : j = k := by omega
            rw [HG.out]; exact h128
        · rw [HV.out, HY.out (by omega)]
      · by_cases hbad : (0 < k ∧ bs[k] = 0) ∨ (k = 9 ∧ 1 < bs[k].toNat)
        · have HR := Lib.hid (getL_bad bs k (by omega) hlb HB.out (by rw [HG.out]; omega) (by rw [HG.out]; exact hbad))
          have hb2 : (0 < k ∧ bs[k].toNat = 0) ∨ (k = 9 ∧ 1 < bs[k].toNat) := by
            rcases hbad with ⟨h1, h2⟩ | h
            · exact .inl ⟨h1, by rw [h2]; rfl⟩
            · exact .inr h
          clear hbad
          rcases hb2 with ⟨h1, h2⟩ | ⟨h1, h2⟩
          · have h3 : ((bs[k].toNat : Int) == 0) = true := by simp [h2]
            have h4 : ((k : Int) == 0) = false := by simp; omega
            clear h2
            go_wp2
            go_ret2
            rw [HR.out]; exact ⟨rfl, rfl⟩
          · have h3 : ((bs[k].toNat : Int) == 0) = false := by simp; omega
            have h4 : ((k : Int) == 9) = true := by simp [h1]
            have h5 : 0 < k := by omega
            clear h1
            go_wp2
            go_ret2
            rw [HR.out]; exact ⟨rfl, rfl⟩
        · have HR := Lib.hid (getL_good bs k (by omega) hlb HB.out (by rw [HG.out]; omega) (by rw [HG.out]; exact hbad))
          have hz : ¬ (0 < k ∧ bs[k].toNat = 0) := fun h => hbad (.inl ⟨h.1, u8_eq0 h.2⟩)
          have hn : ¬ (k = 9 ∧ 1 < bs[k].toNat) := fun h => hbad (.inr h)
          have hyv : y = x + bs[k].toNat % 128 * 128 ^ k := HY.out (by omega)
          have HY2 := Lib.hid hyv
          clear hyv hbad
          rcases Nat.eq_zero_or_pos k with h0 | h0
          · have h1 : k ≤ 0 := by omega
            have h4 : ((k : Int) == 9) = false := by simp; omega
            clear hz hn h0
            cases h3 : ((bs[k].toNat : Int) == 0)
            all_goals
              go_wp2
              go_ret2
              rw [HR.out]
              exact ⟨by rw [HV.out, ← HY2.out]; rfl, rfl⟩
          · have h3 : ((bs[k].toNat : Int) == 0) = false := by simp; omega
            rcases Nat.lt_or_ge k 9 with h9 | h9
            · have h4 : ((k : Int) == 9) = false := by simp; omega
              clear hz hn
              go_wp2
              all_goals go_ret2
              all_goals (rw [HR.out]; exact ⟨by rw [HV.out, ← HY2.out]; rfl, rfl⟩)
            · have h4 : ((k : Int) == 9) = true := by simp; omega
              have h6 : bs[k].toNat ≤ 1 := by omega
              clear hz hn
              go_wp2
              all_goals go_ret2
              all_goals (rw [HR.out]; exact ⟨by rw [HV.out, ← HY2.out]; rfl, rfl⟩)
    · have HR := Lib.hid (getL_none bs (fun j hj hl => HB.out j (by omega)))
      clear hxv
      go_wp2
      go_ret2
      rw [HR.out]; exact ⟨rfl, rfl⟩

theorem Get_any (A : Option Addr) (c : Nat) (bs : List UInt8) (w : World) (hr : Reads w (.slice A bs.length c) 1 bs.length (bvs bs)) (hbc : bs.length ≤ c) :
    Calls Tryz.prog 81 #[.slice A bs.length c] w fun e w' => e = .returned (.tuple #[.int .u64 (getL bs).1, .int .i64 (getL bs).2]) ∧ w = w' := by
  rcases Nat.lt_or_ge 10 bs.length with h | h
  · exact Get_2 A c bs w hr hbc h
  · exact Get_1 A c bs w hr hbc h

set_option maxHeartbeats 1000000 in
set_option maxRecDepth 100000 in
theorem refGet_any (A : Option Addr) (c : Nat) (bs : List UInt8) (w : World) (hr : Reads w (.slice A bs.length c) 1 bs.length (bvs bs)) (hbc : bs.length ≤ c) :
    Calls Tryz.prog 49 #[.slice A bs.length c] w fun e w' => e = .returned (.tuple #[.int .u64 (getL bs).1, .int .i64 (getL bs).2]) ∧ w = w' := by
  have hL := hr.2.1
  go_enter Tryz.func49, Tryz.ntmps49
  go_wp2
  go_loop [4, 5, 6] (fun i n q => ∃ k : Nat, k ≤ 10 ∧ k ≤ bs.length ∧ i = .int .i64 ((k : Int) + 1) ∧ (∀ j, j < k → 128 ≤ (bs[j]?.getD 0).toNat)) (fun i _ _ => 12 - (intOf i).toNat)
  case atStart => exact ⟨0, by omega, by omega, rfl, fun j h => absurd h (by omega)⟩
  case round =>
    obtain ⟨K, hk10, hkl, rfl, hbig⟩ := hrel
    have HB := Lib.hid hbig
    clear hbig
    by_cases hlt : K < 10 ∧ K < bs.length
    · obtain ⟨hlt, hlb⟩ := hlt
      obtain ⟨b, o, rfl, hc⟩ := hr.at1 (by omega)
      have HC := Lib.hid hc
      have hcell := hc K _ (bvs_get bs K hlb)
      have h32 := bs[K].toNat_lt
      have hget : bs[K]?.getD 0 = bs[K] := by simp [hlb]
      have HG := Lib.hid hget
      clear hc hget
      by_cases h128 : 128 ≤ bs[K].toNat
      · go_wp2
        refine ⟨⟨K + 1, by omega, by omega, by go_num, fun j hj => ?_⟩, by simp [intOf]; omega⟩
        rcases Nat.lt_or_ge j K with h | h
        · exact HB.out j h
        · obtain rfl : j = K := by omega
          rw [HG.out]; exact h128
      · have HC128 := Lib.hid (show (bs[K]?.getD 0).toNat < 128 by rw [HG.out]; omega)
        go_wp2
        go_loop [5, 6] (fun n i => ∃ j : Nat, j ≤ K + 1 ∧ i = .int .i64 ((K : Int) - j) ∧ n = .int .u64 (valL ((bs.take (K + 1)).drop (K + 1 - j))) ∧ (j = 10 → bs[K].toNat ≤ 1)) (fun _ i => (intOf i + 1).toNat)
        case atStart => exact ⟨0, by omega, by go_num, by simp [valL], by omega⟩
        case round =>
          obtain ⟨j, hj, rfl, rfl, hone⟩ := hrel
          have HO := Lib.hid hone
          clear hone
          have hv := valL_lt ((bs.take (K + 1)).drop (K + 1 - j))
          rw [digit_len bs K j hlb hj] at hv
          by_cases hjK : j ≤ K
          · have hd := drop_digit bs K j hlb hjK
            have h9 : valL ((bs.take (K + 1)).drop (K + 1 - j)) < 128 ^ 9 := by
              have := Nat.pow_le_pow_right (show 0 < 128 by omega) (show j ≤ 9 by omega)
              omega
            have h8 : j ≤ 8 → valL ((bs.take (K + 1)).drop (K + 1 - j)) < 72057594037927936 := fun h8 => by
              have := Nat.pow_le_pow_right (show 0 < 128 by omega) h8
              omega
            have ht : j = 9 → K = 9 ∧ 72057594037927936 * (bs[K].toNat % 128) ≤ valL ((bs.take (K + 1)).drop (K + 1 - j)) ∧ valL ((bs.take (K + 1)).drop (K + 1 - j)) < 72057594037927936 * (bs[K].toNat % 128 + 1) := fun h9 => by
              have hK : K = 9 := by omega
              refine ⟨hK, ?_⟩
              have e2 : bs.take (K + 1) = bs.take K ++ [bs[K]] := take_succ_snoc bs K hlb
              have e3 : (bs.take (K + 1)).drop (K + 1 - j) = (bs.take K).drop (K + 1 - j) ++ [bs[K]] := by
                rw [e2, List.drop_append_of_le_length (by simp; omega)]
              have hl : ((bs.take K).drop (K + 1 - j)).length = 8 := by simp; omega
              have hlt := valL_lt ((bs.take K).drop (K + 1 - j))
              rw [e3, valL_snoc, hl]
              rw [hl] at hlt
              generalize valL ((bs.take K).drop (K + 1 - j)) = q at *
              omega
            have hcj := HC.out (K - j) _ (bvs_get bs (K - j) (by omega))
            have h33 := (bs[K - j]'(by omega)).toNat_lt
            have hd2 : (bs[K - j]'(by omega)).toNat % 128 ≤ 127 := by omega
            generalize hgv : valL ((bs.take (K + 1)).drop (K + 1 - j)) = v at *
            generalize hgb : (bs[K - j]'(by omega)) = bj at *
            have HV := Lib.hid hgv
            have ea : ((K : Int) - j).toNat = K - j := by omega
            by_cases hbig : 144115188075855872 ≤ v
            · have hbad : K = 9 ∧ 1 < bs[K].toNat := by omega
              have HR := Lib.hid (getL_bad bs K hlt hlb HB.out HC128.out (.inr ⟨hbad.1, by rw [HG.out]; exact hbad.2⟩))
              have ht1 : decide ((144115188075855872 : Int) ≤ (v : Int)) = true := by simp; omega
              clear hgv hgb h9 h8 ht hd hv hbig hbad hd2 h33
              go_wp2
              go_ret2
              rw [HR.out]; exact ⟨rfl, rfl⟩
            · have hj10 : j + 1 = 10 → bs[K].toNat ≤ 1 := by omega
              have hv2 : valL ((bs.take (K + 1)).drop (K - j)) = v * 128 + bj.toNat % 128 := by omega
              have HV2 := Lib.hid hv2
              have HJ := Lib.hid hj10
              have ht1 : decide ((144115188075855872 : Int) ≤ (v : Int)) = false := by simp; omega
              have hw1 : IntKind.u64.wrap ((v : Int) * 128) = (v : Int) * 128 := IntWalk.u64_in _ (by omega)
              have hw2 : IntKind.u64.wrap ((v : Int) * 128 + (bj.toNat : Int) % 128) = (v : Int) * 128 + (bj.toNat : Int) % 128 := IntWalk.u64_in _ (by omega)
              clear hgv hgb h9 h8 ht hd hv hbig hd2 hv2 hj10
              go_wp2
              refine ⟨⟨j + 1, by omega, by go_num, ?_, fun h => HJ.out h⟩, by simp [intOf]; omega⟩
              have e5 : K + 1 - (j + 1) = K - j := by omega
              rw [e5, HV2.out]
              congr 1
          · obtain rfl : j = K + 1 := by omega
            have e0 : (bs.take (K + 1)).drop (K + 1 - (K + 1)) = bs.take (K + 1) := by simp
            rw [e0] at hv ⊢
            have hO := HO.out
            by_cases hz : 0 < K ∧ bs[K].toNat = 0
            · have HR := Lib.hid (getL_bad bs K hlt hlb HB.out HC128.out (.inl ⟨hz.1, by rw [HG.out]; exact u8_eq0 hz.2⟩))
              have h3 : ((bs[K].toNat : Int) == 0) = true := by simp [hz.2]
              have h4 : 0 < K := hz.1
              clear hz hO hv
              go_wp2
              go_ret2
              rw [HR.out]; exact ⟨rfl, rfl⟩
            · have HR := Lib.hid (getL_good bs K hlt hlb HB.out HC128.out (by
                rw [HG.out]
                rintro (⟨h1, h2⟩ | ⟨h1, h2⟩)
                · exact hz ⟨h1, by rw [h2]; rfl⟩
                · have := hO (by omega); omega))
              clear hO hv
              rcases Nat.eq_zero_or_pos K with h0 | h0
              · have h1 : K ≤ 0 := by omega
                clear h0 hz
                go_wp2
                go_ret2
                rw [HR.out]; exact ⟨rfl, rfl⟩
              · have h3 : ((bs[K].toNat : Int) == 0) = false := by simp; omega
                clear hz
                go_wp2
                go_ret2
                rw [HR.out]; exact ⟨rfl, rfl⟩
    · have HR := Lib.hid (getL_none bs (fun j hj hl => HB.out j (by omega)))
      by_cases h10 : K < 10
      · go_wp2
        go_ret2
        rw [HR.out]; exact ⟨rfl, rfl⟩
      · go_wp2
        go_ret2
        rw [HR.out]; exact ⟨rfl, rfl⟩
end Go.Proofs.YtflnekjmcpmbbaaGreatDoor
