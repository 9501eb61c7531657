/- Part 7 of the texts beneath: Misc, EqR, Dsk, Fs, FsNew, FsUsed, FsRead, FsTurn, FsApp, FsGrow, FsAppOk, FsDo, FsChg. -/
import Derived.Test.YtflnekjmcpmbbaaGreatDoorKRawAnyRow1
import Derived.Test.YtflnekjmcpmbbaaGreatDoorKRawAnyRow6
import Derived.BigQuiet
import Derived.Carry
import Derived.Maps.Range
import Derived.Test.YtflnekjmcpmbbaaGreatDoorKRawAnyRow4
import Derived.Deep.RegionHeld3
import Derived.Deep.DeepCutAuto

/- Walks: numbers as names; Short; Eq. -/
set_option linter.unusedVariables false
set_option linter.unusedSimpArgs false
namespace Go.Proofs.YtflnekjmcpmbbaaGreatDoor
open Go.RowKit

set_option maxHeartbeats 1000000 in
set_option maxRecDepth 100000 in
theorem small_3 (w : World) : Calls Tryz.prog 73 #[.int .i64 3] w fun e w' => e = .returned (.string ⟨#[51]⟩) ∧ w = w' := by
  go_enter Tryz.func73, Tryz.ntmps73
  go_wp2
  go_ret
  exact ⟨rfl, rfl⟩
set_option maxHeartbeats 1000000 in
set_option maxRecDepth 100000 in
theorem FormatIn_3 (w : World) : Calls Tryz.prog 59 #[.int .i64 3, .int .i64 10] w fun e w' => e = .returned (.string ⟨#[51]⟩) ∧ w = w' := by
  go_enter Tryz.func59, Tryz.ntmps59
  go_wp2_with (go_at_call 73; refine (small_3 _).mono ?_; rintro e w' ⟨rfl, rfl⟩)
  go_ret
  exact ⟨rfl, rfl⟩
set_option maxHeartbeats 1000000 in
set_option maxRecDepth 100000 in
theorem Format_3 (w : World) : Calls Tryz.prog 38 #[.int .i64 3, .int .i64 10] w fun e w' => e = .returned (.string ⟨#[51]⟩) ∧ w = w' := by
  go_enter Tryz.func38, Tryz.ntmps38
  go_wp2_with (go_at_call 59; refine (FormatIn_3 _).mono ?_; rintro e w' ⟨rfl, rfl⟩)
  go_ret
  exact ⟨rfl, rfl⟩
set_option maxHeartbeats 1000000 in
set_option maxRecDepth 100000 in
theorem Name_3 (w : World) : Calls Tryz.prog 22 #[.int .i64 3] w fun e w' => e = .returned (.string ⟨#[51, 46, 114, 97, 119]⟩) ∧ w = w' := by
  go_enter Tryz.func22, Tryz.ntmps22
  go_wp2_with (go_at_call 38; refine (Format_3 _).mono ?_; rintro e w' ⟨rfl, rfl⟩)
  go_ret
  exact ⟨rfl, rfl⟩

set_option maxHeartbeats 1000000 in
set_option maxRecDepth 100000 in
theorem small_7 (w : World) : Calls Tryz.prog 73 #[.int .i64 7] w fun e w' => e = .returned (.string ⟨#[55]⟩) ∧ w = w' := by
  go_enter Tryz.func73, Tryz.ntmps73
  go_wp2
  go_ret
  exact ⟨rfl, rfl⟩
set_option maxHeartbeats 1000000 in
set_option maxRecDepth 100000 in
theorem FormatIn_7 (w : World) : Calls Tryz.prog 59 #[.int .i64 7, .int .i64 10] w fun e w' => e = .returned (.string ⟨#[55]⟩) ∧ w = w' := by
  go_enter Tryz.func59, Tryz.ntmps59
  go_wp2_with (go_at_call 73; refine (small_7 _).mono ?_; rintro e w' ⟨rfl, rfl⟩)
  go_ret
  exact ⟨rfl, rfl⟩
set_option maxHeartbeats 1000000 in
set_option maxRecDepth 100000 in
theorem Format_7 (w : World) : Calls Tryz.prog 38 #[.int .i64 7, .int .i64 10] w fun e w' => e = .returned (.string ⟨#[55]⟩) ∧ w = w' := by
  go_enter Tryz.func38, Tryz.ntmps38
  go_wp2_with (go_at_call 59; refine (FormatIn_7 _).mono ?_; rintro e w' ⟨rfl, rfl⟩)
  go_ret
  exact ⟨rfl, rfl⟩
set_option maxHeartbeats 1000000 in
set_option maxRecDepth 100000 in
theorem Name_7 (w : World) : Calls Tryz.prog 22 #[.int .i64 7] w fun e w' => e = .returned (.string ⟨#[55, 46, 114, 97, 119]⟩) ∧ w = w' := by
  go_enter Tryz.func22, Tryz.ntmps22
  go_wp2_with (go_at_call 38; refine (Format_7 _).mono ?_; rintro e w' ⟨rfl, rfl⟩)
  go_ret
  exact ⟨rfl, rfl⟩

set_option maxHeartbeats 1000000 in
set_option maxRecDepth 100000 in
theorem Short_any (A : Option Addr) (c n : Nat) (bs : List UInt8) (w : World) (hr : Reads w (.slice A bs.length c) 1 bs.length (bvs bs)) (hn : n ≤ 9223372036854775807) :
    Calls Tryz.prog 10 #[.slice A bs.length c, .int .i64 n] w fun e w' => e = .returned (.slice A (bs.take n).length c) ∧ Reads w (.slice A (bs.take n).length c) 1 (bs.take n).length (bvs (bs.take n)) ∧ w = w' := by
  by_cases h : n < bs.length
  · obtain ⟨cutH, hrH⟩ := cut_h (P := Tryz.prog) Tryz.underlying23 infoU8 (by decide) hr n (by omega) n rfl .i64
    have hl : (bs.take n).length = n := by rw [List.length_take]; omega
    have d : (bvs bs).take (n * 1) = bvs (bs.take n) := by simp [bvs, List.map_take]
    rw [d] at hrH
    have k1 : (n : Int) < (bs.length : Int) := by omega
    have HRH := Lib.hid hrH
    have HL := Lib.hid hl
    clear hr hrH hl d h
    generalize bs.length = L at *
    go_enter Tryz.func10, Tryz.ntmps10
    go_wp2
    go_ret
    rw [HL.out]
    exact ⟨rfl, HRH.out, rfl⟩
  · have hl : bs.take n = bs := List.take_of_length_le (by omega)
    have k1 : (bs.length : Int) ≤ (n : Int) := by omega
    have HR := Lib.hid hr
    rw [hl]
    clear hr hl h
    generalize hL : bs.length = L at *
    clear hL
    go_enter Tryz.func10, Tryz.ntmps10
    go_wp2
    go_ret
    exact ⟨rfl, HR.out, rfl⟩
end Go.Proofs.YtflnekjmcpmbbaaGreatDoor

/- Walks: are two records the same? -/
set_option linter.unusedVariables false
set_option linter.unusedSimpArgs false
namespace Go.Proofs.YtflnekjmcpmbbaaGreatDoor
open Go.RowKit

set_option maxHeartbeats 1000000 in
set_option maxRecDepth 100000 in
theorem Eq_same (r : Rec) (w : World) :
    Calls Tryz.prog 41 #[r.v, r.v] w fun e w' => e = .returned (.bool true) ∧ Kept noF w w' := by
  obtain ⟨k, s, key, val⟩ := r
  unfold Rec.v
  simp only
  go_enter Tryz.func41, Tryz.ntmps41
  go_wp2
  go_ret
  exact ⟨rfl, ((Kept.refl _ _).alloc _).alloc _⟩
end Go.Proofs.YtflnekjmcpmbbaaGreatDoor

/- Walks: the files' small functions. -/
set_option linter.unusedVariables false
set_option linter.unusedSimpArgs false
namespace Go.Proofs.YtflnekjmcpmbbaaGreatDoor
open Go.RowKit

def roomR (n : Int) : Int := min (max n 0) 4194304
set_option maxHeartbeats 1000000 in
set_option maxRecDepth 100000 in
theorem room_any (n : Int) (w : World) : Calls Tryz.prog 23 #[.int .i64 n] w fun e w' => e = .returned (.int .i64 (roomR n)) ∧ w = w' := by
  go_enter Tryz.func23, Tryz.ntmps23
  go_wp2
  all_goals go_ret
  all_goals refine ⟨ret_i64 ?_, rfl⟩
  all_goals unfold roomR
  all_goals simp only [Int.min_def, Int.max_def]
  all_goals (repeat' split)
  all_goals omega

def chOk (c : UInt8) : Bool := (decide (97 ≤ c.toNat) && decide (c.toNat ≤ 122)) || (decide (65 ≤ c.toNat) && decide (c.toNat ≤ 90)) || (decide (48 ≤ c.toNat) && decide (c.toNat ≤ 57)) || decide (c.toNat = 46)
def mayR (s : ByteArray) : Bool := s.data.toList.all chOk && !(s.data.toList.length == 0) && decide (s.data.toList.length ≤ 20)
theorem chOk_iff (c : UInt8) : chOk c = false ↔ ((((c.toNat : Int) < 97 ∨ 122 < (c.toNat : Int)) ∧ ((c.toNat : Int) < 65 ∨ 90 < (c.toNat : Int))) ∧ ((c.toNat : Int) < 48 ∨ 57 < (c.toNat : Int))) ∧ ((c.toNat : Int) ≠ 46) := by
  unfold chOk
  simp only [Bool.or_eq_false_iff, Bool.and_eq_false_iff, decide_eq_false_iff_not]
  omega
theorem mayR_bad (s : ByteArray) (k : Nat) (h : k < s.size) (hc : chOk s[k] = false) : mayR s = false := by
  have hm : s[k] ∈ s.data.toList := by
    have : s[k] = s.data.toList[k]'(by simpa using h) := rfl
    rw [this]; exact List.getElem_mem _
  have : s.data.toList.all chOk = false := by
    rw [List.all_eq_false]
    exact ⟨s[k], hm, by simp [hc]⟩
  unfold mayR
  rw [this]
  rfl
set_option maxHeartbeats 1000000 in
set_option maxRecDepth 100000 in
theorem may_any (s : ByteArray) (w : World) (hs : s.size ≤ 140737488351232) : Calls Tryz.prog 25 #[.string s] w fun e w' => e = .returned (.bool (mayR s)) ∧ w = w' := by
  go_enter Tryz.func25, Tryz.ntmps25
  go_wp2
  go_loop [7] (fun i => ∃ k : Nat, k ≤ s.size ∧ i = .int .i64 k ∧ ∀ j (h : j < s.data.toList.length), j < k → chOk s.data.toList[j] = true) (fun i => s.size - (intOf i).toNat)
  case atStart => exact ⟨0, Nat.zero_le _, rfl, fun j _ h => by omega⟩
  case round =>
    obtain ⟨k, hk, rfl, hall⟩ := hrel
    have HALL := Lib.hid hall
    clear hall
    by_cases hlt : k < s.size
    · have hcl := chOk_iff s[k]
      by_cases h46 : (s[k].toNat : Int) = 46
      · have b46 : ((s[k].toNat : Int) != 46) = false := by simp [h46]
        have hok : chOk s[k] = true := by
          cases hc : chOk s[k]
          · have := hcl.1 hc; omega
          · rfl
        have HOK := Lib.hid hok
        clear hcl hok
        have l46 : (s[k].toNat : Int) < 47 := by omega
        have g46 : 45 < (s[k].toNat : Int) := by omega
        clear h46
        go_wp2
        all_goals first
          | (exfalso; omega)
          | (refine ⟨⟨k + 1, by omega, by go_num, fun j h hj => ?_⟩, by simp [intOf]; omega⟩
             rcases Nat.lt_or_ge j k with h1 | h1
             · exact HALL.out j h h1
             · obtain rfl : j = k := by omega
               exact HOK.out)
      · have b46 : ((s[k].toNat : Int) != 46) = true := by simp [h46]
        cases hok : chOk s[k]
        · have hh := hcl.1 hok
          have hm := mayR_bad s k hlt hok
          have HM := Lib.hid hm
          have HOK := Lib.hid hok
          have HH := Lib.hid hh
          clear hcl hok hm hh
          go_wp2
          all_goals first
            | (exfalso; have := HH.out; omega)
            | (go_ret; refine ⟨?_, rfl⟩; rw [HM.out]; rfl)
        · have hh : ¬ _ := mt hcl.2 (by simp [hok])
          have HOK := Lib.hid hok
          have HH := Lib.hid hh
          clear hcl hok hh
          go_wp2
          all_goals first
            | (exfalso; have := HH.out; omega)
            | (refine ⟨⟨k + 1, by omega, by go_num, fun j h hj => ?_⟩, by simp [intOf]; omega⟩
               rcases Nat.lt_or_ge j k with h1 | h1
               · exact HALL.out j h h1
               · obtain rfl : j = k := by omega
                 exact HOK.out)
    · obtain rfl : k = s.size := by omega
      have hl : s.data.toList.length = s.size := by simp
      have ha : s.data.toList.all chOk = true := by
        rw [List.all_eq_true]
        intro x hx
        obtain ⟨j, hj, rfl⟩ := List.getElem_of_mem hx
        exact HALL.out j hj (by omega)
      have HA := Lib.hid ha
      have HL := Lib.hid hl
      have he := ByteArray.toList_eq s
      have HE := Lib.hid he
      clear ha hl he
      cases hemp : s.toList.isEmpty
      · go_wp2
        go_ret
        refine ⟨?_, rfl⟩
        unfold mayR
        rw [HA.out, HL.out]
        rw [HE.out] at hemp
        have : (s.size == 0) = false := by
          have := HL.out
          cases hd : s.data.toList with
          | nil => rw [hd] at hemp; cases hemp
          | cons _ _ => rw [hd] at this; rw [List.length_cons] at this; exact beq_false_of_ne (by omega)
        simp [this]
        omega
      · go_wp2
        go_ret
        refine ⟨?_, rfl⟩
        unfold mayR
        rw [HE.out] at hemp
        have h0 : s.data.toList = [] := by simpa using hemp
        rw [h0]
        rfl
end Go.Proofs.YtflnekjmcpmbbaaGreatDoor

/- The files as a state; calls that count. -/
set_option linter.unusedVariables false
set_option linter.unusedSimpArgs false
namespace Go.Proofs.YtflnekjmcpmbbaaGreatDoor
open Go.RowKit

def ptrV (f : Nat) : Value := .pointer (some ⟨f, 0, none⟩)
def fsCells (room : Int) (d l wv : Value) (calls fail : Int) : Array Value := #[.int .i64 room, d, l, wv, .int .i64 calls, .int .i64 fail]
def failR (fail : Int) : Int := max (fail - 1) (-1)
def errR (fail : Int) : Int := if fail = 0 then 5 else 0

set_option maxHeartbeats 1000000 in
set_option maxRecDepth 100000 in
theorem call_any (g : Nat) (room : Int) (d l wv : Value) (calls fail : Int) (w : World) (hb : w.heap[g]? = some (.cells (fsCells room d l wv calls fail) 55))
    (hc : 0 ≤ calls) (hc2 : calls < 4611686018427387904) (hf : -1 ≤ fail) (hf2 : fail ≤ 9223372036854775807) :
    Calls Tryz.prog 24 #[ptrV g] w fun e w' => e = .returned (.int .i64 (errR fail)) ∧ w'.heap[g]? = some (.cells (fsCells room d l wv (calls + 1) (failR fail)) 55) ∧ Kept (oneF g) w w' := by
  have c4 : w.cell? ⟨g, 4, none⟩ = some (.int .i64 calls) := blk_cell hb 4 rfl
  have c5 : w.cell? ⟨g, 5, none⟩ = some (.int .i64 fail) := blk_cell hb 5 rfl
  have f4 := blk_frozen hb 4
  have f5 := blk_frozen hb 5
  have HB := Lib.hid hb
  clear hb
  by_cases h0 : fail = 0
  · subst h0
    have e1 : errR 0 = 5 := rfl
    have e2 : failR 0 = -1 := rfl
    rw [e1, e2]
    unfold ptrV
    go_enter Tryz.func24, Tryz.ntmps24
    go_wp2
    go_ret
    exact ⟨rfl, blk_set (blk_set HB.out 4 _) 5 _, ((Kept.set1 w g 4 _).transF (Kept.set1 _ g 5 _))⟩
  · have e1 : errR fail = 0 := by unfold errR; rw [if_neg h0]
    have E1 := Lib.hid e1
    have k1 : ((fail - 1) == -1) = false := by simp; omega
    clear e1
    rw [E1.out]
    unfold ptrV
    by_cases hn : fail < 0
    · have e2 : failR fail = -1 := by unfold failR; omega
      have E2 := Lib.hid e2
      clear e2
      rw [E2.out]
      have k2 : fail - 1 < -1 := by omega
      go_enter Tryz.func24, Tryz.ntmps24
      go_wp2
      go_ret
      exact ⟨rfl, blk_set (blk_set (blk_set HB.out 4 _) 5 _) 5 _, (((Kept.set1 w g 4 _).transF (Kept.set1 _ g 5 _)).transF (Kept.set1 _ g 5 _))⟩
    · have e2 : failR fail = fail - 1 := by unfold failR; omega
      have E2 := Lib.hid e2
      clear e2
      rw [E2.out]
      have k2 : -1 ≤ fail - 1 := by omega
      go_enter Tryz.func24, Tryz.ntmps24
      go_wp2
      go_ret
      exact ⟨rfl, blk_set (blk_set (blk_set HB.out 4 _) 5 _) 5 _, (((Kept.set1 w g 4 _).transF (Kept.set1 _ g 5 _)).transF (Kept.set1 _ g 5 _))⟩

/-! The files as a whole -/
inductive Chg where
  | made (n : ByteArray) (f : Nat)
  | named (a b : ByteArray)
  | gone (a : ByteArray)
def Chg.cells : Chg → List Value
  | .made n f => [.int .i64 0, .string n, .string ⟨#[]⟩, ptrV f]
  | .named a b => [.int .i64 1, .string a, .string b, .pointer none]
  | .gone a => [.int .i64 2, .string a, .string ⟨#[]⟩, .pointer none]
def Chg.file : Chg → List Nat
  | .made _ f => [f]
  | _ => []
structure FsS where
  room : Int
  calls : Int
  fail : Int
  dir : List (ByteArray × Nat)
  lasts : List (ByteArray × Nat)
  waits : List Chg
  files : Nat → List UInt8 × Nat
  extra : List Nat
def FsS.ids (s : FsS) : List Nat := s.dir.map (·.2) ++ s.lasts.map (·.2) ++ s.waits.flatMap Chg.file ++ s.extra
/-- The block g is a disk with the state s; its blocks are among F; bv tells where each file's bytes are. -/
structure FsIn (F : Nat → Prop) (w : World) (g dm lm : Nat) (wv : Value) (bv : Nat → Value) (s : FsS) : Prop where
  blk : w.heap[g]? = some (.cells (fsCells s.room (.map (some dm)) (.map (some lm)) wv s.calls s.fail) 55)
  dir : MapAt Value.string ptrV w dm s.dir
  lasts : MapAt Value.string ptrV w lm s.lasts
  apart : dm ≠ lm
  waits : w.ownsRow 0 62 4 wv s.waits.length (s.waits.flatMap Chg.cells)
  file : ∀ f ∈ s.ids, w.heap[f]? = some (.cells #[bv f, .int .i64 (s.files f).2] 60)
  bytes : ∀ f ∈ s.ids, w.ownsRow 0 5 1 (bv f) (s.files f).1.length (bvs (s.files f).1)
  own : ∀ f ∈ s.ids, ∀ f2 ∈ s.ids, f ≠ f2 → ∀ b, (bv f).ownBlock = some b → (bv f2).ownBlock ≠ some b
  inG : F g
  inD : F dm
  inL : F lm
  inW : ∀ b, wv.ownBlock = some b → F b
  inF : ∀ f ∈ s.ids, F f
  inB : ∀ f ∈ s.ids, ∀ b, (bv f).ownBlock = some b → F b
  below : ∀ k, F k → k < w.heap.size
  calls0 : 0 ≤ s.calls
  fail1 : -1 ≤ s.fail
  fail2 : s.fail ≤ 9223372036854775807
def FsAt (F : Nat → Prop) (w : World) (g : Nat) (s : FsS) : Prop := ∃ dm lm wv bv, FsIn F w g dm lm wv bv s
theorem FsIn.kept {F G : Nat → Prop} {w w' : World} {g dm lm : Nat} {wv : Value} {bv : Nat → Value} {s : FsS} (h : FsIn F w g dm lm wv bv s) (k : Kept G w w') (hG : ∀ b, F b → ¬ G b) : FsIn F w' g dm lm wv bv s :=
  { h with
    blk := k.blk h.blk (hG _ h.inG)
    dir := h.dir.kept k (hG _ h.inD)
    lasts := h.lasts.kept k (hG _ h.inL)
    waits := own_kept h.waits k (fun b hb => hG _ (h.inW b hb))
    file := fun f hf => k.blk (h.file f hf) (hG _ (h.inF f hf))
    bytes := fun f hf => own_kept (h.bytes f hf) k (fun b hb => hG _ (h.inB f hf b hb))
    below := fun b hb => Nat.lt_of_lt_of_le (h.below b hb) k.size }
theorem FsAt.kept {F G : Nat → Prop} {w w' : World} {g : Nat} {s : FsS} (h : FsAt F w g s) (k : Kept G w w') (hG : ∀ b, F b → ¬ G b) : FsAt F w' g s := by
  obtain ⟨dm, lm, wv, bv, h⟩ := h
  exact ⟨dm, lm, wv, bv, h.kept k hG⟩
end Go.Proofs.YtflnekjmcpmbbaaGreatDoor

/- Walks: new files; how many bytes are used. -/
set_option linter.unusedVariables false
set_option linter.unusedSimpArgs false
namespace Go.Proofs.YtflnekjmcpmbbaaGreatDoor
open Go.RowKit

def fs0 (n : Int) : FsS := ⟨roomR n, 0, -1, [], [], [], fun _ => ([], 0), []⟩
set_option maxHeartbeats 1000000 in
set_option maxRecDepth 100000 in
theorem New_any (n : Int) (w : World) :
    Calls Tryz.prog 5 #[.int .i64 n] w fun e w' => ∃ g F, e = .returned (ptrV g) ∧ FsAt F w' g (fs0 n) ∧ (∀ k, F k → w.heap.size ≤ k) ∧ Kept noF w w' := by
  have mm : ∀ (t : TypeId) (w : World), (Instr.makeMap t none).run Tryz.prog w = .ok (.map (some w.heap.size)) (w.alloc (.map #[] 0)) := fun t w => rfl
  go_enter Tryz.func5, Tryz.ntmps5
  go_wp2_with (go_at_call 23; refine (room_any n _).mono ?_; rintro e w' ⟨rfl, rfl⟩)
  go_ret
  refine ⟨w.heap.size + 2, fun k => w.heap.size ≤ k ∧ k ≤ w.heap.size + 2, rfl, ⟨w.heap.size, w.heap.size + 1, .slice none 0 0, fun _ => .slice none 0 0, ?_⟩, fun k h => h.1, (((Kept.refl _ _).alloc _).alloc _).alloc _⟩
  exact
    { blk := blk_new' _ _ _ (by simp)
      dir := ((MapAt.made w).kept0 ((Kept.refl _ _).alloc _)).kept0 ((Kept.refl _ _).alloc _)
      lasts := by
        have := (MapAt.made (ek := Value.string) (ev := ptrV) (w.alloc (.map #[] 0)))
        rw [World.size_alloc] at this
        exact this.kept0 ((Kept.refl _ _).alloc _)
      apart := by omega
      waits := World.ownsRow_nil _ _ _ _
      file := by simp [FsS.ids, fs0]
      bytes := by simp [FsS.ids, fs0]
      own := by simp [FsS.ids, fs0]
      inG := by omega
      inD := by omega
      inL := by omega
      inW := by simp [Value.ownBlock]
      inF := by simp [FsS.ids, fs0]
      inB := by simp [FsS.ids, fs0]
      below := fun k h => by simp; omega
      calls0 := Int.le_refl _
      fail1 := Int.le_refl _
      fail2 := by simp [fs0] }
end Go.Proofs.YtflnekjmcpmbbaaGreatDoor

/- Walks: how many bytes are used. -/
set_option linter.unusedVariables false
set_option linter.unusedSimpArgs false
namespace Go.Proofs.YtflnekjmcpmbbaaGreatDoor
open Go.RowKit Go.MapKept

def sumL (files : Nat → List UInt8 × Nat) (l : List (ByteArray × Nat)) : Nat := (l.map fun p => (files p.2).1.length).sum
theorem sumL_perm {files : Nat → List UInt8 × Nat} {l l' : List (ByteArray × Nat)} (h : l.Perm l') : sumL files l = sumL files l' := (h.map _).sum_nat
theorem sumL_cons (files : Nat → List UInt8 × Nat) (p : ByteArray × Nat) (l : List (ByteArray × Nat)) : sumL files (p :: l) = (files p.2).1.length + sumL files l := by simp [sumL]

/-- How many entries are to come: the measure of a range over a map. -/
def leftN (w : World) (b r : Nat) : Nat := match w.heap[b]?, w.heap[r]? with
  | some (.map es _), some (.mapIter _ _ seen _) => (leftOf es seen).size
  | _, _ => 0
theorem RangeAt.leftN {α β : Type} [DecidableEq α] {ek : α → Value} {ev : β → Value} {w : World} {b r : Nat} {todo : List (α × β)} (h : RangeAt ek ev w b r todo) : leftN w b r = todo.length := by
  obtain ⟨es, clock, since, seen, c0, h1, h2, h3, _, _, _, h4⟩ := h
  unfold Go.Proofs.YtflnekjmcpmbbaaGreatDoor.leftN
  rw [h1, h3]
  have := h4.length_eq
  simpa using this

set_option maxHeartbeats 1000000 in
set_option maxRecDepth 100000 in
theorem Used_any (F : Nat → Prop) (g : Nat) (s : FsS) (w : World) (h : FsAt F w g s) (hsum : sumL s.files s.dir < 4611686018427387904) :
    Calls Tryz.prog 27 #[ptrV g] w fun e w' => e = .returned (.int .i64 (sumL s.files s.dir)) ∧ Kept noF w w' := by
  obtain ⟨dm, lm, wv, bv, hin⟩ := h
  have c1 : w.cell? ⟨g, 1, none⟩ = some (.map (some dm)) := blk_cell hin.blk 1 rfl
  obtain ⟨w1, hrange, hra, hk1, hz1⟩ := hin.dir.range (P := Tryz.prog) Tryz.underlying52
  have HIN := Lib.hid hin
  have HRA := Lib.hid hra
  have HK1 := Lib.hid hk1
  clear hin hra hk1
  unfold ptrV
  go_enter Tryz.func27, Tryz.ntmps27
  go_wp2_with fail
  go_loopw [3] (fun n wr => ∃ (done todo : List (ByteArray × Nat)), n = .int .i64 (sumL s.files done) ∧ s.dir.Perm (done ++ todo) ∧ RangeAt Value.string ptrV wr dm w.heap.size todo ∧ Kept noF w wr) (fun _ wr => leftN wr dm w.heap.size)
  case atStart => exact ⟨[], s.dir, rfl, List.Perm.refl _, HRA.out, HK1.out⟩
  case round =>
    obtain ⟨done, todo, rfl, hperm, hra, hk⟩ := hrel
    have hl := hra.leftN
    rcases hra.next (P := Tryz.prog) 0 with ⟨rfl, hnext⟩ | ⟨p, todo', w2, hp, hnext, hra2, hk2, hz2, hent⟩
    · have hs : sumL s.files done = sumL s.files s.dir := by rw [sumL_perm hperm, List.append_nil]
      have HS := Lib.hid hs
      have HK := Lib.hid hk
      clear hs hk hl hra hperm
      go_wp2
      go_ret
      rw [HS.out]
      exact ⟨rfl, HK.out⟩
    · have hmem : p ∈ s.dir := hperm.mem_iff.2 (List.mem_append_right _ (hp.mem_iff.2 List.mem_cons_self))
      have hid : p.2 ∈ s.ids := by
        unfold FsS.ids
        simp only [List.mem_append, List.mem_map]
        exact .inl (.inl (.inl ⟨p, hmem, rfl⟩))
      have hfb := HIN.out.file p.2 hid
      have hflt := blk_lt hfb
      have hk02 : Kept noF w w2 := hk.trans hk2 (fun i hi hg => by unfold oneF at hg; omega)
      have hcell : w2.cell? ⟨p.2, 0, none⟩ = some (bv p.2) := blk_cell (hk02.blk0 hfb) 0 rfl
      obtain ⟨Af, cf, hbv, hcf⟩ := own_form (HIN.out.bytes p.2 hid)
      rw [hbv] at hcell
      have hperm2 : s.dir.Perm ((done ++ [p]) ++ todo') := by
        refine hperm.trans ?_
        rw [List.append_assoc]
        exact List.Perm.append_left _ hp
      have hs2 : sumL s.files (done ++ [p]) = sumL s.files done + (s.files p.2).1.length := by simp [sumL]
      have hs3 : sumL s.files s.dir = sumL s.files done + (s.files p.2).1.length + sumL s.files todo' := by rw [sumL_perm hperm2, ← hs2]; simp [sumL, Nat.add_assoc]
      have hwr : IntKind.i64.wrap ((sumL s.files done : Int) + ((s.files p.2).1.length : Int)) = (sumL s.files done : Int) + ((s.files p.2).1.length : Int) := IntWalk.i64_in _ (by omega)
      have hl2 := hra2.leftN
      have hll := hp.length_eq
      simp only [List.length_cons] at hll
      obtain ⟨name, f⟩ := p
      simp only at *
      generalize (s.files f).1.length = Lf at *
      have HP2 := Lib.hid hperm2
      have HS2 := Lib.hid hs2
      have HK2 := Lib.hid hk02
      have HRA2 := Lib.hid hra2
      have HL := Lib.hid hl
      have HL2 := Lib.hid hl2
      have HLL := Lib.hid hll
      clear hperm2 hs2 hs3 hk02 hra2 hl hl2 hll hmem hid hfb hbv hk hk2 hra hp hperm hflt hcf
      unfold ptrV at hnext hent
      go_wp2
      refine ⟨⟨done ++ [(name, f)], todo', ?_, HP2.out, HRA2.out, HK2.out⟩, ?_⟩
      · rw [HS2.out]; go_num
      · have := HL.out; have := HL2.out; have := HLL.out; omega
end Go.Proofs.YtflnekjmcpmbbaaGreatDoor

/- Walks: reading a file. -/
set_option linter.unusedVariables false
set_option linter.unusedSimpArgs false
namespace Go.Proofs.YtflnekjmcpmbbaaGreatDoor
open Go.RowKit Go.MapKept

theorem mem_ids_dir {s : FsS} {name : ByteArray} {f : Nat} (h : mget s.dir name = some f) : f ∈ s.ids := by
  unfold FsS.ids
  simp only [List.mem_append, List.mem_map]
  exact .inl (.inl (.inl ⟨_, mget_mem h, rfl⟩))
theorem zeroFile (w : World) : (zeroValue 57).run Tryz.prog w = .ok (.pointer none) w := by kernel_rfl

set_option maxHeartbeats 1000000 in
set_option maxRecDepth 100000 in
theorem Read_none (F : Nat → Prop) (g : Nat) (s : FsS) (w : World) (name : ByteArray) (h : FsAt F w g s) (hn : mget s.dir name = none) :
    Calls Tryz.prog 9 #[ptrV g, .string name] w fun e w' => e = .returned (.tuple #[.slice none 0 0, .int .i64 3]) ∧ w = w' := by
  obtain ⟨dm, lm, wv, bv, hin⟩ := h
  have c1 : w.cell? ⟨g, 1, none⟩ = some (.map (some dm)) := blk_cell hin.blk 1 rfl
  have hlook := hin.dir.look (P := Tryz.prog) encStr Tryz.underlying52 Tryz.underlying9 (zeroFile w) name false
  rw [hn] at hlook
  have hl : (Instr.lookup 52 (.map (some dm)) (.string name) false).run Tryz.prog w = .ok (.pointer none) w := hlook
  clear hlook hin hn
  unfold ptrV
  go_enter Tryz.func9, Tryz.ntmps9
  go_wp2
  go_ret2
  exact ⟨rfl, rfl⟩

set_option maxHeartbeats 1000000 in
set_option maxRecDepth 100000 in
theorem Read_some (F : Nat → Prop) (g f : Nat) (s : FsS) (w : World) (name : ByteArray) (h : FsAt F w g s) (hn : mget s.dir name = some f) (hlen : (s.files f).1.length ≤ 140737488351232) :
    Calls Tryz.prog 9 #[ptrV g, .string name] w fun e w' => ∃ v, e = .returned (.tuple #[v, .int .i64 0]) ∧ w'.ownsRow w.heap.size 5 1 v (s.files f).1.length (bvs (s.files f).1) ∧ Kept noF w w' := by
  obtain ⟨dm, lm, wv, bv, hin⟩ := h
  have hid := mem_ids_dir hn
  have c1 : w.cell? ⟨g, 1, none⟩ = some (.map (some dm)) := blk_cell hin.blk 1 rfl
  have cf : w.cell? ⟨f, 0, none⟩ = some (bv f) := blk_cell (hin.file f hid) 0 rfl
  have hlook := hin.dir.look (P := Tryz.prog) encStr Tryz.underlying52 Tryz.underlying9 (zeroFile w) name false
  rw [hn] at hlook
  have hl : (Instr.lookup 52 (.map (some dm)) (.string name) false).run Tryz.prog w = .ok (.pointer (some ⟨f, 0, none⟩)) w := hlook
  have hby := hin.bytes f hid
  have Q := Lib.hid (bytesClone_any (bv f) (s.files f).1 w (Reads.own hby) hlen)
  clear hlook hin hn hid hby hlen
  unfold ptrV
  go_enter Tryz.func9, Tryz.ntmps9
  go_wp2_with (go_at_call 32; refine Q.out.mono ?_; rintro e w2 ⟨v2, rfl, hown2, hk2⟩)
  go_ret2
  exact ⟨_, rfl, hown2, hk2⟩
end Go.Proofs.YtflnekjmcpmbbaaGreatDoor

/- What a call turns in the files' state. -/
set_option linter.unusedVariables false
set_option linter.unusedSimpArgs false
namespace Go.Proofs.YtflnekjmcpmbbaaGreatDoor
open Go.RowKit Go.MapKept

theorem own_block {w : World} {base : Nat} {e : TypeId} {sz n : Nat} {v : Value} {cs : List Value} (h : w.ownsRow base e sz v n cs) (b : Nat) (hb : v.ownBlock = some b) : ∃ cur, w.heap[b]? = some (.cells cur e (0, 0)) := by
  rcases h.2 with ⟨rfl, _⟩ | ⟨g, cap, cur, rfl, _, hh, _⟩
  · simp [Value.ownBlock] at hb
  · simp only [Value.ownBlock, Option.some.injEq] at hb
    subst hb
    exact ⟨cur, hh⟩
/-- The six cells turn, nothing else. -/
theorem FsIn.turn {F : Nat → Prop} {w w' : World} {g dm lm : Nat} {wv : Value} {bv : Nat → Value} {s : FsS} (h : FsIn F w g dm lm wv bv s) {room calls fail : Int}
    (hb : w'.heap[g]? = some (.cells (fsCells room (.map (some dm)) (.map (some lm)) wv calls fail) 55)) (k : Kept (oneF g) w w') (hc : 0 ≤ calls) (hf : -1 ≤ fail) (hf2 : fail ≤ 9223372036854775807) :
    FsIn F w' g dm lm wv bv { s with room := room, calls := calls, fail := fail } := by
  have hd : dm ≠ g := by rintro rfl; obtain ⟨_, _, e, _⟩ := h.dir; rw [h.blk] at e; cases e
  have hl : lm ≠ g := by rintro rfl; obtain ⟨_, _, e, _⟩ := h.lasts; rw [h.blk] at e; cases e
  have hw : ∀ b, wv.ownBlock = some b → b ≠ g := by
    rintro b hb1 rfl; obtain ⟨_, e⟩ := own_block h.waits b hb1; rw [h.blk] at e; simp at e
  have hfl : ∀ f ∈ s.ids, f ≠ g := by rintro f hf rfl; have e := h.file f hf; rw [h.blk] at e; simp at e
  have hby : ∀ f ∈ s.ids, ∀ b, (bv f).ownBlock = some b → b ≠ g := by
    rintro f hf b hb1 rfl; obtain ⟨_, e⟩ := own_block (h.bytes f hf) b hb1; rw [h.blk] at e; simp at e
  exact
    { blk := hb
      dir := h.dir.kept k hd
      lasts := h.lasts.kept k hl
      apart := h.apart
      waits := own_kept h.waits k hw
      file := fun f hf => k.blk (h.file f hf) (hfl f hf)
      bytes := fun f hf => own_kept (h.bytes f hf) k (hby f hf)
      own := h.own
      inG := h.inG
      inD := h.inD
      inL := h.inL
      inW := h.inW
      inF := h.inF
      inB := h.inB
      below := fun b hb => Nat.lt_of_lt_of_le (h.below b hb) k.size
      calls0 := hc
      fail1 := hf
      fail2 := hf2 }
end Go.Proofs.YtflnekjmcpmbbaaGreatDoor

/- Walks: bytes at a file's end. -/
set_option linter.unusedVariables false
set_option linter.unusedSimpArgs false
namespace Go.Proofs.YtflnekjmcpmbbaaGreatDoor
open Go.RowKit Go.MapKept

/-- What a counted call leaves. -/
def FsS.called (s : FsS) : FsS := { s with calls := s.calls + 1, fail := failR s.fail }
theorem call_at (F : Nat → Prop) (w : World) (g dm lm : Nat) (wv : Value) (bv : Nat → Value) (s : FsS) (h : FsIn F w g dm lm wv bv s) (hc : s.calls < 4611686018427387904) :
    Calls Tryz.prog 24 #[ptrV g] w fun e w' => e = .returned (.int .i64 (errR s.fail)) ∧ FsIn F w' g dm lm wv bv s.called ∧ Kept (oneF g) w w' := by
  have h0 := h.calls0
  have h1 := h.fail1
  have h2 := h.fail2
  refine (call_any g s.room _ _ wv s.calls s.fail w h.blk h0 hc h1 h2).mono ?_
  rintro e w' ⟨rfl, hb, hk⟩
  exact ⟨rfl, h.turn hb hk (by omega) (by unfold failR; omega) (by unfold failR; omega), hk⟩

set_option maxHeartbeats 1000000 in
set_option maxRecDepth 100000 in
theorem Append_fail (F : Nat → Prop) (g : Nat) (s : FsS) (w : World) (name : ByteArray) (v : Value) (h : FsAt F w g s) (hc : s.calls < 4611686018427387904) (hf : s.fail = 0) :
    Calls Tryz.prog 7 #[ptrV g, .string name, v] w fun e w' => e = .returned (.int .i64 5) ∧ FsAt F w' g s.called ∧ Kept (oneF g) w w' := by
  obtain ⟨dm, lm, wv, bv, hin⟩ := h
  have q := call_at F w g dm lm wv bv s hin hc
  have e0 : errR s.fail = 5 := by rw [hf]; rfl
  rw [e0] at q
  have Q := Lib.hid q
  clear q e0 hin hf
  unfold ptrV at *
  go_enter Tryz.func7, Tryz.ntmps7
  go_wp2_with (go_at_call 24; refine Q.out.mono ?_; rintro e w1 ⟨rfl, hin1, hk1⟩)
  go_ret
  exact ⟨rfl, ⟨_, _, _, _, hin1⟩, hk1⟩

set_option maxHeartbeats 1000000 in
set_option maxRecDepth 100000 in
theorem Append_none (F : Nat → Prop) (g : Nat) (s : FsS) (w : World) (name : ByteArray) (v : Value) (h : FsAt F w g s) (hc : s.calls < 4611686018427387904) (hf : s.fail ≠ 0) (hn : mget s.dir name = none) :
    Calls Tryz.prog 7 #[ptrV g, .string name, v] w fun e w' => e = .returned (.int .i64 3) ∧ FsAt F w' g s.called ∧ Kept (oneF g) w w' := by
  obtain ⟨dm, lm, wv, bv, hin⟩ := h
  have q := call_at F w g dm lm wv bv s hin hc
  have e0 : errR s.fail = 0 := by unfold errR; rw [if_neg hf]
  rw [e0] at q
  have Q := Lib.hid q
  have HN := Lib.hid hn
  clear q e0 hin hf hn
  unfold ptrV at *
  go_enter Tryz.func7, Tryz.ntmps7
  go_wp2_with fail
  refine Q.out.mono ?_
  rintro e w1 ⟨rfl, hin1, hk1⟩
  have c1 : w1.cell? ⟨g, 1, none⟩ = some (.map (some dm)) := blk_cell hin1.blk 1 rfl
  have hlook := hin1.dir.look (P := Tryz.prog) encStr Tryz.underlying52 Tryz.underlying9 (zeroFile w1) name false
  have hd : s.called.dir = s.dir := rfl
  rw [hd, HN.out] at hlook
  have hl : (Instr.lookup 52 (.map (some dm)) (.string name) false).run Tryz.prog w1 = .ok (.pointer none) w1 := hlook
  have HIN1 := Lib.hid hin1
  have HK1 := Lib.hid hk1
  clear hlook hin1 hk1 hd
  go_wp2
  go_ret
  exact ⟨rfl, ⟨_, _, _, _, HIN1.out⟩, HK1.out⟩

set_option maxHeartbeats 1000000 in
set_option maxRecDepth 100000 in
theorem Append_full (F : Nat → Prop) (g f : Nat) (s : FsS) (w : World) (name : ByteArray) (A : Option Addr) (n c : Nat) (h : FsAt F w g s) (hc : s.calls < 4611686018427387904) (hf : s.fail ≠ 0) (hn : mget s.dir name = some f)
    (hsum : sumL s.files s.dir < 4611686018427387904) (hnl : n < 4611686018427387904) (hr : 0 ≤ s.room ∧ s.room ≤ 4194304) (hfull : s.room - sumL s.files s.dir < n) :
    Calls Tryz.prog 7 #[ptrV g, .string name, .slice A n c] w fun e w' => e = .returned (.int .i64 4) ∧ FsAt F w' g s.called ∧ Kept (oneF g) w w' := by
  obtain ⟨dm, lm, wv, bv, hin⟩ := h
  have q := call_at F w g dm lm wv bv s hin hc
  have e0 : errR s.fail = 0 := by unfold errR; rw [if_neg hf]
  rw [e0] at q
  have Q := Lib.hid q
  have HN := Lib.hid hn
  clear q e0 hin hf hn
  unfold ptrV at *
  go_enter Tryz.func7, Tryz.ntmps7
  go_wp2_with fail
  refine Q.out.mono ?_
  rintro e w1 ⟨rfl, hin1, hk1⟩
  have c1 : w1.cell? ⟨g, 1, none⟩ = some (.map (some dm)) := blk_cell hin1.blk 1 rfl
  have c0 : w1.cell? ⟨g, 0, none⟩ = some (.int .i64 s.room) := blk_cell hin1.blk 0 rfl
  have hlook := hin1.dir.look (P := Tryz.prog) encStr Tryz.underlying52 Tryz.underlying9 (zeroFile w1) name false
  have hd : s.called.dir = s.dir := rfl
  rw [hd, HN.out] at hlook
  have hl : (Instr.lookup 52 (.map (some dm)) (.string name) false).run Tryz.prog w1 = .ok (.pointer (some ⟨f, 0, none⟩)) w1 := hlook
  have qu := Used_any F g s.called w1.drew ⟨dm, lm, wv, bv, hin1.kept ((Kept.refl noF _).drew) (fun _ _ h => h)⟩ hsum
  have hs2 : sumL s.called.files s.called.dir = sumL s.files s.dir := rfl
  rw [hs2] at qu
  generalize sumL s.files s.dir = U at *
  have k1 : decide ((n : Int) > s.room - (U : Int)) = true := by simp; omega
  have k2 : s.room - (U : Int) < (n : Int) := hfull
  have w3 : IntKind.i64.wrap (s.room - (U : Int)) = s.room - (U : Int) := IntWalk.i64_in _ (by omega)
  have HIN1 := Lib.hid hin1
  have HK1 := Lib.hid hk1
  have QU := Lib.hid qu
  clear hlook hin1 hk1 hd qu hs2
  go_upto_region 7 with fail
  go_cut [23] (fun v wx => v = .bool true ∧ Kept noF w1 wx)
  case first =>
    go_region_held3 (fun w' => w'.cell? ⟨g, 0, none⟩ = some (.int .i64 s.room)) (first | go_keep | exact hk2.cell0 (w := w1.drew) c0)
      (first | (go_at_call 27; refine QU.out.mono ?_; rintro e w2 ⟨rfl, hk2⟩))
    all_goals (go_wp2_with fail; go_meet; exact ⟨rfl, (Kept.refl noF w1).drew.trans0 hk2⟩)
  case rest =>
    obtain ⟨rfl, hk⟩ := hcut
    have HK := Lib.hid hk
    clear hk
    go_wp2
    go_ret
    exact ⟨rfl, ⟨_, _, _, _, HIN1.out.kept HK.out (fun _ _ h => h)⟩, HK1.out.trans0 HK.out⟩
end Go.Proofs.YtflnekjmcpmbbaaGreatDoor

/- A file that grows. -/
set_option linter.unusedVariables false
set_option linter.unusedSimpArgs false
namespace Go.Proofs.YtflnekjmcpmbbaaGreatDoor
open Go.RowKit Go.MapKept

def upd {α : Type} (f : Nat → α) (k : Nat) (v : α) : Nat → α := fun j => if j = k then v else f j
theorem upd_same {α : Type} (f : Nat → α) (k : Nat) (v : α) : upd f k v k = v := by simp [upd]
theorem upd_ne {α : Type} (f : Nat → α) {k j : Nat} (v : α) (h : j ≠ k) : upd f k v j = f j := by simp [upd, h]
def FsS.put (s : FsS) (f : Nat) (x : List UInt8 × Nat) : FsS := { s with files := upd s.files f x }
theorem FsIn.grow {F : Nat → Prop} {w w2 : World} {g dm lm : Nat} {wv : Value} {bv : Nat → Value} {s : FsS} (h : FsIn F w g dm lm wv bv s) {f : Nat} (hf : f ∈ s.ids) {v' : Value} {l : List UInt8}
    (hg : w.grownBy w2 (bv f).ownBlock) (hown : w2.ownsRow 0 5 1 v' l.length (bvs l)) (hwh : ∀ k, v'.ownBlock = some k → (bv f).ownBlock = some k ∨ w.heap.size ≤ k) :
    FsIn (fun k => F k ∨ v'.ownBlock = some k) (w2.setCell ⟨f, 0, none⟩ v') g dm lm wv (upd bv f v') (s.put f (l, (s.files f).2)) := by
  have hk : Kept (fun k => (bv f).ownBlock = some k) w w2 := (Kept.refl _ w).grown hg (fun k hk => .inl hk)
  have hk2 : Kept (fun k => (bv f).ownBlock = some k ∨ k = f) w (w2.setCell ⟨f, 0, none⟩ v') := Kept.set (F := fun k => (bv f).ownBlock = some k ∨ k = f) (hk.mono (fun k _ h => Or.inl h)) f 0 (.inl (.inr rfl)) v'
  have hbf := fun b hb => own_block (h.bytes f hf) b hb
  have hfile := h.file f hf
  have nG : ¬ ((bv f).ownBlock = some g ∨ g = f) := by
    rintro (hb | rfl)
    · obtain ⟨_, e⟩ := hbf g hb; rw [h.blk] at e; simp at e
    · rw [h.blk] at hfile; simp at hfile
  have nD : ¬ ((bv f).ownBlock = some dm ∨ dm = f) := by
    obtain ⟨_, _, e0, _⟩ := h.dir
    rintro (hb | rfl)
    · obtain ⟨_, e⟩ := hbf dm hb; rw [e0] at e; cases e
    · rw [e0] at hfile; cases hfile
  have nL : ¬ ((bv f).ownBlock = some lm ∨ lm = f) := by
    obtain ⟨_, _, e0, _⟩ := h.lasts
    rintro (hb | rfl)
    · obtain ⟨_, e⟩ := hbf lm hb; rw [e0] at e; cases e
    · rw [e0] at hfile; cases hfile
  have nW : ∀ b, wv.ownBlock = some b → ¬ ((bv f).ownBlock = some b ∨ b = f) := by
    intro b hb0
    obtain ⟨_, e0⟩ := own_block h.waits b hb0
    rintro (hb | rfl)
    · obtain ⟨_, e⟩ := hbf b hb; rw [e0] at e; simp at e
    · rw [e0] at hfile; simp at hfile
  have nF : ∀ f2 ∈ s.ids, f2 ≠ f → ¬ ((bv f).ownBlock = some f2 ∨ f2 = f) := by
    intro f2 hf2 hne
    have e0 := h.file f2 hf2
    rintro (hb | rfl)
    · obtain ⟨_, e⟩ := hbf f2 hb; rw [e0] at e; simp at e
    · exact hne rfl
  have nB : ∀ f2 ∈ s.ids, f2 ≠ f → ∀ b, (bv f2).ownBlock = some b → ¬ ((bv f).ownBlock = some b ∨ b = f) := by
    intro f2 hf2 hne b hb0
    obtain ⟨_, e0⟩ := own_block (h.bytes f2 hf2) b hb0
    rintro (hb | rfl)
    · exact h.own f2 hf2 f hf hne b hb0 hb
    · rw [e0] at hfile; simp at hfile
  have hfne : (bv f).ownBlock ≠ some f := by
    intro hb; obtain ⟨_, e⟩ := hbf f hb; rw [hfile] at e; simp at e
  have hf2 := hk.blk hfile hfne
  have hvf : v'.ownBlock ≠ some f := by
    intro hb
    rcases hwh f hb with h1 | h1
    · exact hfne h1
    · have := blk_lt hfile; omega
  exact
    { blk := hk2.blk h.blk nG
      dir := h.dir.kept hk2 nD
      lasts := h.lasts.kept hk2 nL
      apart := h.apart
      waits := own_kept h.waits hk2 nW
      file := fun j hj => by
        by_cases e : j = f
        · subst e
          have := blk_set hf2 0 v'
          simpa [upd, FsS.put] using this
        · rw [upd_ne _ _ e]
          have := hk2.blk (h.file j hj) (nF j hj e)
          simpa [FsS.put, upd, e] using this
      bytes := fun j hj => by
        by_cases e : j = f
        · subst e
          have := own_kept hown (Kept.set1 w2 j 0 v') (fun b hb hb2 => hvf (by rw [hb, hb2]))
          simpa [upd, FsS.put] using this
        · have := own_kept (h.bytes j hj) hk2 (nB j hj e)
          simpa [FsS.put, upd, e] using this
      own := fun f1 h1 f2 h2 hne b hb hb2 => by
        by_cases e1 : f1 = f
        · subst e1
          rw [upd_same] at hb
          rw [upd_ne _ _ (fun e => hne e.symm)] at hb2
          rcases hwh b hb with h3 | h3
          · exact h.own f1 h1 f2 h2 hne b h3 hb2
          · have := own_lt (h.bytes f2 h2) b hb2; omega
        · rw [upd_ne _ _ e1] at hb
          by_cases e2 : f2 = f
          · subst e2
            rw [upd_same] at hb2
            rcases hwh b hb2 with h3 | h3
            · exact h.own f1 h1 f2 h2 hne b hb h3
            · have := own_lt (h.bytes f1 h1) b hb; omega
          · rw [upd_ne _ _ e2] at hb2
            exact h.own f1 h1 f2 h2 hne b hb hb2
      inG := .inl h.inG
      inD := .inl h.inD
      inL := .inl h.inL
      inW := fun b hb => .inl (h.inW b hb)
      inF := fun j hj => .inl (h.inF j hj)
      inB := fun j hj b hb => by
        by_cases e : j = f
        · subst e; rw [upd_same] at hb; exact .inr hb
        · rw [upd_ne _ _ e] at hb; exact .inl (h.inB j hj b hb)
      below := fun k hk' => by
        rcases hk' with hk' | hk'
        · exact Nat.lt_of_lt_of_le (h.below k hk') hk2.size
        · have := own_lt hown k hk'
          simpa using this
      calls0 := h.calls0
      fail1 := h.fail1
      fail2 := h.fail2 }
end Go.Proofs.YtflnekjmcpmbbaaGreatDoor

/- Walks: bytes at a file's end, where there is room. -/
set_option linter.unusedVariables false
set_option linter.unusedSimpArgs false
namespace Go.Proofs.YtflnekjmcpmbbaaGreatDoor
open Go.RowKit Go.MapKept

set_option maxHeartbeats 1000000 in
set_option maxRecDepth 100000 in
theorem Append_ok (F : Nat → Prop) (g f : Nat) (s : FsS) (w : World) (name : ByteArray) (A : Option Addr) (c : Nat) (bs : List UInt8) (h : FsAt F w g s) (hc : s.calls < 4611686018427387904) (hf : s.fail ≠ 0) (hn : mget s.dir name = some f)
    (hr : 0 ≤ s.room ∧ s.room ≤ 4194304) (hfit : (bs.length : Int) ≤ s.room - sumL s.files s.dir) (hbs : Reads w (.slice A bs.length c) 1 bs.length (bvs bs)) (hfar : 0 < bs.length → ∀ b, (Value.slice A bs.length c).ownBlock = some b → ¬ F b) :
    Calls Tryz.prog 7 #[ptrV g, .string name, .slice A bs.length c] w fun e w' => ∃ F', e = .returned (.int .i64 0) ∧ FsAt F' w' g (s.called.put f ((s.files f).1 ++ bs, (s.files f).2)) ∧ Kept F w w' ∧ (∀ k, F' k → F k ∨ w.heap.size ≤ k) := by
  obtain ⟨dm, lm, wv, bv, hin⟩ := h
  have hid := mem_ids_dir hn
  have hle : (s.files f).1.length ≤ sumL s.files s.dir := by
    obtain ⟨a, b, e⟩ := List.append_of_mem (mget_mem hn)
    rw [e]
    simp [sumL]
    omega
  have q := call_at F w g dm lm wv bv s hin hc
  have e0 : errR s.fail = 0 := by unfold errR; rw [if_neg hf]
  rw [e0] at q
  have Q := Lib.hid q
  have HN := Lib.hid hn
  have HIN := Lib.hid hin
  have hgF := hin.inG
  clear q e0 hin hf hn
  unfold ptrV at *
  go_enter Tryz.func7, Tryz.ntmps7
  go_wp2_with fail
  refine Q.out.mono ?_
  rintro e w1 ⟨rfl, hin1, hk1⟩
  have c1 : w1.cell? ⟨g, 1, none⟩ = some (.map (some dm)) := blk_cell hin1.blk 1 rfl
  have c0 : w1.cell? ⟨g, 0, none⟩ = some (.int .i64 s.room) := blk_cell hin1.blk 0 rfl
  have hlook := hin1.dir.look (P := Tryz.prog) encStr Tryz.underlying52 Tryz.underlying9 (zeroFile w1) name false
  have hd : s.called.dir = s.dir := rfl
  rw [hd, HN.out] at hlook
  have hl : (Instr.lookup 52 (.map (some dm)) (.string name) false).run Tryz.prog w1 = .ok (.pointer (some ⟨f, 0, none⟩)) w1 := hlook
  have qu := Used_any F g s.called w1.drew ⟨dm, lm, wv, bv, hin1.kept ((Kept.refl noF _).drew) (fun _ _ h => h)⟩ (show sumL s.files s.dir < _ by omega)
  have hs2 : sumL s.called.files s.called.dir = sumL s.files s.dir := rfl
  rw [hs2] at qu
  generalize sumL s.files s.dir = U at *
  have k1 : decide ((bs.length : Int) > s.room - (U : Int)) = false := by simp; omega
  have k2 : (bs.length : Int) ≤ s.room - (U : Int) := hfit
  have w3 : IntKind.i64.wrap (s.room - (U : Int)) = s.room - (U : Int) := IntWalk.i64_in _ (by omega)
  have HIN1 := Lib.hid hin1
  have HK1 := Lib.hid hk1
  have QU := Lib.hid qu
  have HBS := Lib.hid hbs
  have HFAR := Lib.hid hfar
  have HID := Lib.hid hid
  clear hlook hin1 hk1 hd qu hs2 hbs hfar hid
  have hLb : (bs.length : Int) ≤ 4194304 := by omega
  have hLf : ((s.files f).1.length : Int) ≤ 4194304 := by omega
  generalize hLL : bs.length = L at *
  have HLL := Lib.hid hLL
  clear hLL
  go_upto_region 7 with fail
  go_cut [23] (fun v wx => v = .bool false ∧ Kept noF w1 wx)
  case first =>
    go_region_held3 (fun w' => w'.cell? ⟨g, 0, none⟩ = some (.int .i64 s.room)) (first | go_keep | exact hk2.cell0 (w := w1.drew) c0)
      (first | (go_at_call 27; refine QU.out.mono ?_; rintro e w2 ⟨rfl, hk2⟩))
    all_goals (go_wp2_with fail; go_meet; exact ⟨rfl, (Kept.refl noF w1).drew.trans0 hk2⟩)
  case rest =>
    obtain ⟨rfl, hk⟩ := hcut
    have hin2 := HIN1.out.kept hk (fun _ _ h => h)
    have hfb : f ∈ s.called.ids := HID.out
    have hblk := hin2.file f hfb
    have x0 : wc.cell? ⟨f, 0, none⟩ = some (bv f) := blk_cell hblk 0 rfl
    have hby : wc.ownsRow 0 5 1 (bv f) (s.files f).1.length (bvs (s.files f).1) := hin2.bytes f hfb
    obtain ⟨Af, cf, hbv, hcf⟩ := own_form hby
    have hrd := (HBS.out.kept HK1.out (fun hp b hb e => HFAR.out hp b hb (by unfold oneF at e; rw [e]; exact hgF))).kept0 hk
    have hne : (bv f).ownBlock ≠ some f := by
      intro hb; obtain ⟨_, e⟩ := own_block hby f hb; rw [hblk] at e; simp at e
    have hsz : w.heap.size ≤ wc.heap.size := Nat.le_trans HK1.out.size hk.size
    have hkF : Kept F w wc := (HK1.out.mono (fun i _ h => by unfold oneF at h; rw [h]; exact hgF)).trans0 hk
    have hone : ∀ u ∈ bvs bs, u.oneCell' = true := bvs_one bs
    have HIN2 := Lib.hid hin2
    have HBY := Lib.hid hby
    have HRD := Lib.hid hrd
    have HBLK := Lib.hid hblk
    have HNE := Lib.hid hne
    have HKF := Lib.hid hkF
    have HBV := Lib.hid hbv
    have HONE := Lib.hid hone
    have hb1 : ((s.files f).1.length + L) * 1 ≤ 140737488355328 := by omega
    have hb2 : (s.files f).1.length + L ≤ 9223372036854775807 := by omega
    clear hk hin2 hblk hby hrd hne hkF hbv hone
    go_wp2_with (at_builtin; refine wpList_app2 rfl _ _ 23 rfl 0 5 (.int .u8 0) 1 1 Tryz.underlying23 infoU8 rfl (by decide) (bv f) _ _ (by rfl) HBY.out _ L (bvs bs) (by rfl) HRD.out HONE.out hb1 hb2 (Nat.zero_le _) ?_; intro v2 w2 hown2 hgr2 hwh2; (obtain ⟨A2, c2, rfl, hc2⟩ := own_form hown2); (have hk2 := ((Kept.refl (fun k => (bv f).ownBlock = some k) wc).grown hgr2 (fun k hk => .inl hk)).blk HBLK.out HNE.out); (have x2 : w2.cell? ⟨f, 0, none⟩ = some (bv f) := blk_cell hk2 0 rfl); (have y2 := blk_frozen hk2 0); (have HO2 := Lib.hid hown2); (have HG2 := Lib.hid hgr2); (have HW2 := Lib.hid hwh2); clear hown2 hgr2 hwh2 hk2)
    go_ret
    have hl : (s.files f).1.length + L = ((s.files f).1 ++ bs).length := by rw [List.length_append, HLL.out]
    have ho : w2.ownsRow 0 5 1 (.slice A2 ((s.files f).1.length + L) c2) ((s.files f).1 ++ bs).length (bvs ((s.files f).1 ++ bs)) := by rw [← hl, bvs_append]; exact HO2.out
    refine ⟨_, rfl, ⟨_, _, _, _, HIN2.out.grow hfb HG2.out ho HW2.out⟩, ?_, ?_⟩
    · have h1 : Kept F w w2 := HKF.out.grown HG2.out (fun k hk => .inl (HIN2.out.inB f hfb k hk))
      exact h1.set f 0 (.inl (HIN2.out.inF f hfb)) _
    · rintro k (hk | hk)
      · exact .inl hk
      · rcases HW2.out k hk with h1 | h1
        · exact .inl (HIN2.out.inB f hfb k h1)
        · exact .inr (by omega)
end Go.Proofs.YtflnekjmcpmbbaaGreatDoor

/- Walks: a change of a directory. -/
set_option linter.unusedVariables false
set_option linter.unusedSimpArgs false
namespace Go.Proofs.YtflnekjmcpmbbaaGreatDoor
open Go.RowKit Go.MapKept

def chgV (k : Int) (a b : ByteArray) (p : Value) : Value := .agg #[.int .i64 k, .string a, .string b, p]
set_option maxHeartbeats 1000000 in
set_option maxRecDepth 100000 in
theorem do_made (dm f : Nat) (m : List (ByteArray × Nat)) (n n2 : ByteArray) (w : World) (h : MapAt Value.string ptrV w dm m) :
    Calls Tryz.prog 43 #[.map (some dm), chgV 0 n n2 (ptrV f)] w fun e w' => e = .returned (.tuple #[]) ∧ MapAt Value.string ptrV w' dm (mput m n f) ∧ Kept (oneF dm) w w' := by
  obtain ⟨w1, hput, hm1, hk1, hz1⟩ := (h.kept0 ((Kept.refl _ w).alloc (.cells #[.int .i64 0, .string n, .string n2, ptrV f] 62))).put (P := Tryz.prog) encStr Tryz.underlying52 Tryz.underlying9 n f
  have hk := ((Kept.refl (oneF dm) w).alloc (.cells #[.int .i64 0, .string n, .string n2, ptrV f] 62)).transF hk1
  have HM := Lib.hid hm1
  have HK := Lib.hid hk
  clear hm1 hk hk1 hz1 h
  unfold chgV ptrV at *
  go_enter Tryz.func43, Tryz.ntmps43
  go_wp2
  first | go_end0 | (refine bodyPost_ret (results_none rfl _ _ _) rfl ?_)
  exact ⟨rfl, HM.out, HK.out⟩
set_option maxHeartbeats 1000000 in
set_option maxRecDepth 100000 in
theorem do_named (dm f : Nat) (m : List (ByteArray × Nat)) (a b : ByteArray) (p : Value) (w : World) (h : MapAt Value.string ptrV w dm m) (ha : mget m a = some f) :
    Calls Tryz.prog 43 #[.map (some dm), chgV 1 a b p] w fun e w' => e = .returned (.tuple #[]) ∧ MapAt Value.string ptrV w' dm (mput (mdel m a) b f) ∧ Kept (oneF dm) w w' := by
  have h0 := h.kept0 ((Kept.refl _ w).alloc (.cells #[.int .i64 1, .string a, .string b, p] 62))
  have hk0 := (Kept.refl (oneF dm) w).alloc (.cells #[.int .i64 1, .string a, .string b, p] 62)
  have hlook := h0.look (P := Tryz.prog) encStr Tryz.underlying52 Tryz.underlying9 (zeroFile _) a false
  rw [ha] at hlook
  obtain ⟨w1, hdel, hm1, hk1, hz1⟩ := h0.del (P := Tryz.prog) encStr Tryz.underlying52 Tryz.underlying9 a 0
  obtain ⟨w2, hput, hm2, hk2, hz2⟩ := hm1.put (P := Tryz.prog) encStr Tryz.underlying52 Tryz.underlying9 b f
  have hbk := hk1.blk (blk_new w (.cells #[.int .i64 1, .string a, .string b, p] 62)) (by have := h.lt; unfold oneF; omega)
  have c1 := blk_cell hbk 1 rfl
  have c2 := blk_cell hbk 2 rfl
  have hl : (Instr.lookup 52 (.map (some dm)) (.string a) false).run Tryz.prog (w.alloc (.cells #[.int .i64 1, .string a, .string b, p] 62)) = .ok (.pointer (some ⟨f, 0, none⟩)) _ := hlook
  have hk := (hk0.transF hk1).transF hk2
  have HM := Lib.hid hm2
  have HK := Lib.hid hk
  clear hm1 hm2 hk hk1 hk2 hk0 hz1 hz2 h h0 hlook ha hbk
  unfold chgV ptrV at *
  go_enter Tryz.func43, Tryz.ntmps43
  go_wp2
  first | go_end0 | (refine bodyPost_ret (results_none rfl _ _ _) rfl ?_)
  exact ⟨rfl, HM.out, HK.out⟩
set_option maxHeartbeats 1000000 in
set_option maxRecDepth 100000 in
theorem do_gone (dm : Nat) (m : List (ByteArray × Nat)) (a b : ByteArray) (p : Value) (w : World) (h : MapAt Value.string ptrV w dm m) :
    Calls Tryz.prog 43 #[.map (some dm), chgV 2 a b p] w fun e w' => e = .returned (.tuple #[]) ∧ MapAt Value.string ptrV w' dm (mdel m a) ∧ Kept (oneF dm) w w' := by
  have h0 := h.kept0 ((Kept.refl _ w).alloc (.cells #[.int .i64 2, .string a, .string b, p] 62))
  have hk0 := (Kept.refl (oneF dm) w).alloc (.cells #[.int .i64 2, .string a, .string b, p] 62)
  obtain ⟨w1, hdel, hm1, hk1, hz1⟩ := h0.del (P := Tryz.prog) encStr Tryz.underlying52 Tryz.underlying9 a 0
  have hk := hk0.transF hk1
  have HM := Lib.hid hm1
  have HK := Lib.hid hk
  clear hm1 hk hk1 hk0 hz1 h h0
  unfold chgV ptrV at *
  go_enter Tryz.func43, Tryz.ntmps43
  go_wp2
  first | go_end0 | (refine bodyPost_ret (results_none rfl _ _ _) rfl ?_)
  exact ⟨rfl, HM.out, HK.out⟩
end Go.Proofs.YtflnekjmcpmbbaaGreatDoor

/- Walks: a change of the directory that waits. -/
set_option linter.unusedVariables false
set_option linter.unusedSimpArgs false
namespace Go.Proofs.YtflnekjmcpmbbaaGreatDoor
open Go.RowKit Go.MapKept

/-- One more file. -/
theorem FsIn.add {F : Nat → Prop} {w : World} {g dm lm : Nat} {wv : Value} {bv : Nat → Value} {s : FsS} (h : FsIn F w g dm lm wv bv s) {f : Nat} {v : Value} {l : List UInt8} {n : Nat}
    (hf : w.heap[f]? = some (.cells #[v, .int .i64 n] 60)) (hv : w.ownsRow 0 5 1 v l.length (bvs l)) (hF : ¬ F f) (hF2 : ∀ b, v.ownBlock = some b → ¬ F b) :
    FsIn (fun k => F k ∨ k = f ∨ v.ownBlock = some k) w g dm lm wv (upd bv f v) { s with files := upd s.files f (l, n), extra := f :: s.extra } := by
  have hid : ∀ j, j ∈ FsS.ids { s with files := upd s.files f (l, n), extra := f :: s.extra } → j = f ∨ j ∈ s.ids := by
    intro j hj
    unfold FsS.ids at hj ⊢
    simp only [List.mem_append, List.mem_cons] at hj ⊢
    rcases hj with hj | hj | hj
    · exact .inr (.inl hj)
    · exact .inl hj
    · exact .inr (.inr hj)
  have hne : ∀ j, j ∈ s.ids → j ≠ f := fun j hj e => hF (by rw [← e]; exact h.inF j hj)
  exact
    { blk := h.blk
      dir := h.dir
      lasts := h.lasts
      apart := h.apart
      waits := h.waits
      file := fun j hj => by
        rcases hid j hj with rfl | hj
        · simpa [upd] using hf
        · have := h.file j hj
          simpa [upd, hne j hj] using this
      bytes := fun j hj => by
        rcases hid j hj with rfl | hj
        · simpa [upd] using hv
        · have := h.bytes j hj
          simpa [upd, hne j hj] using this
      own := fun f1 h1 f2 h2 hn b hb hb2 => by
        rcases hid f1 h1 with e1 | e1 <;> rcases hid f2 h2 with e2 | e2
        · exact hn (e1.trans e2.symm)
        · rw [e1, upd_same] at hb
          rw [upd_ne _ _ (hne f2 e2)] at hb2
          exact hF2 b hb (h.inB f2 e2 b hb2)
        · rw [e2, upd_same] at hb2
          rw [upd_ne _ _ (hne f1 e1)] at hb
          exact hF2 b hb2 (h.inB f1 e1 b hb)
        · rw [upd_ne _ _ (hne f1 e1)] at hb
          rw [upd_ne _ _ (hne f2 e2)] at hb2
          exact h.own f1 e1 f2 e2 hn b hb hb2
      inG := .inl h.inG
      inD := .inl h.inD
      inL := .inl h.inL
      inW := fun b hb => .inl (h.inW b hb)
      inF := fun j hj => by
        rcases hid j hj with rfl | hj
        · exact .inr (.inl rfl)
        · exact .inl (h.inF j hj)
      inB := fun j hj b hb => by
        rcases hid j hj with rfl | hj
        · rw [upd_same] at hb; exact .inr (.inr hb)
        · rw [upd_ne _ _ (hne j hj)] at hb; exact .inl (h.inB j hj b hb)
      below := fun k hk => by
        rcases hk with hk | rfl | hk
        · exact h.below k hk
        · exact blk_lt hf
        · exact own_lt hv k hk
      calls0 := h.calls0
      fail1 := h.fail1
      fail2 := h.fail2 }

/-- What blocks are of which kind. -/
theorem FsIn.kinds {F : Nat → Prop} {w : World} {g dm lm : Nat} {wv : Value} {bv : Nat → Value} {s : FsS} (h : FsIn F w g dm lm wv bv s) :
    dm ≠ g ∧ lm ≠ g ∧ (∀ b, wv.ownBlock = some b → b ≠ g ∧ b ≠ dm ∧ b ≠ lm) ∧ (∀ f ∈ s.ids, f ≠ g ∧ f ≠ dm ∧ f ≠ lm ∧ wv.ownBlock ≠ some f) ∧
    (∀ f ∈ s.ids, ∀ b, (bv f).ownBlock = some b → b ≠ g ∧ b ≠ dm ∧ b ≠ lm ∧ wv.ownBlock ≠ some b ∧ ∀ f2 ∈ s.ids, f2 ≠ b) := by
  have hb := h.blk
  obtain ⟨_, _, hd, _⟩ := h.dir
  obtain ⟨_, _, hl, _⟩ := h.lasts
  have hw := own_block h.waits
  refine ⟨?_, ?_, ?_, ?_, ?_⟩
  · rintro rfl; rw [hb] at hd; cases hd
  · rintro rfl; rw [hb] at hl; cases hl
  · intro b hb1
    obtain ⟨_, e⟩ := hw b hb1
    refine ⟨?_, ?_, ?_⟩ <;> rintro rfl
    · rw [hb] at e; simp at e
    · rw [hd] at e; cases e
    · rw [hl] at e; cases e
  · intro f hf
    have e := h.file f hf
    refine ⟨?_, ?_, ?_, ?_⟩
    · rintro rfl; rw [hb] at e; simp at e
    · rintro rfl; rw [hd] at e; cases e
    · rintro rfl; rw [hl] at e; cases e
    · intro hb1; obtain ⟨_, e2⟩ := hw f hb1; rw [e2] at e; simp at e
  · intro f hf b hb1
    obtain ⟨_, e⟩ := own_block (h.bytes f hf) b hb1
    refine ⟨?_, ?_, ?_, ?_, ?_⟩
    · rintro rfl; rw [hb] at e; simp at e
    · rintro rfl; rw [hd] at e; cases e
    · rintro rfl; rw [hl] at e; cases e
    · intro hb2; obtain ⟨_, e2⟩ := hw b hb2; rw [e2] at e; simp at e
    · rintro f2 hf2 rfl; have e2 := h.file f2 hf2; rw [e2] at e; simp at e

/-- The directory turns. -/
theorem FsIn.dirTurn {F : Nat → Prop} {w w' : World} {g dm lm : Nat} {wv : Value} {bv : Nat → Value} {s : FsS} (h : FsIn F w g dm lm wv bv s) {m' : List (ByteArray × Nat)}
    (k : Kept (oneF dm) w w') (hm : MapAt Value.string ptrV w' dm m') (hs : ∀ p ∈ m', p.2 ∈ s.ids) : FsIn F w' g dm lm wv bv { s with dir := m' } := by
  obtain ⟨k1, k2, k3, k4, k5⟩ := h.kinds
  have hid : ∀ j, j ∈ FsS.ids { s with dir := m' } → j ∈ s.ids := by
    intro j hj
    unfold FsS.ids at hj
    simp only [List.mem_append, List.mem_map] at hj
    rcases hj with ((⟨p, hp, rfl⟩ | hj) | hj) | hj
    · exact hs p hp
    · unfold FsS.ids; simp only [List.mem_append, List.mem_map]; exact .inl (.inl (.inr hj))
    · unfold FsS.ids; simp only [List.mem_append, List.mem_map]; exact .inl (.inr hj)
    · unfold FsS.ids; simp only [List.mem_append, List.mem_map]; exact .inr hj
  exact
    { blk := k.blk h.blk (fun e => k1 e.symm)
      dir := hm
      lasts := h.lasts.kept k (fun e => h.apart e.symm)
      apart := h.apart
      waits := own_kept h.waits k (fun b hb => (k3 b hb).2.1)
      file := fun f hf => k.blk (h.file f (hid f hf)) (k4 f (hid f hf)).2.1
      bytes := fun f hf => own_kept (h.bytes f (hid f hf)) k (fun b hb => (k5 f (hid f hf) b hb).2.1)
      own := fun f1 h1 f2 h2 => h.own f1 (hid f1 h1) f2 (hid f2 h2)
      inG := h.inG
      inD := h.inD
      inL := h.inL
      inW := h.inW
      inF := fun f hf => h.inF f (hid f hf)
      inB := fun f hf => h.inB f (hid f hf)
      below := fun b hb => Nat.lt_of_lt_of_le (h.below b hb) k.size
      calls0 := h.calls0
      fail1 := h.fail1
      fail2 := h.fail2 }

/-- The changes that wait grow. -/
theorem FsIn.waitTurn {F : Nat → Prop} {w w2 : World} {g dm lm : Nat} {wv : Value} {bv : Nat → Value} {s : FsS} (h : FsIn F w g dm lm wv bv s) {c : Chg} {v' : Value}
    (hg : w.grownBy w2 wv.ownBlock) (hown : w2.ownsRow 0 62 4 v' (s.waits.length + 1) (s.waits.flatMap Chg.cells ++ c.cells)) (hwh : ∀ k, v'.ownBlock = some k → wv.ownBlock = some k ∨ w.heap.size ≤ k) (hc : ∀ f ∈ c.file, f ∈ s.ids) :
    FsIn (fun k => F k ∨ v'.ownBlock = some k) (w2.setCell ⟨g, 3, none⟩ v') g dm lm v' bv { s with waits := s.waits ++ [c] } := by
  obtain ⟨k1, k2, k3, k4, k5⟩ := h.kinds
  have hid : ∀ j, j ∈ FsS.ids { s with waits := s.waits ++ [c] } → j ∈ s.ids := by
    intro j hj
    unfold FsS.ids at hj
    simp only [List.mem_append, List.mem_map, List.flatMap_append, List.flatMap_cons, List.flatMap_nil, List.append_nil] at hj
    rcases hj with ((hj | hj) | (hj | hj)) | hj
    · unfold FsS.ids; simp only [List.mem_append, List.mem_map]; exact .inl (.inl (.inl hj))
    · unfold FsS.ids; simp only [List.mem_append, List.mem_map]; exact .inl (.inl (.inr hj))
    · unfold FsS.ids; simp only [List.mem_append, List.mem_map]; exact .inl (.inr hj)
    · exact hc j hj
    · unfold FsS.ids; simp only [List.mem_append, List.mem_map]; exact .inr hj
  have hk : Kept (fun k => wv.ownBlock = some k) w w2 := (Kept.refl _ w).grown hg (fun k hk => .inl hk)
  have hk2 : Kept (fun k => wv.ownBlock = some k ∨ k = g) w (w2.setCell ⟨g, 3, none⟩ v') := Kept.set (F := fun k => wv.ownBlock = some k ∨ k = g) (hk.mono (fun k _ h => Or.inl h)) g 3 (.inl (.inr rfl)) v'
  have hgb := hk.blk h.blk (fun e => (k3 g e).1 rfl)
  have hvg : v'.ownBlock ≠ some g := by
    intro hb
    rcases hwh g hb with h1 | h1
    · exact (k3 g h1).1 rfl
    · have := blk_lt h.blk; omega
  exact
    { blk := by have := blk_set hgb 3 v'; simpa [fsCells] using this
      dir := h.dir.kept hk2 (by rintro (e | e); exact (k3 dm e).2.1 rfl; exact k1 e)
      lasts := h.lasts.kept hk2 (by rintro (e | e); exact (k3 lm e).2.2 rfl; exact k2 e)
      apart := h.apart
      waits := by
        have := own_kept hown (Kept.set1 w2 g 3 v') (fun b hb hb2 => hvg (by rw [hb, hb2]))
        simpa using this
      file := fun f hf => hk2.blk (h.file f (hid f hf)) (by rintro (e | e); exact (k4 f (hid f hf)).2.2.2 e; exact (k4 f (hid f hf)).1 e)
      bytes := fun f hf => own_kept (h.bytes f (hid f hf)) hk2 (fun b hb => by rintro (e | e); exact (k5 f (hid f hf) b hb).2.2.2.1 e; exact (k5 f (hid f hf) b hb).1 e)
      own := fun f1 h1 f2 h2 => h.own f1 (hid f1 h1) f2 (hid f2 h2)
      inG := .inl h.inG
      inD := .inl h.inD
      inL := .inl h.inL
      inW := fun b hb => .inr hb
      inF := fun f hf => .inl (h.inF f (hid f hf))
      inB := fun f hf b hb => .inl (h.inB f (hid f hf) b hb)
      below := fun k hk' => by
        rcases hk' with hk' | hk'
        · exact Nat.lt_of_lt_of_le (h.below k hk') hk2.size
        · have := own_lt hown k hk'
          simpa using this
      calls0 := h.calls0
      fail1 := h.fail1
      fail2 := h.fail2 }
end Go.Proofs.YtflnekjmcpmbbaaGreatDoor
