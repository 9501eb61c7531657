/- Part 3 of the texts beneath: Four, ScanC, ScanR, Txt. -/
import Derived.Test.YtflnekjmcpmbbaaGreatDoorKRawAnyRow2
import Derived.Test.YtflnekjmcpmbbaaGreatDoorKRawAnyRow1
import Derived.BigQuiet
import Derived.Deep.DeepCutAuto
import Derived.Deep.RegionWith
import Derived.Deep.RegionHeld3

/- Walks: four bytes as a number; the first seal. -/
set_option linter.unusedVariables false
set_option linter.unusedSimpArgs false
namespace Go.Proofs.YtflnekjmcpmbbaaGreatDoor
open Go.RowKit

/-- P3.1: the first seal: what it holds; whether it is cut off. -/
def firstL (bs : List UInt8) : Option (List UInt8) × Bool :=
  if bs.length < 12 then (none, true)
  else if getFourL (bs.drop 4) ≠ crcSum (bs.take 4) then (none, false)
  else if bs.length - 12 < getFourL bs then (none, true)
  else if getFourL (bs.drop 8) ≠ crcSum ((bs.drop 12).take (getFourL bs)) then (none, false)
  else (some ((bs.drop 12).take (getFourL bs)), true)
theorem byte_lt (bs : List UInt8) (i : Nat) : (bs[i]?.getD 0).toNat < 256 := UInt8.toNat_lt _
theorem or_hi (x y k : Nat) (hx : x < 2 ^ k) (hx2 : x < 4294967296) (hy : 2 ^ k * y < 4294967296) : bits BinOp.or IntKind.u32 (x : Int) ((2 ^ k * y : Nat) : Int) = ((x + 2 ^ k * y : Nat) : Int) := by
  rw [u32_or_nat _ _ hx2 hy, Nat.or_comm, ← Nat.two_pow_add_eq_or_of_lt hx, Nat.add_comm]
theorem four_or (a b c d : Nat) (ha : a < 256) (hb : b < 256) (hc : c < 256) (hd : d < 256) :
    bits BinOp.or IntKind.u32 (bits BinOp.or IntKind.u32 (bits BinOp.or IntKind.u32 ((a : Int) % 4294967296) ((b : Int) % 4294967296 * 256 % 4294967296)) ((c : Int) % 4294967296 * 65536 % 4294967296)) ((d : Int) % 4294967296 * 16777216 % 4294967296)
      = ((a + 256 * b + 65536 * c + 16777216 * d : Nat) : Int) := by
  have e1 : (a : Int) % 4294967296 = (a : Int) := by omega
  have e2 : (b : Int) % 4294967296 * 256 % 4294967296 = ((2 ^ 8 * b : Nat) : Int) := by omega
  have e3 : (c : Int) % 4294967296 * 65536 % 4294967296 = ((2 ^ 16 * c : Nat) : Int) := by omega
  have e4 : (d : Int) % 4294967296 * 16777216 % 4294967296 = ((2 ^ 24 * d : Nat) : Int) := by omega
  rw [e1, e2, e3, e4, or_hi a b 8 (by omega) (by omega) (by omega), or_hi (a + 2 ^ 8 * b) c 16 (by omega) (by omega) (by omega), or_hi (a + 2 ^ 8 * b + 2 ^ 16 * c) d 24 (by omega) (by omega) (by omega)]
theorem getFourL_lt (bs : List UInt8) : getFourL bs < 4294967296 := by
  have h0 := byte_lt bs 0
  have h1 := byte_lt bs 1
  have h2 := byte_lt bs 2
  have h3 := byte_lt bs 3
  unfold getFourL
  split <;> omega

set_option maxHeartbeats 400000 in
set_option maxRecDepth 100000 in
theorem GetFour_any (A : Option Addr) (c : Nat) (bs : List UInt8) (w : World) (hr : Reads w (.slice A bs.length c) 1 bs.length (bvs bs)) :
    Calls Tryz.prog 80 #[.slice A bs.length c] w fun e w' => e = .returned (.int .u32 (getFourL bs)) ∧ ∃ m, w' = w.drewN m := by
  by_cases hl : bs.length < 4
  · have h3 : decide ((bs.length : Int) < 4) = true := by simp; omega
    have hv : getFourL bs = 0 := by unfold getFourL; rw [if_pos hl]
    have HV := Lib.hid hv
    clear hv
    clear hr
    generalize bs.length = L at *
    go_enter Tryz.func80, Tryz.ntmps80
    go_wp2
    go_ret
    exact ⟨by rw [HV.out]; rfl, 0, rfl⟩
  · have h3 : decide ((bs.length : Int) < 4) = false := by simp; omega
    obtain ⟨b, o, rfl, hc⟩ := hr.at1 (by omega)
    obtain ⟨b0, b1, b2, b3, r, rfl⟩ : ∃ b0 b1 b2 b3 r, bs = b0 :: b1 :: b2 :: b3 :: r := by
      match bs, hl with
      | b0 :: b1 :: b2 :: b3 :: r, _ => exact ⟨_, _, _, _, _, rfl⟩
      | [_, _, _], h => simp at h
      | [_, _], h => simp at h
      | [_], h => simp at h
      | [], h => simp at h
    have c0 : w.cell? ⟨b, o, none⟩ = some (.int .u8 b0.toNat) := hc 0 _ rfl
    have c1 : w.cell? ⟨b, o + 1, none⟩ = some (.int .u8 b1.toNat) := hc 1 _ rfl
    have c2 : w.cell? ⟨b, o + 2, none⟩ = some (.int .u8 b2.toNat) := hc 2 _ rfl
    have c3 : w.cell? ⟨b, o + 3, none⟩ = some (.int .u8 b3.toNat) := hc 3 _ rfl
    have hv : getFourL (b0 :: b1 :: b2 :: b3 :: r) = b0.toNat + 256 * b1.toNat + 65536 * b2.toNat + 16777216 * b3.toNat := by unfold getFourL; rw [if_neg hl]; rfl
    have HV := Lib.hid hv
    have hL : 4 ≤ (b0 :: b1 :: b2 :: b3 :: r).length := by simp
    clear hv hc hr hl
    generalize (b0 :: b1 :: b2 :: b3 :: r).length = L at *
    have i0 : (0 : Int) < (L : Int) := by omega
    have i1 : (1 : Int) < (L : Int) := by omega
    have i2 : (2 : Int) < (L : Int) := by omega
    have i3 : (3 : Int) < (L : Int) := by omega
    go_enter Tryz.func80, Tryz.ntmps80
    go_wp2_with fail
    go_quiet (fail)
    go_wp2
    go_ret
    refine ⟨?_, _, rfl⟩
    rw [HV.out, four_or _ _ _ _ (UInt8.toNat_lt b0) (UInt8.toNat_lt b1) (UInt8.toNat_lt b2) (UInt8.toNat_lt b3)]
    rfl

theorem Sum_q (A : Option Addr) (c : Nat) (bs : List UInt8) (w : World) (hr : Reads w (.slice A bs.length c) 1 bs.length (bvs bs)) :
    Calls Tryz.prog 72 #[.slice A bs.length c] w fun e w' => e = .returned (.int .u32 (crcSum bs)) ∧ w' = w := (Sum_any A c bs w hr).mono (fun _ _ h => ⟨h.1, h.2.symm⟩)

set_option maxHeartbeats 1000000 in
set_option maxRecDepth 100000 in
theorem First_short (A : Option Addr) (c : Nat) (bs : List UInt8) (w : World) (h : bs.length < 12) :
    Calls Tryz.prog 66 #[.slice A bs.length c] w fun e w' => e = .returned (.tuple #[.slice none 0 0, .int .i64 0, .bool true]) ∧ Kept noF w w' := by
  have h3 : decide ((bs.length : Int) < 12) = true := by simp; omega
  generalize bs.length = L at *
  go_enter Tryz.func66, Tryz.ntmps66
  go_wp2
  go_ret3
  exact ⟨rfl, Kept.refl _ _⟩

set_option maxHeartbeats 1000000 in
set_option maxRecDepth 100000 in
theorem First_any (A : Option Addr) (c : Nat) (bs : List UInt8) (w : World) (hr : Reads w (.slice A bs.length c) 1 bs.length (bvs bs)) (h : 12 ≤ bs.length) (hlen : bs.length < 4294967296) :
    Calls Tryz.prog 66 #[.slice A bs.length c] w fun e w' => (∃ v, e = .returned (.tuple #[v, .int .i64 (match (firstL bs).1 with | none => 0 | some x => 12 + x.length), .bool (firstL bs).2]) ∧
      (match (firstL bs).1 with | none => True | some x => w'.ownsRow w.heap.size 5 1 v x.length (bvs x))) ∧ Kept noF w w' := by
  obtain ⟨A4, cut4, hr4, _⟩ := cut_l (P := Tryz.prog) Tryz.underlying23 infoU8 (by decide) hr 4 (by omega) 4 rfl .i64
  obtain ⟨A8, cut8, hr8, _⟩ := cut_l (P := Tryz.prog) Tryz.underlying23 infoU8 (by decide) hr 8 (by omega) 8 rfl .i64
  obtain ⟨cutH, hrH⟩ := cut_h (P := Tryz.prog) Tryz.underlying23 infoU8 (by decide) hr 4 (by omega) 4 rfl .i64
  have e4 : bs.length - 4 = (bs.drop 4).length := by simp
  have e8 : bs.length - 8 = (bs.drop 8).length := by simp
  have eH : 4 = (bs.take 4).length := by simp; omega
  have d4 : (bvs bs).drop (4 * 1) = bvs (bs.drop 4) := by simp [bvs, List.map_drop]
  have d8 : (bvs bs).drop (8 * 1) = bvs (bs.drop 8) := by simp [bvs, List.map_drop]
  have dH : (bvs bs).take (4 * 1) = bvs (bs.take 4) := by simp [bvs, List.map_take]
  rw [d4, e4] at hr4
  rw [d8, e8] at hr8
  rw [dH] at hrH
  have hrH2 : Reads w (.slice A (bs.take 4).length c) 1 (bs.take 4).length (bvs (bs.take 4)) := by rw [← eH]; exact hrH
  rw [e4] at cut4
  rw [e8] at cut8
  have H12 : decide ((bs.length : Int) < 12) = false := by simp; omega
  by_cases c1 : getFourL (bs.drop 4) = crcSum (bs.take 4)
  · have t1 : (((getFourL (bs.drop 4) : Nat) : Int) == ((crcSum (bs.take 4) : Nat) : Int)) = true := by simp; omega
    have hnlt := getFourL_lt bs
    have q1 := GetFour_any A4 (c - 4) (bs.drop 4) 
    have q2 := Sum_q A c (bs.take 4)
    rw [← eH] at q2
    have q3 := GetFour_any A c bs
    have Q1 := Lib.hid q1
    have Q2 := Lib.hid q2
    have Q3 := Lib.hid q3
    have HR := Lib.hid hr
    have HR4 := Lib.hid hr4
    have HRH := Lib.hid hrH
    clear q1 q2 q3
    by_cases c2 : bs.length - 12 < getFourL bs
    · have hF : firstL bs = (none, true) := by unfold firstL; rw [if_neg (by omega), if_neg (by omega), if_pos c2]
      rw [hF]
      generalize getFourL (bs.drop 4) = x1 at *
      generalize crcSum (bs.take 4) = x2 at *
      generalize bs.drop 4 = bs4 at *
      generalize bs.take 4 = bsH at *
      generalize getFourL bs = n at *
      clear hF c1 e4 e8 d4 d8 dH hr8 cut8 hrH2 eH hr hr4 hrH
      generalize bs.length = L at *
      generalize bs4.length = L4 at *
      have wL : IntKind.u64.wrap ((L : Int) - 12) = (L : Int) - 12 := IntWalk.u64_in _ (by omega)
      have wn : IntKind.u64.wrap (n : Int) = (n : Int) := IntWalk.u64_in _ (by omega)
      have t2 : decide ((n : Int) > (L : Int) - 12) = true := by simp; omega
      have t2' : (L : Int) - 12 < (n : Int) := by omega
      go_enter Tryz.func66, Tryz.ntmps66
      go_wp2_with fail
      go_quiet (first
        | (go_at_call 80; exact Calls.quiet_of (Q1.out _ HR4.out))
        | (go_at_call 72; exact Calls.quiet_of_same (Q2.out _ HRH.out)))
      go_wp2_with fail
      refine (Q3.out _ (HR.out.drewN nq)).mono ?_
      rintro e w3 ⟨rfl, m, rfl⟩
      go_wp2
      go_ret3
      exact ⟨⟨_, rfl, trivial⟩, (Kept.refl _ _).drewN _⟩
    · obtain ⟨AX, cutX, hrX, _⟩ := cut_lh (P := Tryz.prog) Tryz.underlying23 infoU8 (by decide) hr 12 (12 + getFourL bs) (by omega) (by omega) 12 (12 + (getFourL bs : Int)) rfl (by omega) .i64 .i64
      have eX : 12 + getFourL bs - 12 = ((bs.drop 12).take (getFourL bs)).length := by rw [List.length_take, List.length_drop]; omega
      have dX : ((bvs bs).drop (12 * 1)).take ((12 + getFourL bs - 12) * 1) = bvs ((bs.drop 12).take (getFourL bs)) := by simp [bvs, List.map_drop, List.map_take]
      rw [dX, eX] at hrX
      rw [eX] at cutX
      have q4 := GetFour_any A8 (c - 8) (bs.drop 8)
      have q5 := Sum_q AX (c - 12) ((bs.drop 12).take (getFourL bs))
      have Q4 := Lib.hid q4
      have Q5 := Lib.hid q5
      have HR8 := Lib.hid hr8
      have HRX := Lib.hid hrX
      clear q4 q5
      by_cases c3 : getFourL (bs.drop 8) = crcSum ((bs.drop 12).take (getFourL bs))
      · have t3 : (((getFourL (bs.drop 8) : Nat) : Int) == ((crcSum ((bs.drop 12).take (getFourL bs)) : Nat) : Int)) = true := by simp; omega
        have hF : firstL bs = (some ((bs.drop 12).take (getFourL bs)), true) := by unfold firstL; rw [if_neg (by omega), if_neg (by omega), if_neg c2, if_neg (by omega)]
        rw [hF]
        clear hF c1 c3 e4 e8 d4 d8 dH hr8 hrH2 eH hr hr4 hrH hrX dX
        generalize (bs.drop 12).take (getFourL bs) = X at *
        generalize crcSum X = x5 at *
        generalize getFourL (bs.drop 8) = x4 at *
        generalize bs.drop 8 = bs8 at *
        generalize getFourL (bs.drop 4) = x1 at *
        generalize crcSum (bs.take 4) = x2 at *
        generalize bs.drop 4 = bs4 at *
        generalize bs.take 4 = bsH at *
        generalize getFourL bs = n at *
        generalize hLL : bs.length = L at *
        generalize bs4.length = L4 at *
        generalize bs8.length = L8 at *
        have hXn : X.length = n := by omega
        clear eX
        subst hXn
        have wL : IntKind.u64.wrap ((L : Int) - 12) = (L : Int) - 12 := IntWalk.u64_in _ (by omega)
        have wn : IntKind.u64.wrap (X.length : Int) = (X.length : Int) := IntWalk.u64_in _ (by omega)
        have wi : IntKind.i64.wrap (X.length : Int) = (X.length : Int) := IntWalk.i64_in _ (by omega)
        have w12 : IntKind.i64.wrap (12 + (X.length : Int)) = 12 + (X.length : Int) := IntWalk.i64_in _ (by omega)
        have t2' : (X.length : Int) ≤ (L : Int) - 12 := by omega
        go_enter Tryz.func66, Tryz.ntmps66
        go_wp2_with fail
        go_quiet (first
          | (go_at_call 80; exact Calls.quiet_of (Q1.out _ HR4.out))
          | (go_at_call 72; exact Calls.quiet_of_same (Q2.out _ HRH.out)))
        go_wp2_with fail
        refine (Q3.out _ (HR.out.drewN nq)).mono ?_
        rintro e w3 ⟨rfl, m, rfl⟩
        have hk3 : Kept noF w ((w.drewN nq).drewN m) := ((Kept.refl _ _).drewN _).drewN _
        have hr8' := (HR8.out.drewN nq).drewN m
        have hrX' := (HRX.out.drewN nq).drewN m
        generalize (w.drewN nq).drewN m = W3 at *
        have HR8' := Lib.hid hr8'
        have HRX' := Lib.hid hrX'
        have HK3 := Lib.hid hk3
        clear hr8' hrX' hk3
        go_wp2_with fail
        refine (Q4.out _ HR8'.out).mono ?_
        rintro e w4 ⟨rfl, m2, rfl⟩
        go_wp2_with fail
        refine (Q5.out _ (HRX'.out.drewN m2)).mono ?_
        rintro e w5 ⟨rfl, rfl⟩
        have hz3 := HK3.out.size
        have hl0 : (([] : List UInt8).length + X.length) ≤ 140737488355328 := by simp; omega
        have oA : ∀ T : TypeId, ((W3.drewN m2).alloc (.cells (([] : List Value)).toArray T)).ownsRow w.heap.size T 1 (.slice (some ⟨(W3.drewN m2).heap.size, 0, none⟩) 0 0) 0 [] := fun T => own_lit (W3.drewN m2) w.heap.size T 1 [] 0 rfl hz3 (by omega)
        have zA : ∀ o : Obj, w.heap.size ≤ ((W3.drewN m2).alloc o).heap.size := fun o => by simp; omega
        have rX : ∀ o : Obj, Reads ((W3.drewN m2).alloc o) (.slice AX X.length (c - 12)) 1 X.length (bvs X) := fun o => (HRX'.out.drewN m2).alloc o
        have hkA : ∀ (o : Obj) (W5 : World), ((W3.drewN m2).alloc o).grownBy W5 (Value.slice (some ⟨(W3.drewN m2).heap.size, 0, none⟩) 0 0).ownBlock → Kept noF w W5 := fun o W5 g => ((HK3.out.drewN m2).alloc o).grown g (fun k hk => .inr (by simp [Value.ownBlock] at hk; have : (W3.drewN m2).heap.size = W3.heap.size := rfl; omega))
        have OA := Lib.hid oA
        have ZA := Lib.hid zA
        have RX := Lib.hid rX
        have HKA := Lib.hid hkA
        clear oA zA rX hkA
        go_wp2_with (at_builtin; refine wpList_appB rfl _ _ 23 rfl w.heap.size 5 Tryz.underlying23 infoU8 _ [] (by rfl) (OA.out _) _ X (by rfl) (RX.out _) hl0 (ZA.out _) ?_; intro v6 w6 hown6 hgr6)
        go_ret3
        exact ⟨⟨_, rfl, hown6⟩, HKA.out _ _ hgr6⟩
      · have t3 : (((getFourL (bs.drop 8) : Nat) : Int) == ((crcSum ((bs.drop 12).take (getFourL bs)) : Nat) : Int)) = false := by simp; omega
        have hF : firstL bs = (none, false) := by unfold firstL; rw [if_neg (by omega), if_neg (by omega), if_neg c2, if_pos c3]
        rw [hF]
        clear hF c1 c3 e4 e8 d4 d8 dH hr8 hrH2 eH hr hr4 hrH hrX dX
        generalize (bs.drop 12).take (getFourL bs) = X at *
        generalize crcSum X = x5 at *
        generalize getFourL (bs.drop 8) = x4 at *
        generalize bs.drop 8 = bs8 at *
        generalize getFourL (bs.drop 4) = x1 at *
        generalize crcSum (bs.take 4) = x2 at *
        generalize bs.drop 4 = bs4 at *
        generalize bs.take 4 = bsH at *
        generalize getFourL bs = n at *
        generalize hLL : bs.length = L at *
        generalize bs4.length = L4 at *
        generalize bs8.length = L8 at *
        have hXn : X.length = n := by omega
        clear eX
        subst hXn
        have wL : IntKind.u64.wrap ((L : Int) - 12) = (L : Int) - 12 := IntWalk.u64_in _ (by omega)
        have wn : IntKind.u64.wrap (X.length : Int) = (X.length : Int) := IntWalk.u64_in _ (by omega)
        have wi : IntKind.i64.wrap (X.length : Int) = (X.length : Int) := IntWalk.i64_in _ (by omega)
        have w12 : IntKind.i64.wrap (12 + (X.length : Int)) = 12 + (X.length : Int) := IntWalk.i64_in _ (by omega)
        have t2' : (X.length : Int) ≤ (L : Int) - 12 := by omega
        go_enter Tryz.func66, Tryz.ntmps66
        go_wp2_with fail
        go_quiet (first
          | (go_at_call 80; exact Calls.quiet_of (Q1.out _ HR4.out))
          | (go_at_call 72; exact Calls.quiet_of_same (Q2.out _ HRH.out)))
        go_wp2_with fail
        refine (Q3.out _ (HR.out.drewN nq)).mono ?_
        rintro e w3 ⟨rfl, m, rfl⟩
        have hk3 : Kept noF w ((w.drewN nq).drewN m) := ((Kept.refl _ _).drewN _).drewN _
        have hr8' := (HR8.out.drewN nq).drewN m
        have hrX' := (HRX.out.drewN nq).drewN m
        generalize (w.drewN nq).drewN m = W3 at *
        have HR8' := Lib.hid hr8'
        have HRX' := Lib.hid hrX'
        have HK3 := Lib.hid hk3
        clear hr8' hrX' hk3
        go_wp2_with fail
        refine (Q4.out _ HR8'.out).mono ?_
        rintro e w4 ⟨rfl, m2, rfl⟩
        go_wp2_with fail
        refine (Q5.out _ (HRX'.out.drewN m2)).mono ?_
        rintro e w5 ⟨rfl, rfl⟩
        go_wp2
        go_ret3
        exact ⟨⟨_, rfl, trivial⟩, HK3.out.drewN _⟩
  · have hF : firstL bs = (none, false) := by unfold firstL; rw [if_neg (by omega), if_pos c1]
    rw [hF]
    have t1 : (((getFourL (bs.drop 4) : Nat) : Int) == ((crcSum (bs.take 4) : Nat) : Int)) = false := by simp; omega
    clear hF c1 e4 e8 d4 d8 dH hr8 cut8
    have q1 := GetFour_any A4 (c - 4) (bs.drop 4) 
    have q2 := Sum_q A c (bs.take 4)
    rw [← eH] at q2
    generalize getFourL (bs.drop 4) = x1 at *
    generalize crcSum (bs.take 4) = x2 at *
    generalize bs.drop 4 = bs4 at *
    generalize bs.take 4 = bsH at *
    have Q1 := Lib.hid q1
    have Q2 := Lib.hid q2
    have HR4 := Lib.hid hr4
    have HRH := Lib.hid hrH
    clear q1 q2 hr hr4 hrH hrH2 eH
    generalize bs.length = L at *
    generalize bs4.length = L4 at *
    go_enter Tryz.func66, Tryz.ntmps66
    go_wp2_with fail
    go_quiet (first
      | (go_at_call 80; exact Calls.quiet_of (Q1.out _ HR4.out))
      | (go_at_call 72; exact Calls.quiet_of_same (Q2.out _ HRH.out)))
    go_wp2
    go_ret3
    exact ⟨⟨_, rfl, trivial⟩, (Kept.refl _ _).drewN _⟩
end Go.Proofs.YtflnekjmcpmbbaaGreatDoor

/- Walks: the seals one behind the other. -/
set_option linter.unusedVariables false
set_option linter.unusedSimpArgs false
namespace Go.Proofs.YtflnekjmcpmbbaaGreatDoor
open Go.RowKit

def scanL (bs : List UInt8) : List (List UInt8) × Bool :=
  match firstL bs with
  | (none, cut) => ([], cut)
  | (some x, _) => if 12 ≤ bs.length then (x :: (scanL (bs.drop (12 + x.length))).1, (scanL (bs.drop (12 + x.length))).2) else ([], true)
termination_by bs.length
decreasing_by all_goals (simp; omega)
theorem scanL_none {bs : List UInt8} {c : Bool} (h : firstL bs = (none, c)) : scanL bs = ([], c) := by rw [scanL, h]
theorem firstL_some {bs x : List UInt8} {c : Bool} (h : firstL bs = (some x, c)) : 12 + x.length ≤ bs.length ∧ c = true := by
  unfold firstL at h
  split at h
  · cases h
  · split at h
    · cases h
    · split at h
      · cases h
      · split at h
        · cases h
        · cases h
          simp only [List.length_take, List.length_drop]
          exact ⟨by omega, trivial⟩
theorem scanL_some {bs x : List UInt8} {c : Bool} (h : firstL bs = (some x, c)) : scanL bs = (x :: (scanL (bs.drop (12 + x.length))).1, (scanL (bs.drop (12 + x.length))).2) := by
  rw [scanL, h]
  simp only
  rw [if_pos (by have := firstL_some h; omega)]
def sealsLen (ls : List (List UInt8)) : Nat := (ls.map fun l => 12 + l.length).sum
theorem sealsLen_append (a b : List (List UInt8)) : sealsLen (a ++ b) = sealsLen a + sealsLen b := by simp [sealsLen]
theorem sealsLen_one (l : List UInt8) : sealsLen [l] = 12 + l.length := by simp [sealsLen]
theorem sealsLen_ge : ∀ (ls : List (List UInt8)), 12 * ls.length ≤ sealsLen ls
  | [] => by simp
  | l :: r => by
    have := sealsLen_ge r
    simp [sealsLen] at *
    omega
theorem firstL_short {bs : List UInt8} (h : bs.length < 12) : firstL bs = (none, true) := by unfold firstL; rw [if_pos h]

theorem infoBs : (Tryz.prog.info? 23).map (fun i => (i.zero, i.size, i.bytes)) = some (some (.slice none 0 0), 1, 24) := by kernel_rfl

set_option maxHeartbeats 1000000 in
set_option maxRecDepth 100000 in
theorem Scan_any (A : Option Addr) (c : Nat) (bs : List UInt8) (w : World) (hr : Reads w (.slice A bs.length c) 1 bs.length (bvs bs)) (hlen : bs.length < 4294967296) :
    Calls Tryz.prog 51 #[.slice A bs.length c] w fun e w' => ∃ v, e = .returned (.tuple #[v, .int .i64 (sealsLen (scanL bs).1), .bool (scanL bs).2]) ∧ SeesBs w' w.heap.size v (scanL bs).1 ∧ Kept noF w w' := by
  have HR := Lib.hid hr
  clear hr
  go_enter Tryz.func51, Tryz.ntmps51
  go_wp2
  go_loopw [5, 6] (fun v i wr => ∃ ls : List (List UInt8), i = .int .i64 (sealsLen ls) ∧ sealsLen ls ≤ bs.length ∧ (scanL bs).1 = ls ++ (scanL (bs.drop (sealsLen ls))).1 ∧ (scanL bs).2 = (scanL (bs.drop (sealsLen ls))).2 ∧ SeesBs wr w.heap.size v ls ∧ Kept noF w wr) (fun _ i _ => bs.length - (intOf i).toNat)
  case atStart => exact ⟨[], rfl, Nat.zero_le _, rfl, rfl, SeesBs.nil _ _, Kept.refl _ _⟩
  case round =>
    obtain ⟨ls, rfl, hle, hs1, hs2, hsee, hk⟩ := hrel
    have hrw := HR.out.kept0 hk
    obtain ⟨A1, cut1, hr1, _⟩ := cut_l (P := Tryz.prog) Tryz.underlying23 infoU8 (by decide) hrw (sealsLen ls) hle (sealsLen ls : Int) rfl .i64
    have e1 : bs.length - sealsLen ls = (bs.drop (sealsLen ls)).length := by simp
    have d1 : (bvs bs).drop (sealsLen ls * 1) = bvs (bs.drop (sealsLen ls)) := by simp [bvs, List.map_drop]
    rw [d1, e1] at hr1
    rw [e1] at cut1
    have hge := sealsLen_ge ls
    have hz := hk.size
    have HS1 := Lib.hid hs1
    have HS2 := Lib.hid hs2
    have HSEE := Lib.hid hsee
    have HK := Lib.hid hk
    have HR1 := Lib.hid hr1
    have HE1 := Lib.hid e1
    clear hs1 hs2 hsee hk d1 hr1 hrw e1
    generalize hrest : bs.drop (sealsLen ls) = rest at *
    have HREST := Lib.hid hrest
    clear hrest
    by_cases h12 : rest.length < 12
    · have hF := firstL_short h12
      have hsc := scanL_none hF
      have Q := Lib.hid (First_short A1 (c - sealsLen ls) rest wr h12)
      have HSC := Lib.hid hsc
      clear hF hsc
      go_wp2_with fail
      refine Q.out.mono ?_
      rintro e w1 ⟨rfl, hk1⟩
      go_wp2_with fail
      go_ret3
      have hL : (scanL bs).1 = ls := by rw [HS1.out, HSC.out]; simp
      have hB : (scanL bs).2 = true := by rw [HS2.out, HSC.out]
      rw [hL, hB]
      exact ⟨_, rfl, HSEE.out.kept0 hk1, HK.out.trans0 hk1⟩
    · have q := First_any A1 (c - sealsLen ls) rest wr HR1.out (by omega) (by have := HE1.out; omega)
      cases hF : firstL rest with
      | mk o cut =>
      rw [hF] at q
      cases o with
      | none =>
        have HSC := Lib.hid (scanL_none hF)
        clear hF
        simp only at q
        have Q := Lib.hid q
        clear q
        go_wp2_with fail
        refine Q.out.mono ?_
        rintro e w1 ⟨⟨v1, rfl, _⟩, hk1⟩
        go_wp2_with fail
        go_ret3
        have hL : (scanL bs).1 = ls := by rw [HS1.out, HSC.out]; simp
        have hB : (scanL bs).2 = cut := by rw [HS2.out, HSC.out]
        rw [hL, hB]
        exact ⟨_, rfl, HSEE.out.kept0 hk1, HK.out.trans0 hk1⟩
      | some x =>
        have HSC := Lib.hid (scanL_some hF)
        have hx := (firstL_some hF).1
        clear hF
        simp only at q
        have Q := Lib.hid q
        clear q
        have hne : ((12 + (x.length : Int)) == 0) = false := by simp; omega
        have hne2 : (((12 + x.length : Nat) : Int) == 0) = false := by simp; omega
        have hsum : IntKind.i64.wrap ((sealsLen ls : Int) + ((12 + x.length : Nat) : Int)) = (sealsLen ls : Int) + ((12 + x.length : Nat) : Int) := IntWalk.i64_in _ (by have := HE1.out; omega)
        have hrl : sealsLen ls + (12 + x.length) ≤ bs.length := by have := HE1.out; omega
        have HSUM := Lib.hid hsum
        clear hsum
        go_wp2_with fail
        refine Q.out.mono ?_
        rintro e w1 ⟨⟨v1, rfl, hown1⟩, hk1⟩
        have hz1 := hk1.size
        obtain ⟨Ax, cx, rfl, hcx⟩ := own_form hown1
        obtain ⟨vs, hvo, hvl, hvs⟩ := HSEE.out.kept0 hk1
        have hs1 : ∀ o : Obj, SeesB (w1.alloc o) (.slice Ax x.length cx) x := fun o => ⟨Ax, cx, rfl, hcx, (Reads.own hown1).alloc o⟩
        have hfar : 0 < x.length → ∀ b, (Value.slice Ax x.length cx).ownBlock = some b → Value.ownBlock u5 ≠ some b := fun _ b hb hv => by
          have := own_from hown1 b hb
          have := own_lt HSEE.out.choose_spec.1 b hv
          omega
        have hvs' : ∀ o : Obj, ∀ (i : Nat) (u : Value) (l : List UInt8), vs[i]? = some u → ls[i]? = some l → SeesB (w1.alloc o) u l ∧ (0 < l.length → ∀ b, u.ownBlock = some b → Value.ownBlock u5 ≠ some b) := fun o i u l h1 h2 => ⟨(hvs i u l h1 h2).1.kept0 ((Kept.refl _ _).alloc o), (hvs i u l h1 h2).2⟩
        have hvo' : ∀ o : Obj, (w1.alloc o).ownsRow w.heap.size 23 1 u5 ls.length vs := fun o => own_kept0 hvo ((Kept.refl _ _).alloc o)
        have hkk : ∀ (o : Obj) (w2 : World), (w1.alloc o).grownBy w2 (Value.ownBlock u5) → Kept noF w w2 := fun o w2 g => ((HK.out.trans0 hk1).alloc o).grown g (fun k hk => .inr (own_from hvo k hk))
        have hza : ∀ o : Obj, w.heap.size ≤ (w1.alloc o).heap.size := fun o => by simp; omega
        have h24 : (ls.length + 1) * 24 ≤ 140737488355328 := by omega
        have HVO := Lib.hid hvo'
        have HVS := Lib.hid hvs'
        have HVL := Lib.hid hvl
        have HS := Lib.hid hs1
        have HFAR := Lib.hid hfar
        have HKK := Lib.hid hkk
        have HZA := Lib.hid hza
        clear hvo hvs hvo' hvs' hvl hs1 hfar hown1 hk1 hkk hza Q
        go_wp2_with (at_builtin; refine wpList_app2 rfl _ _ 69 rfl w.heap.size 23 (.slice none 0 0) 1 24 Tryz.underlying69 infoBs rfl (by decide) u5 ls.length vs (by rfl) (HVO.out _) _ 1 [.slice Ax x.length cx] (by rfl) (Reads.lit _ [_] _ 1 1 rfl (by omega)) (by simp [Value.oneCell']) h24 (by omega) (HZA.out _) ?_; intro v2 w2 hown2 hgr2 hwh2)
        have hsl : sealsLen (ls ++ [x]) = sealsLen ls + (12 + x.length) := by rw [sealsLen_append, sealsLen_one]
        have hdr : rest.drop (12 + x.length) = bs.drop (sealsLen (ls ++ [x])) := by rw [← HREST.out, List.drop_drop, hsl]
        have hsee2 := SeesBs.snoc HVL.out (HVS.out _) (HS.out _) HFAR.out hown2 hgr2 hwh2
        refine ⟨⟨ls ++ [x], ?_, by omega, ?_, ?_, hsee2, HKK.out _ _ hgr2⟩, ?_⟩
        · rw [hsl]; go_num
        · rw [HS1.out, HSC.out, hdr]; simp
        · rw [HS2.out, HSC.out, hdr]
        · simp [intOf]; omega
end Go.Proofs.YtflnekjmcpmbbaaGreatDoor

/- Walks: the reference's seals one behind the other. -/
set_option linter.unusedVariables false
set_option linter.unusedSimpArgs false
namespace Go.Proofs.YtflnekjmcpmbbaaGreatDoor
open Go.RowKit

theorem u8_ofNat_eq (n : Nat) (a : UInt8) : UInt8.ofNat n = a ↔ n % 256 = a.toNat := by
  rw [← UInt8.toNat_inj, UInt8.toNat_ofNat']
theorem four_eq (l : List UInt8) (n : Nat) (hl : l.length = 4) (hn : n < 4294967296) : fourL n = l ↔ getFourL l = n := by
  match l, hl with
  | [a, b, c, d], _ =>
    have h1 := a.toNat_lt
    have h2 := b.toNat_lt
    have h3 := c.toNat_lt
    have h4 := d.toNat_lt
    simp only [fourL, List.cons.injEq, and_true, u8_ofNat_eq, getFourL, List.length_cons, List.length_nil, List.getElem?_cons_zero, List.getElem?_cons_succ, Option.getD_some]
    rw [if_neg (by decide)]
    omega
theorem getFourL_take (l : List UInt8) (k : Nat) (hk : 4 ≤ k) : getFourL (l.take k) = getFourL l := by
  unfold getFourL
  by_cases h : l.length < 4
  · rw [if_pos h, if_pos (by rw [List.length_take]; omega)]
  · rw [if_neg h, if_neg (by rw [List.length_take]; omega)]
    have h0 : (l.take k)[0]? = l[0]? := by rw [List.getElem?_take, if_pos (by omega)]
    have h1 : (l.take k)[1]? = l[1]? := by rw [List.getElem?_take, if_pos (by omega)]
    have h2 : (l.take k)[2]? = l[2]? := by rw [List.getElem?_take, if_pos (by omega)]
    have h3 : (l.take k)[3]? = l[3]? := by rw [List.getElem?_take, if_pos (by omega)]
    rw [h0, h1, h2, h3]
theorem test4 (r : List UInt8) (h : 12 ≤ r.length) (n : Nat) (hn : n < 4294967296) (i : Nat) (hi : i ≤ 8) : (fourL n == ((r.take 12).drop i).take 4) = (getFourL (r.drop i) == n) := by
  have e : ((r.take 12).drop i).take 4 = (r.drop i).take 4 := by rw [List.drop_take, List.take_take, Nat.min_eq_left (by omega)]
  rw [e]
  have hl : ((r.drop i).take 4).length = 4 := by rw [List.length_take, List.length_drop]; omega
  have h4 := four_eq _ n hl hn
  rw [getFourL_take _ 4 (by omega)] at h4
  by_cases hc : getFourL (r.drop i) = n
  · rw [h4.2 hc, hc]; exact (beq_self_eq_true _).trans (beq_self_eq_true _).symm
  · have : ¬ (fourL n = (r.drop i).take 4) := fun e => hc (h4.1 e)
    rw [beq_false_of_ne this, beq_false_of_ne hc]
theorem four_cells (r : List UInt8) (h : 4 ≤ r.length) : ∃ b0 b1 b2 b3 : Nat, b0 < 256 ∧ b1 < 256 ∧ b2 < 256 ∧ b3 < 256 ∧ getFourL r = b0 + 256 * b1 + 65536 * b2 + 16777216 * b3 ∧
    (bvs r)[0]? = some (.int .u8 b0) ∧ (bvs r)[1]? = some (.int .u8 b1) ∧ (bvs r)[2]? = some (.int .u8 b2) ∧ (bvs r)[3]? = some (.int .u8 b3) := by
  match r, h with
  | a :: b :: c :: d :: tl, _ =>
    refine ⟨a.toNat, b.toNat, c.toNat, d.toNat, a.toNat_lt, b.toNat_lt, c.toNat_lt, d.toNat_lt, ?_, rfl, rfl, rfl, rfl⟩
    unfold getFourL
    rw [if_neg (by simp)]
    rfl
  | [_, _, _], h => simp at h
  | [_, _], h => simp at h
  | [_], h => simp at h
  | [], h => simp at h

set_option maxHeartbeats 1000000 in
set_option maxRecDepth 100000 in
theorem refScan_any (A : Option Addr) (c : Nat) (bs : List UInt8) (w : World) (hr : Reads w (.slice A bs.length c) 1 bs.length (bvs bs)) (hlen : bs.length < 4294967296) :
    Calls Tryz.prog 34 #[.slice A bs.length c] w fun e w' => ∃ v, e = .returned (.tuple #[v, .int .i64 (sealsLen (scanL bs).1), .bool (scanL bs).2]) ∧ SeesBs w' w.heap.size v (scanL bs).1 ∧ Kept noF w w' := by
  have HR := Lib.hid hr
  clear hr
  go_enter Tryz.func34, Tryz.ntmps34
  go_wp2
  go_loopw [5, 6] (fun v i wr => ∃ ls : List (List UInt8), i = .int .i64 (sealsLen ls) ∧ sealsLen ls ≤ bs.length ∧ (scanL bs).1 = ls ++ (scanL (bs.drop (sealsLen ls))).1 ∧ (scanL bs).2 = (scanL (bs.drop (sealsLen ls))).2 ∧ SeesBs wr w.heap.size v ls ∧ Kept noF w wr) (fun _ i _ => bs.length - (intOf i).toNat)
  case atStart => exact ⟨[], rfl, Nat.zero_le _, rfl, rfl, SeesBs.nil _ _, Kept.refl _ _⟩
  case round =>
    obtain ⟨ls, rfl, hle, hs1, hs2, hsee, hk⟩ := hrel
    have hrw := HR.out.kept0 hk
    have e1 : bs.length - sealsLen ls = (bs.drop (sealsLen ls)).length := by simp
    have hge := sealsLen_ge ls
    have hz := hk.size
    have HS1 := Lib.hid hs1
    have HS2 := Lib.hid hs2
    have HSEE := Lib.hid hsee
    have HK := Lib.hid hk
    clear hs1 hs2 hsee hk
    by_cases h12 : (bs.drop (sealsLen ls)).length < 12
    · have hsc := scanL_none (firstL_short h12)
      have hL : (scanL bs).1 = ls := by rw [HS1.out, hsc]; simp
      have hB : (scanL bs).2 = true := by rw [HS2.out, hsc]
      have t0 : (bs.length : Int) - (sealsLen ls : Int) < 12 := by omega
      have H1 := Lib.hid hL
      have H2 := Lib.hid hB
      clear hL hB hsc hrw e1
      generalize bs.length = L at *
      go_wp2
      go_ret3
      rw [H1.out, H2.out]
      exact ⟨_, rfl, HSEE.out, HK.out⟩
    · obtain ⟨Ah, cutH, hrH, hbH⟩ := cut_lh (P := Tryz.prog) Tryz.underlying23 infoU8 (by decide) hrw (sealsLen ls) (sealsLen ls + 12) (by omega) (by omega) (sealsLen ls : Int) ((sealsLen ls : Int) + 12) rfl (by omega) .i64 .i64
      have eH : sealsLen ls + 12 - sealsLen ls = 12 := by omega
      have dH : ((bvs bs).drop (sealsLen ls * 1)).take ((sealsLen ls + 12 - sealsLen ls) * 1) = bvs ((bs.drop (sealsLen ls)).take 12) := by simp [bvs, List.map_drop, List.map_take]
      rw [dH, eH] at hrH
      rw [eH] at cutH
      generalize hrest : bs.drop (sealsLen ls) = rest at *
      have h12l : (rest.take 12).length = 12 := by rw [List.length_take]; omega
      obtain ⟨cut04, hr04⟩ := cut_h (P := Tryz.prog) Tryz.underlying23 infoU8 (by decide) hrH 4 (by omega) 4 rfl .i64
      obtain ⟨A48, cut48, hr48, _⟩ := cut_lh (P := Tryz.prog) Tryz.underlying23 infoU8 (by decide) hrH 4 8 (by omega) (by omega) 4 8 rfl rfl .i64 .i64
      obtain ⟨A8c, cut8c, hr8c, _⟩ := cut_lh (P := Tryz.prog) Tryz.underlying23 infoU8 (by decide) hrH 8 12 (by omega) (by omega) 8 12 rfl rfl .i64 .i64
      have d04 : (bvs (rest.take 12)).take (4 * 1) = bvs (rest.take 4) := by simp [bvs, List.map_take, List.take_take]
      have d48 : ((bvs (rest.take 12)).drop (4 * 1)).take ((8 - 4) * 1) = bvs (((rest.take 12).drop 4).take 4) := by simp [bvs, List.map_drop, List.map_take]
      have d8c : ((bvs (rest.take 12)).drop (8 * 1)).take ((12 - 8) * 1) = bvs (((rest.take 12).drop 8).take 4) := by simp [bvs, List.map_drop, List.map_take]
      rw [d04] at hr04
      rw [d48] at hr48
      rw [d8c] at hr8c
      have l04 : (rest.take 4).length = 4 := by rw [List.length_take]; omega
      have l48 : (((rest.take 12).drop 4).take 4).length = 4 := by rw [List.length_take, List.length_drop, List.length_take]; omega
      have l8c : (((rest.take 12).drop 8).take 4).length = 4 := by rw [List.length_take, List.length_drop, List.length_take]; omega
      simp only [show 8 - 4 = 4 from rfl, show 12 - 8 = 4 from rfl] at cut48 cut8c hr48 hr8c
      have qS := refSum_any Ah (c - sealsLen ls) (rest.take 4) wr.drew
      rw [l04] at qS
      have conv48 : ∀ W, Kept noF wr W → (convert 23 9 (.slice A48 4 (c - sealsLen ls - 4))).run Tryz.prog W = .ok (.string ⟨(((rest.take 12).drop 4).take 4).toArray⟩) W := fun W hW => conv_string (P := Tryz.prog) (dst := 9) Tryz.underlying23 Tryz.underlying5 Tryz.underlying9 (by rw [l48]; exact hr48.kept0 hW)
      have conv8c : ∀ W, Kept noF wr W → (convert 23 9 (.slice A8c 4 (c - sealsLen ls - 8))).run Tryz.prog W = .ok (.string ⟨(((rest.take 12).drop 8).take 4).toArray⟩) W := fun W hW => conv_string (P := Tryz.prog) (dst := 9) Tryz.underlying23 Tryz.underlying5 Tryz.underlying9 (by rw [l8c]; exact hr8c.kept0 hW)
      have c48d := conv48 _ (Kept.refl noF wr).drew
      have QS := Lib.hid (qS hr04.drew)
      have CONV48 := Lib.hid conv48
      have CONV8 := Lib.hid conv8c
      have HRH := Lib.hid hrH
      have HRW := Lib.hid hrw
      have HREST := Lib.hid hrest
      have hlr : 12 ≤ rest.length := by omega
      have T4 := Lib.hid (test4 rest hlr (crcSum (rest.take 4)) (crcSum_lt _) 4 (by omega))
      obtain ⟨b0, b1, b2, b3, hb0, hb1, hb2, hb3, hg4, g0, g1, g2, g3⟩ := four_cells (rest.take 12) (by omega)
      rw [getFourL_take _ 12 (by omega)] at hg4
      have G0 := Lib.hid g0
      have G1 := Lib.hid g1
      have G2 := Lib.hid g2
      have G3 := Lib.hid g3
      have HG4 := Lib.hid hg4
      clear g0 g1 g2 g3 hg4
      have E1 := Lib.hid e1
      have t0 : ¬ ((bs.length : Int) - (sealsLen ls : Int) < 12) := by omega
      have t0' : (12 : Int) ≤ (bs.length : Int) - (sealsLen ls : Int) := by omega
      have w12 : IntKind.i64.wrap ((sealsLen ls : Int) + 12) = (sealsLen ls : Int) + 12 := IntWalk.i64_in _ (by omega)
      clear hr04 hr48 hr8c hrH hrw qS conv48 conv8c dH eH d04 d48 d8c l48 l8c e1 hrest h12l h12
      go_upto_region 7 with fail
      go_cut [32] (fun v wx => v = .bool (!(getFourL (rest.drop 4) == crcSum (rest.take 4))) ∧ Kept noF wr wx)
      case first =>
        first
        | go_region_with (first
           | (go_at_call 47; refine QS.out.mono ?_; rintro e w2 ⟨rfl, rfl⟩)
           | (go_at_call 46; refine (refFour_any _ _ (crcSum_lt _)).mono ?_; rintro e w2 ⟨v2, rfl, hown2, hk2⟩; (obtain ⟨A2, c2, rfl, hc2⟩ := own_form hown2); have cv := conv_string (P := Tryz.prog) (dst := 9) Tryz.underlying23 Tryz.underlying5 Tryz.underlying9 (Reads.own hown2); have hk2d : Kept noF wr w2 := (Kept.refl noF wr).drew.trans0 hk2; have cv48 := CONV48.out _ hk2d; clear hown2))
        | fail
        all_goals (go_wp2_with fail; go_meet; exact ⟨by rw [T4.out], hk2d⟩)
      case rest =>
        obtain ⟨rfl, hkx⟩ := hcut
        have hkw := HK.out.trans0 hkx
        have HKW := Lib.hid hkw
        have HKX := Lib.hid hkx
        clear hkw hkx
        cases c1 : getFourL (rest.drop 4) == crcSum (rest.take 4)
        · have hF : firstL rest = (none, false) := by unfold firstL; rw [if_neg (by omega), if_pos (by simpa using c1)]
          have hsc := scanL_none hF
          have hL : (scanL bs).1 = ls := by rw [HS1.out, hsc]; simp
          have hB : (scanL bs).2 = false := by rw [HS2.out, hsc]
          have H1 := Lib.hid hL
          have H2 := Lib.hid hB
          clear hL hB hsc hF
          go_wp2
          go_ret3
          rw [H1.out, H2.out]
          exact ⟨_, rfl, HSEE.out.kept0 HKX.out, HKW.out⟩
        · obtain ⟨b, o, rfl, hc⟩ := (HRH.out.kept0 HKX.out).at1 (by omega)
          have k0 := hc 0 _ G0.out
          rw [Nat.add_zero] at k0
          have k1 := hc 1 _ G1.out
          have k2 := hc 2 _ G2.out
          have k3 := hc 3 _ G3.out
          clear hc
          go_wp2_with fail
          go_quiet (fail)
          have hN : ((b0 : Int) + (b1 : Int) * 256 + (b2 : Int) * 65536 + (b3 : Int) * 16777216) = ((getFourL rest : Nat) : Int) := by rw [HG4.out]; omega
          rw [hN]
          have hnlt := getFourL_lt rest
          have hkq : Kept noF wr (wc.drewN nq) := HKX.out.drewN nq
          have HKQ := Lib.hid hkq
          clear HKX
          generalize wc.drewN nq = W1 at *
          clear hN k0 k1 k2 k3 G0 G1 G2 G3 HG4 hb0 hb1 hb2 hb3 hkq HKW
          generalize hn : getFourL rest = n at *
          have HN := Lib.hid hn
          clear hn
          have hel := E1.out
          have wL : IntKind.i64.wrap ((bs.length : Int) - (sealsLen ls : Int) - 12) = (bs.length : Int) - (sealsLen ls : Int) - 12 := IntWalk.i64_in _ (by omega)
          have wU : IntKind.u64.wrap ((bs.length : Int) - (sealsLen ls : Int) - 12) = (bs.length : Int) - (sealsLen ls : Int) - 12 := IntWalk.u64_in _ (by omega)
          have wn : IntKind.i64.wrap (n : Int) = (n : Int) := IntWalk.i64_in _ (by omega)
          by_cases c2 : rest.length - 12 < n
          · have hF : firstL rest = (none, true) := by unfold firstL; rw [if_neg (by omega), if_neg (by simpa using c1), if_pos (by rw [HN.out]; exact c2)]
            have hsc := scanL_none hF
            have hL : (scanL bs).1 = ls := by rw [HS1.out, hsc]; simp
            have hB : (scanL bs).2 = true := by rw [HS2.out, hsc]
            have H1 := Lib.hid hL
            have H2 := Lib.hid hB
            have t2 : (bs.length : Int) - (sealsLen ls : Int) - 12 < (n : Int) := by omega
            clear hL hB hsc hF hel
            go_wp2
            go_ret3
            rw [H1.out, H2.out]
            exact ⟨_, rfl, HSEE.out.kept0 HKQ.out, HK.out.trans0 HKQ.out⟩
          · obtain ⟨AX, cutX, hrX, hbX⟩ := cut_lh (P := Tryz.prog) Tryz.underlying23 infoU8 (by decide) HRW.out (sealsLen ls + 12) (sealsLen ls + 12 + n) (by omega) (by omega) ((sealsLen ls : Int) + 12) ((sealsLen ls : Int) + 12 + (n : Int)) (by omega) (by omega) .i64 .i64
            have eX : sealsLen ls + 12 + n - (sealsLen ls + 12) = ((rest.drop 12).take n).length := by rw [List.length_take, List.length_drop]; omega
            have dX : ((bvs bs).drop ((sealsLen ls + 12) * 1)).take ((sealsLen ls + 12 + n - (sealsLen ls + 12)) * 1) = bvs ((rest.drop 12).take n) := by
              rw [← HREST.out, List.drop_drop]; simp [bvs, List.map_drop, List.map_take]
            rw [dX, eX] at hrX
            rw [eX] at cutX hbX
            have hXn : ((rest.drop 12).take n).length = n := by omega
            have t2 : ¬ (bs.length : Int) - (sealsLen ls : Int) - 12 < (n : Int) := by omega
            have t2' : (n : Int) ≤ (bs.length : Int) - (sealsLen ls : Int) - 12 := by omega
            have w13 : IntKind.i64.wrap ((sealsLen ls : Int) + 12 + (n : Int)) = (sealsLen ls : Int) + 12 + (n : Int) := IntWalk.i64_in _ (by omega)
            have w14 : IntKind.i64.wrap (12 + (n : Int)) = 12 + (n : Int) := IntWalk.i64_in _ (by omega)
            have w15 : IntKind.i64.wrap ((sealsLen ls : Int) + (12 + (n : Int))) = (sealsLen ls : Int) + (12 + (n : Int)) := IntWalk.i64_in _ (by omega)
            have hdrop : rest.drop (12 + ((rest.drop 12).take n).length) = bs.drop (sealsLen ls + (12 + ((rest.drop 12).take n).length)) := by rw [← HREST.out, List.drop_drop]
            have hF2 : firstL rest = if getFourL (rest.drop 8) ≠ crcSum ((rest.drop 12).take n) then (none, false) else (some ((rest.drop 12).take n), true) := by
              unfold firstL; rw [if_neg (by omega), if_neg (by simpa using c1), HN.out, if_neg c2]
            have T8 := Lib.hid (test4 rest hlr (crcSum ((rest.drop 12).take n)) (crcSum_lt _) 8 (by omega))
            have HF2 := Lib.hid hF2
            have HDROP := Lib.hid hdrop
            clear dX eX hel hF2 hdrop cutH cut04 cut48 c48d QS T4 CONV48 l04 c1
            generalize (rest.drop 12).take n = X at *
            subst hXn
            have hX2 := X.length
            have HRX := Lib.hid hrX
            have HBX := Lib.hid hbX
            clear hrX hbX hX2
            have hc8 := CONV8.out _ HKQ.out.drew
            have hqs := refSum_any AX (c - (sealsLen ls + 12)) X _ ((HRX.out.kept0 HKQ.out).drew)
            have QS := Lib.hid hqs
            clear hqs
            go_upto_region 13 with fail
            go_cut [80] (fun v wx => v = .bool (!(getFourL (rest.drop 8) == crcSum X)) ∧ Kept noF wr wx)
            case first =>
              go_region_with (first
                 | (go_at_call 47; refine QS.out.mono ?_; rintro e w2 ⟨rfl, rfl⟩)
                 | (go_at_call 46; refine (refFour_any _ _ (crcSum_lt _)).mono ?_; rintro e w2 ⟨v2, rfl, hown2, hk2⟩; (obtain ⟨A2, c2, rfl, hc2⟩ := own_form hown2); have cv := conv_string (P := Tryz.prog) (dst := 9) Tryz.underlying23 Tryz.underlying5 Tryz.underlying9 (Reads.own hown2); have hk2d : Kept noF wr w2 := HKQ.out.drew.trans0 hk2; have cv8 := CONV8.out _ hk2d; clear hown2))
              all_goals (go_wp2_with fail; go_meet; exact ⟨by rw [T8.out], hk2d⟩)
            case rest =>
              obtain ⟨rfl, hkx⟩ := hcut
              have hkw := HK.out.trans0 hkx
              have HKW := Lib.hid hkw
              have HKY := Lib.hid hkx
              clear hkw hkx
              cases c3 : getFourL (rest.drop 8) == crcSum X
              · have hF : firstL rest = (none, false) := by rw [HF2.out, if_pos (by simpa using c3)]
                have hsc := scanL_none hF
                have hL : (scanL bs).1 = ls := by rw [HS1.out, hsc]; simp
                have hB : (scanL bs).2 = false := by rw [HS2.out, hsc]
                have H1 := Lib.hid hL
                have H2 := Lib.hid hB
                clear hL hB hsc hF
                go_wp2
                go_ret3
                rw [H1.out, H2.out]
                exact ⟨_, rfl, HSEE.out.kept0 HKY.out, HKW.out⟩
              · have hF : firstL rest = (some X, true) := by rw [HF2.out, if_neg (by simpa using c3)]
                have HSC := Lib.hid (scanL_some hF)
                clear hF
                have hzy := HKY.out.size
                have hAX := HRX.out
                obtain ⟨vs, hvo, hvl, hvs⟩ := HSEE.out.kept0 HKY.out
                have hcx : X.length ≤ c - (sealsLen ls + 12) := by obtain ⟨_, _, A', c', e, h3, _⟩ := hAX; cases e; exact h3
                have hs1 : ∀ o : Obj, SeesB (wc.alloc o) (.slice AX X.length (c - (sealsLen ls + 12))) X := fun o => ⟨AX, _, rfl, hcx, (HRX.out.kept0 HKY.out).alloc o⟩
                have hfar : 0 < X.length → ∀ b, (Value.slice AX X.length (c - (sealsLen ls + 12))).ownBlock = some b → Value.ownBlock u5 ≠ some b := fun hp b hb hv => by
                  have h1 := HBX.out b hb
                  obtain ⟨b', e, hl⟩ := HR.out.lt (by omega) (by omega)
                  rw [e] at h1
                  cases h1
                  have := own_from HSEE.out.choose_spec.1 b hv
                  omega
                have hvs' : ∀ o : Obj, ∀ (i : Nat) (u : Value) (l : List UInt8), vs[i]? = some u → ls[i]? = some l → SeesB (wc.alloc o) u l ∧ (0 < l.length → ∀ b, u.ownBlock = some b → Value.ownBlock u5 ≠ some b) := fun o i u l h1 h2 => ⟨(hvs i u l h1 h2).1.kept0 ((Kept.refl _ _).alloc o), (hvs i u l h1 h2).2⟩
                have hvo' : ∀ o : Obj, (wc.alloc o).ownsRow w.heap.size 23 1 u5 ls.length vs := fun o => own_kept0 hvo ((Kept.refl _ _).alloc o)
                have hkk : ∀ (o : Obj) (w2 : World), (wc.alloc o).grownBy w2 (Value.ownBlock u5) → Kept noF w w2 := fun o w2 g => (HKW.out.alloc o).grown g (fun k hk => .inr (own_from hvo k hk))
                have hza : ∀ o : Obj, w.heap.size ≤ (wc.alloc o).heap.size := fun o => by simp; omega
                have h24 : (ls.length + 1) * 24 ≤ 140737488355328 := by omega
                have hE1 := E1.out
                have hrl : sealsLen ls + (12 + X.length) ≤ bs.length := by omega
                have HVO := Lib.hid hvo'
                have HVS := Lib.hid hvs'
                have HVL := Lib.hid hvl
                have HS := Lib.hid hs1
                have HFAR := Lib.hid hfar
                have HKK := Lib.hid hkk
                have HZA := Lib.hid hza
                clear hvo hvs hvo' hvs' hvl hs1 hfar hkk hza hAX hE1
                go_wp2_with (at_builtin; refine wpList_app2 rfl _ _ 69 rfl w.heap.size 23 (.slice none 0 0) 1 24 Tryz.underlying69 infoBs rfl (by decide) u5 ls.length vs (by rfl) (HVO.out _) _ 1 [.slice AX X.length (c - (sealsLen ls + 12))] (by rfl) (Reads.lit _ [_] _ 1 1 rfl (by omega)) (by simp [Value.oneCell']) h24 (by omega) (HZA.out _) ?_; intro v2 w2 hown2 hgr2 hwh2)
                have hsl : sealsLen (ls ++ [X]) = sealsLen ls + (12 + X.length) := by rw [sealsLen_append, sealsLen_one]
                have hdr : rest.drop (12 + X.length) = bs.drop (sealsLen (ls ++ [X])) := by rw [HDROP.out, hsl]
                have hsee2 := SeesBs.snoc HVL.out (HVS.out _) (HS.out _) HFAR.out hown2 hgr2 hwh2
                refine ⟨⟨ls ++ [X], ?_, by omega, ?_, ?_, hsee2, HKK.out _ _ hgr2⟩, ?_⟩
                · rw [hsl]; go_num
                · rw [HS1.out, HSC.out, hdr]; simp
                · rw [HS2.out, HSC.out, hdr]
                · simp [intOf]; omega
end Go.Proofs.YtflnekjmcpmbbaaGreatDoor

/- Walks: texts, readers. -/
set_option linter.unusedVariables false
set_option linter.unusedSimpArgs false
namespace Go.Proofs.YtflnekjmcpmbbaaGreatDoor
open Go.RowKit

set_option maxHeartbeats 1000000 in
set_option maxRecDepth 100000 in
theorem GetText_any (A : Option Addr) (c : Nat) (bs : List UInt8) (w : World) (hr : Reads w (.slice A bs.length c) 1 bs.length (bvs bs)) (hbc : bs.length ≤ c) :
    Calls Tryz.prog 83 #[.slice A bs.length c] w fun e w' => e = .returned (.tuple #[.string ⟨(getTextL bs).1.toArray⟩, .int .i64 (getTextL bs).2]) ∧ w = w' := by
  have hL := hr.2.1
  have hle := getL_le bs
  have hlt := getL_lt bs
  by_cases hbad : (getL bs).2 = 0 ∨ bs.length - (getL bs).2 < (getL bs).1
  · have HR := Lib.hid (getTextL_bad bs hbad)
    have hb2 : (getL bs).2 = 0 ∨ ((getL bs).2 ≠ 0 ∧ bs.length - (getL bs).2 < (getL bs).1) := by omega
    clear hbad
    rcases hb2 with h0 | ⟨h0, h1⟩
    · have h3 : (((getL bs).2 : Int) == 0) = true := by simp [h0]
      clear h0 hlt
      go_enter Tryz.func83, Tryz.ntmps83
      go_wp2_with (go_at_call 81; refine (Get_any A c bs w hr hbc).mono ?_; rintro e w1 ⟨rfl, rfl⟩)
      go_ret2
      rw [HR.out]; exact ⟨rfl, rfl⟩
    · have h3 : (((getL bs).2 : Int) == 0) = false := by simp; omega
      have h4 : (bs.length : Int) - ((getL bs).2 : Int) < ((getL bs).1 : Int) := by omega
      clear h0 h1 hlt
      go_enter Tryz.func83, Tryz.ntmps83
      go_wp2_with (go_at_call 81; refine (Get_any A c bs w hr hbc).mono ?_; rintro e w1 ⟨rfl, rfl⟩)
      go_ret2
      rw [HR.out]; exact ⟨rfl, rfl⟩
  · have HR := Lib.hid (getTextL_good bs hbad)
    have h3 : (((getL bs).2 : Int) == 0) = false := by simp; omega
    have h4 : ((getL bs).1 : Int) ≤ (bs.length : Int) - ((getL bs).2 : Int) := by omega
    obtain ⟨A1, hcut, hr1, _⟩ := cut_lh (P := Tryz.prog) Tryz.underlying23 infoU8 (by decide) hr (getL bs).2 ((getL bs).2 + (getL bs).1) (by omega) (by omega) ((getL bs).2 : Int) (((getL bs).2 : Int) + ((getL bs).1 : Int)) rfl (by omega) .i64 .i64
    have e1 : (getL bs).2 + (getL bs).1 - (getL bs).2 = ((bs.drop (getL bs).2).take (getL bs).1).length := by rw [List.length_take, List.length_drop]; omega
    have e2 : ((bvs bs).drop ((getL bs).2 * 1)).take (((getL bs).2 + (getL bs).1 - (getL bs).2) * 1) = bvs ((bs.drop (getL bs).2).take (getL bs).1) := by
      simp [bvs, List.map_take, List.map_drop]
    rw [e2] at hr1
    rw [e1] at hr1 hcut
    have hconv := conv_string (P := Tryz.prog) (dst := 9) Tryz.underlying23 Tryz.underlying5 Tryz.underlying9 hr1
    generalize htx : (bs.drop (getL bs).2).take (getL bs).1 = tx at *
    clear hbad e1 e2 hlt htx
    go_enter Tryz.func83, Tryz.ntmps83
    go_wp2_with (go_at_call 81; refine (Get_any A c bs w hr hbc).mono ?_; rintro e w1 ⟨rfl, rfl⟩)
    go_ret2
    rw [HR.out]; exact ⟨by simp, rfl⟩

set_option maxHeartbeats 1000000 in
set_option maxRecDepth 100000 in
theorem refGetText_any (A : Option Addr) (c : Nat) (bs : List UInt8) (w : World) (hr : Reads w (.slice A bs.length c) 1 bs.length (bvs bs)) (hbc : bs.length ≤ c) :
    Calls Tryz.prog 50 #[.slice A bs.length c] w fun e w' => e = .returned (.tuple #[.string ⟨(getTextL bs).1.toArray⟩, .int .i64 (getTextL bs).2]) ∧ w = w' := by
  have hL := hr.2.1
  have hle := getL_le bs
  have hlt := getL_lt bs
  by_cases hbad : (getL bs).2 = 0 ∨ bs.length - (getL bs).2 < (getL bs).1
  · have HR := Lib.hid (getTextL_bad bs hbad)
    have hb2 : (getL bs).2 = 0 ∨ ((getL bs).2 ≠ 0 ∧ bs.length - (getL bs).2 < (getL bs).1) := by omega
    clear hbad
    rcases hb2 with h0 | ⟨h0, h1⟩
    · have h3 : (((getL bs).2 : Int) == 0) = true := by simp [h0]
      clear h0 hlt
      go_enter Tryz.func50, Tryz.ntmps50
      go_wp2_with (go_at_call 49; refine (refGet_any A c bs w hr hbc).mono ?_; rintro e w1 ⟨rfl, rfl⟩)
      go_ret2
      rw [HR.out]; exact ⟨rfl, rfl⟩
    · have h3 : (((getL bs).2 : Int) == 0) = false := by simp; omega
      have h4 : (bs.length : Int) - ((getL bs).2 : Int) < ((getL bs).1 : Int) := by omega
      clear h0 h1 hlt
      go_enter Tryz.func50, Tryz.ntmps50
      go_wp2_with (go_at_call 49; refine (refGet_any A c bs w hr hbc).mono ?_; rintro e w1 ⟨rfl, rfl⟩)
      go_ret2
      rw [HR.out]; exact ⟨rfl, rfl⟩
  · have HR := Lib.hid (getTextL_good bs hbad)
    have h3 : (((getL bs).2 : Int) == 0) = false := by simp; omega
    have h4 : ((getL bs).1 : Int) ≤ (bs.length : Int) - ((getL bs).2 : Int) := by omega
    obtain ⟨A1, hcut, hr1, _⟩ := cut_lh (P := Tryz.prog) Tryz.underlying23 infoU8 (by decide) hr (getL bs).2 ((getL bs).2 + (getL bs).1) (by omega) (by omega) ((getL bs).2 : Int) (((getL bs).2 : Int) + ((getL bs).1 : Int)) rfl (by omega) .i64 .i64
    have e1 : (getL bs).2 + (getL bs).1 - (getL bs).2 = ((bs.drop (getL bs).2).take (getL bs).1).length := by rw [List.length_take, List.length_drop]; omega
    have e2 : ((bvs bs).drop ((getL bs).2 * 1)).take (((getL bs).2 + (getL bs).1 - (getL bs).2) * 1) = bvs ((bs.drop (getL bs).2).take (getL bs).1) := by
      simp [bvs, List.map_take, List.map_drop]
    rw [e2] at hr1
    rw [e1] at hr1 hcut
    have hconv := conv_string (P := Tryz.prog) (dst := 9) Tryz.underlying23 Tryz.underlying5 Tryz.underlying9 hr1
    generalize htx : (bs.drop (getL bs).2).take (getL bs).1 = tx at *
    clear hbad e1 e2 hlt htx
    go_enter Tryz.func50, Tryz.ntmps50
    go_wp2_with (go_at_call 49; refine (refGet_any A c bs w hr hbc).mono ?_; rintro e w1 ⟨rfl, rfl⟩)
    go_ret2
    rw [HR.out]; exact ⟨by simp, rfl⟩
end Go.Proofs.YtflnekjmcpmbbaaGreatDoor
