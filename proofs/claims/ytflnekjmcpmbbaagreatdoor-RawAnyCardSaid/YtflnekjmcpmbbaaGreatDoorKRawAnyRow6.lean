/- Part 6 of the texts beneath: RScan, One, RScanR, LawRec. -/
import Derived.Test.YtflnekjmcpmbbaaGreatDoorKRawAnyRow3
import Derived.Test.YtflnekjmcpmbbaaGreatDoorKRawAnyRow5
import Derived.Deep.DeepCutAuto

/- Walks: the records one behind the other. -/
set_option linter.unusedVariables false
set_option linter.unusedSimpArgs false
namespace Go.Proofs.YtflnekjmcpmbbaaGreatDoor
open Go.RowKit

def recsL : List (List UInt8) → List Rec × Nat × Bool
  | [] => ([], 0, true)
  | s :: r => if decOk s then ((decX s).1 :: (recsL r).1, 12 + s.length + (recsL r).2.1, (recsL r).2.2) else ([], 0, false)
def rcells (l : List Rec) : List Value := l.flatMap Rec.cells
theorem rcells_len (l : List Rec) : (rcells l).length = l.length * 4 := by
  induction l with
  | nil => rfl
  | cons r l ih => simp [rcells, Rec.cells] at *; omega
theorem rcells_append (a b : List Rec) : rcells (a ++ b) = rcells a ++ rcells b := by simp [rcells]
theorem rcells_one (r : Rec) : rcells [r] = r.cells := by simp [rcells]
theorem rcells_oneCell (l : List Rec) : ∀ u ∈ rcells l, u.oneCell' = true := by
  intro u hu
  obtain ⟨r, _, h⟩ := List.mem_flatMap.1 hu
  simp [Rec.cells] at h
  rcases h with rfl | rfl | rfl | rfl <;> simp [Value.oneCell']
/-- An owned list of records. -/
def OwnRecs (w : World) (base : Nat) (v : Value) (l : List Rec) : Prop := w.ownsRow base 32 4 v l.length (rcells l)
theorem infoRec : (Tryz.prog.info? 32).map (fun i => (i.zero, i.size, i.bytes)) = some (some (.agg #[.int .i64 0, .int .i64 0, .string ⟨#[]⟩, .string ⟨#[]⟩]), 4, 48) := by kernel_rfl
theorem recsL_bound : ∀ (ls : List (List UInt8)), (recsL ls).1.length ≤ ls.length ∧ (recsL ls).2.1 ≤ sealsLen ls
  | [] => by simp [recsL]
  | s :: r => by
    have := recsL_bound r
    unfold recsL
    split
    · simp [sealsLen] at *; omega
    · simp
theorem sealsLen_cons (l : List UInt8) (r : List (List UInt8)) : sealsLen (l :: r) = 12 + l.length + sealsLen r := by simp [sealsLen]
theorem scanL_len : ∀ (n : Nat) (bs : List UInt8), bs.length ≤ n → sealsLen (scanL bs).1 ≤ bs.length
  | n, bs, hn => by
    cases h : firstL bs with
    | mk o c =>
      cases o with
      | none => rw [scanL_none h]; simp [sealsLen]
      | some x =>
        have hx := (firstL_some h).1
        rw [scanL_some h]
        match n with
        | 0 => omega
        | n + 1 =>
          have := scanL_len n (bs.drop (12 + x.length)) (by simp; omega)
          simp only [List.length_drop] at this
          simp only [sealsLen_cons]
          omega
/-- The seal at a place, and its length. -/
theorem sealsLen_at : ∀ (ls : List (List UInt8)) (i : Nat) (s : List UInt8), ls[i]? = some s → 12 + s.length ≤ sealsLen ls
  | [], i, s, h => by simp at h
  | l :: r, 0, s, h => by simp at h; subst h; rw [sealsLen_cons]; omega
  | l :: r, i + 1, s, h => by have := sealsLen_at r i s (by simpa using h); rw [sealsLen_cons]; omega

set_option maxHeartbeats 1000000 in
set_option maxRecDepth 100000 in
theorem RScan_any (A : Option Addr) (c : Nat) (bs : List UInt8) (w : World) (hr : Reads w (.slice A bs.length c) 1 bs.length (bvs bs)) (hlen : bs.length < 4294967296) :
    Calls Tryz.prog 36 #[.slice A bs.length c] w fun e w' => ∃ v, e = .returned (.tuple #[v, .int .i64 (recsL (scanL bs).1).2.1, .bool ((recsL (scanL bs).1).2.2 && (scanL bs).2)]) ∧ OwnRecs w' w.heap.size v (recsL (scanL bs).1).1 ∧ Kept noF w w' := by
  have hsl := scanL_len _ bs (Nat.le_refl _)
  have HR := Lib.hid hr
  clear hr
  go_enter Tryz.func36, Tryz.ntmps36
  go_wp2_with fail
  refine (Scan_any A c bs w HR.out hlen).mono ?_
  rintro e w1 ⟨v1, rfl, hsee, hk1⟩
  generalize hLS : (scanL bs).1 = LS at *
  generalize hCut : (scanL bs).2 = cut at *
  have HLS := Lib.hid hLS
  have HCUT := Lib.hid hCut
  clear hLS hCut
  obtain ⟨vs, hvo, hvl, hvs⟩ := hsee
  obtain ⟨AL, cL, rfl, hcL⟩ := own_form hvo
  have HVO := Lib.hid hvo
  have HVS := Lib.hid hvs
  have HVL := Lib.hid hvl
  have HK1 := Lib.hid hk1
  clear hvo hvs hvl hk1
  generalize hLn : LS.length = N at *
  have HLN := Lib.hid hLn
  clear hLn
  go_wp2_with fail
  go_loopw [8, 9, 22] (fun l at_ i wr => ∃ (k sz : Nat) (done : List Rec), k ≤ N ∧ i = .int .i64 k ∧ at_ = .int .i64 sz ∧ recsL LS = (done ++ (recsL (LS.drop k)).1, sz + (recsL (LS.drop k)).2.1, (recsL (LS.drop k)).2.2) ∧ done.length = k ∧ sz + sealsLen (LS.drop k) ≤ sealsLen LS ∧ OwnRecs wr w1.heap.size l done ∧ Kept noF w1 wr) (fun _ _ i _ => N - (intOf i).toNat)
  case atStart => exact ⟨0, 0, [], Nat.zero_le _, rfl, rfl, by simp, rfl, by simp, World.ownsRow_nil _ _ _ _, Kept.refl _ _⟩
  case round =>
    obtain ⟨k, sz, done, hk, rfl, rfl, hrec, hdl, hsz, hown, hkw⟩ := hrel
    have hge := sealsLen_ge LS
    have HREC := Lib.hid hrec
    have HDL := Lib.hid hdl
    have HOWN := Lib.hid hown
    have HKW := Lib.hid hkw
    clear hrec hdl hown hkw
    by_cases hlt : k < N
    · have hlt2 : k < LS.length := by have := HLN.out; omega
      obtain ⟨s, hs⟩ : ∃ s, LS[k]? = some s := ⟨_, List.getElem?_eq_getElem hlt2⟩
      obtain ⟨u, hu⟩ : ∃ u, vs[k]? = some u := ⟨_, List.getElem?_eq_getElem (by rw [HVL.out]; exact hlt)⟩
      have hslt := (HVS.out k u s hu hs).1.lt
      have hsees := ((HVS.out k u s hu hs).1).kept0 HKW.out
      obtain ⟨As, cs, rfl, hcs, hrs⟩ := hsees
      have hcell := Reads.own (own_kept0 HVO.out HKW.out)
      obtain ⟨b, o, rfl, hc⟩ := hcell.at1 (by omega)
      have hck := hc k _ hu
      have hsl1 := sealsLen_at LS k s hs
      have hdrop : LS.drop k = s :: LS.drop (k + 1) := by rw [List.drop_eq_getElem_cons hlt2]; congr 1; simpa [hlt2] using hs
      have hrq : recsL (LS.drop k) = if decOk s then ((decX s).1 :: (recsL (LS.drop (k + 1))).1, 12 + s.length + (recsL (LS.drop (k + 1))).2.1, (recsL (LS.drop (k + 1))).2.2) else ([], 0, false) := by rw [hdrop]; rfl
      have hsz2 : sealsLen (LS.drop k) = 12 + s.length + sealsLen (LS.drop (k + 1)) := by rw [hdrop, sealsLen_cons]
      have HRQ := Lib.hid hrq
      have qd := decode_any As cs s wr hrs (by omega) hcs
      generalize (decX s).1 = R at *
      generalize decOk s = ok at *
      obtain ⟨rk, rq, rkey, rval⟩ := R
      simp only [Rec.v] at qd
      have HRS := Lib.hid hrs
      clear hdrop hrq hc hcell hs hu hrs
      have QD := Lib.hid qd
      have HSLT := Lib.hid hslt
      clear hslt
      clear qd
      rw [hsz2] at hsz
      clear hsz2
      cases ok
      · have hfin : recsL LS = (done, sz, false) := by rw [HREC.out, HRQ.out]; simp
        have HFIN := Lib.hid hfin
        clear hfin
        go_wp2_with fail
        refine QD.out.mono ?_
        rintro e w2 ⟨rfl, hk2⟩
        go_wp2_with fail
        go_ret3
        rw [HLS.out, HCUT.out, HFIN.out]
        exact ⟨_, rfl, own_base (own_kept0 HOWN.out (hk2.alloc _)) HK1.out.size, ((HK1.out.trans0 HKW.out).trans0 hk2).alloc _⟩
      · have hfin : recsL LS = (done ++ [⟨rk, rq, rkey, rval⟩] ++ (recsL (LS.drop (k + 1))).1, sz + (12 + s.length) + (recsL (LS.drop (k + 1))).2.1, (recsL (LS.drop (k + 1))).2.2) := by
          rw [HREC.out, HRQ.out]; simp [Nat.add_assoc]
        have HFIN := Lib.hid hfin
        clear hfin HREC HRQ
        have hz1 := HK1.out.size
        have hzw := HKW.out.size
        have hdl := HDL.out
        have hE := HLN.out
        have h48 : (done.length + 1) * 48 ≤ 140737488355328 := by omega
        have hwr : IntKind.i64.wrap ((sz : Int) + (12 + (s.length : Int))) = (sz : Int) + (12 + (s.length : Int)) := IntWalk.i64_in _ (by omega)
        clear hdl hE
        go_wp2_with fail
        refine QD.out.mono ?_
        rintro e w2 ⟨rfl, hk2⟩
        have hz2 := hk2.size
        have hoA : ∀ o o' : Obj, ((w2.alloc o).alloc o').ownsRow w1.heap.size 32 4 u8 done.length (rcells done) := fun o o' => own_kept0 HOWN.out ((hk2.alloc o).alloc o')
        have hzA : ∀ o o' : Obj, w1.heap.size ≤ ((w2.alloc o).alloc o').heap.size := fun o o' => by simp; omega
        have hkA : ∀ (o o' : Obj) (w3 : World), ((w2.alloc o).alloc o').grownBy w3 (Value.ownBlock u8) → Kept noF w1 w3 ∧ (Reads w3 (.slice As s.length cs) 1 s.length (bvs s)) := fun o o' w3 g =>
          ⟨(((HKW.out.trans0 hk2).alloc o).alloc o').grown g (fun k hk => .inr (own_from HOWN.out k hk)),
            (((HRS.out.kept0 hk2).alloc o).alloc o').kept ((Kept.refl (fun k => Value.ownBlock u8 = some k) _).grown g (fun k hk => .inl hk)) (fun hp b hb hv => by
              have := HSLT.out hp b hb
              have := own_from HOWN.out b hv
              omega)⟩
        have rdL : ∀ o : Obj, Reads ((w2.alloc o).alloc (.cells #[.int .i64 rk, .int .i64 rq, .string rkey, .string rval] 32)) (.slice (some ⟨w2.heap.size + 1, 0, none⟩) 1 1) 4 1 [.int .i64 rk, .int .i64 rq, .string rkey, .string rval] := fun o => by
          have := Reads.lit (w2.alloc o) [.int .i64 rk, .int .i64 rq, .string rkey, .string rval] 32 4 1 rfl (by omega)
          rw [World.size_alloc] at this
          exact this
        have RDL := Lib.hid rdL
        clear rdL
        have HOA := Lib.hid hoA
        have HZA := Lib.hid hzA
        have HKA := Lib.hid hkA
        clear hoA hzA hkA
        go_wp2_with (at_builtin; refine wpList_app rfl _ _ 22 rfl w1.heap.size 32 (.agg #[.int .i64 0, .int .i64 0, .string ⟨#[]⟩, .string ⟨#[]⟩]) 4 48 Tryz.underlying22 infoRec rfl (by decide) u8 done.length (rcells done) (by rfl) (HOA.out _ _) _ 1 [.int .i64 rk, .int .i64 rq, .string rkey, .string rval] (by rfl) (RDL.out _) (by simp [Value.oneCell']) h48 (by omega) (HZA.out _ _) ?_; intro v3 w3 hown3 hgr3)
        have HR3 := Lib.hid (HKA.out _ _ _ hgr3)
        refine (Seal_any As cs s w3 HR3.out.2 (by omega)).mono ?_
        rintro e w4 ⟨v4, rfl, hown4, hk4⟩
        obtain ⟨A4, c4, rfl, _⟩ := own_form hown4
        have hsl4 : ((sealL s).length : Int) = 12 + (s.length : Int) := by rw [sealL_length]; omega
        have hdl := HDL.out
        have hown4' := own_kept0 hown3 hk4
        clear hown4
        go_wp2
        refine ⟨⟨k + 1, sz + (12 + s.length), done ++ [⟨rk, rq, rkey, rval⟩], by omega, by go_num, by go_num, HFIN.out, by simp [hdl], by omega, ?_, HR3.out.1.trans0 hk4⟩, by simp [intOf]; omega⟩
        unfold OwnRecs
        rw [List.length_append, rcells_append, rcells_one]
        exact hown4'
    · obtain rfl : k = N := by omega
      have hfin : recsL LS = (done, sz, true) := by
        rw [HREC.out, List.drop_eq_nil_of_le (by rw [HLN.out]; exact Nat.le_refl _)]; simp [recsL]
      have HFIN := Lib.hid hfin
      clear hfin HREC
      go_wp2
      go_ret3
      rw [HLS.out, HCUT.out, HFIN.out]
      exact ⟨_, by simp, own_base HOWN.out HK1.out.size, HK1.out.trans0 HKW.out⟩
end Go.Proofs.YtflnekjmcpmbbaaGreatDoor

/- Walks: the reference's record of what was sealed. -/
set_option linter.unusedVariables false
set_option linter.unusedSimpArgs false
namespace Go.Proofs.YtflnekjmcpmbbaaGreatDoor
open Go.RowKit

def zeroRec : Rec := ⟨0, 0, ⟨#[]⟩, ⟨#[]⟩⟩
def oneR : List UInt8 → Rec × Bool
  | [] => (zeroRec, false)
  | x :: r =>
    if 1 < x.toNat then (zeroRec, false)
    else if (getL r).2 = 0 ∨ 1125899906842624 < (getL r).1 then (zeroRec, false)
    else
      let b := r.drop (getL r).2
      let t := getTextL b
      if t.2 = 0 then (zeroRec, false)
      else
        let b2 := b.drop t.2
        let t2 := getTextL b2
        if x.toNat = 1 then
          if t2.2 = 0 then (zeroRec, false)
          else
            let R : Rec := ⟨1, (getL r).1, ⟨t.1.toArray⟩, ⟨t2.1.toArray⟩⟩
            if 0 < (b2.drop t2.2).length ∨ checkR R ≠ 0 then (zeroRec, false) else (R, true)
        else
          let R : Rec := ⟨0, (getL r).1, ⟨t.1.toArray⟩, ⟨#[]⟩⟩
          if 0 < b2.length ∨ checkR R ≠ 0 then (zeroRec, false) else (R, true)

set_option maxHeartbeats 1000000 in
set_option maxRecDepth 100000 in
theorem refOne_nil (A : Option Addr) (c : Nat) (w : World) :
    Calls Tryz.prog 35 #[.slice A 0 c] w fun e w' => e = .returned (.tuple #[zeroRec.v, .bool false]) ∧ Kept noF w w' := by
  go_enter Tryz.func35, Tryz.ntmps35
  go_wp2
  refine bodyPost_ret (v := .tuple #[zeroRec.v, .bool false]) (by simp [results, Tryz.results35, go_sem, zeroRec, Rec.v]) rfl ⟨rfl, ?_⟩
  (repeat' (first | exact Kept.refl _ _ | (refine Kept.alloc ?_ _) | (refine Kept.set ?_ _ _ (.inr (by simp)) _) | (refine Kept.drew ?_)))

set_option maxHeartbeats 4000000 in
set_option maxRecDepth 100000 in
theorem refOne_cons (A : Option Addr) (c : Nat) (x : UInt8) (r : List UInt8) (LL : Nat) (elen : LL = r.length + 1) (w : World) (hr : Reads w (.slice A LL c) 1 LL (bvs (x :: r))) (hbc : LL ≤ c) (hlen : LL < 4294967296) :
    Calls Tryz.prog 35 #[.slice A LL c] w fun e w' => e = .returned (.tuple #[(oneR (x :: r)).1.v, .bool (oneR (x :: r)).2]) ∧ Kept noF w w' := by
  obtain ⟨b, o, rfl, hc⟩ := hr.at1 (by omega)
  have hx0 : w.cell? ⟨b, o, none⟩ = some (.int .u8 x.toNat) := hc 0 _ rfl
  clear hc
  have hL1 : 0 < LL := by omega
  obtain ⟨A1, cut1, hr1, _⟩ := cut_l (P := Tryz.prog) Tryz.underlying23 infoU8 (by decide) hr 1 (by omega) 1 rfl .i64
  have e1 : LL - 1 = r.length := by omega
  have d1 : (bvs (x :: r)).drop (1 * 1) = bvs r := by simp [bvs]
  rw [d1, e1] at hr1
  rw [e1] at cut1
  have hg := getL_le r
  have hglt := getL_lt r
  obtain ⟨A2, cut2, hr2, _⟩ := cut_l (P := Tryz.prog) Tryz.underlying23 infoU8 (by decide) hr (1 + (getL r).2) (by omega) (1 + ((getL r).2 : Int)) (by omega) .i64
  have e2 : LL - (1 + (getL r).2) = (r.drop (getL r).2).length := by rw [List.length_drop]; omega
  have d2 : (bvs (x :: r)).drop ((1 + (getL r).2) * 1) = bvs (r.drop (getL r).2) := by rw [Nat.mul_one, Nat.add_comm]; simp [bvs, List.map_drop]
  rw [d2, e2] at hr2
  rw [e2] at cut2
  have ht := getTextL_le (r.drop (getL r).2)
  have hB1 : (r.drop (getL r).2).length ≤ r.length := by simp
  have q1 := refGet_any A1 (c - 1) r
  have q2 := refGetText_any A2 (c - (1 + (getL r).2)) (r.drop (getL r).2)
  generalize hone : oneR (x :: r) = O
  simp only [oneR] at hone
  generalize hb : r.drop (getL r).2 = B at *
  generalize hg1 : (getL r).1 = g1 at *
  generalize hg2 : (getL r).2 = g2 at *
  obtain ⟨A3, cut3, hr3, _⟩ := cut_l (P := Tryz.prog) Tryz.underlying23 infoU8 (by decide) hr2 (getTextL B).2 (by omega) ((getTextL B).2 : Int) rfl .i64
  have e3 : B.length - (getTextL B).2 = (B.drop (getTextL B).2).length := by rw [List.length_drop]
  have d3 : (bvs B).drop ((getTextL B).2 * 1) = bvs (B.drop (getTextL B).2) := by rw [Nat.mul_one]; simp [bvs, List.map_drop]
  rw [d3, e3] at hr3
  rw [e3] at cut3
  have hB2 : (B.drop (getTextL B).2).length ≤ B.length := by simp
  have q3 := refGetText_any A3 (c - (1 + g2) - (getTextL B).2) (B.drop (getTextL B).2)
  generalize hb2 : B.drop (getTextL B).2 = B2 at *
  generalize ht1 : (getTextL B).1 = t1 at *
  generalize ht2 : (getTextL B).2 = t2 at *
  have hu := getTextL_le B2
  obtain ⟨A4, cut4, hr4, _⟩ := cut_l (P := Tryz.prog) Tryz.underlying23 infoU8 (by decide) hr3 (getTextL B2).2 (by omega) ((getTextL B2).2 : Int) rfl .i64
  have e4 : B2.length - (getTextL B2).2 = (B2.drop (getTextL B2).2).length := by rw [List.length_drop]
  rw [e4] at cut4
  clear hr4
  have hB3 : (B2.drop (getTextL B2).2).length ≤ B2.length := by simp
  generalize hu1 : (getTextL B2).1 = u1 at *
  generalize hu2 : (getTextL B2).2 = u2 at *
  generalize hl3 : (B2.drop u2).length = L3 at *
  generalize hl2 : B2.length = L2 at *
  have wg : IntKind.i64.wrap (1 + (g2 : Int)) = 1 + (g2 : Int) := IntWalk.i64_in _ (by omega)
  have n2 : B.length ≤ c - (1 + g2) := by obtain ⟨_, _, A', c', e, h3, _⟩ := hr2; cases e; exact h3
  have n3 : L2 ≤ c - (1 + g2) - t2 := by obtain ⟨_, _, A', c', e, h3, _⟩ := hr3; cases e; exact h3
  have n1 : r.length ≤ c - 1 := by omega
  have Q1 := Lib.hid q1
  have Q2 := Lib.hid q2
  have Q3 := Lib.hid q3
  have HR1 := Lib.hid hr1
  have HR2 := Lib.hid hr2
  have HR3 := Lib.hid hr3
  have HONE := Lib.hid hone
  have hx := x.toNat_lt
  clear hl2 q1 q2 q3 hr1 hr2 hr3 hone hr hb hg1 hg2 hb2 ht1 ht2 hu1 hu2 hl3 e1 e2 e3 e4 d1 d2 d3
  have HLX := Lib.hid elen
  have hLr : (r.length : Int) < LL := by omega
  clear elen
  have hone := HONE.out
  subst hone
  clear HONE
  generalize hxn : x.toNat = xn at *
  clear hxn
  have hblt : b < w.heap.size := World.block_lt_of_cell? w _ hx0
  have hbne : b ≠ w.heap.size := by omega
  have hx1 : (w.alloc (.cells #[.int .i64 0, .int .i64 0, .string ⟨#[]⟩, .string ⟨#[]⟩] 32)).cell? ⟨b, o, none⟩ = some (.int .u8 xn) := by rw [World.cell?_alloc_lt _ _ _ hblt]; exact hx0
  by_cases c1 : 1 < xn
  · have k1 : decide ((xn : Int) > 1) = true := by simp; omega
    rw [if_pos c1]
    go_enter Tryz.func35, Tryz.ntmps35
    go_wp2
    refine bodyPost_ret (v := .tuple #[zeroRec.v, .bool false]) (by simp [results, Tryz.results35, go_sem, zeroRec, Rec.v]) rfl ⟨rfl, ?_⟩
    (repeat' (first | exact Kept.refl _ _ | (refine Kept.alloc ?_ _) | (refine Kept.set ?_ _ _ (.inr (by simp)) _) | (refine Kept.drew ?_)))
  · rw [if_neg c1]
    have k1 : decide ((xn : Int) > 1) = false := by simp; omega
    have k1' : (xn : Int) ≤ 1 := by omega
    have R1 := Lib.hid (fun (o1 o2 : Obj) => (HR1.out.alloc o1).alloc o2)
    by_cases c2 : g2 = 0 ∨ 1125899906842624 < g1
    · rw [if_pos c2]
      by_cases c3 : g2 = 0
      · have k2 : ((g2 : Int) == 0) = true := by simp; omega
        clear c2 c3
        go_enter Tryz.func35, Tryz.ntmps35
        go_wp2_with (go_at_call 49; refine (Q1.out _ (R1.out _ _) n1).mono ?_; rintro e w1 ⟨rfl, rfl⟩)
        refine bodyPost_ret (v := .tuple #[zeroRec.v, .bool false]) (by simp [results, Tryz.results35, go_sem, zeroRec, Rec.v]) rfl ⟨rfl, ?_⟩
        (repeat' (first | exact Kept.refl _ _ | (refine Kept.alloc ?_ _) | (refine Kept.set ?_ _ _ (.inr (by simp)) _) | (refine Kept.drew ?_)))
      · have k2 : ((g2 : Int) == 0) = false := by simp; omega
        have k3 : (1125899906842624 : Int) < (g1 : Int) := by omega
        clear c2 c3
        go_enter Tryz.func35, Tryz.ntmps35
        go_wp2_with (go_at_call 49; refine (Q1.out _ (R1.out _ _) n1).mono ?_; rintro e w1 ⟨rfl, rfl⟩)
        refine bodyPost_ret (v := .tuple #[zeroRec.v, .bool false]) (by simp [results, Tryz.results35, go_sem, zeroRec, Rec.v]) rfl ⟨rfl, ?_⟩
        (repeat' (first | exact Kept.refl _ _ | (refine Kept.alloc ?_ _) | (refine Kept.set ?_ _ _ (.inr (by simp)) _) | (refine Kept.drew ?_)))
    · rw [if_neg c2]
      have k2 : ((g2 : Int) == 0) = false := by simp; omega
      have k3 : (g1 : Int) ≤ 1125899906842624 := by omega
      have wq : IntKind.i64.wrap (g1 : Int) = (g1 : Int) := IntWalk.i64_in _ (by omega)
      clear c2
      have R2 := Lib.hid (fun (o1 o2 : Obj) => (HR2.out.alloc o1).alloc o2)
      have R3 := Lib.hid (fun (o1 o2 : Obj) => (HR3.out.alloc o1).alloc o2)
      by_cases c4 : t2 = 0
      · rw [if_pos c4]
        have k4 : ((t2 : Int) == 0) = true := by simp; omega
        clear c4
        go_enter Tryz.func35, Tryz.ntmps35
        go_wp2_with (first | (go_at_call 49; refine (Q1.out _ (R1.out _ _) n1).mono ?_; rintro e w1 ⟨rfl, rfl⟩) | (go_at_call_of 50 A2; refine (Q2.out _ (R2.out _ _) n2).mono ?_; rintro e w1 ⟨rfl, rfl⟩) | (go_at_call_of 50 A3; refine (Q3.out _ (R3.out _ _) n3).mono ?_; rintro e w1 ⟨rfl, rfl⟩))
        refine bodyPost_ret (v := .tuple #[zeroRec.v, .bool false]) (by simp [results, Tryz.results35, go_sem, zeroRec, Rec.v]) rfl ⟨rfl, ?_⟩
        (repeat' (first | exact Kept.refl _ _ | (refine Kept.alloc ?_ _) | (refine Kept.set ?_ _ _ (.inr (by simp)) _) | (refine Kept.drew ?_)))
      · rw [if_neg c4]
        have k4 : ((t2 : Int) == 0) = false := by simp; omega
        clear c4
        by_cases c5 : xn = 1
        · rw [if_pos c5]
          subst c5
          have k5 : (((1 : Nat) : Int) == 1) = true := rfl
          by_cases c6 : u2 = 0
          · rw [if_pos c6]
            have k6 : ((u2 : Int) == 0) = true := by simp; omega
            clear c6
            go_enter Tryz.func35, Tryz.ntmps35
            go_wp2_with (first | (go_at_call 49; refine (Q1.out _ (R1.out _ _) n1).mono ?_; rintro e w1 ⟨rfl, rfl⟩) | (go_at_call_of 50 A2; refine (Q2.out _ (R2.out _ _) n2).mono ?_; rintro e w1 ⟨rfl, rfl⟩) | (go_at_call_of 50 A3; refine (Q3.out _ (R3.out _ _) n3).mono ?_; rintro e w1 ⟨rfl, rfl⟩))
            refine bodyPost_ret (v := .tuple #[zeroRec.v, .bool false]) (by simp [results, Tryz.results35, go_sem, zeroRec, Rec.v]) rfl ⟨rfl, ?_⟩
            (repeat' (first | exact Kept.refl _ _ | (refine Kept.alloc ?_ _) | (refine Kept.set ?_ _ _ (.inr (by simp)) _) | (refine Kept.drew ?_)))
          · rw [if_neg c6]
            have k6 : ((u2 : Int) == 0) = false := by simp; omega
            clear c6
            have QC := Lib.hid (refCheck_any ⟨1, g1, ⟨t1.toArray⟩, ⟨u1.toArray⟩⟩)
            generalize hC : checkR ⟨1, g1, ⟨t1.toArray⟩, ⟨u1.toArray⟩⟩ = C at *
            clear hC
            by_cases c7 : 0 < L3 ∨ C ≠ 0
            · rw [if_pos c7]
              by_cases c8 : 0 < L3
              · have k7 : (0 : Int) < (L3 : Int) := by omega
                clear c7 c8
                go_enter Tryz.func35, Tryz.ntmps35
                go_wp2_with (first | (go_at_call 49; refine (Q1.out _ (R1.out _ _) n1).mono ?_; rintro e w1 ⟨rfl, rfl⟩) | (go_at_call_of 50 A2; refine (Q2.out _ (R2.out _ _) n2).mono ?_; rintro e w1 ⟨rfl, rfl⟩) | (go_at_call_of 50 A3; refine (Q3.out _ (R3.out _ _) n3).mono ?_; rintro e w1 ⟨rfl, rfl⟩))
                refine bodyPost_ret (v := .tuple #[zeroRec.v, .bool false]) (by simp [results, Tryz.results35, go_sem, zeroRec, Rec.v]) rfl ⟨rfl, ?_⟩
                (repeat' (first | exact Kept.refl _ _ | (refine Kept.alloc ?_ _) | (refine Kept.set ?_ _ _ (.inr (by simp)) _) | (refine Kept.drew ?_)))
              · have k7 : ¬ (0 : Int) < (L3 : Int) := by omega
                have k7' : (L3 : Int) ≤ 0 := by omega
                have k8 : (C == 0) = false := by simp; omega
                clear c7 c8
                go_enter Tryz.func35, Tryz.ntmps35
                go_wp2_with (first | (go_at_call 49; refine (Q1.out _ (R1.out _ _) n1).mono ?_; rintro e w1 ⟨rfl, rfl⟩) | (go_at_call_of 50 A2; refine (Q2.out _ (R2.out _ _) n2).mono ?_; rintro e w1 ⟨rfl, rfl⟩) | (go_at_call_of 50 A3; refine (Q3.out _ (R3.out _ _) n3).mono ?_; rintro e w1 ⟨rfl, rfl⟩))
                refine (QC.out _).mono ?_
                rintro e w9 ⟨rfl, hk9⟩
                have hb9 := hk9.blk0 (blk_new' (w.alloc _) _ (w.heap.size + 1) (by simp))
                have hr9 := hk9.blk0 (blk_alloc (blk_new w _) _)
                have x0 := blk_cell hb9 0 rfl
                have x1 := blk_cell hb9 1 rfl
                have x2 := blk_cell hb9 2 rfl
                have x3 := blk_cell hb9 3 rfl
                have r0 := blk_cell hr9 0 rfl
                have r1 := blk_cell hr9 1 rfl
                have r2 := blk_cell hr9 2 rfl
                have r3 := blk_cell hr9 3 rfl
                have f0 := blk_frozen hr9 0
                have f1 := blk_frozen hr9 1
                have f2 := blk_frozen hr9 2
                have f3 := blk_frozen hr9 3
                have HR9 := Lib.hid hr9
                have HK9 := Lib.hid hk9
                clear hb9 hr9 hk9
                go_wp2_with fail
                have hkk : Kept noF w w9 := (((Kept.refl noF w).alloc _).alloc _).trans0 HK9.out
                have hB := (blk_set (blk_set (blk_set (blk_set HR9.out 0 (.int .i64 0)) 1 (.int .i64 0)) 2 (.string ⟨#[]⟩)) 3 (.string ⟨#[]⟩))
                have hK : Kept noF w ((((w9.setCell ⟨w.heap.size, 0, none⟩ (.int .i64 0)).setCell ⟨w.heap.size, 1, none⟩ (.int .i64 0)).setCell ⟨w.heap.size, 2, none⟩ (.string ⟨#[]⟩)).setCell ⟨w.heap.size, 3, none⟩ (.string ⟨#[]⟩)) := ((((hkk.set w.heap.size 0 (.inr (by omega)) _).set w.heap.size 1 (.inr (by omega)) _).set w.heap.size 2 (.inr (by omega)) _).set w.heap.size 3 (.inr (by omega)) _)
                generalize ((((w9.setCell ⟨w.heap.size, 0, none⟩ (.int .i64 0)).setCell ⟨w.heap.size, 1, none⟩ (.int .i64 0)).setCell ⟨w.heap.size, 2, none⟩ (.string ⟨#[]⟩)).setCell ⟨w.heap.size, 3, none⟩ (.string ⟨#[]⟩)) = wf at *
                simp only [List.size_toArray, List.length_cons, List.length_nil, List.setIfInBounds_toArray, List.set_cons_succ, List.set_cons_zero] at hB
                have e0 := blk_cell hB 0 rfl
                have e1 := blk_cell hB 1 rfl
                have e2 := blk_cell hB 2 rfl
                have e3 := blk_cell hB 3 rfl
                clear hB
                refine bodyPost_ret (v := .tuple #[.agg #[.int .i64 0, .int .i64 0, .string ⟨#[]⟩, .string ⟨#[]⟩], .bool false]) (by simp [results, Tryz.results35, go_sem, e0, e1, e2, e3]) rfl ⟨rfl, hK⟩
            · rw [if_neg c7]
              have k7 : ¬ (0 : Int) < (L3 : Int) := by omega
              have k7' : (L3 : Int) ≤ 0 := by omega
              have k8 : (C == 0) = true := by simp; omega
              clear c7
              go_enter Tryz.func35, Tryz.ntmps35
              go_wp2_with (first | (go_at_call 49; refine (Q1.out _ (R1.out _ _) n1).mono ?_; rintro e w1 ⟨rfl, rfl⟩) | (go_at_call_of 50 A2; refine (Q2.out _ (R2.out _ _) n2).mono ?_; rintro e w1 ⟨rfl, rfl⟩) | (go_at_call_of 50 A3; refine (Q3.out _ (R3.out _ _) n3).mono ?_; rintro e w1 ⟨rfl, rfl⟩))
              refine (QC.out _).mono ?_
              rintro e w9 ⟨rfl, hk9⟩
              have hb9 := hk9.blk0 (blk_new' (w.alloc _) _ (w.heap.size + 1) (by simp))
              have hr9 := hk9.blk0 (blk_alloc (blk_new w _) _)
              have x0 := blk_cell hb9 0 rfl
              have x1 := blk_cell hb9 1 rfl
              have x2 := blk_cell hb9 2 rfl
              have x3 := blk_cell hb9 3 rfl
              have r0 := blk_cell hr9 0 rfl
              have r1 := blk_cell hr9 1 rfl
              have r2 := blk_cell hr9 2 rfl
              have r3 := blk_cell hr9 3 rfl
              have f0 := blk_frozen hr9 0
              have f1 := blk_frozen hr9 1
              have f2 := blk_frozen hr9 2
              have f3 := blk_frozen hr9 3
              have HR9 := Lib.hid hr9
              have HK9 := Lib.hid hk9
              clear hb9 hr9 hk9
              go_wp2_with fail
              have hkk : Kept noF w w9 := (((Kept.refl noF w).alloc _).alloc _).trans0 HK9.out
              have hB := (blk_set (blk_set (blk_set (blk_set HR9.out 0 (.int .i64 1)) 1 (.int .i64 g1)) 2 (.string ⟨t1.toArray⟩)) 3 (.string ⟨u1.toArray⟩))
              have hK : Kept noF w ((((w9.setCell ⟨w.heap.size, 0, none⟩ (.int .i64 1)).setCell ⟨w.heap.size, 1, none⟩ (.int .i64 g1)).setCell ⟨w.heap.size, 2, none⟩ (.string ⟨t1.toArray⟩)).setCell ⟨w.heap.size, 3, none⟩ (.string ⟨u1.toArray⟩)) := ((((hkk.set w.heap.size 0 (.inr (by omega)) _).set w.heap.size 1 (.inr (by omega)) _).set w.heap.size 2 (.inr (by omega)) _).set w.heap.size 3 (.inr (by omega)) _)
              generalize ((((w9.setCell ⟨w.heap.size, 0, none⟩ (.int .i64 1)).setCell ⟨w.heap.size, 1, none⟩ (.int .i64 g1)).setCell ⟨w.heap.size, 2, none⟩ (.string ⟨t1.toArray⟩)).setCell ⟨w.heap.size, 3, none⟩ (.string ⟨u1.toArray⟩)) = wf at *
              simp only [List.size_toArray, List.length_cons, List.length_nil, List.setIfInBounds_toArray, List.set_cons_succ, List.set_cons_zero] at hB
              have e0 := blk_cell hB 0 rfl
              have e1 := blk_cell hB 1 rfl
              have e2 := blk_cell hB 2 rfl
              have e3 := blk_cell hB 3 rfl
              clear hB
              refine bodyPost_ret (v := .tuple #[.agg #[.int .i64 1, .int .i64 g1, .string ⟨t1.toArray⟩, .string ⟨u1.toArray⟩], .bool true]) (by simp [results, Tryz.results35, go_sem, e0, e1, e2, e3]) rfl ⟨rfl, hK⟩
        · rw [if_neg c5]
          have hx00 : xn = 0 := by omega
          subst hx00
          have k5 : (((0 : Nat) : Int) == 1) = false := rfl
          clear c5 k1' c1
          have QC := Lib.hid (refCheck_any ⟨0, g1, ⟨t1.toArray⟩, ⟨#[]⟩⟩)
          generalize hC : checkR ⟨0, g1, ⟨t1.toArray⟩, ⟨#[]⟩⟩ = C at *
          clear hC
          by_cases c7 : 0 < L2 ∨ C ≠ 0
          · rw [if_pos c7]
            by_cases c8 : 0 < L2
            · have k7 : (0 : Int) < (L2 : Int) := by omega
              clear c7 c8
              go_enter Tryz.func35, Tryz.ntmps35
              go_wp2_with (first | (go_at_call 49; refine (Q1.out _ (R1.out _ _) n1).mono ?_; rintro e w1 ⟨rfl, rfl⟩) | (go_at_call_of 50 A2; refine (Q2.out _ (R2.out _ _) n2).mono ?_; rintro e w1 ⟨rfl, rfl⟩) | (go_at_call_of 50 A3; refine (Q3.out _ (R3.out _ _) n3).mono ?_; rintro e w1 ⟨rfl, rfl⟩))
              refine bodyPost_ret (v := .tuple #[zeroRec.v, .bool false]) (by simp [results, Tryz.results35, go_sem, zeroRec, Rec.v]) rfl ⟨rfl, ?_⟩
              (repeat' (first | exact Kept.refl _ _ | (refine Kept.alloc ?_ _) | (refine Kept.set ?_ _ _ (.inr (by simp)) _) | (refine Kept.drew ?_)))
            · have k7 : ¬ (0 : Int) < (L2 : Int) := by omega
              have k7' : (L2 : Int) ≤ 0 := by omega
              have k8 : (C == 0) = false := by simp; omega
              clear c7 c8
              go_enter Tryz.func35, Tryz.ntmps35
              go_wp2_with (first | (go_at_call 49; refine (Q1.out _ (R1.out _ _) n1).mono ?_; rintro e w1 ⟨rfl, rfl⟩) | (go_at_call_of 50 A2; refine (Q2.out _ (R2.out _ _) n2).mono ?_; rintro e w1 ⟨rfl, rfl⟩) | (go_at_call_of 50 A3; refine (Q3.out _ (R3.out _ _) n3).mono ?_; rintro e w1 ⟨rfl, rfl⟩))
              refine (QC.out _).mono ?_
              rintro e w9 ⟨rfl, hk9⟩
              have hb9 := hk9.blk0 (blk_new' (w.alloc _) _ (w.heap.size + 1) (by simp))
              have hr9 := hk9.blk0 (blk_alloc (blk_new w _) _)
              have x0 := blk_cell hb9 0 rfl
              have x1 := blk_cell hb9 1 rfl
              have x2 := blk_cell hb9 2 rfl
              have x3 := blk_cell hb9 3 rfl
              have r0 := blk_cell hr9 0 rfl
              have r1 := blk_cell hr9 1 rfl
              have r2 := blk_cell hr9 2 rfl
              have r3 := blk_cell hr9 3 rfl
              have f0 := blk_frozen hr9 0
              have f1 := blk_frozen hr9 1
              have f2 := blk_frozen hr9 2
              have f3 := blk_frozen hr9 3
              have HR9 := Lib.hid hr9
              have HK9 := Lib.hid hk9
              clear hb9 hr9 hk9
              go_wp2_with fail
              have hkk : Kept noF w w9 := (((Kept.refl noF w).alloc _).alloc _).trans0 HK9.out
              have hB := (blk_set (blk_set (blk_set (blk_set HR9.out 0 (.int .i64 0)) 1 (.int .i64 0)) 2 (.string ⟨#[]⟩)) 3 (.string ⟨#[]⟩))
              have hK : Kept noF w ((((w9.setCell ⟨w.heap.size, 0, none⟩ (.int .i64 0)).setCell ⟨w.heap.size, 1, none⟩ (.int .i64 0)).setCell ⟨w.heap.size, 2, none⟩ (.string ⟨#[]⟩)).setCell ⟨w.heap.size, 3, none⟩ (.string ⟨#[]⟩)) := ((((hkk.set w.heap.size 0 (.inr (by omega)) _).set w.heap.size 1 (.inr (by omega)) _).set w.heap.size 2 (.inr (by omega)) _).set w.heap.size 3 (.inr (by omega)) _)
              generalize ((((w9.setCell ⟨w.heap.size, 0, none⟩ (.int .i64 0)).setCell ⟨w.heap.size, 1, none⟩ (.int .i64 0)).setCell ⟨w.heap.size, 2, none⟩ (.string ⟨#[]⟩)).setCell ⟨w.heap.size, 3, none⟩ (.string ⟨#[]⟩)) = wf at *
              simp only [List.size_toArray, List.length_cons, List.length_nil, List.setIfInBounds_toArray, List.set_cons_succ, List.set_cons_zero] at hB
              have e0 := blk_cell hB 0 rfl
              have e1 := blk_cell hB 1 rfl
              have e2 := blk_cell hB 2 rfl
              have e3 := blk_cell hB 3 rfl
              clear hB
              refine bodyPost_ret (v := .tuple #[.agg #[.int .i64 0, .int .i64 0, .string ⟨#[]⟩, .string ⟨#[]⟩], .bool false]) (by simp [results, Tryz.results35, go_sem, e0, e1, e2, e3]) rfl ⟨rfl, hK⟩
          · rw [if_neg c7]
            have k7 : ¬ (0 : Int) < (L2 : Int) := by omega
            have k7' : (L2 : Int) ≤ 0 := by omega
            have k8 : (C == 0) = true := by simp; omega
            clear c7
            go_enter Tryz.func35, Tryz.ntmps35
            go_wp2_with (first | (go_at_call 49; refine (Q1.out _ (R1.out _ _) n1).mono ?_; rintro e w1 ⟨rfl, rfl⟩) | (go_at_call_of 50 A2; refine (Q2.out _ (R2.out _ _) n2).mono ?_; rintro e w1 ⟨rfl, rfl⟩) | (go_at_call_of 50 A3; refine (Q3.out _ (R3.out _ _) n3).mono ?_; rintro e w1 ⟨rfl, rfl⟩))
            refine (QC.out _).mono ?_
            rintro e w9 ⟨rfl, hk9⟩
            have hb9 := hk9.blk0 (blk_new' (w.alloc _) _ (w.heap.size + 1) (by simp))
            have hr9 := hk9.blk0 (blk_alloc (blk_new w _) _)
            have x0 := blk_cell hb9 0 rfl
            have x1 := blk_cell hb9 1 rfl
            have x2 := blk_cell hb9 2 rfl
            have x3 := blk_cell hb9 3 rfl
            have r0 := blk_cell hr9 0 rfl
            have r1 := blk_cell hr9 1 rfl
            have r2 := blk_cell hr9 2 rfl
            have r3 := blk_cell hr9 3 rfl
            have f0 := blk_frozen hr9 0
            have f1 := blk_frozen hr9 1
            have f2 := blk_frozen hr9 2
            have f3 := blk_frozen hr9 3
            have HR9 := Lib.hid hr9
            have HK9 := Lib.hid hk9
            clear hb9 hr9 hk9
            go_wp2_with fail
            have hkk : Kept noF w w9 := (((Kept.refl noF w).alloc _).alloc _).trans0 HK9.out
            have hB := (blk_set (blk_set (blk_set (blk_set HR9.out 0 (.int .i64 0)) 1 (.int .i64 g1)) 2 (.string ⟨t1.toArray⟩)) 3 (.string ⟨#[]⟩))
            have hK : Kept noF w ((((w9.setCell ⟨w.heap.size, 0, none⟩ (.int .i64 0)).setCell ⟨w.heap.size, 1, none⟩ (.int .i64 g1)).setCell ⟨w.heap.size, 2, none⟩ (.string ⟨t1.toArray⟩)).setCell ⟨w.heap.size, 3, none⟩ (.string ⟨#[]⟩)) := ((((hkk.set w.heap.size 0 (.inr (by omega)) _).set w.heap.size 1 (.inr (by omega)) _).set w.heap.size 2 (.inr (by omega)) _).set w.heap.size 3 (.inr (by omega)) _)
            generalize ((((w9.setCell ⟨w.heap.size, 0, none⟩ (.int .i64 0)).setCell ⟨w.heap.size, 1, none⟩ (.int .i64 g1)).setCell ⟨w.heap.size, 2, none⟩ (.string ⟨t1.toArray⟩)).setCell ⟨w.heap.size, 3, none⟩ (.string ⟨#[]⟩)) = wf at *
            simp only [List.size_toArray, List.length_cons, List.length_nil, List.setIfInBounds_toArray, List.set_cons_succ, List.set_cons_zero] at hB
            have e0 := blk_cell hB 0 rfl
            have e1 := blk_cell hB 1 rfl
            have e2 := blk_cell hB 2 rfl
            have e3 := blk_cell hB 3 rfl
            clear hB
            refine bodyPost_ret (v := .tuple #[.agg #[.int .i64 0, .int .i64 g1, .string ⟨t1.toArray⟩, .string ⟨#[]⟩], .bool true]) (by simp [results, Tryz.results35, go_sem, e0, e1, e2, e3]) rfl ⟨rfl, hK⟩
end Go.Proofs.YtflnekjmcpmbbaaGreatDoor

/- Walks: the reference's records one behind the other. -/
set_option linter.unusedVariables false
set_option linter.unusedSimpArgs false
namespace Go.Proofs.YtflnekjmcpmbbaaGreatDoor
open Go.RowKit

theorem refOne_any (A : Option Addr) (c : Nat) (s : List UInt8) (w : World) (hr : Reads w (.slice A s.length c) 1 s.length (bvs s)) (hbc : s.length ≤ c) (hlen : s.length < 4294967296) :
    Calls Tryz.prog 35 #[.slice A s.length c] w fun e w' => e = .returned (.tuple #[(oneR s).1.v, .bool (oneR s).2]) ∧ Kept noF w w' := by
  match s, hr, hbc, hlen with
  | [], hr, hbc, hlen => exact refOne_nil A c w
  | x :: r, hr, hbc, hlen => exact refOne_cons A c x r _ rfl w hr hbc hlen

/-- The records as the reference tells them. -/
def recsR : List (List UInt8) → List Rec × Nat × Bool
  | [] => ([], 0, true)
  | s :: r => if (oneR s).2 then ((oneR s).1 :: (recsR r).1, 12 + s.length + (recsR r).2.1, (recsR r).2.2) else ([], 0, false)

set_option maxHeartbeats 1000000 in
set_option maxRecDepth 100000 in
theorem refRScan_any (A : Option Addr) (c : Nat) (bs : List UInt8) (w : World) (hr : Reads w (.slice A bs.length c) 1 bs.length (bvs bs)) (hlen : bs.length < 4294967296) :
    Calls Tryz.prog 13 #[.slice A bs.length c] w fun e w' => ∃ v, e = .returned (.tuple #[v, .int .i64 (recsR (scanL bs).1).2.1, .bool ((recsR (scanL bs).1).2.2 && (scanL bs).2)]) ∧ OwnRecs w' w.heap.size v (recsR (scanL bs).1).1 ∧ Kept noF w w' := by
  have hsl := scanL_len _ bs (Nat.le_refl _)
  have HR := Lib.hid hr
  clear hr
  go_enter Tryz.func13, Tryz.ntmps13
  go_wp2_with fail
  refine (refScan_any A c bs w HR.out hlen).mono ?_
  rintro e w1 ⟨v1, rfl, hsee, hk1⟩
  generalize hLS : (scanL bs).1 = LS at *
  generalize hCut : (scanL bs).2 = cut at *
  have HLS := Lib.hid hLS
  have HCUT := Lib.hid hCut
  clear hLS hCut
  obtain ⟨vs, hvo, hvl, hvs⟩ := hsee
  obtain ⟨AL, cL, rfl, hcL⟩ := own_form hvo
  have HVO := Lib.hid hvo
  have HVS := Lib.hid hvs
  have HVL := Lib.hid hvl
  have HK1 := Lib.hid hk1
  clear hvo hvs hvl hk1
  generalize hLn : LS.length = N at *
  have HLN := Lib.hid hLn
  clear hLn
  go_wp2_with fail
  go_loopw [5, 6, 10] (fun l at_ i wr => ∃ (k sz : Nat) (done : List Rec), k ≤ N ∧ i = .int .i64 k ∧ at_ = .int .i64 sz ∧ recsR LS = (done ++ (recsR (LS.drop k)).1, sz + (recsR (LS.drop k)).2.1, (recsR (LS.drop k)).2.2) ∧ done.length = k ∧ sz + sealsLen (LS.drop k) ≤ sealsLen LS ∧ OwnRecs wr w1.heap.size l done ∧ Kept noF w1 wr) (fun _ _ i _ => N - (intOf i).toNat)
  case atStart => exact ⟨0, 0, [], Nat.zero_le _, rfl, rfl, by simp, rfl, by simp, World.ownsRow_nil _ _ _ _, Kept.refl _ _⟩
  case round =>
    obtain ⟨k, sz, done, hk, rfl, rfl, hrec, hdl, hsz, hown, hkw⟩ := hrel
    have hge := sealsLen_ge LS
    have HREC := Lib.hid hrec
    have HDL := Lib.hid hdl
    have HOWN := Lib.hid hown
    have HKW := Lib.hid hkw
    clear hrec hdl hown hkw
    by_cases hlt : k < N
    · have hlt2 : k < LS.length := by have := HLN.out; omega
      obtain ⟨s, hs⟩ : ∃ s, LS[k]? = some s := ⟨_, List.getElem?_eq_getElem hlt2⟩
      obtain ⟨u, hu⟩ : ∃ u, vs[k]? = some u := ⟨_, List.getElem?_eq_getElem (by rw [HVL.out]; exact hlt)⟩
      have hslt := (HVS.out k u s hu hs).1.lt
      have hsees := ((HVS.out k u s hu hs).1).kept0 HKW.out
      obtain ⟨As, cs, rfl, hcs, hrs⟩ := hsees
      have hcell := Reads.own HVO.out
      obtain ⟨b, o, rfl, hc⟩ := hcell.at1 (by omega)
      have hck1 := hc k _ hu
      have hck := HKW.out.cell0 hck1
      have HCK1 := Lib.hid hck1
      clear hck1
      have hsl1 := sealsLen_at LS k s hs
      have hdrop : LS.drop k = s :: LS.drop (k + 1) := by rw [List.drop_eq_getElem_cons hlt2]; congr 1; simpa [hlt2] using hs
      have hrq : recsR (LS.drop k) = if (oneR s).2 then ((oneR s).1 :: (recsR (LS.drop (k + 1))).1, 12 + s.length + (recsR (LS.drop (k + 1))).2.1, (recsR (LS.drop (k + 1))).2.2) else ([], 0, false) := by rw [hdrop]; rfl
      have hsz2 : sealsLen (LS.drop k) = 12 + s.length + sealsLen (LS.drop (k + 1)) := by rw [hdrop, sealsLen_cons]
      have qd := refOne_any As cs s wr hrs hcs (by omega)
      generalize (oneR s).1 = R at *
      generalize (oneR s).2 = ok at *
      obtain ⟨rk, rq, rkey, rval⟩ := R
      simp only [Rec.v] at qd
      have HRQ := Lib.hid hrq
      have HRS := Lib.hid hrs
      have hblt : b < wr.heap.size := World.block_lt_of_cell? wr _ hck
      clear hdrop hrq hc hcell hs hu hrs
      have QD := Lib.hid qd
      have HSLT := Lib.hid hslt
      clear hslt qd
      rw [hsz2] at hsz
      clear hsz2
      cases ok
      · have hfin : recsR LS = (done, sz, false) := by rw [HREC.out, HRQ.out]; simp
        have HFIN := Lib.hid hfin
        clear hfin
        go_wp2_with fail
        refine QD.out.mono ?_
        rintro e w2 ⟨rfl, hk2⟩
        go_wp2_with fail
        go_ret3
        rw [HLS.out, HCUT.out, HFIN.out]
        exact ⟨_, rfl, own_base (own_kept0 HOWN.out (hk2.alloc _)) HK1.out.size, ((HK1.out.trans0 HKW.out).trans0 hk2).alloc _⟩
      · have hfin : recsR LS = (done ++ [⟨rk, rq, rkey, rval⟩] ++ (recsR (LS.drop (k + 1))).1, sz + (12 + s.length) + (recsR (LS.drop (k + 1))).2.1, (recsR (LS.drop (k + 1))).2.2) := by
          rw [HREC.out, HRQ.out]; simp [Nat.add_assoc]
        have HFIN := Lib.hid hfin
        clear hfin HREC HRQ
        have hz1 := HK1.out.size
        have hzw := HKW.out.size
        have hdl := HDL.out
        have hE := HLN.out
        have h48 : (done.length + 1) * 48 ≤ 140737488355328 := by omega
        have hwr : IntKind.i64.wrap ((sz : Int) + (12 + (s.length : Int))) = (sz : Int) + (12 + (s.length : Int)) := IntWalk.i64_in _ (by omega)
        have hw12 : IntKind.i64.wrap (12 + (s.length : Int)) = 12 + (s.length : Int) := IntWalk.i64_in _ (by omega)
        clear hdl hE
        go_wp2_with fail
        refine QD.out.mono ?_
        rintro e w2 ⟨rfl, hk2⟩
        have hz2 := hk2.size
        have hoA : ∀ o o' : Obj, ((w2.alloc o).alloc o').ownsRow w1.heap.size 32 4 u5 done.length (rcells done) := fun o o' => own_kept0 HOWN.out ((hk2.alloc o).alloc o')
        have hzA : ∀ o o' : Obj, w1.heap.size ≤ ((w2.alloc o).alloc o').heap.size := fun o o' => by simp; omega
        have hkA : ∀ (o o' : Obj) (w3 : World), ((w2.alloc o).alloc o').grownBy w3 (Value.ownBlock u5) → Kept noF w1 w3 := fun o o' w3 g =>
          (((HKW.out.trans0 hk2).alloc o).alloc o').grown g (fun k hk => .inr (own_from HOWN.out k hk))
        have hck3 : ∀ (w3 : World), Kept noF w1 w3 → w3.cell? ⟨b, o + k, none⟩ = some (.slice As s.length cs) := fun w3 h3 => h3.cell0 HCK1.out
        have rdL : ∀ o : Obj, Reads ((w2.alloc o).alloc (.cells #[.int .i64 rk, .int .i64 rq, .string rkey, .string rval] 32)) (.slice (some ⟨w2.heap.size + 1, 0, none⟩) 1 1) 4 1 [.int .i64 rk, .int .i64 rq, .string rkey, .string rval] := fun o => by
          have := Reads.lit (w2.alloc o) [.int .i64 rk, .int .i64 rq, .string rkey, .string rval] 32 4 1 rfl (by omega)
          rw [World.size_alloc] at this
          exact this
        have RDL := Lib.hid rdL
        clear rdL
        have HOA := Lib.hid hoA
        have HZA := Lib.hid hzA
        have HKA := Lib.hid hkA
        have HCK3 := Lib.hid hck3
        clear hoA hzA hkA hck3
        go_wp2_with (at_builtin; refine wpList_app rfl _ _ 22 rfl w1.heap.size 32 (.agg #[.int .i64 0, .int .i64 0, .string ⟨#[]⟩, .string ⟨#[]⟩]) 4 48 Tryz.underlying22 infoRec rfl (by decide) u5 done.length (rcells done) (by rfl) (HOA.out _ _) _ 1 [.int .i64 rk, .int .i64 rq, .string rkey, .string rval] (by rfl) (RDL.out _) (by simp [Value.oneCell']) h48 (by omega) (HZA.out _ _) ?_; intro v3 w3 hown3 hgr3; have hc3 := HCK3.out _ (HKA.out _ _ _ hgr3))
        have hdl := HDL.out
        refine ⟨⟨k + 1, sz + (12 + s.length), done ++ [⟨rk, rq, rkey, rval⟩], by omega, by go_num, by go_num, HFIN.out, by simp [hdl], by omega, ?_, HKA.out _ _ _ hgr3⟩, by simp [intOf]; omega⟩
        unfold OwnRecs
        rw [List.length_append, rcells_append, rcells_one]
        exact hown3
    · obtain rfl : k = N := by omega
      have hfin : recsR LS = (done, sz, true) := by
        rw [HREC.out, List.drop_eq_nil_of_le (by rw [HLN.out]; exact Nat.le_refl _)]; simp [recsR]
      have HFIN := Lib.hid hfin
      clear hfin HREC
      go_wp2
      go_ret3
      rw [HLS.out, HCUT.out, HFIN.out]
      exact ⟨_, by simp, own_base HOWN.out HK1.out.size, HK1.out.trans0 HKW.out⟩
end Go.Proofs.YtflnekjmcpmbbaaGreatDoor

/- Plain law: decode and the reference's 'one' tell the same. -/
set_option linter.unusedVariables false
set_option linter.unusedSimpArgs false
namespace Go.Proofs.YtflnekjmcpmbbaaGreatDoor

def canon : List UInt8 → Prop
  | [] => False
  | [c] => c.toNat < 128
  | c :: d :: r => 128 ≤ c.toNat ∧ canon (d :: r) ∧ 0 < valL (d :: r)
theorem canon_put : ∀ (l : List UInt8), canon l → putL (valL l) = l
  | [], h => h.elim
  | [c], h => by
    have hc : c.toNat < 128 := h
    have hv : valL [c] = c.toNat := by simp [valL]; omega
    rw [hv, putL_small (by omega)]
    simp
  | c :: d :: r, h => by
    obtain ⟨h1, h2, h3⟩ := h
    have ih := canon_put (d :: r) h2
    have hv : valL (c :: d :: r) = c.toNat % 128 + 128 * valL (d :: r) := rfl
    have hlt := c.toNat_lt
    rw [hv, putL_big (by omega), show (c.toNat % 128 + 128 * valL (d :: r)) / 128 = valL (d :: r) from by omega, ih,
      show (c.toNat % 128 + 128 * valL (d :: r)) % 128 + 128 = c.toNat from by omega]
    simp
theorem valL_last (l : List UInt8) (c : UInt8) (h : c.toNat % 128 ≠ 0) : 0 < valL (l ++ [c]) := by
  rw [valL_snoc]
  have := Nat.mul_le_mul (show 1 ≤ c.toNat % 128 by omega) (Nat.one_le_two_pow (n := 0))
  have h2 : 0 < 128 ^ l.length := Nat.pow_pos (by omega)
  have h3 : 0 < c.toNat % 128 * 128 ^ l.length := Nat.mul_pos (by omega) h2
  omega
theorem stopAt_canon : ∀ (f : Nat) (b : List UInt8) (j : Nat), stopAt f b = some j → (j = 0 ∨ b[j]?.getD 0 ≠ 0) → canon (b.take (j + 1)) ∧ (b[j]?.getD 0 ≠ 0 → 0 < valL (b.take (j + 1)))
  | 0, _, _, h, _ => by simp [stopAt] at h
  | _ + 1, [], _, h, _ => by simp [stopAt] at h
  | f + 1, c :: r, j, h, hz => by
    unfold stopAt at h
    split at h
    · rename_i hc
      cases h
      refine ⟨hc, fun h0 => ?_⟩
      simp [valL] at h0 ⊢
      have : c.toNat ≠ 0 := fun e => h0 (u8_eq0 e)
      omega
    · rename_i hc
      cases hs : stopAt f r with
      | none => simp [hs] at h
      | some j' =>
        simp [hs] at h
        subst h
        have hnz : r[j']?.getD 0 ≠ 0 := by simpa using hz
        have ih := stopAt_canon f r j' hs (.inr hnz)
        have hl := (stopAt_some f r j' hs).2.1
        obtain ⟨d, r', rfl⟩ : ∃ d r', r = d :: r' := by
          cases r with
          | nil => simp at hl
          | cons d r' => exact ⟨d, r', rfl⟩
        have e : (c :: d :: r').take (j' + 1 + 1) = c :: (d :: r').take (j' + 1) := rfl
        have e2 : (d :: r').take (j' + 1) = d :: r'.take j' := rfl
        rw [e, e2]
        rw [e2] at ih
        refine ⟨⟨by omega, ih.1, ih.2 hnz⟩, fun _ => ?_⟩
        have := ih.2 hnz
        show 0 < c.toNat % 128 + 128 * valL (d :: r'.take j')
        omega
/-- What a number was read from is that number's bytes. -/
theorem getL_put (b : List UInt8) (h : (getL b).2 ≠ 0) : b.take (getL b).2 = putL (getL b).1 := by
  unfold getL at h ⊢
  split at h
  · simp at h
  · rename_i k hk
    split at h
    · simp at h
    · rename_i hc
      rw [if_neg hc]
      refine (canon_put _ (stopAt_canon 10 b k hk ?_).1).symm
      rcases Nat.eq_zero_or_pos k with h0 | h0
      · exact .inl h0
      · exact .inr (fun e => hc (.inl ⟨h0, e⟩))
theorem getTextL_text (b : List UInt8) (h : (getTextL b).2 ≠ 0) : b.take (getTextL b).2 = textL (getTextL b).1 := by
  unfold getTextL at h ⊢
  split at h
  · simp at h
  · rename_i hc
    rw [if_neg hc]
    have h0 : (getL b).2 ≠ 0 := fun e => hc (.inl e)
    have h1 := getL_put b h0
    have hle := (getL_le b).1
    unfold textL
    simp only
    have hl : ((b.drop (getL b).2).take (getL b).1).length = (getL b).1 := by rw [List.length_take, List.length_drop]; omega
    rw [hl, ← h1, List.take_add]
theorem getL_small (x : UInt8) (r : List UInt8) (h : x.toNat < 128) : getL (x :: r) = (x.toNat, 1) := by
  rw [getL_good (x :: r) 0 (by omega) (by simp) (by intro j hj; omega) (by simpa using h) (by simp)]
  simp [valL]; omega
theorem getL_big (x : UInt8) (r : List UInt8) (h : 128 ≤ x.toNat) : (getL (x :: r)).2 = 0 ∨ 128 ≤ (getL (x :: r)).1 := by
  unfold getL
  split
  · exact .inl rfl
  · rename_i k hk
    split
    · exact .inl rfl
    · rename_i hc
      refine .inr ?_
      have hk0 : k ≠ 0 := by
        rintro rfl
        have := (stopAt_some _ _ _ hk).2.2
        simp at this
        omega
      have hcan := (stopAt_canon 10 (x :: r) k hk (.inr (fun e => hc (.inl ⟨by omega, e⟩)))).1
      have hl := (stopAt_some _ _ _ hk).2.1
      obtain ⟨k', rfl⟩ : ∃ k', k = k' + 1 := ⟨k - 1, by omega⟩
      cases r with
      | nil => simp at hl
      | cons d r' =>
        have e : (x :: d :: r').take (k' + 1 + 1) = x :: d :: r'.take k' := rfl
        simp only
        rw [e] at hcan ⊢
        have := hcan.2.2
        show 128 ≤ x.toNat % 128 + 128 * valL (d :: r'.take k')
        omega

theorem stepR_bad (l : List UInt8) (n : Nat) : stepR (l, true) n = ([], true) := by simp [stepR]
theorem stepR_zero (s : List UInt8 × Bool) : stepR s 0 = ([], true) := by simp [stepR]
theorem stepR_good (l : List UInt8) (n : Nat) (h : n ≠ 0) : stepR (l, false) n = (l.drop n, false) := by simp [stepR, h]
theorem numR_bad (l : List UInt8) (m : Nat) : numR (l, true) m = (0, ([], true)) := by simp [numR, stepR_bad]
theorem textR_bad (l : List UInt8) : textR (l, true) = ([], ([], true)) := by simp [textR, stepR_bad]
theorem numR_none (l : List UInt8) (m : Nat) (h : (getL l).2 = 0 ∨ m < (getL l).1) : numR (l, false) m = (0, ([], true)) := by
  have e : (if m < (getL l).1 then 0 else (getL l).2) = 0 := by split <;> omega
  simp [numR, e, stepR_zero]
theorem numR_some (l : List UInt8) (m : Nat) (h : (getL l).2 ≠ 0) (h2 : ¬ m < (getL l).1) : numR (l, false) m = ((getL l).1, (l.drop (getL l).2, false)) := by
  simp [numR, h2, stepR_good _ _ h]
theorem textR_none (l : List UInt8) (h : (getTextL l).2 = 0) : textR (l, false) = ([], ([], true)) := by simp [textR, h, stepR_zero]
theorem textR_some (l : List UInt8) (h : (getTextL l).2 ≠ 0) : textR (l, false) = ((getTextL l).1, (l.drop (getTextL l).2, false)) := by simp [textR, stepR_good _ _ h]
theorem decOk_bad {s : List UInt8} (h : (decX s).2.2 = true) : decOk s = false := by
  unfold decOk doneR
  rw [h]
  rfl
theorem decX_bad1 {s : List UInt8} (h : numR (s, false) 1 = (0, ([], true))) : (decX s).2.2 = true := by
  rw [decX_eq, h]
  simp [numR_bad, textR_bad]
theorem decX_bad2 {s l : List UInt8} {k : Nat} (h : numR (s, false) 1 = (k, (l, false))) (h2 : numR (l, false) 1125899906842624 = (0, ([], true))) : (decX s).2.2 = true := by
  rw [decX_eq, h, h2]
  simp only [textR_bad]
  split <;> rfl
theorem decX_bad3 {s l l2 : List UInt8} {k q : Nat} (h : numR (s, false) 1 = (k, (l, false))) (h2 : numR (l, false) 1125899906842624 = (q, (l2, false))) (h3 : textR (l2, false) = ([], ([], true))) : (decX s).2.2 = true := by
  rw [decX_eq, h, h2]
  simp only [h3]
  split
  · simp only [textR_bad]
  · rfl
theorem decX_bad4 {s l l2 l3 key : List UInt8} {q : Nat} (h : numR (s, false) 1 = (1, (l, false))) (h2 : numR (l, false) 1125899906842624 = (q, (l2, false))) (h3 : textR (l2, false) = (key, (l3, false))) (h4 : textR (l3, false) = ([], ([], true))) : (decX s).2.2 = true := by
  rw [decX_eq, h, h2]
  simp only [h3, if_pos]
  rw [h4]
theorem decX_put {s l l2 l3 l4 key val : List UInt8} {q : Nat} (h : numR (s, false) 1 = (1, (l, false))) (h2 : numR (l, false) 1125899906842624 = (q, (l2, false))) (h3 : textR (l2, false) = (key, (l3, false))) (h4 : textR (l3, false) = (val, (l4, false))) :
    decX s = (⟨1, q, ⟨key.toArray⟩, ⟨val.toArray⟩⟩, (l4, false)) := by
  rw [decX_eq, h, h2]
  simp only [h3, if_pos]
  rw [h4]
  rfl
theorem decX_del {s l l2 l3 key : List UInt8} {q : Nat} (h : numR (s, false) 1 = (0, (l, false))) (h2 : numR (l, false) 1125899906842624 = (q, (l2, false))) (h3 : textR (l2, false) = (key, (l3, false))) :
    decX s = (⟨0, q, ⟨key.toArray⟩, ⟨#[]⟩⟩, (l3, false)) := by
  rw [decX_eq, h, h2]
  simp only [h3]
  rfl
/-- The law: decode's answer is the reference's. -/
theorem dec_one (s : List UInt8) : decOk s = (oneR s).2 ∧ ((oneR s).2 = true → (decX s).1 = (oneR s).1) := by
  cases s with
  | nil =>
    refine ⟨?_, fun h => by simp [oneR] at h⟩
    rw [decOk_bad (decX_bad1 (numR_none [] 1 (.inl (by simp [getL, stopAt]))))]
    rfl
  | cons x r =>
    by_cases c1 : 1 < x.toNat
    · have ho : oneR (x :: r) = (zeroRec, false) := by simp [oneR, c1]
      rw [ho]
      refine ⟨decOk_bad (decX_bad1 (numR_none _ 1 ?_)), fun h => by cases h⟩
      by_cases h128 : x.toNat < 128
      · rw [getL_small x r h128]; exact .inr c1
      · rcases getL_big x r (by omega) with h | h
        · exact .inl h
        · exact .inr (by omega)
    · have hn1 : numR (x :: r, false) 1 = (x.toNat, (r, false)) := by
        have e := getL_small x r (by omega)
        rw [numR_some _ _ (by rw [e]; simp) (by rw [e]; exact c1), e]
        rfl
      by_cases c2 : (getL r).2 = 0 ∨ 1125899906842624 < (getL r).1
      · have ho : oneR (x :: r) = (zeroRec, false) := by simp only [oneR, if_neg c1, if_pos c2]
        rw [ho]
        exact ⟨decOk_bad (decX_bad2 hn1 (numR_none _ _ c2)), fun h => by cases h⟩
      · have hn2 := numR_some r 1125899906842624 (fun e => c2 (.inl e)) (fun e => c2 (.inr e))
        have p1 := getL_put r (fun e => c2 (.inl e))
        by_cases c3 : (getTextL (r.drop (getL r).2)).2 = 0
        · have ho : oneR (x :: r) = (zeroRec, false) := by simp only [oneR, if_neg c1, if_neg c2, if_pos c3]
          rw [ho]
          exact ⟨decOk_bad (decX_bad3 hn1 hn2 (textR_none _ c3)), fun h => by cases h⟩
        · have hn3 := textR_some _ c3
          have p2 := getTextL_text _ c3
          generalize hB : r.drop (getL r).2 = B at *
          generalize hB2 : B.drop (getTextL B).2 = B2 at *
          have hBl : B = textL (getTextL B).1 ++ B2 := by rw [← p2, ← hB2, List.take_append_drop]
          have hrl : r = putL (getL r).1 ++ B := by rw [← p1, ← hB, List.take_append_drop]
          by_cases c4 : x.toNat = 1
          · rw [c4] at hn1
            by_cases c5 : (getTextL B2).2 = 0
            · have ho : oneR (x :: r) = (zeroRec, false) := by simp only [oneR, if_neg c1, if_neg c2, hB, if_neg c3, hB2, if_pos c4, if_pos c5]
              rw [ho]
              exact ⟨decOk_bad (decX_bad4 hn1 hn2 hn3 (textR_none _ c5)), fun h => by cases h⟩
            · have hn4 := textR_some _ c5
              have p3 := getTextL_text _ c5
              have hX := decX_put hn1 hn2 hn3 hn4
              generalize hB3 : B2.drop (getTextL B2).2 = B3 at *
              have hB2l : B2 = textL (getTextL B2).1 ++ B3 := by rw [← p3, ← hB3, List.take_append_drop]
              have ho : oneR (x :: r) = if 0 < B3.length ∨ checkR ⟨1, (getL r).1, ⟨(getTextL B).1.toArray⟩, ⟨(getTextL B2).1.toArray⟩⟩ ≠ 0 then (zeroRec, false) else (⟨1, (getL r).1, ⟨(getTextL B).1.toArray⟩, ⟨(getTextL B2).1.toArray⟩⟩, true) := by
                simp only [oneR, if_neg c1, if_neg c2, hB, if_neg c3, hB2, if_pos c4, if_neg c5, hB3]
              rw [ho]
              by_cases c6 : 0 < B3.length ∨ checkR ⟨1, (getL r).1, ⟨(getTextL B).1.toArray⟩, ⟨(getTextL B2).1.toArray⟩⟩ ≠ 0
              · rw [if_pos c6]
                refine ⟨?_, fun h => by cases h⟩
                unfold decOk doneR
                rw [hX]
                simp only
                rcases c6 with c6 | c6
                · have : (B3.length == 0) = false := by simp; intro e; simp [e] at c6
                  simp [this]
                · simp [beq_false_of_ne c6]
              · rw [if_neg c6]
                refine ⟨?_, fun _ => by rw [hX]⟩
                have h0 : B3 = [] := by cases B3 with | nil => rfl | cons _ _ => exact absurd (.inl (by simp)) c6
                have hc : checkR ⟨1, (getL r).1, ⟨(getTextL B).1.toArray⟩, ⟨(getTextL B2).1.toArray⟩⟩ = 0 := by
                  by_cases h : checkR ⟨1, (getL r).1, ⟨(getTextL B).1.toArray⟩, ⟨(getTextL B2).1.toArray⟩⟩ = 0
                  · exact h
                  · exact absurd (.inr h) c6
                have hb : bodyL ⟨1, (getL r).1, ⟨(getTextL B).1.toArray⟩, ⟨(getTextL B2).1.toArray⟩⟩ = x :: r := by
                  unfold bodyL
                  simp only [if_true]
                  have ex : UInt8.ofNat (1 : Int).toNat = x := by rw [← UInt8.toNat_inj, c4]; rfl
                  rw [ex]
                  congr 1
                  rw [h0, List.append_nil] at hB2l
                  rw [List.append_assoc]
                  exact (hrl.trans (congrArg _ (hBl.trans (congrArg _ hB2l)))).symm
                unfold decOk encR doneR
                rw [hX]
                simp only
                rw [hc, h0, if_pos rfl, hb]
                simp
          · have c0 : x.toNat = 0 := by omega
            rw [c0] at hn1
            have hX := decX_del hn1 hn2 hn3
            have ho : oneR (x :: r) = if 0 < B2.length ∨ checkR ⟨0, (getL r).1, ⟨(getTextL B).1.toArray⟩, ⟨#[]⟩⟩ ≠ 0 then (zeroRec, false) else (⟨0, (getL r).1, ⟨(getTextL B).1.toArray⟩, ⟨#[]⟩⟩, true) := by
              simp only [oneR, if_neg c1, if_neg c2, hB, if_neg c3, hB2, if_neg c4]
            rw [ho]
            by_cases c6 : 0 < B2.length ∨ checkR ⟨0, (getL r).1, ⟨(getTextL B).1.toArray⟩, ⟨#[]⟩⟩ ≠ 0
            · rw [if_pos c6]
              refine ⟨?_, fun h => by cases h⟩
              unfold decOk doneR
              rw [hX]
              simp only
              rcases c6 with c6 | c6
              · have : (B2.length == 0) = false := by simp; intro e; simp [e] at c6
                simp [this]
              · simp [beq_false_of_ne c6]
            · rw [if_neg c6]
              refine ⟨?_, fun _ => by rw [hX]⟩
              have h0 : B2 = [] := by cases B2 with | nil => rfl | cons _ _ => exact absurd (.inl (by simp)) c6
              have hc : checkR ⟨0, (getL r).1, ⟨(getTextL B).1.toArray⟩, ⟨#[]⟩⟩ = 0 := by
                by_cases h : checkR ⟨0, (getL r).1, ⟨(getTextL B).1.toArray⟩, ⟨#[]⟩⟩ = 0
                · exact h
                · exact absurd (.inr h) c6
              have hb : bodyL ⟨0, (getL r).1, ⟨(getTextL B).1.toArray⟩, ⟨#[]⟩⟩ = x :: r := by
                unfold bodyL
                have ex : UInt8.ofNat (0 : Int).toNat = x := by rw [← UInt8.toNat_inj, c0]; rfl
                simp only [ex]
                congr 1
                rw [h0, List.append_nil] at hBl
                exact ((List.append_nil _).trans (hrl.trans (congrArg _ hBl)).symm)
              unfold decOk encR doneR
              rw [hX]
              simp only
              rw [hc, h0, if_pos rfl, hb]
              simp
theorem recs_one : ∀ (ls : List (List UInt8)), recsL ls = recsR ls
  | [] => rfl
  | s :: r => by
    have h := dec_one s
    unfold recsL recsR
    rw [h.1, recs_one r]
    by_cases ho : (oneR s).2 = true
    · rw [if_pos ho, if_pos ho, h.2 ho]
    · rw [if_neg ho, if_neg ho]
end Go.Proofs.YtflnekjmcpmbbaaGreatDoor
