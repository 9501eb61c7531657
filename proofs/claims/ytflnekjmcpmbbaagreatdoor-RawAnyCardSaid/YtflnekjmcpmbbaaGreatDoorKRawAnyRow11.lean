/- Part 11 of the texts beneath: RawSame, RawBegun, RawMid, RawAny. -/
import Derived.Test.YtflnekjmcpmbbaaGreatDoorKRawAnyRow10
import Derived.Test.YtflnekjmcpmbbaaGreatDoorKRawAnyRow7
import Derived.Deep.RegionHeld3
import Derived.Deep.DeepCutAuto
import Derived.Deep.CutBlock

/- Walks: does a segment hold just these records? -/
set_option linter.unusedVariables false
set_option linter.unusedSimpArgs false
namespace Go.Proofs.YtflnekjmcpmbbaaGreatDoor
open Go.RowKit Go.MapKept

theorem recLens_length (R : List Rec) : (recLens R).length = R.length := by simp [recLens]
theorem recLens_get (R : List Rec) (i : Nat) (h : i < R.length) : (recLens R)[i]'(by rw [recLens_length]; exact h) = (encR R[i]).length := by simp [recLens]

set_option maxHeartbeats 1000000 in
set_option maxRecDepth 100000 in
theorem same_ok (F G : Nat → Prop) (w : World) (g f sg : Nat) (s : FsS) (name : ByteArray) (R : List Rec) (A : Option Addr) (c : Nat) (h : FsAt F w g s) (hs : SegAt G w sg g name (recLens R)) (hn : mget s.dir name = some f) (hR : GoodRs R)
    (l : List UInt8) (hb : (s.files f).1 = encsL R ++ l) (hlen : (s.files f).1.length < 4294967296) (hRl : R.length < 100000000) (hv : SeesRecs w (.slice A R.length c) R) :
    Calls Tryz.prog 15 #[ptrV sg, .slice A R.length c] w fun e w' => e = .returned (.bool true) ∧ Kept noF w w' := by
  obtain ⟨av, hin, _, _, _⟩ := hs
  have hql : ∀ W, Kept noF w W → Calls Tryz.prog 21 #[ptrV sg] W fun e w' => e = .returned (.int .i64 R.length) ∧ W = w' := fun W hk => by
    have := Len_any W sg g name av (recLens R) (hin.kept hk (fun h => h) (fun _ _ h => h)) (by rw [recLens_length]; omega)
    rw [recLens_length] at this
    exact this
  have hqs : ∀ W, Kept noF w W → Calls Tryz.prog 42 #[ptrV sg] W fun e w' => e = .returned (.int .i64 (recLens R).sum) ∧ W = w' := fun W hk => Size_any W sg g name av (recLens R) (hin.kept hk (fun h => h) (fun _ _ h => h))
  have hsum : (recLens R).sum ≤ (s.files f).1.length := by rw [hb, ← encsL_length]; simp
  have hqg : ∀ W (k : Nat) (hk : k < R.length), Kept noF w W → Calls Tryz.prog 20 #[ptrV sg, .int .i64 k] W fun e w' => e = .returned (.tuple #[R[k].v, .int .i64 0]) ∧ Kept noF W w' := fun W k hk hkw => by
    refine rawGet_ok F W g f sg s name av (recLens R) k R[k] true (h.kept hkw (fun _ _ h => h)) (hin.kept hkw (fun h => h) (fun _ _ h => h)) hn (by rw [recLens_length]; omega) (by rw [recLens_length]; exact hk) hlen hsum ?_
    rw [hb]
    exact piece_scan R l hR k hk (by rw [recLens_length]; exact hk)
  have HQL := Lib.hid hql
  have HQS := Lib.hid hqs
  have HQG := Lib.hid hqg
  have HV := Lib.hid hv
  have HBIG := Lib.hid (show (recLens R).sum < 4294967296 by omega)
  clear hql hqs hqg hv hin h hn hR hb hlen hsum
  unfold ptrV at *
  go_enter Tryz.func15, Tryz.ntmps15
  go_wp2_with (go_at_call 21; refine (HQL.out _ (Kept.refl _ _)).mono ?_; rintro e w' ⟨rfl, rfl⟩)
  go_loopw [5, 6] (fun n i wr => ∃ k : Nat, k ≤ R.length ∧ n = .int .i64 (((recLens R).take k).sum : Nat) ∧ i = .int .i64 k ∧ Kept noF w wr) (fun _ i _ => R.length - (intOf i).toNat)
  case atStart => exact ⟨0, Nat.zero_le _, by simp, rfl, Kept.refl _ _⟩
  case round =>
    obtain ⟨k, hk, rfl, rfl, hkr⟩ := hrel
    by_cases hlt : k < R.length
    · obtain ⟨gr, orr, rfl, hcell⟩ := recs_at (HV.out.kept0 hkr) (by omega)
      have hstep : ((recLens R).take (k + 1)).sum = ((recLens R).take k).sum + (encR R[k]).length := by
        rw [sum_take_succ _ _ (by rw [recLens_length]; exact hlt), recLens_get R k hlt]
      have hle2 := sum_take_le (recLens R) (k + 1)
      have hbig := HBIG.out
      have hcell2 := fun W (hk : Kept noF wr W) j u (hu : (R[k].cells)[j]? = some u) => hk.cell0 (hcell k j u hlt hu)
      have hg := HQG.out wr k hlt hkr
      have hwrap : IntKind.i64.wrap ((((recLens R).take k).sum : Nat) + ((encR R[k]).length : Nat) : Int) = (((recLens R).take k).sum : Nat) + ((encR R[k]).length : Nat) := IntWalk.i64_in _ (by omega)
      have henc := fun W => refEncode_any R[k] W
      have heq := fun W => Eq_same R[k] W
      have HSTEP := Lib.hid hstep
      have HKR := Lib.hid hkr
      clear hstep hle2 hbig hcell hkr
      generalize (encR R[k]).length = LE at *
      generalize R[k] = rk at *
      obtain ⟨rk1, rk2, rk3, rk4⟩ := rk
      have hd : ∀ W, Kept noF wr W → W.cell? ⟨gr, orr + k * 4, none⟩ = some (.int .i64 rk1) ∧ W.cell? ⟨gr, orr + k * 4 + 1, none⟩ = some (.int .i64 rk2) ∧ W.cell? ⟨gr, orr + k * 4 + 2, none⟩ = some (.string rk3) ∧ W.cell? ⟨gr, orr + k * 4 + 3, none⟩ = some (.string rk4) := fun W hk =>
        ⟨hcell2 W hk 0 _ rfl, by rw [Nat.add_assoc]; exact hcell2 W hk 1 _ rfl, by rw [Nat.add_assoc]; exact hcell2 W hk 2 _ rfl, by rw [Nat.add_assoc]; exact hcell2 W hk 3 _ rfl⟩
      have HD := Lib.hid hd
      have HG := Lib.hid hg
      have HENC := Lib.hid henc
      have HEQ := Lib.hid heq
      unfold Rec.v at HG HENC HEQ
      clear hcell2 hg henc heq hd
      go_upto_region 8 with (go_at_call 20; refine HG.out.mono ?_; rintro e w2 ⟨rfl, hk2⟩)
      have hkw : Kept noF wr (w2.alloc (.cells #[.int .i64 rk1, .int .i64 rk2, .string rk3, .string rk4] 32)) := hk2.alloc _
      have hbx := blk_new w2 (.cells #[.int .i64 rk1, .int .i64 rk2, .string rk3, .string rk4] 32)
      generalize hZ : w2.heap.size = z2 at *
      generalize (w2.alloc (.cells #[.int .i64 rk1, .int .i64 rk2, .string rk3, .string rk4] 32)) = W2 at *
      have hS : ∀ w', Kept noF W2 w' → w'.cell? ⟨z2, 0, none⟩ = some (.int .i64 rk1) ∧ w'.cell? ⟨z2, 1, none⟩ = some (.int .i64 rk2) ∧ w'.cell? ⟨z2, 2, none⟩ = some (.string rk3) ∧ w'.cell? ⟨z2, 3, none⟩ = some (.string rk4) ∧ w'.cell? ⟨gr, orr + k * 4, none⟩ = some (.int .i64 rk1) ∧ w'.cell? ⟨gr, orr + k * 4 + 1, none⟩ = some (.int .i64 rk2) ∧ w'.cell? ⟨gr, orr + k * 4 + 2, none⟩ = some (.string rk3) ∧ w'.cell? ⟨gr, orr + k * 4 + 3, none⟩ = some (.string rk4) := by
        intro W hk
        obtain ⟨q0, q1, q2, q3⟩ := HD.out W (hkw.trans0 hk)
        have hb := hk.blk0 hbx
        exact ⟨blk_cell hb 0 rfl, blk_cell hb 1 rfl, blk_cell hb 2 rfl, blk_cell hb 3 rfl, q0, q1, q2, q3⟩
      obtain ⟨s0, s1, s2, s3, s4, s5, s6, s7⟩ := hS W2 (Kept.refl _ _)
      have HSS := Lib.hid hS
      have HKW := Lib.hid hkw
      clear hS hkw hbx hZ hk2
      go_region_held3 (fun w' => w'.cell? ⟨z2, 0, none⟩ = some (.int .i64 rk1) ∧ w'.cell? ⟨z2, 1, none⟩ = some (.int .i64 rk2) ∧ w'.cell? ⟨z2, 2, none⟩ = some (.string rk3) ∧ w'.cell? ⟨z2, 3, none⟩ = some (.string rk4) ∧ w'.cell? ⟨gr, orr + k * 4, none⟩ = some (.int .i64 rk1) ∧ w'.cell? ⟨gr, orr + k * 4 + 1, none⟩ = some (.int .i64 rk2) ∧ w'.cell? ⟨gr, orr + k * 4 + 2, none⟩ = some (.string rk3) ∧ w'.cell? ⟨gr, orr + k * 4 + 3, none⟩ = some (.string rk4))
        (first | go_keep | exact HSS.out _ ((Kept.refl noF W2).drew.trans0 hk3))
        (first | (go_at_call 41; refine (HEQ.out _).mono ?_; rintro e w3 ⟨rfl, hk3⟩))
      all_goals
        have hk23 := (Kept.refl noF W2).drew.trans0 hk3
        obtain ⟨p0, p1, p2, p3, p4, p5, p6, p7⟩ := HSS.out _ hk23
        have HK3 := Lib.hid (HKW.out.trans0 hk23)
        clear hk3 hk23 s0 s1 s2 s3 s4 s5 s6 s7
        go_wp2_with (go_at_call 8; refine (HENC.out _).mono ?_; rintro e w4 ⟨v4, rfl, hown4, hk4⟩; (obtain ⟨A4, c4, rfl, hc4⟩ := own_form hown4); (have HK4 := Lib.hid hk4); clear hown4 hk4 hc4)
        exact ⟨⟨k + 1, by omega, by rw [HSTEP.out]; go_num, by go_num, (HKR.out.trans0 HK3.out).trans0 HK4.out⟩, by simp [intOf]; omega⟩
    · obtain rfl : k = R.length := by omega
      have HS2 := Lib.hid (HQS.out wr hkr)
      have HKR := Lib.hid hkr
      have ht : (recLens R).take R.length = recLens R := by rw [← recLens_length]; exact List.take_length
      rw [ht]
      clear hkr ht
      go_wp2_with (go_at_call 42; refine HS2.out.mono ?_; rintro e w' ⟨rfl, rfl⟩)
      go_ret
      exact ⟨rfl, HKR.out⟩
end Go.Proofs.YtflnekjmcpmbbaaGreatDoor

/- Walks: one record. -/
set_option linter.unusedVariables false
set_option linter.unusedSimpArgs false
namespace Go.Proofs.YtflnekjmcpmbbaaGreatDoor
open Go.RowKit Go.MapKept

def recKV : Rec := ⟨1, 1, ⟨#[107]⟩, ⟨#[118]⟩⟩
theorem recKV_ok : checkR recKV = 0 := by
  unfold checkR recKV
  simp only [ByteArray.toList_eq]
  decide
theorem recKV_v : recKV.v = .agg #[.int .i64 1, .int .i64 1, .string ⟨#[107]⟩, .string ⟨#[118]⟩] := rfl
theorem zeroRec_v : zeroRec.v = .agg #[.int .i64 0, .int .i64 0, .string ⟨#[]⟩, .string ⟨#[]⟩] := rfl
def name3 : ByteArray := ⟨#[51, 46, 114, 97, 119]⟩
theorem SegAt.seg {G : Nat → Prop} {w : World} {sg g : Nat} {name : ByteArray} {lens : List Nat} (h : SegAt G w sg g name lens) : ∃ av, SegIn w sg g name av lens := by
  obtain ⟨av, h, _⟩ := h
  exact ⟨av, h⟩

set_option maxHeartbeats 1000000 in
set_option maxRecDepth 100000 in
theorem begun_ok (w : World) : Calls Tryz.prog 4 #[] w fun e w' => e = .returned (.bool true) ∧ Kept noF w w' := by
  have e3 : (⟨#[51, 46, 114, 97, 119]⟩ : ByteArray) = name3 := rfl
  have h1 := New_any 10000 w
  have H1 := Lib.hid h1
  clear h1
  unfold ptrV at H1
  go_enter Tryz.func4, Tryz.ntmps4
  go_wp2_with fail
  refine H1.out.mono ?_
  rintro e w1 ⟨g, F, rfl, hfs, hF, hk1⟩
  have h2 := rawCreate_ok F w1 g (fs0 10000) 3 name3 Name_3 (by decide) (by decide) hfs (by decide) (by decide) (by decide) (by intro _; decide) (by decide)
  have H2 := Lib.hid h2
  have HK1 := Lib.hid hk1
  have HF := Lib.hid hF
  clear h2 hfs hk1 hF
  unfold ptrV at H2
  go_wp2_with fail
  refine H2.out.mono ?_
  rintro e w2 ⟨sg, f, F2, G2, rfl, hfs2, hseg2, hdis2, hk2, hF2, hG2, hf2⟩
  have hd : mget ((fs0 10000).called.create name3 f).dir name3 = some f := by
    show mget (mput [] name3 f) name3 = some f
    rw [mget_put, if_pos rfl]
  have hsum : sumL ((fs0 10000).called.create name3 f).files ((fs0 10000).called.create name3 f).dir = 0 := by
    show sumL (upd _ f ([], 0)) [(name3, f)] = 0
    simp [sumL, upd]
  have h3 := rawAppend_ok F2 G2 w2 g f sg ((fs0 10000).called.create name3 f) name3 [] recKV hfs2 hseg2 hdis2 (by show (0 : Int) + 1 < _; decide) (by show failR (-1) ≠ 0; decide) hd recKV_ok (by show 0 ≤ roomR 10000 ∧ roomR 10000 ≤ 4194304; decide)
    (by rw [hsum]; have := enc_le recKV; have e : ((fs0 10000).called.create name3 f).room = 10000 := by show roomR 10000 = 10000; decide
        rw [e]; omega) (by decide) (by decide)
  rw [recKV_v, show ((fs0 10000).called.create name3 f).files f = ([], 0) from upd_same _ _ _] at h3
  have H3 := Lib.hid h3
  have HK2 := Lib.hid hk2
  have HF2 := Lib.hid hF2
  have HG2 := Lib.hid hG2
  have HD := Lib.hid hd
  clear h3 hfs2 hseg2 hdis2 hk2 hF2 hG2 hd hsum
  unfold ptrV at H3
  go_wp2_with fail
  refine H3.out.mono ?_
  rintro e w3 ⟨rfl, F3, G3, hfs3, hseg3, hdis3, hk3, hF3, hG3⟩
  obtain ⟨av, hin⟩ := hseg3.seg
  have hb : (((fs0 10000).called.create name3 f).called.put f ([] ++ encR recKV, 0)).files f = (encR recKV, 0) := upd_same _ _ _
  have hg : GoodRs [recKV] := fun q hq => by simp at hq; rw [hq]; exact recKV_ok
  have hle := enc_le recKV
  have h4 := rawGet_ok F3 w3 g f sg _ name3 av [(encR recKV).length] 0 recKV true hfs3 hin HD.out (by decide) (by decide) (by rw [hb]; show (encR recKV).length < _; omega) (by rw [hb]; simp)
    (by rw [hb]; have := piece_scan [recKV] [] hg 0 (by decide) (by decide); simpa [encsL, recLens] using this)
  have h5 : ∀ W, Kept noF w3 W → Calls Tryz.prog 20 #[ptrV sg, .int .i64 1] W fun e w' => e = .returned (.tuple #[zeroRec.v, .int .i64 7]) ∧ Kept noF W w' := fun W hk =>
    rawGet_range W g sg name3 av [(encR recKV).length] 1 (hin.kept hk (fun h => h) (fun _ _ h => h)) (by decide) (by decide)
  have h6 : ∀ W, Kept noF w3 W → Calls Tryz.prog 21 #[ptrV sg] W fun e w' => e = .returned (.int .i64 1) ∧ W = w' := fun W hk =>
    Len_any W sg g name3 av [(encR recKV).length] (hin.kept hk (fun h => h) (fun _ _ h => h)) (by decide)
  have hall : Kept noF w w3 := by
    have k12 : Kept noF w w2 := HK1.out.trans HK2.out (fun i hi h => by have := HF.out i h; omega)
    have hz1 := HK1.out.size
    refine k12.trans hk3 (fun i hi h => ?_)
    rcases h with h | h
    · rcases HF2.out i h with h2 | h2
      · have := HF.out i h2; omega
      · omega
    · have := HG2.out i h; omega
  rw [recKV_v] at h4
  simp only [zeroRec_v] at h5
  have H4 := Lib.hid h4
  have H5 := Lib.hid h5
  have H6 := Lib.hid h6
  have HALL := Lib.hid hall
  clear h4 h5 h6 hall hb hg hle hin hfs3 hseg3 hdis3 hk3 hF3 hG3 HK1 HK2 HF HF2 HG2 HD e3
  unfold ptrV at H4 H5 H6
  go_wp2_with fail
  refine H4.out.mono ?_
  rintro e w4 ⟨rfl, hk4⟩
  have hb4 := blk_new w4 (.cells #[.int .i64 1, .int .i64 1, .string ⟨#[107]⟩, .string ⟨#[118]⟩] 32)
  have HB4 := Lib.hid hb4
  have HK4 := Lib.hid (hk4.alloc (.cells #[.int .i64 1, .int .i64 1, .string ⟨#[107]⟩, .string ⟨#[118]⟩] 32))
  clear hb4 hk4
  go_wp2_with fail
  refine (H5.out _ HK4.out).mono ?_
  rintro e w5 ⟨rfl, hk5⟩
  have hx : ∀ W, Kept noF w5 W → W.cell? ⟨w4.heap.size, 3, none⟩ = some (.string ⟨#[118]⟩) := fun W hk => blk_cell ((hk5.trans0 hk).blk0 HB4.out) 3 rfl
  have x3 := hx (w5.alloc (.cells #[.int .i64 0, .int .i64 0, .string ⟨#[]⟩, .string ⟨#[]⟩] 32)) ((Kept.refl _ _).alloc _)
  have HK5 := Lib.hid ((HK4.out.trans0 hk5).alloc (.cells #[.int .i64 0, .int .i64 0, .string ⟨#[]⟩, .string ⟨#[]⟩] 32))
  clear hx hk5
  go_wp2_with (first | (go_at_call 21; refine (H6.out _ HK5.out).mono ?_; rintro e w' ⟨rfl, rfl⟩) | (go_at_call 22; refine (Name_3 _).mono ?_; rintro e w' ⟨rfl, rfl⟩))
  go_ret
  exact ⟨rfl, HALL.out.trans0 HK5.out⟩
end Go.Proofs.YtflnekjmcpmbbaaGreatDoor

/- Plain: a disk with one file, behind each call of RawAny. -/
set_option linter.unusedVariables false
set_option linter.unusedSimpArgs false
namespace Go.Proofs.YtflnekjmcpmbbaaGreatDoor
open Go.RowKit Go.MapKept

abbrev n7 : ByteArray := ⟨#[55, 46, 114, 97, 119]⟩
abbrev b7 : ByteArray := (⟨#[55]⟩ : ByteArray) ++ ⟨#[46, 110, 101, 119]⟩
structure Mid (s : FsS) (f : Nat) (b : List UInt8) (sy c wl : Nat) (la : List (ByteArray × Nat)) : Prop where
  dir : s.dir = [(n7, f)]
  file : s.files f = (b, sy)
  fail : s.fail = -1
  room : s.room = 1048576
  calls : s.calls ≤ c
  waits : s.waits.length ≤ wl
  lasts : s.lasts = la
theorem Mid.get {s : FsS} {f : Nat} {b : List UInt8} {sy c wl : Nat} {la : List (ByteArray × Nat)} (h : Mid s f b sy c wl la) : mget s.dir n7 = some f := by
  rw [h.dir]; simp [mget]
theorem Mid.sum {s : FsS} {f : Nat} {b : List UInt8} {sy c wl : Nat} {la : List (ByteArray × Nat)} (h : Mid s f b sy c wl la) : sumL s.files s.dir = b.length := by
  rw [h.dir]; simp [sumL, h.file]
theorem Mid.le {s : FsS} {f : Nat} {b : List UInt8} {sy c c' wl : Nat} {la : List (ByteArray × Nat)} (h : Mid s f b sy c wl la) (hc : c ≤ c') : Mid s f b sy c' wl la :=
  { h with calls := by have := h.calls; omega }
theorem failR_neg : failR (-1) = -1 := rfl
theorem Mid.start (f : Nat) : Mid ((fs0 1048576).called.create n7 f) f [] 0 1 1 [] :=
  ⟨rfl, upd_same _ _ _, rfl, by show roomR 1048576 = _; decide, by show (0 : Int) + 1 ≤ _; decide, Nat.le_refl _, rfl⟩
theorem Mid.put {s : FsS} {f : Nat} {b : List UInt8} {sy c wl : Nat} {la : List (ByteArray × Nat)} (h : Mid s f b sy c wl la) (x : List UInt8 × Nat) : Mid (s.called.put f x) f x.1 x.2 (c + 1) wl la :=
  ⟨h.dir, upd_same _ _ _, by show failR s.fail = -1; rw [h.fail]; rfl, h.room, by show s.calls + 1 ≤ _; have := h.calls; omega, h.waits, h.lasts⟩
theorem Mid.create {s : FsS} {f : Nat} {b : List UInt8} {sy c wl : Nat} {la : List (ByteArray × Nat)} (h : Mid s f b sy c wl la) (f2 : Nat) : Mid (s.called.create n7 f2) f2 [] 0 (c + 1) (wl + 1) la :=
  ⟨by show mput s.dir n7 f2 = _; rw [h.dir]; simp [mput, mdel], upd_same _ _ _, by show failR s.fail = -1; rw [h.fail]; rfl, h.room, by show s.calls + 1 ≤ _; have := h.calls; omega,
    by show (s.waits ++ [_]).length ≤ _; have := h.waits; simp; omega, h.lasts⟩
theorem Mid.synced {s : FsS} {f : Nat} {b : List UInt8} {sy c wl : Nat} {la : List (ByteArray × Nat)} (h : Mid s f b sy c wl la) : Mid s.called.synced f b sy (c + 1) 0 [(n7, f)] :=
  ⟨h.dir, h.file, by show failR s.fail = -1; rw [h.fail]; rfl, h.room, by show s.calls + 1 ≤ _; have := h.calls; omega, Nat.le_refl _, h.dir⟩
theorem b7_ne : b7 ≠ n7 := by decide
theorem Mid.written {s : FsS} {f : Nat} {b : List UInt8} {sy c wl : Nat} {la : List (ByteArray × Nat)} (h : Mid s f b sy c wl la) (b2 : List UInt8) (f2 : Nat) : Mid (s.written n7 b7 b2 f2) f2 b2 b2.length (c + 5) 0 [(n7, f2)] := by
  have hd : (s.written n7 b7 b2 f2).dir = [(n7, f2)] := by
    show mput (mdel (mput s.dir b7 f2) b7) n7 f2 = _
    rw [h.dir]
    have e1 : ¬ (n7 = b7) := fun e => b7_ne e.symm
    simp [mput, mdel, e1]
  refine ⟨hd, ?_, ?_, h.room, ?_, Nat.le_refl _, ?_⟩
  · show upd _ f2 (b2, b2.length) f2 = _
    rw [upd_same]
  · show failR (failR (failR (failR (failR s.fail)))) = -1
    rw [h.fail]; rfl
  · show s.calls + 1 + 1 + 1 + 1 + 1 ≤ _
    have := h.calls; omega
  · show (s.w4 n7 b7 b2 f2).called.dir = _
    exact hd
theorem Mid.opened {s ss : FsS} {f : Nat} {b : List UInt8} {sy c wl : Nat} {la : List (ByteArray × Nat)} (h : Mid s f b sy c wl la) {E : Nat} (ho : OpenSt s n7 b7 b E ss) (hsy : sy = b.length) (hwl : wl = 0) (hla : la = [(n7, f)]) :
    ∃ f2, Mid ss f2 (b.take E) (b.take E).length (c + 5) 0 [(n7, f2)] := by
  rcases ho with ⟨he, rfl⟩ | ⟨hlt, f2, _, rfl⟩
  · refine ⟨f, h.dir, ?_, h.fail, h.room, by have := h.calls; omega, by have := h.waits; omega, by rw [h.lasts, hla]⟩
    rw [h.file, he, List.take_length, hsy]
  · exact ⟨f2, h.written (b.take E) f2⟩
theorem Mid.crashed {s s' : FsS} {f : Nat} {b : List UInt8} {sy c wl : Nat} {la : List (ByteArray × Nat)} (h : Mid s f b sy c wl la) (hc : Crashed s s') (hsy : sy = b.length) (hla : la = [(n7, f)]) :
    ∃ f2, Mid s' f2 b b.length 0 0 [(n7, f2)] := by
  have hv := hc.view
  rw [h.lasts, hla] at hv
  have hcf : cutF (s.files f) = (b, b.length) := by rw [h.file, hsy]; simp [cutF]
  simp only [viewF, List.map_cons, List.map_nil, hcf] at hv
  have hl := hv.length_eq
  simp at hl
  obtain ⟨p, hp⟩ : ∃ p, s'.dir = [p] := by
    cases hd : s'.dir with
    | nil => rw [hd] at hl; simp at hl
    | cons p r =>
      cases r with
      | nil => exact ⟨p, rfl⟩
      | cons q r => rw [hd] at hl; simp at hl
  rw [hp] at hv
  simp only [List.map_cons, List.map_nil, List.perm_singleton, List.cons.injEq, and_true] at hv
  obtain ⟨nm, f2⟩ := p
  simp only [Prod.mk.injEq] at hv
  obtain ⟨rfl, hf⟩ := hv
  refine ⟨f2, hp, hf, hc.fail, by rw [hc.room, h.room], by rw [hc.calls]; exact Int.le_refl _, by rw [hc.waits]; exact Nat.le_refl _, by rw [hc.lasts, hp]⟩
theorem mayR_n7 : mayR n7 = true := by decide
theorem mayR_b7 : mayR b7 = true := by decide
def recMore : Rec := ⟨1, 9, ⟨#[109, 111, 114, 101]⟩, ⟨#[111, 102, 32, 105, 116]⟩⟩
theorem recMore_v : recMore.v = .agg #[.int .i64 1, .int .i64 9, .string ⟨#[109, 111, 114, 101]⟩, .string ⟨#[111, 102, 32, 105, 116]⟩] := rfl
theorem recMore_ok : checkR recMore = 0 := by
  unfold checkR recMore
  simp only [ByteArray.toList_eq]
  decide
theorem encsL_take_le (L : List Rec) (k : Nat) : (encsL (L.take k)).length ≤ k * 5011 := by
  induction k generalizing L with
  | zero => simp [encsL]
  | succ k ih =>
    cases L with
    | nil => simp [encsL]
    | cons r L =>
      have := ih L
      have h2 := enc_le r
      simp only [List.take_succ_cons, encsL, List.flatMap_cons, List.length_append] at *
      omega
theorem encsL_succ (L : List Rec) (k : Nat) (h : k < L.length) : encsL (L.take (k + 1)) = encsL (L.take k) ++ encR L[k] := by
  rw [List.take_succ_eq_append_getElem h]
  unfold encsL
  rw [List.flatMap_append, List.flatMap_cons, List.flatMap_nil, List.append_nil]
theorem recs_count (R : List Rec) (h : GoodRs R) : R.length * 12 ≤ (encsL R).length := by
  induction R with
  | nil => simp
  | cons r R ih =>
    have := ih (fun q hq => h q (List.mem_cons_of_mem _ hq))
    have h2 := enc_len r (h r List.mem_cons_self)
    simp only [encsL, List.flatMap_cons, List.length_append, List.length_cons] at *
    omega
end Go.Proofs.YtflnekjmcpmbbaaGreatDoor

/- Walks: RawAny. -/
set_option linter.unusedVariables false
set_option linter.unusedSimpArgs false
namespace Go.Proofs.YtflnekjmcpmbbaaGreatDoor
open Go.RowKit Go.MapKept

set_option maxHeartbeats 2000000 in
set_option maxRecDepth 100000 in
theorem RawAny_ok (w : World) (A1 A2 : Option Addr) (c1 c2 : Nat) (L : List Rec) (rest : List UInt8) (cut : Int) (hl : SeesRecs w (.slice A1 L.length c1) L) (hrest : Reads w (.slice A2 rest.length c2) 1 rest.length (bvs rest))
    (hc1 : -9223372036854775808 ≤ cut) (hc2 : cut ≤ 9223372036854775807) (hLl : L.length ≤ 9223372036854775807) :
    Calls Tryz.prog 3 #[.slice A1 L.length c1, .slice A2 rest.length c2, .int .i64 cut] w fun e w' => e = .returned (.bool true) ∧ Kept noF w w' := by
  have HL := Lib.hid hl
  have HREST := Lib.hid hrest
  clear hl hrest
  have h2 := fun W => New_any 1048576 W
  have H2 := Lib.hid h2
  clear h2
  unfold ptrV at H2
  go_enter Tryz.func3, Tryz.ntmps3
  go_wp2_with fail
  refine (begun_ok w).mono ?_
  rintro e w1 ⟨rfl, hk1⟩
  have HK1 := Lib.hid hk1
  clear hk1
  go_wp2_with fail
  refine (H2.out w1).mono ?_
  rintro e w2 ⟨g, F0, rfl, hfs, hF, hk2⟩
  have h3 := Create_ok F0 g (fs0 1048576) w2 n7 hfs (by decide) (by decide) mayR_n7 (by intro _; decide) (by decide)
  have H3 := Lib.hid h3
  have HF0 : Hid (∀ k, F0 k → w.heap.size ≤ k) := Lib.hid (fun k hk => Nat.le_trans HK1.out.size (hF k hk))
  have HK2 := Lib.hid (HK1.out.trans0 hk2)
  clear h3 hfs hk2 hF HK1
  unfold ptrV at H3
  go_wp2_with fail
  refine H3.out.mono ?_
  rintro e w3 ⟨rfl, f, F1, hfs1, hk3, hF1, hf⟩
  have HF1 : Hid (∀ k, F1 k → w.heap.size ≤ k) := Lib.hid (fun k hk => by
    rcases hF1 k hk with h | h
    · exact HF0.out k h
    · exact Nat.le_trans HK2.out.size h)
  have HK3 := Lib.hid (HK2.out.trans hk3 (fun i hi h => by have := HF0.out i h; omega))
  have HFS1 := Lib.hid hfs1
  have HM1 := Lib.hid (Mid.start f)
  generalize (fs0 1048576).called.create n7 f = s1 at *
  clear hfs1 hk3 hF1 H3 HF0 HK2 hf
  go_upto_block 0 with fail
  go_cut [] (fun wx => ∃ (B0 : List UInt8) (Fk : Nat → Prop) (sk : FsS), B0.length ≤ 30066 ∧ FsAt Fk wx g sk ∧ (∀ b, Fk b → w.heap.size ≤ b) ∧ Mid sk f B0 0 7 1 [] ∧ Kept noF w wx)
  case first =>
    go_wp2_with fail
    go_loopw [9] (fun i wr => ∃ (k : Nat) (Fk : Nat → Prop) (sk : FsS), k ≤ L.length ∧ k ≤ 6 ∧ i = .int .i64 k ∧ FsAt Fk wr g sk ∧ (∀ b, Fk b → w.heap.size ≤ b) ∧ Mid sk f (encsL (L.take k)) 0 (1 + k) 1 [] ∧ Kept noF w wr) (fun i _ => 6 - (intOf i).toNat)
    case atStart => exact ⟨0, F1, s1, Nat.zero_le _, by omega, rfl, HFS1.out, HF1.out, HM1.out, HK3.out⟩
    case round =>
      obtain ⟨k, Fk, sk, hk, hk6, rfl, hfs, hF, hmid, hkr⟩ := hrel
      by_cases hlt : k < L.length
      · by_cases hlt6 : k < 6
        · obtain ⟨gr, orr, rfl, hcell⟩ := recs_at (HL.out.kept0 hkr) (by omega)
          have hsucc := encsL_succ L k hlt
          have hle := encsL_take_le L k
          have hee := enc_le L[k]
          have henc := refEncode_any L[k] wr
          have happ : ∀ (W : World) (A : Option Addr) (c : Nat), Kept noF wr W → W.ownsRow wr.heap.size 5 1 (.slice A (encR L[k]).length c) (encR L[k]).length (bvs (encR L[k])) → Calls Tryz.prog 7 #[.pointer (some ⟨g, 0, none⟩), .string n7, .slice A (encR L[k]).length c] W fun e w' => e = .returned (.int .i64 0) ∧
              ∃ Fk sk, FsAt Fk w' g sk ∧ (∀ b, Fk b → w.heap.size ≤ b) ∧ Mid sk f (encsL (L.take (k + 1))) 0 (1 + (k + 1)) 1 [] ∧ Kept noF w w' := by
            intro W A c hkw ho
            have hbk : ∀ b, Fk b → b < wr.heap.size := by obtain ⟨_, _, _, _, hin⟩ := hfs; exact hin.below
            refine (Append_ok Fk g f sk W n7 A c (encR L[k]) (hfs.kept hkw (fun _ _ h => h)) (by have := hmid.calls; omega) (by rw [hmid.fail]; decide) hmid.get (by rw [hmid.room]; decide) (by rw [hmid.room, hmid.sum]; omega) (Reads.own ho) (fun _ b hb hf => by have := own_from ho b hb; have := hbk b hf; omega)).mono ?_
            rintro e w' ⟨F2, rfl, r1, r2, r3⟩
            have hm := hmid.put ((sk.files f).1 ++ encR L[k], (sk.files f).2)
            rw [hmid.file] at hm r1
            simp only at hm r1
            rw [← hsucc] at hm r1
            refine ⟨rfl, F2, _, r1, fun b hb => ?_, hm, (hkr.trans0 hkw).trans r2 (fun i hi h => by have := hF i h; omega)⟩
            rcases r3 b hb with h | h
            · exact hF b h
            · have := hkr.size; have := hkw.size; omega
          have HAPP := Lib.hid happ
          generalize hLE : encR L[k] = E at *
          have hcell2 := fun j u => hcell k j u hlt
          generalize L[k] = rk at *
          obtain ⟨rk1, rk2, rk3, rk4⟩ := rk
          have d0 : wr.cell? ⟨gr, orr + k * 4, none⟩ = some (.int .i64 rk1) := hcell2 0 _ rfl
          have d1 : wr.cell? ⟨gr, orr + k * 4 + 1, none⟩ = some (.int .i64 rk2) := by rw [Nat.add_assoc]; exact hcell2 1 _ rfl
          have d2 : wr.cell? ⟨gr, orr + k * 4 + 2, none⟩ = some (.string rk3) := by rw [Nat.add_assoc]; exact hcell2 2 _ rfl
          have d3 : wr.cell? ⟨gr, orr + k * 4 + 3, none⟩ = some (.string rk4) := by rw [Nat.add_assoc]; exact hcell2 3 _ rfl
          unfold Rec.v at henc
          have HENC := Lib.hid henc
          clear hcell hcell2 hsucc hle hee henc happ hfs hF hmid hkr
          go_wp2_with (first | (go_at_call 8; refine HENC.out.mono ?_; rintro e w4 ⟨v4, rfl, hown4, hk4⟩; (obtain ⟨A4, c4, rfl, hc4⟩ := own_form hown4); (have Q4 := Lib.hid (HAPP.out w4 A4 c4 hk4 hown4)); clear hown4 hk4 hc4) | (go_at_call 7; refine Q4.out.mono ?_; rintro e w5 ⟨rfl, hp⟩; (have HP5 := Lib.hid hp); clear hp))
          obtain ⟨F2, s2, r1, r2, r3, r4⟩ := HP5.out
          exact ⟨⟨k + 1, F2, s2, by omega, by omega, by go_num, r1, r2, r3, r4⟩, by simp [intOf]; omega⟩
        · go_wp2_with fail
          go_meet
          exact ⟨_, Fk, sk, by have := encsL_take_le L k; omega, hfs, hF, hmid.le (by omega), hkr⟩
      · go_wp2_with fail
        go_meet
        exact ⟨_, Fk, sk, by have := encsL_take_le L k; omega, hfs, hF, hmid.le (by omega), hkr⟩
  case rest =>
    obtain ⟨B0, Fk, sk, hB0, hfs, hF, hmid, hkc⟩ := hcut
    have hbF : ∀ k, Fk k → k < wc.heap.size := by obtain ⟨_, _, _, _, hin⟩ := hfs; exact hin.below
    have h5 := Read_some Fk g f sk wc n7 hfs hmid.get (by rw [hmid.file]; show B0.length ≤ _; omega)
    rw [hmid.file] at h5
    simp only at h5
    have H5 := Lib.hid h5
    have HFS := Lib.hid hfs
    have HF := Lib.hid hF
    have HM := Lib.hid hmid
    have HKC := Lib.hid hkc
    have HBF := Lib.hid hbF
    obtain ⟨R4, hR4⟩ : ∃ R4, R4 = rest.take 40 := ⟨_, rfl⟩
    have hR4l : R4.length ≤ 40 := by rw [hR4, List.length_take]; omega
    have hsh : ∀ W, Kept noF w W → Calls Tryz.prog 10 #[.slice A2 rest.length c2, .int .i64 40] W fun e w' => e = .returned (.slice A2 R4.length c2) ∧ Reads W (.slice A2 R4.length c2) 1 R4.length (bvs R4) ∧ W = w' := by
      intro W hk
      rw [hR4]
      refine (Short_any A2 c2 40 rest W (HREST.out.kept0 hk) (by omega)).mono ?_
      rintro e w' ⟨rfl, hr, rfl⟩
      exact ⟨rfl, hr, rfl⟩
    have HSH := Lib.hid hsh
    obtain ⟨B1, hB1⟩ : ∃ B1, B1 = [] ++ B0 ++ R4 := ⟨_, rfl⟩
    have hB1l : B1.length ≤ 30106 := by rw [hB1]; simp; omega
    have HB1 := Lib.hid hB1
    clear hB1 hR4 hsh h5 hfs hF hmid hkc hbF HF1 HK3 HFS1 HM1 H2
    unfold ptrV at H5
    go_wp2_with fail
    refine H5.out.mono ?_
    rintro e w5 ⟨v5, rfl, hown5, hk5⟩
    obtain ⟨A5, c5, rfl, hc5⟩ := own_form hown5
    have hb0 : ([] : List UInt8).length + B0.length ≤ 140737488355328 := by simp; omega
    have HR5 := Lib.hid (Reads.own hown5)
    have HK5 := Lib.hid hk5
    clear hown5 hk5 hc5
    go_wp2_with (at_builtin; refine wpList_appB rfl _ _ 23 rfl w5.heap.size 5 Tryz.underlying23 infoU8 (.slice none 0 0) [] (by rfl) (World.ownsRow_nil _ _ _ _) _ B0 (by rfl) HR5.out hb0 (Nat.le_refl _) ?_; intro v6 w6 hown6 hgr6)
    have hk6 : Kept noF w5 w6 := (Kept.refl noF w5).grown hgr6 (fun k hk => by simp [Value.ownBlock] at hk)
    have hkw6 := (HKC.out.trans0 HK5.out).trans0 hk6
    have HK6 := Lib.hid hk6
    have hb1 : ([] ++ B0).length + R4.length ≤ 140737488355328 := by simp; omega
    have hz6 : w5.heap.size ≤ w6.heap.size := hk6.size
    have HO6 := Lib.hid hown6
    clear hgr6 hk6 hown6
    refine (HSH.out w6 hkw6).mono ?_
    rintro e w' ⟨rfl, hr40, rfl⟩
    have HR40 := Lib.hid hr40
    clear hr40 hkw6
    go_upto_region 12 with (at_builtin; refine wpList_appB rfl _ _ 23 rfl w5.heap.size 5 Tryz.underlying23 infoU8 v6 ([] ++ B0) (by rfl) HO6.out _ R4 (by rfl) HR40.out hb1 hz6 ?_; intro v7 w7 hown7 hgr7; rw [← HB1.out] at hown7; (obtain ⟨A7, c7, rfl, hc7⟩ := own_form hown7); (have HO7 := Lib.hid hown7); (have HG7 := Lib.hid hgr7); clear hown7 hgr7)
    go_cut [60] (fun v wx => v = .bool (decide (0 < cut) && decide (cut ≤ (B1.length : Int))) ∧ w7 = wx)
    case first =>
      by_cases h1 : 0 < cut
      · by_cases h2 : cut ≤ (B1.length : Int)
        · go_wp2_with fail
          go_meet
          exact ⟨by simp [h1, h2], rfl⟩
        · go_wp2_with fail
          go_meet
          exact ⟨by simp [h1, h2], rfl⟩
      · go_wp2_with fail
        go_meet
        exact ⟨by rw [decide_eq_false (by omega)]; rfl, rfl⟩
    case rest =>
      obtain ⟨rfl, rfl⟩ := hcut
      have hO7 := HO7.out
      have hcutb : (decide (0 < cut) && decide (cut ≤ (B1.length : Int))) = true → (∀ w' : World, (Instr.slice 23 (.slice A7 B1.length c7) none (some (.int .i64 ((B1.length : Int) - cut))) none).run Tryz.prog w' = .ok (.slice A7 (B1.length - cut.toNat) c7) w') ∧ Reads w7 (.slice A7 (B1.length - cut.toNat) c7) 1 (B1.length - cut.toNat) ((bvs B1).take ((B1.length - cut.toNat) * 1)) := by
        intro h
        simp at h
        exact cut_h (P := Tryz.prog) Tryz.underlying23 infoU8 (by decide) (Reads.own hO7) (B1.length - cut.toNat) (by omega) _ (by omega) .i64
      clear hO7
      go_upto_if 60 with fail
      go_cut [10] (fun v wx => ∃ B2 : List UInt8, B2.length ≤ 30106 ∧ v = .slice A7 B2.length c7 ∧ Reads w7 (.slice A7 B2.length c7) 1 B2.length (bvs B2) ∧ w7 = wx)
      case first =>
        cases hcb : (decide (0 < cut) && decide (cut ≤ (B1.length : Int)))
        · go_wp2_with fail
          go_meet
          exact ⟨B1, hB1l, rfl, Reads.own HO7.out, rfl⟩
        · obtain ⟨hsl, hrd⟩ := hcutb hcb
          have h3 : 0 < cut ∧ cut ≤ (B1.length : Int) := by simpa using hcb
          have hl : (B1.take (B1.length - cut.toNat)).length = B1.length - cut.toNat := by rw [List.length_take]; omega
          have e1 : (bvs B1).take ((B1.length - cut.toNat) * 1) = bvs (B1.take (B1.length - cut.toNat)) := by simp [bvs, List.map_take]
          rw [e1] at hrd
          have hw : IntKind.i64.wrap ((B1.length : Int) - cut) = (B1.length : Int) - cut := IntWalk.i64_in _ (by omega)
          have HRD := Lib.hid hrd
          have HHL := Lib.hid hl
          have hl3 : B1.length - cut.toNat ≤ 30106 := by omega
          clear hrd hl e1 hcutb
          generalize B1.length - cut.toNat = N2 at *
          go_wp2_with fail
          go_meet
          exact ⟨B1.take N2, by rw [HHL.out]; exact hl3, by rw [HHL.out], by rw [HHL.out]; exact HRD.out, rfl⟩
      case rest =>
        obtain ⟨B2, hB2, rfl, hr2, rfl⟩ := hcut
        clear hcutb
        have hmid := HM.out
        have hbF := HBF.out
        have hz5 := HK5.out.size
        have hk7 : Kept noF wc w7 := (HK5.out.trans0 HK6.out).grown HG7.out (fun k hk => .inr (by have := own_from HO6.out k hk; omega))
        have hbk7 : ∀ b, (Value.slice A7 B2.length c7).ownBlock = some b → wc.heap.size ≤ b ∧ b < w7.heap.size := fun b hb => by
          have hb' : (Value.slice A7 B1.length c7).ownBlock = some b := by rw [← hb]; cases A7 <;> rfl
          have := own_from HO7.out b hb'
          have := own_lt HO7.out b hb'
          omega
        have hnF : ∀ b, (Value.slice A7 B2.length c7).ownBlock = some b → ¬ Fk b := fun b hb hf => by have := hbF b hf; have := (hbk7 b hb).1; omega
        have h8 := Create_ok Fk g sk w7 n7 (HFS.out.kept hk7 (fun _ _ h => h)) (by have := hmid.calls; omega) (by rw [hmid.fail]; decide) mayR_n7 (by rw [hmid.get]; intro h; cases h) (by have := hmid.waits; omega)
        have H8 := Lib.hid h8
        have HK7 := Lib.hid (HKC.out.trans0 hk7)
        have HR2 := Lib.hid hr2
        have HBK := Lib.hid hbk7
        have HNF := Lib.hid hnF
        have hFw := HF.out
        have HFW := Lib.hid hFw
        clear hmid hbF hz5 hk7 hbk7 hnF h8 hFw hr2 HO7 HG7 HO6 HK6 HK5 HFS HF HR5 HR40 HSH HKC
        unfold ptrV at H8
        go_wp2_with fail
        refine H8.out.mono ?_
        rintro e w8 ⟨rfl, f2, F2, hfs8, hk8, hF8, hf2⟩
        have hm8 := HM.out.create f2
        have n8 := wrSt.next (F := Fk) (W0 := w7) (fun k hk => Or.inl hk) (Kept.refl _ _) hk8 hF8
        generalize sk.called.create n7 f2 = s8 at *
        have h9 := Append_ok F2 g f2 s8 w8 n7 A7 c7 B2 hfs8 (by have := hm8.calls; omega) (by rw [hm8.fail]; decide) hm8.get (by rw [hm8.room]; decide) (by rw [hm8.room, hm8.sum]; simp; omega) (HR2.out.kept n8.2 (fun _ b hb => HNF.out b hb))
          (fun _ b hb hf => by
            rcases n8.1 b hf with h | h
            · exact HNF.out b hb h
            · have := (HBK.out b hb).2; omega)
        rw [hm8.file] at h9
        simp only [List.nil_append] at h9
        have hm9 := hm8.put (B2, 0)
        simp only at hm9
        generalize s8.called.put f2 (B2, 0) = s9 at *
        have H9 := Lib.hid h9
        have HN8 := Lib.hid n8
        have HM9 := Lib.hid hm9
        clear h9 n8 hfs8 hk8 hF8 hf2 hm8 hm9 H8 HM
        unfold ptrV at H9
        go_wp2_with fail
        refine H9.out.mono ?_
        rintro e w9 ⟨F3, rfl, hfs9, hk9, hF9⟩
        have n9 := wrSt.next HN8.out.1 HN8.out.2 hk9 hF9
        have hm := HM9.out
        have h10 := Sync_ok F3 g f2 s9 w9 n7 hfs9 (by have := hm.calls; omega) (by rw [hm.fail]; decide) hm.get
        rw [hm.file] at h10
        simp only at h10
        have hm10 := hm.put (B2, B2.length)
        simp only at hm10
        generalize s9.called.put f2 (B2, B2.length) = s10 at *
        have H10 := Lib.hid h10
        have HN9 := Lib.hid n9
        have HM10 := Lib.hid hm10
        clear h10 n9 hfs9 hk9 hF9 hm hm10 H9 HM9 HN8
        unfold ptrV at H10
        go_wp2_with fail
        refine H10.out.mono ?_
        rintro e w10 ⟨rfl, hfs10, hk10⟩
        have n10 := wrSt.next HN9.out.1 HN9.out.2 hk10 (fun k hk => Or.inl hk)
        have hm := HM10.out
        have h11 := SyncDir_ok F3 g s10 w10 hfs10 (by have := hm.calls; omega) (by rw [hm.fail]; decide)
        have hm11 := hm.synced
        generalize s10.called.synced = s11 at *
        have H11 := Lib.hid h11
        have HN10 := Lib.hid n10
        have HM11 := Lib.hid hm11
        clear h11 n10 hfs10 hk10 hm hm11 H10 HM10 HN9
        unfold ptrV at H11
        go_wp2_with fail
        refine H11.out.mono ?_
        rintro e w11 ⟨rfl, F4, hfs11, hk11, hF11⟩
        have n11 := wrSt.next HN10.out.1 HN10.out.2 hk11 hF11
        have h12 := refRScan_any A7 c7 B2 w11 (HR2.out.kept n11.2 (fun _ b hb => HNF.out b hb)) (by omega)
        rw [← recs_one] at h12
        obtain ⟨M, E, ok, hsc⟩ : ∃ M E ok, scanF B2 = (M, E, ok) := ⟨_, _, _, rfl⟩
        have HSC := Lib.hid hsc
        have hrt := recs_take _ B2 (Nat.le_refl _)
        rw [hsc] at hrt
        simp only at hrt
        unfold scanF at hsc
        simp only [Prod.mk.injEq] at hsc
        rw [hsc.1, hsc.2.1, hsc.2.2] at h12
        have hcnt := recs_count M hrt.1
        have hb4 : ∀ k, F4 k → k < w11.heap.size := by obtain ⟨_, _, _, _, hin⟩ := hfs11; exact hin.below
        have hMl : M.length ≤ 3000 := by omega
        have hEl : E ≤ 30106 := by omega
        have HRT := Lib.hid hrt
        have H12 := Lib.hid h12
        have HN11 := Lib.hid n11
        have HFS11 := Lib.hid hfs11
        have HB4 := Lib.hid hb4
        clear h12 n11 hsc hrt hcnt hfs11 hk11 hF11 hb4 H11 HN10
        go_wp2_with fail
        refine H12.out.mono ?_
        rintro e w12 ⟨v12, rfl, hown12, hk12⟩
        obtain ⟨A12, c12, rfl, hc12⟩ := own_form hown12
        have hrow12 : ∀ b, (Value.slice A12 M.length c12).ownBlock = some b → w11.heap.size ≤ b ∧ b < w12.heap.size := fun b hb => ⟨own_from hown12 b hb, own_lt hown12 b hb⟩
        have HROWB := Lib.hid hrow12
        have HROW := Lib.hid (SeesRecs.own hown12)
        have HK12 := Lib.hid hk12
        have hfs12 := HFS11.out.kept hk12 (fun _ _ h => h)
        have hm := HM11.out
        have hkw12 : Kept noF w w12 := (HK7.out.trans HN11.out.2 (fun i hi h => by have := HFW.out i h; omega)).trans0 hk12
        have HKW12 := Lib.hid hkw12
        clear hown12 hc12 hrow12 hkw12 H12
        cases ok with
        | false =>
          have h13 := rawOpen_bad F4 w12 g f2 s11 7 n7 Name_7 hfs12 hm.get (by rw [hm.file]; show B2.length < _; omega) (by rw [hm.file]; show (scanF B2).2.2 = _; rw [HSC.out])
          have H13 := Lib.hid h13
          clear h13 hfs12 hm hk12
          unfold ptrV at H13
          go_wp2_with fail
          refine H13.out.mono ?_
          rintro e w13 ⟨rfl, hk13⟩
          have HK13 := Lib.hid hk13
          clear hk13
          go_wp2
          go_ret
          exact ⟨rfl, HKW12.out.trans0 HK13.out⟩
        | true =>
          have hsumE : (recLens M).sum = E := by rw [← encsL_length]; exact HRT.out.2.2.1.symm
          have h13 := rawOpen_ok F4 w12 g f2 s11 7 n7 ⟨#[55]⟩ b7 M E Name_7 Format_7 rfl (by decide) hfs12 hm.get (by rw [hm.file]; show B2.length < _; omega) (by rw [hm.file]; exact HSC.out) (by rw [hm.file]; exact HRT.out.2.2.2) (by omega) (by rw [hsumE]; omega)
            (by have := hm.calls; omega) hm.fail mayR_b7 mayR_n7 (by rw [hm.dir]; intro _; simp) (by have := hm.waits; omega) (by rw [hm.room]; decide) (by rw [hm.room, hm.sum]; intro _; omega)
          have H13 := Lib.hid h13
          clear h13 hfs12 hm hk12
          unfold ptrV at H13
          go_wp2_with fail
          refine H13.out.mono ?_
          rintro e w13 ⟨sg, FF, GG, ss, rfl, hfs13, hseg13, hdis13, hk13, hFF, hGG, hst13⟩
          have hm := HM11.out
          rw [hm.file] at hst13
          obtain ⟨f3, hm13⟩ := hm.opened hst13 rfl rfl rfl
          rw [HRT.out.2.1] at hm13
          have hrow13 : SeesRecs w13 (.slice A12 M.length c12) M := HROW.out.keptF hk13 (fun b hb h => by have := HB4.out b h; have := (HROWB.out b hb).1; omega)
          have h14 := same_ok FF GG w13 g f3 sg ss n7 M A12 c12 hfs13 hseg13 hm13.get HRT.out.1 [] (by rw [hm13.file, List.append_nil]) (by rw [hm13.file]; show (encsL M).length < _; have := HRT.out.2.2.1; omega) (by omega) hrow13
          have H14 := Lib.hid h14
          clear h14 hm
          unfold ptrV at H14
          go_upto_region 24 with (go_at_call 15; refine H14.out.mono ?_; rintro e w14 ⟨rfl, hk14⟩)
          have hbx : ∀ W, Kept noF (w14.alloc (.cells #[.int .i64 1, .int .i64 9, .string ⟨#[109, 111, 114, 101]⟩, .string ⟨#[111, 102, 32, 105, 116]⟩] 32)) W → W.heap[w14.heap.size]? = some (.cells #[.int .i64 1, .int .i64 9, .string ⟨#[109, 111, 114, 101]⟩, .string ⟨#[111, 102, 32, 105, 116]⟩] 32) := fun W hk => hk.blk0 (blk_new _ _)
          have hk15 : Kept noF w13 (w14.alloc (.cells #[.int .i64 1, .int .i64 9, .string ⟨#[109, 111, 114, 101]⟩, .string ⟨#[111, 102, 32, 105, 116]⟩] 32)) := hk14.alloc _
          have hz15 : (w14.alloc (.cells #[.int .i64 1, .int .i64 9, .string ⟨#[109, 111, 114, 101]⟩, .string ⟨#[111, 102, 32, 105, 116]⟩] 32)).heap.size = w14.heap.size + 1 := by simp
          have hz14 := hk14.size
          have hbFF : ∀ k, FF k → k < w13.heap.size := by obtain ⟨_, _, _, _, hin⟩ := hfs13; exact hin.below
          have hbGG : ∀ k, GG k → k < w13.heap.size := by obtain ⟨_, _, _, _, hb⟩ := hseg13; exact hb
          have henl : ((encR recMore).length : Int) ≤ ss.room - sumL ss.files ss.dir := by
            rw [hm13.room, hm13.sum]
            have := enc_le recMore
            have := HRT.out.2.2.1
            omega
          have h15 : ∀ W, Kept noF w13 W → Calls Tryz.prog 16 #[ptrV sg, recMore.v] W fun e w' => e = .returned (.tuple #[.int .i64 M.length, .int .i64 0]) ∧ ∃ F6 G6 s6, FsAt F6 w' g s6 ∧ SegAt G6 w' sg g n7 (recLens (M ++ [recMore])) ∧ (∀ k, G6 k → ¬ F6 k) ∧ Kept (fun k => FF k ∨ GG k) W w' ∧ (∀ k, F6 k → FF k ∨ W.heap.size ≤ k) ∧ (∀ k, G6 k → GG k ∨ W.heap.size ≤ k) ∧
              Mid s6 f3 (encsL (M ++ [recMore])) (encsL M).length 17 0 [(n7, f3)] := by
            intro W hk
            have h := rawAppend_ok FF GG W g f3 sg ss n7 (recLens M) recMore (hfs13.kept hk (fun _ _ h => h)) (hseg13.kept hk (fun _ _ h => h)) hdis13 (by have := hm13.calls; omega) (by rw [hm13.fail]; decide) hm13.get recMore_ok (by rw [hm13.room]; decide) henl (by rw [recLens_length]; omega) (by rw [hsumE]; omega)
            rw [recLens_length] at h
            refine h.mono ?_
            rintro e w' ⟨rfl, F6, G6, r1, r2, r3, r4, r5, r6⟩
            have hmp := hm13.put ((ss.files f3).1 ++ encR recMore, (ss.files f3).2)
            have he : encsL (M ++ [recMore]) = encsL M ++ encR recMore := by unfold encsL; rw [List.flatMap_append, List.flatMap_cons, List.flatMap_nil, List.append_nil]
            rw [hm13.file] at hmp r1
            simp only at hmp r1
            rw [← he] at hmp r1
            have hl2 : recLens M ++ [(encR recMore).length] = recLens (M ++ [recMore]) := by simp [recLens]
            rw [hl2] at r2
            exact ⟨rfl, F6, G6, _, r1, r2, r3, r4, r5, r6, hmp⟩
          rw [recMore_v] at h15
          have H15 := Lib.hid (h15 _ hk15)
          have HBX := Lib.hid hbx
          have HK15 := Lib.hid hk15
          have HZ15 := Lib.hid hz15
          have HBFF := Lib.hid hbFF
          have HBGG := Lib.hid hbGG
          have HROW13 := Lib.hid hrow13
          have HFF := Lib.hid hFF
          have HGG := Lib.hid hGG
          have HK13 := Lib.hid hk13
          clear h15 hbx hk15 hz15 hbFF hbGG hrow13 hFF hGG hk13 hk14 hfs13 hseg13 hdis13 hst13 henl hm13 H13 H14 HROW
          unfold ptrV at H15
          go_upto_region 25 with fail
          generalize (w14.alloc (.cells #[.int .i64 1, .int .i64 9, .string ⟨#[109, 111, 114, 101]⟩, .string ⟨#[111, 102, 32, 105, 116]⟩] 32)) = W15 at *
          have hb15 := HBX.out W15 (Kept.refl _ _)
          have e0 : W15.cell? ⟨w14.heap.size, 0, none⟩ = some (.int .i64 1) := blk_cell hb15 0 rfl
          have e1 : W15.cell? ⟨w14.heap.size, 1, none⟩ = some (.int .i64 9) := blk_cell hb15 1 rfl
          have e2 : W15.cell? ⟨w14.heap.size, 2, none⟩ = some (.string ⟨#[109, 111, 114, 101]⟩) := blk_cell hb15 2 rfl
          have e3 : W15.cell? ⟨w14.heap.size, 3, none⟩ = some (.string ⟨#[111, 102, 32, 105, 116]⟩) := blk_cell hb15 3 rfl
          have HB15 := Lib.hid hb15
          clear hb15 HBX
          go_wp2_with fail
          refine H15.out.mono ?_
          rintro e w16 ⟨rfl, F6, G6, s6, hfs6, hseg6, hdis6, hk6, hF6, hG6, hm6⟩
          have h17 := rawSync_ok F6 G6 w16 g f3 sg s6 n7 (recLens (M ++ [recMore])) hfs6 hseg6 hdis6 (by have := hm6.calls; omega) (by rw [hm6.fail]; decide) hm6.get
          have hm7 := hm6.put ((s6.files f3).1, (s6.files f3).1.length)
          rw [hm6.file] at h17 hm7
          simp only at h17 hm7
          generalize s6.called.put f3 (encsL (M ++ [recMore]), (encsL (M ++ [recMore])).length) = s7 at *
          have H17 := Lib.hid h17
          have HM7 := Lib.hid hm7
          have HF6 := Lib.hid hF6
          have HK6 := Lib.hid hk6
          clear h17 hm7 hF6 hk6 hfs6 hseg6 hdis6 hG6 hm6 e0 e1 e2 e3 H15
          unfold ptrV at H17
          go_upto_region 28 with (go_at_call 17; refine H17.out.mono ?_; rintro e w17 ⟨rfl, hp17⟩; (have HP17 := Lib.hid hp17); clear hp17)
          obtain ⟨hfs7, hseg7, hk17⟩ := HP17.out
          have hm7 := HM7.out
          have h18 := Crash_any F6 g s7 w17 hfs7 (by have := hm7.waits; omega) (by rw [hm7.lasts]; simp) (by
            intro p hp
            rw [hm7.lasts] at hp
            simp at hp
            subst hp
            simp only [hm7.file]
            have := encsL_take_le (M ++ [recMore]) 3001
            rw [List.take_of_length_le (by simp; omega)] at this
            exact ⟨by decide, Nat.le_refl _, by omega⟩)
          have H18 := Lib.hid h18
          have HK17 := Lib.hid hk17
          clear h18 hfs7 hseg7 hk17 hm7 HP17 H17
          unfold ptrV at H18
          go_wp2_with fail
          refine H18.out.mono ?_
          rintro e w18 ⟨g2, F8, s8c, rfl, hfs8, hF8, hk18, hcr⟩
          obtain ⟨f4, hm8⟩ := HM7.out.crashed hcr rfl rfl
          have hgood : GoodRs (M ++ [recMore]) := HRT.out.1.snoc recMore_ok
          have hall := scan_all (M ++ [recMore]) hgood
          have hel : (encsL (M ++ [recMore])).length ≤ 40000 := by
            have h1 := enc_le recMore
            have h2 := HRT.out.2.2.1
            unfold encsL at h2 ⊢
            rw [List.flatMap_append, List.length_append, List.flatMap_cons, List.flatMap_nil, List.append_nil]
            omega
          have hsum2 := encsL_length (M ++ [recMore])
          have h19 := rawOpen_ok F8 w18 g2 f4 s8c 7 n7 ⟨#[55]⟩ b7 (M ++ [recMore]) (encsL (M ++ [recMore])).length Name_7 Format_7 rfl (by decide) hfs8 hm8.get (by rw [hm8.file]; show (encsL (M ++ [recMore])).length < _; omega) (by rw [hm8.file]; exact hall) (by rw [hm8.file]; exact Nat.le_refl _) (by simp; omega) (by omega)
            (by have := hm8.calls; omega) hm8.fail mayR_b7 mayR_n7 (by rw [hm8.dir]; intro _; simp) (by have := hm8.waits; omega) (by rw [hm8.room]; decide) (by rw [hm8.file]; intro h; exact absurd h (Nat.lt_irrefl _))
          have H19 := Lib.hid h19
          have HK18 := Lib.hid hk18
          have HF8 := Lib.hid hF8
          have HM8 := Lib.hid hm8
          have HGOOD := Lib.hid hgood
          clear h19 hk18 hF8 hm8 hfs8 hcr hgood hall hsum2 H18
          unfold ptrV at H19
          go_upto_region 29 with (go_at_call 14; refine H19.out.mono ?_; rintro e w19 ⟨sg2, FF2, GG2, ss2, rfl, hp19⟩; (have HP19 := Lib.hid hp19); clear hp19)
          obtain ⟨hfs19, hseg19, hdis19, hk19, hFF19, hGG19, hst19⟩ := HP19.out
          rw [HM8.out.file] at hst19
          obtain ⟨f5, hm19⟩ := HM8.out.opened hst19 rfl rfl rfl
          rw [List.take_length] at hm19
          have s13 := HK13.out.size
          have s15 := HK15.out.size
          have s16 := HK6.out.size
          have s17 := HK17.out.size
          have s18 := HK18.out.size
          have hrow19 : SeesRecs w19 (.slice A12 M.length c12) M := by
            have hb := HROWB.out
            have nFF : ∀ b, (Value.slice A12 M.length c12).ownBlock = some b → ¬ (FF b ∨ GG b) := fun b hb1 h => by
              have := hb b hb1
              rcases h with h | h
              · rcases HFF.out b h with h2 | h2
                · have := HB4.out b h2; omega
                · omega
              · have := HGG.out b h; omega
            have r16 := (HROW13.out.kept0 HK15.out).keptF HK6.out nFF
            have r17 := r16.keptF HK17.out (fun b hb1 h => by
              rcases HF6.out b h with h2 | h2
              · exact nFF b hb1 (.inl h2)
              · have := hb b hb1; have := HK13.out.size; omega)
            exact (r17.kept0 HK18.out).keptF hk19 (fun b hb1 h => by have := HF8.out b h; have := hb b hb1; omega)
          have hbox19 : w19.heap[w14.heap.size]? = some (.cells #[.int .i64 1, .int .i64 9, .string ⟨#[109, 111, 114, 101]⟩, .string ⟨#[111, 102, 32, 105, 116]⟩] 32) := by
            have q16 := HK6.out.blk HB15.out (fun h => by
              rcases h with h | h
              · have := HBFF.out _ h; omega
              · have := HBGG.out _ h; omega)
            have q17 := HK17.out.blk q16 (fun h => by
              rcases HF6.out _ h with h2 | h2
              · have := HBFF.out _ h2; omega
              · have := HZ15.out; omega)
            exact hk19.blk (HK18.out.blk0 q17) (fun h => by have := HF8.out _ h; have := HZ15.out; omega)
          have hF4w : ∀ k, F4 k → w.heap.size ≤ k := fun k hk => by
            rcases HN11.out.1 k hk with h | h
            · exact HFW.out k h
            · have := HK7.out.size; omega
          have hz12 := HKW12.out.size
          have hFFw : ∀ k, FF k ∨ GG k → w.heap.size ≤ k := fun k hk => by
            rcases hk with hk | hk
            · rcases HFF.out k hk with h | h
              · exact hF4w k h
              · omega
            · have := HGG.out k hk; omega
          have hk19w : Kept noF w w19 := by
            have q13 := (HKW12.out.trans HK13.out (fun i hi h => by have := hF4w i h; omega)).trans0 HK15.out
            have q16 := q13.trans HK6.out (fun i hi h => by have := hFFw i h; omega)
            have q17 := q16.trans HK17.out (fun i hi h => by
              rcases HF6.out i h with h2 | h2
              · have := hFFw i (.inl h2); omega
              · omega)
            exact (q17.trans0 HK18.out).trans hk19 (fun i hi h => by have := HF8.out i h; omega)
          have hsame : ∀ (W : World) (A : Option Addr) (c : Nat), Kept noF w19 W → Reads W (.slice A (M.length + 1) c) 4 (M.length + 1) (rcells M ++ [.int .i64 1, .int .i64 9, .string ⟨#[109, 111, 114, 101]⟩, .string ⟨#[111, 102, 32, 105, 116]⟩]) → Calls Tryz.prog 15 #[ptrV sg2, .slice A (M.length + 1) c] W fun e w' => e = .returned (.bool true) ∧ Kept noF w w' ∧ Kept noF w19 w' := by
            intro W A c hk hr
            have hl1 : (M ++ [recMore]).length = M.length + 1 := by simp
            have hr2 : SeesRecs W (.slice A (M ++ [recMore]).length c) (M ++ [recMore]) := by
              unfold SeesRecs
              rw [hl1, rcells_append, rcells_one]
              exact hr
            have := same_ok FF2 GG2 W g2 f5 sg2 ss2 n7 (M ++ [recMore]) A c (hfs19.kept hk (fun _ _ h => h)) (hseg19.kept hk (fun _ _ h => h)) hm19.get HGOOD.out [] (by rw [hm19.file, List.append_nil]) (by rw [hm19.file]; show (encsL (M ++ [recMore])).length < _; omega) (by rw [hl1]; omega) hr2
            rw [hl1] at this
            refine this.mono ?_
            rintro e w' ⟨rfl, hk2⟩
            exact ⟨rfl, (hk19w.trans0 hk).trans0 hk2, hk.trans0 hk2⟩
          have hS : ∀ w', Kept noF w19 w' → w'.cell? ⟨w14.heap.size, 0, none⟩ = some (.int .i64 1) ∧ w'.cell? ⟨w14.heap.size, 1, none⟩ = some (.int .i64 9) ∧ w'.cell? ⟨w14.heap.size, 2, none⟩ = some (.string ⟨#[109, 111, 114, 101]⟩) ∧ w'.cell? ⟨w14.heap.size, 3, none⟩ = some (.string ⟨#[111, 102, 32, 105, 116]⟩) := fun W hk => by
            have hb := hk.blk0 hbox19
            exact ⟨blk_cell hb 0 rfl, blk_cell hb 1 rfl, blk_cell hb 2 rfl, blk_cell hb 3 rfl⟩
          have hRW : ∀ W, Kept noF w19 W → Reads W (.slice A12 M.length c12) 4 M.length (rcells M) := fun W hk => hrow19.kept0 hk
          obtain ⟨e0, e1, e2, e3⟩ := hS w19 (Kept.refl _ _)
          have hbuilt : Reads (w19.alloc (.cells #[.int .i64 1, .int .i64 9, .string ⟨#[109, 111, 114, 101]⟩, .string ⟨#[111, 102, 32, 105, 116]⟩] 32)) (.slice (some ⟨w19.heap.size, 0, none⟩) 1 1) 4 1 [.int .i64 1, .int .i64 9, .string ⟨#[109, 111, 114, 101]⟩, .string ⟨#[111, 102, 32, 105, 116]⟩] := Reads.lit w19 [.int .i64 1, .int .i64 9, .string ⟨#[109, 111, 114, 101]⟩, .string ⟨#[111, 102, 32, 105, 116]⟩] _ 4 1 rfl (by omega)
          have hone2 : ∀ u ∈ ([.int .i64 1, .int .i64 9, .string ⟨#[109, 111, 114, 101]⟩, .string ⟨#[111, 102, 32, 105, 116]⟩] : List Value), u.oneCell' = true := by simp [Value.oneCell']
          have b1 : (0 + M.length) * 48 ≤ 140737488355328 := by omega
          have b2 : 0 + M.length ≤ 9223372036854775807 := by omega
          have b3 : (0 + M.length + 1) * 48 ≤ 140737488355328 := by omega
          have b4 : 0 + M.length + 1 ≤ 9223372036854775807 := by omega
          have HSAME := Lib.hid hsame
          have HSS := Lib.hid hS
          have HRW := Lib.hid hRW
          have HBUILT := Lib.hid hbuilt
          have HONE2 := Lib.hid hone2
          clear hsame hS hRW hbuilt hone2 hrow19 hbox19 hF4w hFFw hk19w hfs19 hseg19 hdis19 hk19 hFF19 hGG19 hst19 hm19 s13 s15 s16 s17 s18 hz12 HP19 H19
          unfold ptrV at HSAME
          go_region_held3 (fun w' => w'.cell? ⟨w14.heap.size, 0, none⟩ = some (.int .i64 1) ∧ w'.cell? ⟨w14.heap.size, 1, none⟩ = some (.int .i64 9) ∧ w'.cell? ⟨w14.heap.size, 2, none⟩ = some (.string ⟨#[109, 111, 114, 101]⟩) ∧ w'.cell? ⟨w14.heap.size, 3, none⟩ = some (.string ⟨#[111, 102, 32, 105, 116]⟩))
            (first | go_keep | exact HSS.out _ hk23 | exact HSS.out _ hk21 | exact HSS.out _ hk20)
            (first
              | (refine step_app2g (by rfl) (.const (.slice none 0 0)) (.tmp 133) 22 rfl 0 32 _ 4 48 Tryz.underlying22 infoRec rfl (by decide) (.slice none 0 0) 0 [] (by rfl) (World.ownsRow_nil _ _ _ _) (.slice A12 M.length c12) M.length (rcells M) (by rfl) (HRW.out _ ((Kept.refl noF w19).drew)) (rcells_oneCell M) b1 b2 (Nat.zero_le _) ?_; intro v20 w20 hown20 hgr20 hwh20; (have hk20 : Kept noF w19 w20 := ((Kept.refl noF w19).drew).grown hgr20 (fun k hk => by simp [Value.ownBlock] at hk)); (have hw20 : ∀ k, v20.ownBlock = some k → w19.heap.size ≤ k := fun k hk => by rcases hwh20 k hk with h | h; (simp [Value.ownBlock] at h); exact h); clear hgr20 hwh20)
              | (refine step_app2g (by rfl) (.const (.slice none 0 0)) (.tmp 133) 22 rfl 0 32 _ 4 48 Tryz.underlying22 infoRec rfl (by decide) (.slice none 0 0) 0 [] (by rfl) (World.ownsRow_nil _ _ _ _) (.slice A12 M.length c12) M.length (rcells M) (by rfl) (HRW.out _ (((Kept.refl noF w19).alloc _).drew)) (rcells_oneCell M) b1 b2 (Nat.zero_le _) ?_; intro v20 w20 hown20 hgr20 hwh20; (have hk20 : Kept noF w19 w20 := (((Kept.refl noF w19).alloc _).drew).grown hgr20 (fun k hk => by simp [Value.ownBlock] at hk)); (have hb20 : Reads w20 (.slice (some ⟨w19.heap.size, 0, none⟩) 1 1) 4 1 [.int .i64 1, .int .i64 9, .string ⟨#[109, 111, 114, 101]⟩, .string ⟨#[111, 102, 32, 105, 116]⟩] := HBUILT.out.kept0 (((Kept.refl noF _).drew).grown hgr20 (fun k hk => by simp [Value.ownBlock] at hk))); (have hw20 : ∀ k, v20.ownBlock = some k → w19.heap.size ≤ k := fun k hk => by rcases hwh20 k hk with h | h; (simp [Value.ownBlock] at h); (simp at h; omega)); clear hgr20 hwh20)
              | (refine step_app2g (by rfl) (.tmp 134) (.tmp 136) 22 rfl 0 32 _ 4 48 Tryz.underlying22 infoRec rfl (by decide) v20 (0 + M.length) ([] ++ rcells M) (by rfl) (own_kept0 hown20 ((Kept.refl _ _).alloc _)) _ 1 [.int .i64 1, .int .i64 9, .string ⟨#[109, 111, 114, 101]⟩, .string ⟨#[111, 102, 32, 105, 116]⟩] (by rfl) (Reads.lit _ [.int .i64 1, .int .i64 9, .string ⟨#[109, 111, 114, 101]⟩, .string ⟨#[111, 102, 32, 105, 116]⟩] _ 4 1 rfl (by omega)) HONE2.out b3 b4 (Nat.zero_le _) ?_; intro v21 w21 hown21 hgr21 hwh21; (have hk21 : Kept noF w19 w21 := (hk20.alloc _).grown hgr21 (fun k hk => .inr (hw20 k hk))); (obtain ⟨A21, c21, rfl, hc21⟩ := own_form hown21); clear hgr21 hwh21)
              | (refine step_app2g (by rfl) (.tmp 134) (.tmp 136) 22 rfl 0 32 _ 4 48 Tryz.underlying22 infoRec rfl (by decide) v20 (0 + M.length) ([] ++ rcells M) (by rfl) hown20 _ 1 [.int .i64 1, .int .i64 9, .string ⟨#[109, 111, 114, 101]⟩, .string ⟨#[111, 102, 32, 105, 116]⟩] (by rfl) hb20 HONE2.out b3 b4 (Nat.zero_le _) ?_; intro v21 w21 hown21 hgr21 hwh21; (have hk21 : Kept noF w19 w21 := hk20.grown hgr21 (fun k hk => .inr (hw20 k hk))); (obtain ⟨A21, c21, rfl, hc21⟩ := own_form hown21); clear hgr21 hwh21)
              | (go_at_call 15; refine (HSAME.out w21 A21 c21 hk21 (by have := Reads.own hown21; simpa using this)).mono ?_; rintro e w22 ⟨rfl, hk22, hk23⟩))
          all_goals
            go_wp2_with fail
            go_ret
            exact ⟨rfl, hk22⟩
end Go.Proofs.YtflnekjmcpmbbaaGreatDoor
