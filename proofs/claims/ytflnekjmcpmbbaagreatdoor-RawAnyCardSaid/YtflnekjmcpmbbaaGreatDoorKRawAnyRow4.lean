/- Part 4 of the texts beneath: Rdr, Seal, Rec, Enc. -/
import Derived.Test.YtflnekjmcpmbbaaGreatDoorKRawAnyRow3
import Derived.Test.YtflnekjmcpmbbaaGreatDoorKRawAnyRow2
import Derived.Lib.SliceRun
import Derived.Deep.RegionHeld3
import Derived.Deep.DeepCutAuto

/- Walks: (*number.Reader): step, Num, Text, Done. -/
set_option linter.unusedVariables false
set_option linter.unusedSimpArgs false
namespace Go.Proofs.YtflnekjmcpmbbaaGreatDoor
open Go.RowKit

/-- Block rb is a reader: these bytes are left. -/
def RdAt (w : World) (rb : Nat) (s : List UInt8 × Bool) : Prop :=
  ∃ A c, w.heap[rb]? = some (.cells #[.slice A s.1.length c, .bool s.2] 104 (0, 0)) ∧ Reads w (.slice A s.1.length c) 1 s.1.length (bvs s.1) ∧ (0 < s.1.length → ∀ b, (Value.slice A s.1.length c).ownBlock = some b → b < rb)
theorem RdAt.flag {w : World} {rb : Nat} {s : List UInt8 × Bool} (h : RdAt w rb s) : w.cell? ⟨rb, 1, none⟩ = some (.bool s.2) := by
  obtain ⟨A, c, h1, _⟩ := h
  exact blk_cell h1 1 rfl
theorem RdAt.move {F : Nat → Prop} {w w' : World} {rb : Nat} {s : List UInt8 × Bool} (h : RdAt w rb s) (k : Kept F w w') (hF : ∀ b, b ≤ rb → ¬ F b) : RdAt w' rb s := by
  obtain ⟨A, c, h1, h2, h3⟩ := h
  exact ⟨A, c, k.blk h1 (hF rb (Nat.le_refl _)), h2.kept k (fun hp b hb => hF b (Nat.le_of_lt (h3 hp b hb))), h3⟩
theorem RdAt.kept {w w' : World} {rb : Nat} {s : List UInt8 × Bool} (h : RdAt w rb s) (k : Kept noF w w') : RdAt w' rb s := h.move k (fun _ _ h => h)
theorem RdAt.far {w : World} {rb : Nat} {s : List UInt8 × Bool} (h : RdAt w rb s) (b i : Nat) (hb : rb < b) (u : Value) : RdAt (w.setCell ⟨b, i, none⟩ u) rb s :=
  h.move (F := oneF b) (Kept.set1 w b i u) (fun k hk hf => by unfold oneF at hf; omega)

set_option maxHeartbeats 400000 in
set_option maxRecDepth 100000 in
theorem step_any (w : World) (rb : Nat) (s : List UInt8 × Bool) (n : Nat) (i : Int) (hi : i = n) (hn : n ≤ s.1.length) (h : RdAt w rb s) :
    Calls Tryz.prog 82 #[.pointer (some ⟨rb, 0, none⟩), .int .i64 i] w fun e w' => e = .returned (.tuple #[]) ∧ RdAt w' rb (stepR s n) ∧ Kept (oneF rb) w w' := by
  subst hi
  obtain ⟨A, c, hb, hr, hne⟩ := h
  obtain ⟨bs, bad⟩ := s
  simp only at hn hb hr hne
  have h0 := blk_cell hb 0 rfl
  have h1 := blk_cell hb 1 rfl
  have f0 := blk_frozen hb 0
  have f1 := blk_frozen hb 1
  have HB := Lib.hid hb
  clear hb
  have kset : ∀ x y : Value, Kept (oneF rb) w ((w.setCell ⟨rb, 1, none⟩ x).setCell ⟨rb, 0, none⟩ y) := fun x y => ((Kept.refl (oneF rb) w).set rb 1 (.inl rfl) x).set rb 0 (.inl rfl) y
  by_cases hbad : bad = true ∨ n = 0
  · have hs : stepR (bs, bad) n = ([], true) := by unfold stepR; rw [if_pos hbad]
    have HS := Lib.hid hs
    clear hs
    have fin : ∀ w', w' = (w.setCell ⟨rb, 1, none⟩ (.bool true)).setCell ⟨rb, 0, none⟩ (.slice none 0 0) → RdAt w' rb (stepR (bs, bad) n) ∧ Kept (oneF rb) w w' := by
      rintro w' rfl
      refine ⟨?_, kset _ _⟩
      rw [HS.out]
      exact ⟨none, 0, by have := blk_set (blk_set HB.out 1 (.bool true)) 0 (.slice none 0 0); simpa using this, Reads.nil _ _, fun h => absurd h (by simp)⟩
    have HF := Lib.hid fin
    clear fin kset
    cases bad with
    | true =>
      clear hbad
      go_enter Tryz.func82, Tryz.ntmps82
      go_wp2
      first | go_end0 | (refine bodyPost_ret (results_none rfl _ _ _) rfl ?_)
      exact ⟨rfl, HF.out _ rfl⟩
    | false =>
      have h3 : ((n : Int) == 0) = true := by simp at hbad; simp [hbad]
      clear hbad hn
      go_enter Tryz.func82, Tryz.ntmps82
      go_wp2
      first | go_end0 | (refine bodyPost_ret (results_none rfl _ _ _) rfl ?_)
      exact ⟨rfl, HF.out _ rfl⟩
  · obtain rfl : bad = false := by cases bad <;> simp_all
    have hs : stepR (bs, false) n = (bs.drop n, false) := by unfold stepR; rw [if_neg hbad]
    have h3 : ((n : Int) == 0) = false := by simp; omega
    obtain ⟨A1, hcut, hr1, hb1⟩ := cut_l (P := Tryz.prog) Tryz.underlying23 infoU8 (by decide) hr n hn (n : Int) rfl .i64
    have fin : ∀ w', w' = (w.setCell ⟨rb, 1, none⟩ (.bool false)).setCell ⟨rb, 0, none⟩ (.slice A1 (bs.length - n) (c - n)) → RdAt w' rb (stepR (bs, false) n) ∧ Kept (oneF rb) w w' := by
      rintro w' rfl
      refine ⟨?_, kset _ _⟩
      rw [hs]
      have e1 : (bs.drop n).length = bs.length - n := List.length_drop
      refine ⟨A1, c - n, ?_, ?_, ?_⟩
      · have := blk_set (blk_set HB.out 1 (.bool false)) 0 (.slice A1 (bs.length - n) (c - n))
        simp only [e1]
        simpa using this
      · simp only [e1]
        have e2 : bvs (bs.drop n) = (bvs bs).drop (n * 1) := by simp [bvs, List.map_drop]
        rw [e2]
        exact hr1.kept (kset _ _) (fun hp b hb hf => by have := hne (by omega) b (hb1 b hb); unfold oneF at hf; omega)
      · simp only [e1]
        exact fun hp b hb => hne (by omega) b (hb1 b hb)
    have HF := Lib.hid fin
    clear fin kset hs hbad
    go_enter Tryz.func82, Tryz.ntmps82
    go_wp2
    first | go_end0 | (refine bodyPost_ret (results_none rfl _ _ _) rfl ?_)
    exact ⟨rfl, HF.out _ rfl⟩

set_option maxHeartbeats 400000 in
set_option maxRecDepth 100000 in
theorem Num_any (w : World) (rb : Nat) (s : List UInt8 × Bool) (most : Nat) (im : Int) (him : im = most) (hm : most < 9223372036854775808) (h : RdAt w rb s) :
    Calls Tryz.prog 67 #[.pointer (some ⟨rb, 0, none⟩), .int .i64 im] w fun e w' => e = .returned (.int .i64 (numR s most).1) ∧ RdAt w' rb (numR s most).2 ∧ Kept (oneF rb) w w' := by
  subst him
  obtain ⟨A, c, hb, hr, hne⟩ := id h
  obtain ⟨bs, bad⟩ := s
  have h0 := blk_cell hb 0 rfl
  have hle := getL_le bs
  have hbc : bs.length ≤ c := by obtain ⟨_, _, _, _, e, h3, _⟩ := hr; cases e; exact h3
  clear hb
  simp only at hr h0 hne
  have H := Lib.hid h
  have HNE := Lib.hid hne
  clear h hne
  by_cases hbig : most < (getL bs).1
  · have hs : numR (bs, bad) most = (if (stepR (bs, bad) 0).2 then 0 else (getL bs).1, stepR (bs, bad) 0) := by simp only [numR, if_pos hbig]
    have hb1 : (stepR (bs, bad) 0).2 = true := by simp [stepR]
    rw [hs, hb1]
    clear hs
    have H1 := Lib.hid hb1
    clear hb1
    go_enter Tryz.func67, Tryz.ntmps67
    go_wp2_with (first | (go_at_call 81; refine (Get_any A c bs w hr hbc).mono ?_; rintro e w1 ⟨rfl, rfl⟩) | (go_at_call 82; refine (step_any w rb (bs, bad) 0 _ rfl (Nat.zero_le _) H.out).mono ?_; rintro e w1 ⟨rfl, hR, hK⟩; have h1 := hR.flag; rw [H1.out] at h1))
    go_ret
    exact ⟨rfl, hR, hK⟩
  · have hs : numR (bs, bad) most = (if (stepR (bs, bad) (getL bs).2).2 then 0 else (getL bs).1, stepR (bs, bad) (getL bs).2) := by simp only [numR, if_neg hbig]
    rw [hs]
    clear hs
    have hw : IntKind.i64.wrap ((getL bs).1 : Int) = ((getL bs).1 : Int) := IntWalk.i64_in _ (by omega)
    cases hb1 : (stepR (bs, bad) (getL bs).2).2
    all_goals
      have H1 := Lib.hid hb1
      clear hb1
      go_enter Tryz.func67, Tryz.ntmps67
      go_wp2_with (first | (go_at_call 81; refine (Get_any A c bs w hr hbc).mono ?_; rintro e w1 ⟨rfl, rfl⟩) | (go_at_call 82; refine (step_any w rb (bs, bad) (getL bs).2 _ rfl hle.1 H.out).mono ?_; rintro e w1 ⟨rfl, hR, hK⟩; have h1 := hR.flag; rw [H1.out] at h1))
      go_ret
      exact ⟨rfl, hR, hK⟩

set_option maxHeartbeats 400000 in
set_option maxRecDepth 100000 in
theorem TextR_any (w : World) (rb : Nat) (s : List UInt8 × Bool) (h : RdAt w rb s) :
    Calls Tryz.prog 68 #[.pointer (some ⟨rb, 0, none⟩)] w fun e w' => e = .returned (.string ⟨(textR s).1.toArray⟩) ∧ RdAt w' rb (textR s).2 ∧ Kept (oneF rb) w w' := by
  obtain ⟨A, c, hb, hr, hne⟩ := id h
  obtain ⟨bs, bad⟩ := s
  have h0 := blk_cell hb 0 rfl
  have hle := getTextL_le bs
  have hbc : bs.length ≤ c := by obtain ⟨_, _, _, _, e, h3, _⟩ := hr; cases e; exact h3
  clear hb
  simp only at hr h0 hne
  have H := Lib.hid h
  have HNE := Lib.hid hne
  clear h hne
  have hs : textR (bs, bad) = (if (stepR (bs, bad) (getTextL bs).2).2 then [] else (getTextL bs).1, stepR (bs, bad) (getTextL bs).2) := by simp only [textR]
  rw [hs]
  clear hs
  cases hb1 : (stepR (bs, bad) (getTextL bs).2).2
  all_goals
    have H1 := Lib.hid hb1
    clear hb1
    go_enter Tryz.func68, Tryz.ntmps68
    go_wp2_with (first | (go_at_call 83; refine (GetText_any A c bs w hr hbc).mono ?_; rintro e w1 ⟨rfl, rfl⟩) | (go_at_call 82; refine (step_any w rb (bs, bad) (getTextL bs).2 _ rfl hle.1 H.out).mono ?_; rintro e w1 ⟨rfl, hR, hK⟩; have h1 := hR.flag; rw [H1.out] at h1))
    go_ret
    exact ⟨rfl, hR, hK⟩

set_option maxHeartbeats 400000 in
set_option maxRecDepth 100000 in
theorem Done_any (w : World) (rb : Nat) (s : List UInt8 × Bool) (h : RdAt w rb s) :
    Calls Tryz.prog 69 #[.pointer (some ⟨rb, 0, none⟩)] w fun e w' => e = .returned (.bool (doneR s)) ∧ w = w' := by
  obtain ⟨A, c, hb, hr, hne⟩ := id h
  obtain ⟨bs, bad⟩ := s
  have h0 := blk_cell hb 0 rfl
  have h1 := blk_cell hb 1 rfl
  clear hb hr hne h
  simp only at h0 h1
  cases bad with
  | true =>
    go_enter Tryz.func69, Tryz.ntmps69
    go_wp2
    go_ret
    exact ⟨rfl, rfl⟩
  | false =>
    cases bs with
    | nil =>
      go_enter Tryz.func69, Tryz.ntmps69
      go_wp2
      go_ret
      exact ⟨rfl, rfl⟩
    | cons x r =>
      have hf : doneR (x :: r, false) = false := by simp [doneR]
      have h3 : (((x :: r).length : Int) == 0) = false := by simp; omega
      rw [hf]
      clear hf
      generalize (x :: r).length = L at *
      go_enter Tryz.func69, Tryz.ntmps69
      go_wp2
      go_ret
      exact ⟨rfl, rfl⟩
theorem Done_lit (w : World) (rb : Nat) (s : List UInt8 × Bool) (b : Bool) (hb : doneR s = b) (h : RdAt w rb s) :
    Calls Tryz.prog 69 #[.pointer (some ⟨rb, 0, none⟩)] w fun e w' => e = .returned (.bool b) ∧ w = w' := by
  subst hb; exact Done_any w rb s h
end Go.Proofs.YtflnekjmcpmbbaaGreatDoor

/- Walks: bytes.Clone, seals. -/
set_option linter.unusedVariables false
set_option linter.unusedSimpArgs false
namespace Go.Proofs.YtflnekjmcpmbbaaGreatDoor
open Go.RowKit

set_option maxHeartbeats 400000 in
set_option maxRecDepth 100000 in
theorem bytesClone_any (v : Value) (bs : List UInt8) (w : World) (hr : Reads w v 1 bs.length (bvs bs)) (hlen : bs.length ≤ 140737488351232) :
    Calls Tryz.prog 32 #[v] w fun e w' => ∃ v', e = .returned v' ∧ w'.ownsRow w.heap.size 5 1 v' bs.length (bvs bs) ∧ Kept noF w w' := by
  obtain ⟨A, c, rfl, hbc⟩ := hr.form
  have heq := fun wx : World => Lib.run_eql_slice_nil (P := Tryz.prog) wx 23 5 A bs.length c 0 0 Tryz.underlying23
  cases A with
  | none =>
    have h0 : bs = [] := by
      obtain ⟨_, _, A', c', e, _, h4⟩ := hr
      cases e
      rcases Nat.eq_zero_or_pos bs.length with h | h
      · exact List.eq_nil_of_length_eq_zero h
      · obtain ⟨b, o, h5, _⟩ := h4 h
        cases h5
    subst h0
    simp only [Option.isNone_none, List.length_nil] at heq ⊢
    go_enter Tryz.func32, Tryz.ntmps32
    go_wp2
    go_ret
    exact ⟨_, rfl, World.ownsRow_nil _ _ _ _, Kept.refl _ _⟩
  | some a =>
    simp only [Option.isNone_some] at heq
    go_enter Tryz.func32, Tryz.ntmps32
    go_wp2_with (at_builtin; refine wpList_appB rfl _ _ 23 rfl w.heap.size 5 Tryz.underlying23 infoU8 _ [] (by rfl) (own_lit w _ _ 1 [] 0 rfl (Nat.le_refl _) (by omega)) _ bs (by rfl) (hr.alloc _) (by simp; omega) (by simp) ?_; intro v' w1 hown1 hgr1)
    go_ret
    exact ⟨_, rfl, by simpa using hown1, ((Kept.refl _ _).alloc _).grown hgr1 (fun k hk => .inr (by simp [Value.ownBlock] at hk; omega))⟩

set_option maxHeartbeats 1000000 in
set_option maxRecDepth 100000 in
theorem Seal_any (A : Option Addr) (c : Nat) (bs : List UInt8) (w : World) (hr : Reads w (.slice A bs.length c) 1 bs.length (bvs bs)) (hlen : bs.length < 4294967296) :
    Calls Tryz.prog 53 #[.slice A bs.length c] w fun e w' => ∃ v', e = .returned v' ∧ w'.ownsRow w.heap.size 5 1 v' (sealL bs).length (bvs (sealL bs)) ∧ Kept noF w w' := by
  go_enter Tryz.func53, Tryz.ntmps53
  go_wp2_with fail
  refine (Four_any bs.length _ hlen).mono ?_
  rintro e w1 ⟨v3, rfl, hown3, hk1⟩
  obtain ⟨A3, c3, rfl, hc3⟩ := own_form hown3
  go_wp2_with fail
  refine (bytesClone_any _ (fourL bs.length) w1 (Reads.own hown3) (by simp [fourL_length])).mono ?_
  rintro e w2 ⟨v10, rfl, hown10, hk2⟩
  have hown3b := own_kept0 hown3 hk2
  go_wp2_with fail
  refine (Sum_any A3 c3 (fourL bs.length) w2 (Reads.own hown3b)).mono ?_
  rintro e w2' ⟨rfl, rfl⟩
  go_wp2_with fail
  refine (Four_any (crcSum (fourL bs.length)) _ (crcSum_lt _)).mono ?_
  rintro e w3 ⟨v13, rfl, hown13, hk3⟩
  have hown10b := own_kept0 hown10 hk3
  have hs1 := hk1.size
  have hs2 := hk2.size
  have hs3 := hk3.size
  go_wp2_with (at_builtin; refine wpList_appB rfl _ _ 23 rfl w1.heap.size 5 Tryz.underlying23 infoU8 _ _ (by rfl) hown10b _ (fourL (crcSum (fourL bs.length))) (by rfl) (Reads.own hown13) (by simp [fourL_length]) (by omega) ?_; intro v14 w4 hown14 hgr14)
  have hk4 : Kept noF w w4 := (((hk1.trans0 hk2).trans0 hk3).grown hgr14 (fun k hk => .inr (by have := own_from hown10b k hk; omega)))
  have hr4 := hr.kept0 hk4
  refine (Sum_any A c bs w4 hr4).mono ?_
  rintro e w4' ⟨rfl, rfl⟩
  go_wp2_with fail
  refine (Four_any (crcSum bs) _ (crcSum_lt _)).mono ?_
  rintro e w5 ⟨v18, rfl, hown18, hk5⟩
  have hown14b := own_kept0 hown14 hk5
  have hs4 := hgr14.size
  have hs5 := hk5.size
  have hr5 := hr4.kept0 hk5
  have tok : True := trivial
  go_wp2_with (first
    | (at_builtin; have tk := tok; refine wpList_appB rfl _ _ 23 rfl w1.heap.size 5 Tryz.underlying23 infoU8 _ _ (by rfl) hown14b _ (fourL (crcSum bs)) (by rfl) (Reads.own hown18) (by simp [fourL_length]) (by omega) ?_; intro v19 w6 hown19 hgr19; (have hk6 : Kept noF w w6 := (hk4.trans0 hk5).grown hgr19 (fun k hk => .inr (by have := own_from hown14b k hk; omega))); clear tok)
    | (at_builtin; refine wpList_appB rfl _ _ 23 rfl w1.heap.size 5 Tryz.underlying23 infoU8 _ _ (by rfl) hown19 _ bs (by rfl) (hr.kept0 hk6) (by simp [fourL_length]; omega) (by have := hk6.size; have := hgr19.size; omega) ?_; intro v21 w7 hown21 hgr21))
  go_ret
  refine ⟨_, rfl, own_base (base := w1.heap.size) ?_ hs1, hk6.grown hgr21 (fun k hk => .inr (by have := own_from hown19 k hk; omega))⟩
  unfold sealL headL
  exact hown21

set_option maxHeartbeats 1000000 in
set_option maxRecDepth 100000 in
theorem refSeal_any (A : Option Addr) (c : Nat) (bs : List UInt8) (w : World) (hr : Reads w (.slice A bs.length c) 1 bs.length (bvs bs)) (hlen : bs.length < 4294967296) :
    Calls Tryz.prog 31 #[.slice A bs.length c] w fun e w' => ∃ v', e = .returned v' ∧ w'.ownsRow w.heap.size 5 1 v' (sealL bs).length (bvs (sealL bs)) ∧ Kept noF w w' := by
  go_enter Tryz.func31, Tryz.ntmps31
  go_wp2_with fail
  refine (refFour_any bs.length _ hlen).mono ?_
  rintro e w1 ⟨v3, rfl, hown3, hk1⟩
  obtain ⟨A3, c3, rfl, hc3⟩ := own_form hown3
  go_wp2_with (at_builtin; refine wpList_appB rfl _ _ 23 rfl w1.heap.size 5 Tryz.underlying23 infoU8 _ [] (by rfl) (World.ownsRow_nil _ _ _ _) _ (fourL bs.length) (by rfl) (Reads.own hown3) (by simp [fourL_length]) (by omega) ?_; intro v10 w2 hown10 hgr10)
  have hk2 : Kept noF w1 w2 := (Kept.refl _ _).grown hgr10 (fun k hk => by simp [Value.ownBlock] at hk)
  rw [List.nil_append] at hown10
  have hown3b := own_kept0 hown3 hk2
  refine (refSum_any A3 c3 (fourL bs.length) w2 (Reads.own hown3b)).mono ?_
  rintro e w2' ⟨rfl, rfl⟩
  go_wp2_with fail
  refine (refFour_any (crcSum (fourL bs.length)) _ (crcSum_lt _)).mono ?_
  rintro e w3 ⟨v13, rfl, hown13, hk3⟩
  have hown10b := own_kept0 hown10 hk3
  have hs1 := hk1.size
  have hs2 := hk2.size
  have hs3 := hk3.size
  go_wp2_with (at_builtin; refine wpList_appB rfl _ _ 23 rfl w1.heap.size 5 Tryz.underlying23 infoU8 _ _ (by rfl) hown10b _ (fourL (crcSum (fourL bs.length))) (by rfl) (Reads.own hown13) (by simp [fourL_length]) (by omega) ?_; intro v14 w4 hown14 hgr14)
  have hk4 : Kept noF w w4 := (((hk1.trans0 hk2).trans0 hk3).grown hgr14 (fun k hk => .inr (by have := own_from hown10b k hk; omega)))
  have hr4 := hr.kept0 hk4
  refine (refSum_any A c bs w4 hr4).mono ?_
  rintro e w4' ⟨rfl, rfl⟩
  go_wp2_with fail
  refine (refFour_any (crcSum bs) _ (crcSum_lt _)).mono ?_
  rintro e w5 ⟨v18, rfl, hown18, hk5⟩
  have hown14b := own_kept0 hown14 hk5
  have hs4 := hgr14.size
  have hs5 := hk5.size
  have hr5 := hr4.kept0 hk5
  have tok : True := trivial
  go_wp2_with (first
    | (at_builtin; have tk := tok; refine wpList_appB rfl _ _ 23 rfl w1.heap.size 5 Tryz.underlying23 infoU8 _ _ (by rfl) hown14b _ (fourL (crcSum bs)) (by rfl) (Reads.own hown18) (by simp [fourL_length]) (by omega) ?_; intro v19 w6 hown19 hgr19; (have hk6 : Kept noF w w6 := (hk4.trans0 hk5).grown hgr19 (fun k hk => .inr (by have := own_from hown14b k hk; omega))); clear tok)
    | (at_builtin; refine wpList_appB rfl _ _ 23 rfl w1.heap.size 5 Tryz.underlying23 infoU8 _ _ (by rfl) hown19 _ bs (by rfl) (hr.kept0 hk6) (by simp [fourL_length]; omega) (by have := hk6.size; have := hgr19.size; omega) ?_; intro v21 w7 hown21 hgr21))
  go_ret
  refine ⟨_, rfl, own_base (base := w1.heap.size) ?_ hs1, hk6.grown hgr21 (fun k hk => .inr (by have := own_from hown19 k hk; omega))⟩
  unfold sealL headL
  exact hown21
end Go.Proofs.YtflnekjmcpmbbaaGreatDoor

/- Walks: records. -/
set_option linter.unusedVariables false
set_option linter.unusedSimpArgs false
namespace Go.Proofs.YtflnekjmcpmbbaaGreatDoor
open Go.RowKit

structure Rec where
  kind : Int
  seq : Int
  key : ByteArray
  val : ByteArray
def Rec.v (r : Rec) : Value := .agg #[.int .i64 r.kind, .int .i64 r.seq, .string r.key, .string r.val]
def Rec.cells (r : Rec) : List Value := [.int .i64 r.kind, .int .i64 r.seq, .string r.key, .string r.val]
def Rec.fits (r : Rec) : Prop := -9223372036854775808 ≤ r.kind ∧ r.kind ≤ 9223372036854775807 ∧ -9223372036854775808 ≤ r.seq ∧ r.seq ≤ 9223372036854775807 ∧ r.key.size ≤ 140737488351232 ∧ r.val.size ≤ 140737488351232
def checkR (r : Rec) : Int :=
  if r.key.toList.isEmpty = true then 1
  else if 100 < r.key.size ∨ 4000 < r.val.size then 2
  else if (r.kind ≠ 1 ∧ r.kind ≠ 0) ∨ (r.kind = 0 ∧ r.val.toList.isEmpty = false) ∨ r.seq < 1 ∨ 1125899906842624 < r.seq then 10
  else 0

theorem ret_i64 {a b : Int} (h : a = b) : Ending.returned (.int .i64 a) = .returned (.int .i64 b) := by rw [h]

set_option maxHeartbeats 1000000 in
set_option maxRecDepth 100000 in
theorem Check_any (r : Rec) (w : World) :
    Calls Tryz.prog 60 #[r.v] w fun e w' => e = .returned (.int .i64 (checkR r)) ∧ Kept noF w w' := by
  obtain ⟨k, s, key, val⟩ := r
  unfold Rec.v
  simp only
  go_enter Tryz.func60, Tryz.ntmps60
  go_wp2
  all_goals go_ret
  all_goals refine ⟨ret_i64 ?_, (Kept.refl _ _).alloc _⟩
  all_goals unfold checkR
  all_goals simp only
  all_goals (repeat' split)
  all_goals first
    | rfl
    | omega
    | (exfalso; simp_all; done)
    | (exfalso; simp_all; omega)

set_option maxHeartbeats 1000000 in
set_option maxRecDepth 100000 in
theorem refCheck_any (r : Rec) (w : World) :
    Calls Tryz.prog 28 #[r.v] w fun e w' => e = .returned (.int .i64 (checkR r)) ∧ Kept noF w w' := by
  obtain ⟨k, s, key, val⟩ := r
  unfold Rec.v
  simp only
  go_enter Tryz.func28, Tryz.ntmps28
  go_wp2
  all_goals go_ret
  all_goals refine ⟨ret_i64 ?_, (Kept.refl _ _).alloc _⟩
  all_goals unfold checkR
  all_goals simp only
  all_goals (repeat' split)
  all_goals first
    | rfl
    | omega
    | (exfalso; simp_all; done)
    | (exfalso; simp_all; omega)

end Go.Proofs.YtflnekjmcpmbbaaGreatDoor

/- Walks: records' bytes. -/
set_option linter.unusedVariables false
set_option linter.unusedSimpArgs false
namespace Go.Proofs.YtflnekjmcpmbbaaGreatDoor
open Go.RowKit

def bodyL (r : Rec) : List UInt8 := UInt8.ofNat r.kind.toNat :: (putL r.seq.toNat ++ textL r.key.data.toList ++ (if r.kind = 1 then textL r.val.data.toList else []))
def encR (r : Rec) : List UInt8 := if checkR r = 0 then sealL (bodyL r) else []
theorem empty_toList (s : ByteArray) (h : s.toList.isEmpty = true) : s.data.toList = [] := by
  rw [ByteArray.toList_eq] at h
  simpa using h
theorem checkR_ok {r : Rec} (h : checkR r = 0) : (r.kind = 1 ∨ (r.kind = 0 ∧ r.val.toList.isEmpty = true)) ∧ 1 ≤ r.seq ∧ r.seq ≤ 1125899906842624 ∧ r.key.size ≤ 100 ∧ r.val.size ≤ 4000 ∧ r.key.toList.isEmpty = false := by
  unfold checkR at h
  split at h
  · cases h
  · split at h
    · cases h
    · split at h
      · cases h
      · rename_i h1 h2 h3
        have h4 : r.val.toList.isEmpty = true ∨ r.val.toList.isEmpty = false := by cases r.val.toList.isEmpty <;> simp
        refine ⟨?_, by omega, by omega, by omega, by omega, by simpa using h1⟩
        by_cases h5 : r.kind = 1
        · exact .inl h5
        · have h6 : r.kind = 0 := by omega
          refine .inr ⟨h6, ?_⟩
          rcases h4 with h4 | h4
          · exact h4
          · exact absurd (.inr (.inl ⟨h6, h4⟩)) h3

set_option maxHeartbeats 400000 in
set_option maxRecDepth 100000 in
theorem Encode_1 (s : Nat) (key val : ByteArray) (w : World) (hc : checkR ⟨1, s, key, val⟩ = 0) :
    Calls Tryz.prog 39 #[.agg #[.int .i64 1, .int .i64 s, .string key, .string val]] w fun e w' => ∃ v, e = .returned (.tuple #[v, .int .i64 0]) ∧ w'.ownsRow w.heap.size 5 1 v (sealL (bodyL ⟨1, s, key, val⟩)).length (bvs (sealL (bodyL ⟨1, s, key, val⟩))) ∧ Kept noF w w' := by
  obtain ⟨_, h1, h2, h3, h4, _⟩ := checkR_ok hc
  simp only at h1 h2 h3 h4
  have HC := Lib.hid hc
  clear hc
  go_enter Tryz.func39, Tryz.ntmps39
  go_wp2_with fail
  refine (Check_any ⟨1, s, key, val⟩ _).mono ?_
  rintro e w1 ⟨rfl, hk1⟩
  rw [HC.out]
  have hb := hk1.blk0 (blk_new w _)
  have c0 := blk_cell hb 0 rfl
  have c1 := blk_cell hb 1 rfl
  have c2 := blk_cell hb 2 rfl
  have c3 := blk_cell hb 3 rfl
  have hs1 := hk1.size
  simp only [World.size_alloc] at hs1
  have hw64 : IntKind.u64.wrap (s : Int) = (s : Int) := IntWalk.u64_in _ (by omega)
  have hw8 : IntKind.u8.wrap 1 = 1 := by decide
  have hs64 : s < 18446744073709551616 := by omega
  have hlt1 : w.heap.size < w1.heap.size := by omega
  have hpl : (putL s).length ≤ 10 := putL_len 9 s (by omega)
  have kk : ∀ (W W2 : World), (W = w1.drew ∨ ∃ o, W = w1.drew.alloc o) → Kept noF W W2 → W2.cell? ⟨w.heap.size, 0, none⟩ = some (.int .i64 1) ∧ W2.cell? ⟨w.heap.size, 1, none⟩ = some (.int .i64 s) := by
    rintro W W2 (rfl | ⟨o, rfl⟩) h
    · exact ⟨h.cell0 c0, h.cell0 c1⟩
    · exact ⟨h.cell0 (by rw [World.cell?_alloc_lt _ _ _ hlt1]; exact c0), h.cell0 (by rw [World.cell?_alloc_lt _ _ _ hlt1]; exact c1)⟩
  have k3 : ∀ (W : World), Kept noF w1 W → W.cell? ⟨w.heap.size, 0, none⟩ = some (.int .i64 1) ∧ W.cell? ⟨w.heap.size, 1, none⟩ = some (.int .i64 s) := fun W h => ⟨h.cell0 c0, h.cell0 c1⟩
  have e1 : ([.int .u8 1] : List Value) = bvs [UInt8.ofNat 1] := by rfl
  have oA : ∀ W2 : World, Kept noF (w1.drew.alloc (.cells #[.int .u8 1] 5)) W2 → W2.ownsRow w1.heap.size 5 1 (.slice (some ⟨w1.heap.size, 0, none⟩) 1 1) [UInt8.ofNat 1].length (bvs [UInt8.ofNat 1]) := fun W2 h => by
    rw [← e1]
    exact own_kept0 (own_lit w1.drew w1.heap.size 5 1 [.int .u8 1] 1 rfl (Nat.le_refl _) (by omega)) h
  have oB : ∀ W2 : World, Kept noF w1.drew W2 → (W2.alloc (.cells #[.int .u8 1] 5)).ownsRow w1.heap.size 5 1 (.slice (some ⟨W2.heap.size, 0, none⟩) 1 1) [UInt8.ofNat 1].length (bvs [UInt8.ofNat 1]) := fun W2 h => by
    rw [← e1]
    exact own_lit W2 w1.heap.size 5 1 [.int .u8 1] 1 rfl h.size (by omega)
  have zA : ∀ W2 : World, Kept noF (w1.drew.alloc (.cells #[.int .u8 1] 5)) W2 → w1.heap.size ≤ W2.heap.size := fun W2 h => by have := h.size; simp at this; omega
  have zB : ∀ W2 : World, Kept noF w1.drew W2 → w1.heap.size ≤ (W2.alloc (.cells #[.int .u8 1] 5)).heap.size := fun W2 h => by have := h.size; simp at this ⊢; omega
  have kA : ∀ (W2 W3 : World) (n m : Nat), Kept noF (w1.drew.alloc (.cells #[.int .u8 1] 5)) W2 → W2.grownBy W3 (Value.slice (some ⟨w1.heap.size, 0, none⟩) n m).ownBlock → Kept noF w1 W3 := fun W2 W3 n m h g =>
    (((Kept.refl _ w1).drew.alloc _).trans0 h).grown g (fun k hk => .inr (by simp [Value.ownBlock] at hk; omega))
  have kB : ∀ (W2 W3 : World) (n m : Nat), Kept noF w1.drew W2 → (W2.alloc (.cells #[.int .u8 1] 5)).grownBy W3 (Value.slice (some ⟨W2.heap.size, 0, none⟩) n m).ownBlock → Kept noF w1 W3 := fun W2 W3 n m h g =>
    (((Kept.refl _ w1).drew.trans0 h).alloc _).grown g (fun k hk => .inr (by have := h.size; simp [Value.ownBlock] at hk this; omega))
  have hl10 : [UInt8.ofNat 1].length + (putL s).length ≤ 140737488355328 := by simp; omega
  have KK := Lib.hid kk
  have K3 := Lib.hid k3
  have OA := Lib.hid oA
  have OB := Lib.hid oB
  have ZA := Lib.hid zA
  have ZB := Lib.hid zB
  have KA := Lib.hid kA
  have KB := Lib.hid kB
  clear kk k3 oA oB zA zB kA kB e1
  go_upto_region 4 with fail
  go_cut [5] (fun v wx => wx.ownsRow w1.heap.size 5 1 v (UInt8.ofNat 1 :: putL s).length (bvs (UInt8.ofNat 1 :: putL s)) ∧ Kept noF w1 wx)
  case first =>
    go_region_held3 (fun w' => w'.cell? ⟨w.heap.size, 0, none⟩ = some (.int .i64 1) ∧ w'.cell? ⟨w.heap.size, 1, none⟩ = some (.int .i64 s))
      (first
        | go_keep
        | exact KK.out _ _ (.inl rfl) hk2
        | exact KK.out _ _ (.inr ⟨_, rfl⟩) hk2
        | exact K3.out _ hk3)
      (first
        | (go_at_call 61; refine (Put_any s _ hs64).mono ?_; rintro e w2 ⟨v18, rfl, hown18, hk2⟩)
        | (refine step_appB rfl _ _ 23 rfl w1.heap.size 5 Tryz.underlying23 infoU8 (.slice (some ⟨w1.heap.size, 0, none⟩) 1 1) [UInt8.ofNat 1] rfl (OA.out _ hk2) _ (putL s) rfl (Reads.own hown18) hl10 (ZA.out _ hk2) ?_; intro v19 w3 hown3 hgr3; have hk3 := KA.out _ _ _ _ hk2 hgr3)
        | (refine step_appB rfl _ _ 23 rfl w1.heap.size 5 Tryz.underlying23 infoU8 (.slice (some ⟨w2.heap.size, 0, none⟩) 1 1) [UInt8.ofNat 1] rfl (OB.out _ hk2) _ (putL s) rfl ((Reads.own hown18).alloc _) hl10 (ZB.out _ hk2) ?_; intro v19 w3 hown3 hgr3; have hk3 := KB.out _ _ _ _ hk2 hgr3))
    all_goals (go_wp2_with fail; go_meet; exact ⟨hown3, hk3⟩)
  case rest =>
    obtain ⟨hown5, hk5⟩ := hcut
    have d0 := hk5.cell0 c0
    have d2 := hk5.cell0 c2
    have d3 := hk5.cell0 c3
    clear c0 c1 c2 c3 hb KK K3 OA OB ZA ZB KA KB
    go_wp2_with fail
    refine (Text_any key _ (by omega)).mono ?_
    rintro e w6 ⟨v6, rfl, hown6, hk6⟩
    have f0 := hk6.cell0 d0
    have f3 := hk6.cell0 d3
    have hown5b := own_kept0 hown5 hk6
    have hz5 := hk5.size
    have hz6 := hk6.size
    have hkl : (textL key.data.toList).length ≤ 110 := by
      unfold textL
      have := putL_len 9 key.data.toList.length (by rw [← size_len]; omega)
      rw [List.length_append, ← size_len]
      rw [← size_len] at this
      omega
    clear d0 d2 d3
    have hbody : UInt8.ofNat 1 :: putL s ++ textL key.data.toList ++ textL val.data.toList = bodyL ⟨1, s, key, val⟩ := by simp [bodyL]
    have HB := Lib.hid hbody
    clear hbody
    go_wp2_with (at_builtin; refine wpList_appB rfl _ _ 23 rfl w1.heap.size 5 Tryz.underlying23 infoU8 _ _ (by rfl) hown5b _ (textL key.data.toList) (by rfl) (Reads.own hown6) (by simp; omega) (by omega) ?_; intro v7 w7 hown7 hgr7; (have hk7 : Kept noF w1 w7 := (hk5.trans0 hk6).grown hgr7 (fun k hk => .inr (own_from hown5b k hk))); (have g0 := hgr7.cell f0 (fun h => by have := own_from hown5b _ h.symm; simp at this; omega)); (have g3 := hgr7.cell f3 (fun h => by have := own_from hown5b _ h.symm; simp at this; omega)); clear f0 f3)
    refine (Text_any val _ (by omega)).mono ?_
    rintro e w8 ⟨v8, rfl, hown8, hk8⟩
    have hown7b := own_kept0 hown7 hk8
    have hz7 := hk7.size
    have hz8 := hk8.size
    have hvl : (textL val.data.toList).length ≤ 4010 := by
      unfold textL
      have := putL_len 9 val.data.toList.length (by rw [← size_len]; omega)
      rw [List.length_append, ← size_len]
      rw [← size_len] at this
      omega
    go_wp2_with (at_builtin; refine wpList_appB rfl _ _ 23 rfl w1.heap.size 5 Tryz.underlying23 infoU8 _ _ (by rfl) hown7b _ (textL val.data.toList) (by rfl) (Reads.own hown8) (by simp; omega) (by omega) ?_; intro v9 w9 hown9 hgr9; (have hk9 : Kept noF w1 w9 := (hk7.trans0 hk8).grown hgr9 (fun k hk => .inr (own_from hown7b k hk))); rw [HB.out] at hown9; (obtain ⟨A9, c9, rfl, hc9⟩ := own_form hown9))
    refine (Seal_any A9 c9 _ w9 (Reads.own hown9) (by rw [← HB.out]; simp; omega)).mono ?_
    rintro e w10 ⟨v10, rfl, hown10, hk10⟩
    go_wp2_with fail
    go_ret2
    exact ⟨_, rfl, own_base hown10 (by have := hk1.size; have := hk9.size; simp at *; omega), (((Kept.refl _ w).alloc _).trans0 hk1).trans0 (hk9.trans0 hk10)⟩

set_option maxHeartbeats 400000 in
set_option maxRecDepth 100000 in
theorem Encode_0 (s : Nat) (key val : ByteArray) (w : World) (hc : checkR ⟨0, s, key, val⟩ = 0) :
    Calls Tryz.prog 39 #[.agg #[.int .i64 0, .int .i64 s, .string key, .string val]] w fun e w' => ∃ v, e = .returned (.tuple #[v, .int .i64 0]) ∧ w'.ownsRow w.heap.size 5 1 v (sealL (bodyL ⟨0, s, key, val⟩)).length (bvs (sealL (bodyL ⟨0, s, key, val⟩))) ∧ Kept noF w w' := by
  obtain ⟨_, h1, h2, h3, h4, _⟩ := checkR_ok hc
  simp only at h1 h2 h3 h4
  have HC := Lib.hid hc
  clear hc
  go_enter Tryz.func39, Tryz.ntmps39
  go_wp2_with fail
  refine (Check_any ⟨0, s, key, val⟩ _).mono ?_
  rintro e w1 ⟨rfl, hk1⟩
  rw [HC.out]
  have hb := hk1.blk0 (blk_new w _)
  have c0 := blk_cell hb 0 rfl
  have c1 := blk_cell hb 1 rfl
  have c2 := blk_cell hb 2 rfl
  have c3 := blk_cell hb 3 rfl
  have hs1 := hk1.size
  simp only [World.size_alloc] at hs1
  have hw64 : IntKind.u64.wrap (s : Int) = (s : Int) := IntWalk.u64_in _ (by omega)
  have hw8 : IntKind.u8.wrap 0 = 0 := by decide
  have hs64 : s < 18446744073709551616 := by omega
  have hlt1 : w.heap.size < w1.heap.size := by omega
  have hpl : (putL s).length ≤ 10 := putL_len 9 s (by omega)
  have kk : ∀ (W W2 : World), (W = w1.drew ∨ ∃ o, W = w1.drew.alloc o) → Kept noF W W2 → W2.cell? ⟨w.heap.size, 0, none⟩ = some (.int .i64 0) ∧ W2.cell? ⟨w.heap.size, 1, none⟩ = some (.int .i64 s) := by
    rintro W W2 (rfl | ⟨o, rfl⟩) h
    · exact ⟨h.cell0 c0, h.cell0 c1⟩
    · exact ⟨h.cell0 (by rw [World.cell?_alloc_lt _ _ _ hlt1]; exact c0), h.cell0 (by rw [World.cell?_alloc_lt _ _ _ hlt1]; exact c1)⟩
  have k3 : ∀ (W : World), Kept noF w1 W → W.cell? ⟨w.heap.size, 0, none⟩ = some (.int .i64 0) ∧ W.cell? ⟨w.heap.size, 1, none⟩ = some (.int .i64 s) := fun W h => ⟨h.cell0 c0, h.cell0 c1⟩
  have e1 : ([.int .u8 0] : List Value) = bvs [UInt8.ofNat 0] := by rfl
  have oA : ∀ W2 : World, Kept noF (w1.drew.alloc (.cells #[.int .u8 0] 5)) W2 → W2.ownsRow w1.heap.size 5 1 (.slice (some ⟨w1.heap.size, 0, none⟩) 1 1) [UInt8.ofNat 0].length (bvs [UInt8.ofNat 0]) := fun W2 h => by
    rw [← e1]
    exact own_kept0 (own_lit w1.drew w1.heap.size 5 1 [.int .u8 0] 1 rfl (Nat.le_refl _) (by omega)) h
  have oB : ∀ W2 : World, Kept noF w1.drew W2 → (W2.alloc (.cells #[.int .u8 0] 5)).ownsRow w1.heap.size 5 1 (.slice (some ⟨W2.heap.size, 0, none⟩) 1 1) [UInt8.ofNat 0].length (bvs [UInt8.ofNat 0]) := fun W2 h => by
    rw [← e1]
    exact own_lit W2 w1.heap.size 5 1 [.int .u8 0] 1 rfl h.size (by omega)
  have zA : ∀ W2 : World, Kept noF (w1.drew.alloc (.cells #[.int .u8 0] 5)) W2 → w1.heap.size ≤ W2.heap.size := fun W2 h => by have := h.size; simp at this; omega
  have zB : ∀ W2 : World, Kept noF w1.drew W2 → w1.heap.size ≤ (W2.alloc (.cells #[.int .u8 0] 5)).heap.size := fun W2 h => by have := h.size; simp at this ⊢; omega
  have kA : ∀ (W2 W3 : World) (n m : Nat), Kept noF (w1.drew.alloc (.cells #[.int .u8 0] 5)) W2 → W2.grownBy W3 (Value.slice (some ⟨w1.heap.size, 0, none⟩) n m).ownBlock → Kept noF w1 W3 := fun W2 W3 n m h g =>
    (((Kept.refl _ w1).drew.alloc _).trans0 h).grown g (fun k hk => .inr (by simp [Value.ownBlock] at hk; omega))
  have kB : ∀ (W2 W3 : World) (n m : Nat), Kept noF w1.drew W2 → (W2.alloc (.cells #[.int .u8 0] 5)).grownBy W3 (Value.slice (some ⟨W2.heap.size, 0, none⟩) n m).ownBlock → Kept noF w1 W3 := fun W2 W3 n m h g =>
    (((Kept.refl _ w1).drew.trans0 h).alloc _).grown g (fun k hk => .inr (by have := h.size; simp [Value.ownBlock] at hk this; omega))
  have hl10 : [UInt8.ofNat 0].length + (putL s).length ≤ 140737488355328 := by simp; omega
  have KK := Lib.hid kk
  have K3 := Lib.hid k3
  have OA := Lib.hid oA
  have OB := Lib.hid oB
  have ZA := Lib.hid zA
  have ZB := Lib.hid zB
  have KA := Lib.hid kA
  have KB := Lib.hid kB
  clear kk k3 oA oB zA zB kA kB e1
  go_upto_region 4 with fail
  go_cut [5] (fun v wx => wx.ownsRow w1.heap.size 5 1 v (UInt8.ofNat 0 :: putL s).length (bvs (UInt8.ofNat 0 :: putL s)) ∧ Kept noF w1 wx)
  case first =>
    go_region_held3 (fun w' => w'.cell? ⟨w.heap.size, 0, none⟩ = some (.int .i64 0) ∧ w'.cell? ⟨w.heap.size, 1, none⟩ = some (.int .i64 s))
      (first
        | go_keep
        | exact KK.out _ _ (.inl rfl) hk2
        | exact KK.out _ _ (.inr ⟨_, rfl⟩) hk2
        | exact K3.out _ hk3)
      (first
        | (go_at_call 61; refine (Put_any s _ hs64).mono ?_; rintro e w2 ⟨v18, rfl, hown18, hk2⟩)
        | (refine step_appB rfl _ _ 23 rfl w1.heap.size 5 Tryz.underlying23 infoU8 (.slice (some ⟨w1.heap.size, 0, none⟩) 1 1) [UInt8.ofNat 0] rfl (OA.out _ hk2) _ (putL s) rfl (Reads.own hown18) hl10 (ZA.out _ hk2) ?_; intro v19 w3 hown3 hgr3; have hk3 := KA.out _ _ _ _ hk2 hgr3)
        | (refine step_appB rfl _ _ 23 rfl w1.heap.size 5 Tryz.underlying23 infoU8 (.slice (some ⟨w2.heap.size, 0, none⟩) 1 1) [UInt8.ofNat 0] rfl (OB.out _ hk2) _ (putL s) rfl ((Reads.own hown18).alloc _) hl10 (ZB.out _ hk2) ?_; intro v19 w3 hown3 hgr3; have hk3 := KB.out _ _ _ _ hk2 hgr3))
    all_goals (go_wp2_with fail; go_meet; exact ⟨hown3, hk3⟩)
  case rest =>
    obtain ⟨hown5, hk5⟩ := hcut
    have d0 := hk5.cell0 c0
    have d2 := hk5.cell0 c2
    have d3 := hk5.cell0 c3
    clear c0 c1 c2 c3 hb KK K3 OA OB ZA ZB KA KB
    go_wp2_with fail
    refine (Text_any key _ (by omega)).mono ?_
    rintro e w6 ⟨v6, rfl, hown6, hk6⟩
    have f0 := hk6.cell0 d0
    have f3 := hk6.cell0 d3
    have hown5b := own_kept0 hown5 hk6
    have hz5 := hk5.size
    have hz6 := hk6.size
    have hkl : (textL key.data.toList).length ≤ 110 := by
      unfold textL
      have := putL_len 9 key.data.toList.length (by rw [← size_len]; omega)
      rw [List.length_append, ← size_len]
      rw [← size_len] at this
      omega
    clear d0 d2 d3
    have hbody : UInt8.ofNat 0 :: putL s ++ textL key.data.toList = bodyL ⟨0, s, key, val⟩ := by simp [bodyL]
    have HB := Lib.hid hbody
    clear hbody
    go_wp2_with (at_builtin; refine wpList_appB rfl _ _ 23 rfl w1.heap.size 5 Tryz.underlying23 infoU8 _ _ (by rfl) hown5b _ (textL key.data.toList) (by rfl) (Reads.own hown6) (by simp; omega) (by omega) ?_; intro v9 w9 hown9 hgr9; (have hk9 : Kept noF w1 w9 := (hk5.trans0 hk6).grown hgr9 (fun k hk => .inr (own_from hown5b k hk))); (have g0 := hgr9.cell f0 (fun h => by have := own_from hown5b _ h.symm; simp at this; omega)); clear f0 f3; rw [HB.out] at hown9; (obtain ⟨A9, c9, rfl, hc9⟩ := own_form hown9))
    refine (Seal_any A9 c9 _ w9 (Reads.own hown9) (by rw [← HB.out]; simp; omega)).mono ?_
    rintro e w10 ⟨v10, rfl, hown10, hk10⟩
    go_wp2_with fail
    go_ret2
    exact ⟨_, rfl, own_base hown10 (by have := hk1.size; have := hk9.size; simp at *; omega), (((Kept.refl _ w).alloc _).trans0 hk1).trans0 (hk9.trans0 hk10)⟩

set_option maxHeartbeats 400000 in
set_option maxRecDepth 100000 in
theorem Encode_Bad (r : Rec) (w : World) (hc : checkR r ≠ 0) :
    Calls Tryz.prog 39 #[r.v] w fun e w' => e = .returned (.tuple #[.slice none 0 0, .int .i64 (checkR r)]) ∧ Kept noF w w' := by
  obtain ⟨k, s, key, val⟩ := r
  unfold Rec.v
  simp only
  have h3 : (checkR ⟨k, s, key, val⟩ == 0) = false := by simpa using hc
  clear hc
  go_enter Tryz.func39, Tryz.ntmps39
  go_wp2_with fail
  refine (Check_any ⟨k, s, key, val⟩ _).mono ?_
  rintro e w1 ⟨rfl, hk1⟩
  go_wp2_with fail
  go_ret2
  exact ⟨rfl, ((Kept.refl _ w).alloc _).trans0 hk1⟩

theorem Encode_any (r : Rec) (w : World) :
    Calls Tryz.prog 39 #[r.v] w fun e w' => ∃ v, e = .returned (.tuple #[v, .int .i64 (checkR r)]) ∧ w'.ownsRow w.heap.size 5 1 v (encR r).length (bvs (encR r)) ∧ Kept noF w w' := by
  by_cases hc : checkR r = 0
  · unfold encR
    rw [if_pos hc, hc]
    obtain ⟨h1, h2, h3, h4, h5, h6⟩ := checkR_ok hc
    obtain ⟨k, s, key, val⟩ := r
    simp only at h1 h2 h3 h4 h5 h6
    obtain ⟨s, rfl⟩ := Int.eq_ofNat_of_zero_le (show 0 ≤ s by omega)
    rcases h1 with rfl | ⟨rfl, h7⟩
    · exact Encode_1 s key val w hc
    · exact Encode_0 s key val w hc
  · unfold encR
    rw [if_neg hc]
    exact (Encode_Bad r w hc).mono fun e w' ⟨he, hk⟩ => ⟨_, he, World.ownsRow_nil _ _ _ _, hk⟩

set_option maxHeartbeats 400000 in
set_option maxRecDepth 100000 in
theorem refEncode_1 (s : Nat) (key val : ByteArray) (w : World) (hc : checkR ⟨1, s, key, val⟩ = 0) :
    Calls Tryz.prog 8 #[.agg #[.int .i64 1, .int .i64 s, .string key, .string val]] w fun e w' => ∃ v, e = .returned (v) ∧ w'.ownsRow w.heap.size 5 1 v (sealL (bodyL ⟨1, s, key, val⟩)).length (bvs (sealL (bodyL ⟨1, s, key, val⟩))) ∧ Kept noF w w' := by
  obtain ⟨_, h1, h2, h3, h4, _⟩ := checkR_ok hc
  simp only at h1 h2 h3 h4
  have HC := Lib.hid hc
  clear hc
  go_enter Tryz.func8, Tryz.ntmps8
  go_wp2_with fail
  refine (refCheck_any ⟨1, s, key, val⟩ _).mono ?_
  rintro e w1 ⟨rfl, hk1⟩
  rw [HC.out]
  have hb := hk1.blk0 (blk_new w _)
  have c0 := blk_cell hb 0 rfl
  have c1 := blk_cell hb 1 rfl
  have c2 := blk_cell hb 2 rfl
  have c3 := blk_cell hb 3 rfl
  have hs1 := hk1.size
  simp only [World.size_alloc] at hs1
  have hw64 : IntKind.u64.wrap (s : Int) = (s : Int) := IntWalk.u64_in _ (by omega)
  have hw8 : IntKind.u8.wrap 1 = 1 := by decide
  have hs64 : s < 18446744073709551616 := by omega
  have hlt1 : w.heap.size < w1.heap.size := by omega
  have hpl : (putL s).length ≤ 10 := putL_len 9 s (by omega)
  have kk : ∀ (W W2 : World), (W = w1.drew ∨ ∃ o, W = w1.drew.alloc o) → Kept noF W W2 → W2.cell? ⟨w.heap.size, 0, none⟩ = some (.int .i64 1) ∧ W2.cell? ⟨w.heap.size, 1, none⟩ = some (.int .i64 s) := by
    rintro W W2 (rfl | ⟨o, rfl⟩) h
    · exact ⟨h.cell0 c0, h.cell0 c1⟩
    · exact ⟨h.cell0 (by rw [World.cell?_alloc_lt _ _ _ hlt1]; exact c0), h.cell0 (by rw [World.cell?_alloc_lt _ _ _ hlt1]; exact c1)⟩
  have k3 : ∀ (W : World), Kept noF w1 W → W.cell? ⟨w.heap.size, 0, none⟩ = some (.int .i64 1) ∧ W.cell? ⟨w.heap.size, 1, none⟩ = some (.int .i64 s) := fun W h => ⟨h.cell0 c0, h.cell0 c1⟩
  have e1 : ([.int .u8 1] : List Value) = bvs [UInt8.ofNat 1] := by rfl
  have oA : ∀ W2 : World, Kept noF (w1.drew.alloc (.cells #[.int .u8 1] 5)) W2 → W2.ownsRow w1.heap.size 5 1 (.slice (some ⟨w1.heap.size, 0, none⟩) 1 1) [UInt8.ofNat 1].length (bvs [UInt8.ofNat 1]) := fun W2 h => by
    rw [← e1]
    exact own_kept0 (own_lit w1.drew w1.heap.size 5 1 [.int .u8 1] 1 rfl (Nat.le_refl _) (by omega)) h
  have oB : ∀ W2 : World, Kept noF w1.drew W2 → (W2.alloc (.cells #[.int .u8 1] 5)).ownsRow w1.heap.size 5 1 (.slice (some ⟨W2.heap.size, 0, none⟩) 1 1) [UInt8.ofNat 1].length (bvs [UInt8.ofNat 1]) := fun W2 h => by
    rw [← e1]
    exact own_lit W2 w1.heap.size 5 1 [.int .u8 1] 1 rfl h.size (by omega)
  have zA : ∀ W2 : World, Kept noF (w1.drew.alloc (.cells #[.int .u8 1] 5)) W2 → w1.heap.size ≤ W2.heap.size := fun W2 h => by have := h.size; simp at this; omega
  have zB : ∀ W2 : World, Kept noF w1.drew W2 → w1.heap.size ≤ (W2.alloc (.cells #[.int .u8 1] 5)).heap.size := fun W2 h => by have := h.size; simp at this ⊢; omega
  have kA : ∀ (W2 W3 : World) (n m : Nat), Kept noF (w1.drew.alloc (.cells #[.int .u8 1] 5)) W2 → W2.grownBy W3 (Value.slice (some ⟨w1.heap.size, 0, none⟩) n m).ownBlock → Kept noF w1 W3 := fun W2 W3 n m h g =>
    (((Kept.refl _ w1).drew.alloc _).trans0 h).grown g (fun k hk => .inr (by simp [Value.ownBlock] at hk; omega))
  have kB : ∀ (W2 W3 : World) (n m : Nat), Kept noF w1.drew W2 → (W2.alloc (.cells #[.int .u8 1] 5)).grownBy W3 (Value.slice (some ⟨W2.heap.size, 0, none⟩) n m).ownBlock → Kept noF w1 W3 := fun W2 W3 n m h g =>
    (((Kept.refl _ w1).drew.trans0 h).alloc _).grown g (fun k hk => .inr (by have := h.size; simp [Value.ownBlock] at hk this; omega))
  have hl10 : [UInt8.ofNat 1].length + (putL s).length ≤ 140737488355328 := by simp; omega
  have KK := Lib.hid kk
  have K3 := Lib.hid k3
  have OA := Lib.hid oA
  have OB := Lib.hid oB
  have ZA := Lib.hid zA
  have ZB := Lib.hid zB
  have KA := Lib.hid kA
  have KB := Lib.hid kB
  clear kk k3 oA oB zA zB kA kB e1
  go_upto_region 3 with fail
  go_cut [3] (fun v wx => wx.ownsRow w1.heap.size 5 1 v (UInt8.ofNat 1 :: putL s).length (bvs (UInt8.ofNat 1 :: putL s)) ∧ Kept noF w1 wx)
  case first =>
    go_region_held3 (fun w' => w'.cell? ⟨w.heap.size, 0, none⟩ = some (.int .i64 1) ∧ w'.cell? ⟨w.heap.size, 1, none⟩ = some (.int .i64 s))
      (first
        | go_keep
        | exact KK.out _ _ (.inl rfl) hk2
        | exact KK.out _ _ (.inr ⟨_, rfl⟩) hk2
        | exact K3.out _ hk3)
      (first
        | (go_at_call 29; refine (refPut_any s _ hs64).mono ?_; rintro e w2 ⟨v18, rfl, hown18, hk2⟩)
        | (refine step_appB rfl _ _ 23 rfl w1.heap.size 5 Tryz.underlying23 infoU8 (.slice (some ⟨w1.heap.size, 0, none⟩) 1 1) [UInt8.ofNat 1] rfl (OA.out _ hk2) _ (putL s) rfl (Reads.own hown18) hl10 (ZA.out _ hk2) ?_; intro v19 w3 hown3 hgr3; have hk3 := KA.out _ _ _ _ hk2 hgr3)
        | (refine step_appB rfl _ _ 23 rfl w1.heap.size 5 Tryz.underlying23 infoU8 (.slice (some ⟨w2.heap.size, 0, none⟩) 1 1) [UInt8.ofNat 1] rfl (OB.out _ hk2) _ (putL s) rfl ((Reads.own hown18).alloc _) hl10 (ZB.out _ hk2) ?_; intro v19 w3 hown3 hgr3; have hk3 := KB.out _ _ _ _ hk2 hgr3))
    all_goals (go_wp2_with fail; go_meet; exact ⟨hown3, hk3⟩)
  case rest =>
    obtain ⟨hown5, hk5⟩ := hcut
    have d0 := hk5.cell0 c0
    have d2 := hk5.cell0 c2
    have d3 := hk5.cell0 c3
    clear c0 c1 c2 c3 hb KK K3 OA OB ZA ZB KA KB
    go_wp2_with fail
    refine (refText_any key _ (by omega)).mono ?_
    rintro e w6 ⟨v6, rfl, hown6, hk6⟩
    have f0 := hk6.cell0 d0
    have f3 := hk6.cell0 d3
    have hown5b := own_kept0 hown5 hk6
    have hz5 := hk5.size
    have hz6 := hk6.size
    have hkl : (textL key.data.toList).length ≤ 110 := by
      unfold textL
      have := putL_len 9 key.data.toList.length (by rw [← size_len]; omega)
      rw [List.length_append, ← size_len]
      rw [← size_len] at this
      omega
    clear d0 d2 d3
    have hbody : UInt8.ofNat 1 :: putL s ++ textL key.data.toList ++ textL val.data.toList = bodyL ⟨1, s, key, val⟩ := by simp [bodyL]
    have HB := Lib.hid hbody
    clear hbody
    go_wp2_with (at_builtin; refine wpList_appB rfl _ _ 23 rfl w1.heap.size 5 Tryz.underlying23 infoU8 _ _ (by rfl) hown5b _ (textL key.data.toList) (by rfl) (Reads.own hown6) (by simp; omega) (by omega) ?_; intro v7 w7 hown7 hgr7; (have hk7 : Kept noF w1 w7 := (hk5.trans0 hk6).grown hgr7 (fun k hk => .inr (own_from hown5b k hk))); (have g0 := hgr7.cell f0 (fun h => by have := own_from hown5b _ h.symm; simp at this; omega)); (have g3 := hgr7.cell f3 (fun h => by have := own_from hown5b _ h.symm; simp at this; omega)); clear f0 f3)
    refine (refText_any val _ (by omega)).mono ?_
    rintro e w8 ⟨v8, rfl, hown8, hk8⟩
    have hown7b := own_kept0 hown7 hk8
    have hz7 := hk7.size
    have hz8 := hk8.size
    have hvl : (textL val.data.toList).length ≤ 4010 := by
      unfold textL
      have := putL_len 9 val.data.toList.length (by rw [← size_len]; omega)
      rw [List.length_append, ← size_len]
      rw [← size_len] at this
      omega
    go_wp2_with (at_builtin; refine wpList_appB rfl _ _ 23 rfl w1.heap.size 5 Tryz.underlying23 infoU8 _ _ (by rfl) hown7b _ (textL val.data.toList) (by rfl) (Reads.own hown8) (by simp; omega) (by omega) ?_; intro v9 w9 hown9 hgr9; (have hk9 : Kept noF w1 w9 := (hk7.trans0 hk8).grown hgr9 (fun k hk => .inr (own_from hown7b k hk))); rw [HB.out] at hown9; (obtain ⟨A9, c9, rfl, hc9⟩ := own_form hown9))
    refine (refSeal_any A9 c9 _ w9 (Reads.own hown9) (by rw [← HB.out]; simp; omega)).mono ?_
    rintro e w10 ⟨v10, rfl, hown10, hk10⟩
    go_wp2_with fail
    go_ret
    exact ⟨_, rfl, own_base hown10 (by have := hk1.size; have := hk9.size; simp at *; omega), (((Kept.refl _ w).alloc _).trans0 hk1).trans0 (hk9.trans0 hk10)⟩

set_option maxHeartbeats 400000 in
set_option maxRecDepth 100000 in
theorem refEncode_0 (s : Nat) (key val : ByteArray) (w : World) (hc : checkR ⟨0, s, key, val⟩ = 0) :
    Calls Tryz.prog 8 #[.agg #[.int .i64 0, .int .i64 s, .string key, .string val]] w fun e w' => ∃ v, e = .returned (v) ∧ w'.ownsRow w.heap.size 5 1 v (sealL (bodyL ⟨0, s, key, val⟩)).length (bvs (sealL (bodyL ⟨0, s, key, val⟩))) ∧ Kept noF w w' := by
  obtain ⟨_, h1, h2, h3, h4, _⟩ := checkR_ok hc
  simp only at h1 h2 h3 h4
  have HC := Lib.hid hc
  clear hc
  go_enter Tryz.func8, Tryz.ntmps8
  go_wp2_with fail
  refine (refCheck_any ⟨0, s, key, val⟩ _).mono ?_
  rintro e w1 ⟨rfl, hk1⟩
  rw [HC.out]
  have hb := hk1.blk0 (blk_new w _)
  have c0 := blk_cell hb 0 rfl
  have c1 := blk_cell hb 1 rfl
  have c2 := blk_cell hb 2 rfl
  have c3 := blk_cell hb 3 rfl
  have hs1 := hk1.size
  simp only [World.size_alloc] at hs1
  have hw64 : IntKind.u64.wrap (s : Int) = (s : Int) := IntWalk.u64_in _ (by omega)
  have hw8 : IntKind.u8.wrap 0 = 0 := by decide
  have hs64 : s < 18446744073709551616 := by omega
  have hlt1 : w.heap.size < w1.heap.size := by omega
  have hpl : (putL s).length ≤ 10 := putL_len 9 s (by omega)
  have kk : ∀ (W W2 : World), (W = w1.drew ∨ ∃ o, W = w1.drew.alloc o) → Kept noF W W2 → W2.cell? ⟨w.heap.size, 0, none⟩ = some (.int .i64 0) ∧ W2.cell? ⟨w.heap.size, 1, none⟩ = some (.int .i64 s) := by
    rintro W W2 (rfl | ⟨o, rfl⟩) h
    · exact ⟨h.cell0 c0, h.cell0 c1⟩
    · exact ⟨h.cell0 (by rw [World.cell?_alloc_lt _ _ _ hlt1]; exact c0), h.cell0 (by rw [World.cell?_alloc_lt _ _ _ hlt1]; exact c1)⟩
  have k3 : ∀ (W : World), Kept noF w1 W → W.cell? ⟨w.heap.size, 0, none⟩ = some (.int .i64 0) ∧ W.cell? ⟨w.heap.size, 1, none⟩ = some (.int .i64 s) := fun W h => ⟨h.cell0 c0, h.cell0 c1⟩
  have e1 : ([.int .u8 0] : List Value) = bvs [UInt8.ofNat 0] := by rfl
  have oA : ∀ W2 : World, Kept noF (w1.drew.alloc (.cells #[.int .u8 0] 5)) W2 → W2.ownsRow w1.heap.size 5 1 (.slice (some ⟨w1.heap.size, 0, none⟩) 1 1) [UInt8.ofNat 0].length (bvs [UInt8.ofNat 0]) := fun W2 h => by
    rw [← e1]
    exact own_kept0 (own_lit w1.drew w1.heap.size 5 1 [.int .u8 0] 1 rfl (Nat.le_refl _) (by omega)) h
  have oB : ∀ W2 : World, Kept noF w1.drew W2 → (W2.alloc (.cells #[.int .u8 0] 5)).ownsRow w1.heap.size 5 1 (.slice (some ⟨W2.heap.size, 0, none⟩) 1 1) [UInt8.ofNat 0].length (bvs [UInt8.ofNat 0]) := fun W2 h => by
    rw [← e1]
    exact own_lit W2 w1.heap.size 5 1 [.int .u8 0] 1 rfl h.size (by omega)
  have zA : ∀ W2 : World, Kept noF (w1.drew.alloc (.cells #[.int .u8 0] 5)) W2 → w1.heap.size ≤ W2.heap.size := fun W2 h => by have := h.size; simp at this; omega
  have zB : ∀ W2 : World, Kept noF w1.drew W2 → w1.heap.size ≤ (W2.alloc (.cells #[.int .u8 0] 5)).heap.size := fun W2 h => by have := h.size; simp at this ⊢; omega
  have kA : ∀ (W2 W3 : World) (n m : Nat), Kept noF (w1.drew.alloc (.cells #[.int .u8 0] 5)) W2 → W2.grownBy W3 (Value.slice (some ⟨w1.heap.size, 0, none⟩) n m).ownBlock → Kept noF w1 W3 := fun W2 W3 n m h g =>
    (((Kept.refl _ w1).drew.alloc _).trans0 h).grown g (fun k hk => .inr (by simp [Value.ownBlock] at hk; omega))
  have kB : ∀ (W2 W3 : World) (n m : Nat), Kept noF w1.drew W2 → (W2.alloc (.cells #[.int .u8 0] 5)).grownBy W3 (Value.slice (some ⟨W2.heap.size, 0, none⟩) n m).ownBlock → Kept noF w1 W3 := fun W2 W3 n m h g =>
    (((Kept.refl _ w1).drew.trans0 h).alloc _).grown g (fun k hk => .inr (by have := h.size; simp [Value.ownBlock] at hk this; omega))
  have hl10 : [UInt8.ofNat 0].length + (putL s).length ≤ 140737488355328 := by simp; omega
  have KK := Lib.hid kk
  have K3 := Lib.hid k3
  have OA := Lib.hid oA
  have OB := Lib.hid oB
  have ZA := Lib.hid zA
  have ZB := Lib.hid zB
  have KA := Lib.hid kA
  have KB := Lib.hid kB
  clear kk k3 oA oB zA zB kA kB e1
  go_upto_region 3 with fail
  go_cut [3] (fun v wx => wx.ownsRow w1.heap.size 5 1 v (UInt8.ofNat 0 :: putL s).length (bvs (UInt8.ofNat 0 :: putL s)) ∧ Kept noF w1 wx)
  case first =>
    go_region_held3 (fun w' => w'.cell? ⟨w.heap.size, 0, none⟩ = some (.int .i64 0) ∧ w'.cell? ⟨w.heap.size, 1, none⟩ = some (.int .i64 s))
      (first
        | go_keep
        | exact KK.out _ _ (.inl rfl) hk2
        | exact KK.out _ _ (.inr ⟨_, rfl⟩) hk2
        | exact K3.out _ hk3)
      (first
        | (go_at_call 29; refine (refPut_any s _ hs64).mono ?_; rintro e w2 ⟨v18, rfl, hown18, hk2⟩)
        | (refine step_appB rfl _ _ 23 rfl w1.heap.size 5 Tryz.underlying23 infoU8 (.slice (some ⟨w1.heap.size, 0, none⟩) 1 1) [UInt8.ofNat 0] rfl (OA.out _ hk2) _ (putL s) rfl (Reads.own hown18) hl10 (ZA.out _ hk2) ?_; intro v19 w3 hown3 hgr3; have hk3 := KA.out _ _ _ _ hk2 hgr3)
        | (refine step_appB rfl _ _ 23 rfl w1.heap.size 5 Tryz.underlying23 infoU8 (.slice (some ⟨w2.heap.size, 0, none⟩) 1 1) [UInt8.ofNat 0] rfl (OB.out _ hk2) _ (putL s) rfl ((Reads.own hown18).alloc _) hl10 (ZB.out _ hk2) ?_; intro v19 w3 hown3 hgr3; have hk3 := KB.out _ _ _ _ hk2 hgr3))
    all_goals (go_wp2_with fail; go_meet; exact ⟨hown3, hk3⟩)
  case rest =>
    obtain ⟨hown5, hk5⟩ := hcut
    have d0 := hk5.cell0 c0
    have d2 := hk5.cell0 c2
    have d3 := hk5.cell0 c3
    clear c0 c1 c2 c3 hb KK K3 OA OB ZA ZB KA KB
    go_wp2_with fail
    refine (refText_any key _ (by omega)).mono ?_
    rintro e w6 ⟨v6, rfl, hown6, hk6⟩
    have f0 := hk6.cell0 d0
    have f3 := hk6.cell0 d3
    have hown5b := own_kept0 hown5 hk6
    have hz5 := hk5.size
    have hz6 := hk6.size
    have hkl : (textL key.data.toList).length ≤ 110 := by
      unfold textL
      have := putL_len 9 key.data.toList.length (by rw [← size_len]; omega)
      rw [List.length_append, ← size_len]
      rw [← size_len] at this
      omega
    clear d0 d2 d3
    have hbody : UInt8.ofNat 0 :: putL s ++ textL key.data.toList = bodyL ⟨0, s, key, val⟩ := by simp [bodyL]
    have HB := Lib.hid hbody
    clear hbody
    go_wp2_with (at_builtin; refine wpList_appB rfl _ _ 23 rfl w1.heap.size 5 Tryz.underlying23 infoU8 _ _ (by rfl) hown5b _ (textL key.data.toList) (by rfl) (Reads.own hown6) (by simp; omega) (by omega) ?_; intro v9 w9 hown9 hgr9; (have hk9 : Kept noF w1 w9 := (hk5.trans0 hk6).grown hgr9 (fun k hk => .inr (own_from hown5b k hk))); (have g0 := hgr9.cell f0 (fun h => by have := own_from hown5b _ h.symm; simp at this; omega)); clear f0 f3; rw [HB.out] at hown9; (obtain ⟨A9, c9, rfl, hc9⟩ := own_form hown9))
    refine (refSeal_any A9 c9 _ w9 (Reads.own hown9) (by rw [← HB.out]; simp; omega)).mono ?_
    rintro e w10 ⟨v10, rfl, hown10, hk10⟩
    go_wp2_with fail
    go_ret
    exact ⟨_, rfl, own_base hown10 (by have := hk1.size; have := hk9.size; simp at *; omega), (((Kept.refl _ w).alloc _).trans0 hk1).trans0 (hk9.trans0 hk10)⟩

set_option maxHeartbeats 400000 in
set_option maxRecDepth 100000 in
theorem refEncode_Bad (r : Rec) (w : World) (hc : checkR r ≠ 0) :
    Calls Tryz.prog 8 #[r.v] w fun e w' => e = .returned (.slice none 0 0) ∧ Kept noF w w' := by
  obtain ⟨k, s, key, val⟩ := r
  unfold Rec.v
  simp only
  have h3 : (checkR ⟨k, s, key, val⟩ == 0) = false := by simpa using hc
  clear hc
  go_enter Tryz.func8, Tryz.ntmps8
  go_wp2_with fail
  refine (refCheck_any ⟨k, s, key, val⟩ _).mono ?_
  rintro e w1 ⟨rfl, hk1⟩
  go_wp2_with fail
  go_ret
  exact ⟨rfl, ((Kept.refl _ w).alloc _).trans0 hk1⟩

theorem refEncode_any (r : Rec) (w : World) :
    Calls Tryz.prog 8 #[r.v] w fun e w' => ∃ v, e = .returned (v) ∧ w'.ownsRow w.heap.size 5 1 v (encR r).length (bvs (encR r)) ∧ Kept noF w w' := by
  by_cases hc : checkR r = 0
  · unfold encR
    rw [if_pos hc]
    obtain ⟨h1, h2, h3, h4, h5, h6⟩ := checkR_ok hc
    obtain ⟨k, s, key, val⟩ := r
    simp only at h1 h2 h3 h4 h5 h6
    obtain ⟨s, rfl⟩ := Int.eq_ofNat_of_zero_le (show 0 ≤ s by omega)
    rcases h1 with rfl | ⟨rfl, h7⟩
    · exact refEncode_1 s key val w hc
    · exact refEncode_0 s key val w hc
  · unfold encR
    rw [if_neg hc]
    exact (refEncode_Bad r w hc).mono fun e w' ⟨he, hk⟩ => ⟨_, he, World.ownsRow_nil _ _ _ _, hk⟩

end Go.Proofs.YtflnekjmcpmbbaaGreatDoor
