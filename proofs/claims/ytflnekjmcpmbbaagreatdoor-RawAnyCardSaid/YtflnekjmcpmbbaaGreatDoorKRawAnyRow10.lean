/- Part 10 of the texts beneath: RawWrite, RawOpen, LawRaw, LawRaw2. -/
import Derived.Test.YtflnekjmcpmbbaaGreatDoorKRawAnyRow9
import Derived.Outline
import Derived.Deep.RegionHeld3
import Derived.Deep.DeepCutAuto

/- Walks: a file written beside, then named. -/
set_option linter.unusedVariables false
set_option linter.unusedSimpArgs false
set_option linter.unusedSectionVars false
namespace Go.Proofs.YtflnekjmcpmbbaaGreatDoor
open Go.RowKit Go.MapKept

def FsS.w1 (s : FsS) (beside : ByteArray) (f : Nat) : FsS := s.called.create beside f
def FsS.w2 (s : FsS) (beside : ByteArray) (b : List UInt8) (f : Nat) : FsS := (s.w1 beside f).called.put f (b, 0)
def FsS.w3 (s : FsS) (beside : ByteArray) (b : List UInt8) (f : Nat) : FsS := (s.w2 beside b f).called.put f (b, b.length)
def FsS.w4 (s : FsS) (name beside : ByteArray) (b : List UInt8) (f : Nat) : FsS := (s.w3 beside b f).called.rename beside name f
def FsS.written (s : FsS) (name beside : ByteArray) (b : List UInt8) (f : Nat) : FsS := (s.w4 name beside b f).called.synced
theorem sumL_mem_le {files : Nat → List UInt8 × Nat} {d : List (ByteArray × Nat)} (a : ByteArray) : sumL files (mdel d a) ≤ sumL files d := by
  induction d with
  | nil => simp [mdel, sumL]
  | cons p r ih =>
    unfold mdel at ih ⊢
    rw [List.filter_cons]
    split
    · rw [sumL_cons, sumL_cons]; omega
    · rw [sumL_cons]; omega
theorem sumL_congr {f1 f2 : Nat → List UInt8 × Nat} {d : List (ByteArray × Nat)} (h : ∀ p ∈ d, f1 p.2 = f2 p.2) : sumL f1 d = sumL f2 d := by
  unfold sumL
  rw [List.map_congr_left (fun p hp => by rw [h p hp])]
theorem FsS.w1_sum (s : FsS) (beside : ByteArray) (f : Nat) (hf : f ∉ s.ids) : sumL (s.w1 beside f).files (s.w1 beside f).dir ≤ sumL s.files s.dir := by
  show sumL (upd s.files f ([], 0)) ((beside, f) :: mdel s.dir beside) ≤ _
  rw [sumL_cons]
  have h1 : sumL (upd s.files f ([], 0)) (mdel s.dir beside) = sumL s.files (mdel s.dir beside) := sumL_congr (fun p hp => upd_ne _ _ (fun e => hf (by rw [← e]; exact mem_ids_dirp (mem_mdel hp))))
  rw [h1]
  have := sumL_mem_le (files := s.files) (d := s.dir) beside
  simp [upd]
  exact this

/-- The files behind the first so many steps. -/
def wrSt (F : Nat → Prop) (W0 : World) (g : Nat) (s : FsS) (name beside : ByteArray) (b : List UInt8) (k : Nat) (W : World) : Prop :=
  ∃ f F' sk, FsAt F' W g sk ∧ (∀ k, F' k → F k ∨ W0.heap.size ≤ k) ∧ Kept F W0 W ∧ W0.heap.size ≤ f ∧ f ∉ s.ids ∧
    (match k with | 0 => sk = s | 1 => sk = s.w1 beside f | 2 => sk = s.w2 beside b f | 3 => sk = s.w3 beside b f | 4 => sk = s.w4 name beside b f | _ => sk = s.written name beside b f)
theorem wrSt.next {F F1 F2 : Nat → Prop} {W0 W W' : World} (h1 : ∀ k, F1 k → F k ∨ W0.heap.size ≤ k) (hk : Kept F W0 W) (k : Kept F1 W W') (h2 : ∀ k, F2 k → F1 k ∨ W.heap.size ≤ k) : (∀ k, F2 k → F k ∨ W0.heap.size ≤ k) ∧ Kept F W0 W' := by
  refine ⟨fun i hi => ?_, hk.trans k (fun i hi hf => ?_)⟩
  · rcases h2 i hi with h | h
    · exact h1 i h
    · have := hk.size; exact .inr (by omega)
  · rcases h1 i hf with h | h
    · exact h
    · omega

section
variable {F : Nat → Prop} {g : Nat} {s : FsS} {W0 W : World} {name beside : ByteArray} {b : List UInt8} (hc : s.calls < 1000000000000) (hf : s.fail = -1) (hbe : mayR beside = true) (hna : mayR name = true)
  (hdir : mget s.dir beside = none → s.dir.length < 150) (hw : s.waits.length < 999999990) (hr : 0 ≤ s.room ∧ s.room ≤ 4194304) (hfit : (b.length : Int) ≤ s.room - sumL s.files s.dir)
include hc hf hbe hna hdir hw hr hfit
theorem wrStep1 (h : wrSt F W0 g s name beside b 0 W) : Calls Tryz.prog 6 #[ptrV g, .string beside] W fun e w' => e = .returned (.int .i64 0) ∧ wrSt F W0 g s name beside b 1 w' := by
  obtain ⟨f0, F1, sk, h1, h2, h3, h4, h5, rfl⟩ := h
  refine (Create_ok F1 g sk W beside h1 (by omega) (by omega) hbe hdir (by omega)).mono ?_
  rintro e w' ⟨rfl, f, F2, r1, r2, r3, r4⟩
  have hn := wrSt.next h2 h3 r2 r3
  refine ⟨rfl, f, F2, _, r1, hn.1, hn.2, by have := h3.size; omega, fun hm => ?_, rfl⟩
  obtain ⟨_, _, _, _, hin⟩ := h1
  have := hin.below _ (hin.inF f hm)
  omega
theorem wrStep2 {A : Option Addr} {c : Nat} (h : wrSt F W0 g s name beside b 1 W) (hbs : Reads W0 (.slice A b.length c) 1 b.length (bvs b)) (hfar : 0 < b.length → ∀ k, (Value.slice A b.length c).ownBlock = some k → ¬ F k) : Calls Tryz.prog 7 #[ptrV g, .string beside, .slice A b.length c] W fun e w' => e = .returned (.int .i64 0) ∧ wrSt F W0 g s name beside b 2 w' := by
  obtain ⟨f, F1, sk, h1, h2, h3, h4, h5, rfl⟩ := h
  have hd : mget (s.w1 beside f).dir beside = some f := by show mget (mput s.dir beside f) beside = some f; rw [mget_put, if_pos rfl]
  have hs := s.w1_sum beside f h5
  have hfl : (s.w1 beside f).fail = -1 := by show failR s.fail = -1; rw [hf]; rfl
  refine (Append_ok F1 g f (s.w1 beside f) W beside A c b h1 (by show s.calls + 1 < _; omega) (by rw [hfl]; decide) hd hr (by show (b.length : Int) ≤ s.room - _; omega) (hbs.kept h3 hfar) (fun hp k hk hF => ?_)).mono ?_
  · rcases h2 k hF with h | h
    · exact hfar hp k hk h
    · obtain ⟨k2, e, hl⟩ := hbs.lt (by omega) hp
      rw [e] at hk; cases hk
      omega
  · rintro e w' ⟨F2, rfl, r1, r2, r3⟩
    have hn := wrSt.next h2 h3 r2 r3
    refine ⟨rfl, f, F2, _, r1, hn.1, hn.2, h4, h5, ?_⟩
    show (s.w1 beside f).called.put f (_ ++ b, _) = (s.w1 beside f).called.put f (b, 0)
    have e1 : (s.w1 beside f).files f = ([], 0) := upd_same _ _ _
    rw [e1]
    rfl
theorem wrStep3 (h : wrSt F W0 g s name beside b 2 W) : Calls Tryz.prog 11 #[ptrV g, .string beside] W fun e w' => e = .returned (.int .i64 0) ∧ wrSt F W0 g s name beside b 3 w' := by
  obtain ⟨f, F1, sk, h1, h2, h3, h4, h5, rfl⟩ := h
  have hd : mget (s.w2 beside b f).dir beside = some f := by show mget (mput s.dir beside f) beside = some f; rw [mget_put, if_pos rfl]
  have hfl : (s.w2 beside b f).fail = -1 := by show failR (failR s.fail) = -1; rw [hf]; rfl
  refine (Sync_ok F1 g f (s.w2 beside b f) W beside h1 (by show s.calls + 1 + 1 < _; omega) (by rw [hfl]; decide) hd).mono ?_
  rintro e w' ⟨rfl, r1, r2⟩
  have hn := wrSt.next h2 h3 r2 (fun k hk => .inl hk)
  refine ⟨rfl, f, F1, _, r1, hn.1, hn.2, h4, h5, ?_⟩
  show (s.w2 beside b f).called.put f _ = (s.w2 beside b f).called.put f (b, b.length)
  have e1 : (s.w2 beside b f).files f = (b, 0) := upd_same _ _ _
  rw [e1]
theorem wrStep4 (h : wrSt F W0 g s name beside b 3 W) : Calls Tryz.prog 58 #[ptrV g, .string beside, .string name] W fun e w' => e = .returned (.int .i64 0) ∧ wrSt F W0 g s name beside b 4 w' := by
  obtain ⟨f, F1, sk, h1, h2, h3, h4, h5, rfl⟩ := h
  have hd : mget (s.w3 beside b f).dir beside = some f := by show mget (mput s.dir beside f) beside = some f; rw [mget_put, if_pos rfl]
  have hfl : (s.w3 beside b f).fail = -1 := by show failR (failR (failR s.fail)) = -1; rw [hf]; rfl
  have hwl : (s.w3 beside b f).waits.length < 1000000000 := by show (s.waits ++ [_]).length < _; simp; omega
  refine (Rename_ok F1 g f (s.w3 beside b f) W beside name h1 (by show s.calls + 1 + 1 + 1 < _; omega) (by rw [hfl]; decide) hd hna hwl).mono ?_
  rintro e w' ⟨rfl, F2, r1, r2, r3⟩
  have hn := wrSt.next h2 h3 r2 r3
  exact ⟨rfl, f, F2, _, r1, hn.1, hn.2, h4, h5, rfl⟩
theorem wrStep5 (h : wrSt F W0 g s name beside b 4 W) : Calls Tryz.prog 12 #[ptrV g] W fun e w' => e = .returned (.int .i64 0) ∧ wrSt F W0 g s name beside b 5 w' := by
  obtain ⟨f, F1, sk, h1, h2, h3, h4, h5, rfl⟩ := h
  have hfl : (s.w4 name beside b f).fail = -1 := by show failR (failR (failR (failR s.fail))) = -1; rw [hf]; rfl
  refine (SyncDir_ok F1 g (s.w4 name beside b f) W h1 (by show s.calls + 1 + 1 + 1 + 1 < _; omega) (by rw [hfl]; decide)).mono ?_
  rintro e w' ⟨rfl, F2, r1, r2, r3⟩
  have hn := wrSt.next h2 h3 r2 r3
  exact ⟨rfl, f, F2, _, r1, hn.1, hn.2, h4, h5, rfl⟩

set_option maxHeartbeats 1000000 in
set_option maxRecDepth 100000 in
theorem Write_ok (w : World) (A : Option Addr) (c : Nat) (h : FsAt F w g s) (hbs : Reads w (.slice A b.length c) 1 b.length (bvs b)) (hfar : 0 < b.length → ∀ k, (Value.slice A b.length c).ownBlock = some k → ¬ F k) :
    Calls Tryz.prog 37 #[ptrV g, .string name, .string beside, .slice A b.length c] w fun e w' => e = .returned (.int .i64 0) ∧ ∃ f F', FsAt F' w' g (s.written name beside b f) ∧ Kept F w w' ∧ (∀ k, F' k → F k ∨ w.heap.size ≤ k) ∧ f ∉ s.ids ∧ w.heap.size ≤ f := by
  have S1 := fun W0 W => @wrStep1 F g s W0 W name beside b hc hf hbe hna hdir hw hr hfit
  have S2 := fun W0 W => @wrStep2 F g s W0 W name beside b hc hf hbe hna hdir hw hr hfit
  have S3 := fun W0 W => @wrStep3 F g s W0 W name beside b hc hf hbe hna hdir hw hr hfit
  have S4 := fun W0 W => @wrStep4 F g s W0 W name beside b hc hf hbe hna hdir hw hr hfit
  have S5 := fun W0 W => @wrStep5 F g s W0 W name beside b hc hf hbe hna hdir hw hr hfit
  obtain ⟨W0, hW0⟩ : ∃ W0 : World, W0 = ((((w.alloc (.cells #[.pointer (some ⟨g, 0, none⟩)] 25)).alloc (.cells #[.string name] 9)).alloc (.cells #[.string beside] 9)).alloc (.cells #[.slice A b.length c] 23)).alloc (.cells #[.func (.func 54) #[] #[.pointer (some ⟨w.heap.size, 0, none⟩), .pointer (some ⟨w.heap.size + 1 + 1, 0, none⟩)], .func (.func 55) #[] #[.pointer (some ⟨w.heap.size, 0, none⟩), .pointer (some ⟨w.heap.size + 1 + 1, 0, none⟩), .pointer (some ⟨w.heap.size + 1 + 1 + 1, 0, none⟩)], .func (.func 56) #[] #[.pointer (some ⟨w.heap.size, 0, none⟩), .pointer (some ⟨w.heap.size + 1 + 1, 0, none⟩)], .func (.func 57) #[] #[.pointer (some ⟨w.heap.size, 0, none⟩), .pointer (some ⟨w.heap.size + 1 + 1, 0, none⟩), .pointer (some ⟨w.heap.size + 1, 0, none⟩)], .func (.func 12) #[.pointer (some ⟨g, 0, none⟩)] #[]] 36) := ⟨_, rfl⟩
  have hz0 : W0.heap.size = w.heap.size + 5 := by rw [hW0]; simp
  have hk0 : Kept noF w W0 := by rw [hW0]; exact (((((Kept.refl noF w).alloc _).alloc _).alloc _).alloc _).alloc _
  have hFlt : ∀ k, F k → k < w.heap.size := by obtain ⟨_, _, _, _, hin⟩ := h; exact hin.below
  have hfn : ∀ W, Kept F W0 W → W.cell? ⟨w.heap.size, 0, none⟩ = some (.pointer (some ⟨g, 0, none⟩)) ∧ W.cell? ⟨w.heap.size + 1, 0, none⟩ = some (.string name) ∧ W.cell? ⟨w.heap.size + 1 + 1, 0, none⟩ = some (.string beside) ∧ W.cell? ⟨w.heap.size + 1 + 1 + 1, 0, none⟩ = some (.slice A b.length c) ∧ W.cell? ⟨w.heap.size + 1 + 1 + 1 + 1, 0, none⟩ = some (.func (.func 54) #[] #[.pointer (some ⟨w.heap.size, 0, none⟩), .pointer (some ⟨w.heap.size + 1 + 1, 0, none⟩)]) ∧ W.cell? ⟨w.heap.size + 1 + 1 + 1 + 1, 1, none⟩ = some (.func (.func 55) #[] #[.pointer (some ⟨w.heap.size, 0, none⟩), .pointer (some ⟨w.heap.size + 1 + 1, 0, none⟩), .pointer (some ⟨w.heap.size + 1 + 1 + 1, 0, none⟩)]) ∧ W.cell? ⟨w.heap.size + 1 + 1 + 1 + 1, 2, none⟩ = some (.func (.func 56) #[] #[.pointer (some ⟨w.heap.size, 0, none⟩), .pointer (some ⟨w.heap.size + 1 + 1, 0, none⟩)]) ∧ W.cell? ⟨w.heap.size + 1 + 1 + 1 + 1, 3, none⟩ = some (.func (.func 57) #[] #[.pointer (some ⟨w.heap.size, 0, none⟩), .pointer (some ⟨w.heap.size + 1 + 1, 0, none⟩), .pointer (some ⟨w.heap.size + 1, 0, none⟩)]) ∧ W.cell? ⟨w.heap.size + 1 + 1 + 1 + 1, 4, none⟩ = some (.func (.func 12) #[.pointer (some ⟨g, 0, none⟩)] #[]) := by
    intro W hk
    have g4 : W0.heap[w.heap.size]? = some (.cells #[.pointer (some ⟨g, 0, none⟩)] 25) := by rw [hW0]; exact blk_alloc (blk_alloc (blk_alloc (blk_alloc (blk_new w _) _) _) _) _
    have g5 : W0.heap[w.heap.size + 1]? = some (.cells #[.string name] 9) := by rw [hW0]; exact blk_alloc (blk_alloc (blk_alloc (blk_new' _ _ _ (by simp)) _) _) _
    have g6 : W0.heap[w.heap.size + 1 + 1]? = some (.cells #[.string beside] 9) := by rw [hW0]; exact blk_alloc (blk_alloc (blk_new' _ _ _ (by simp)) _) _
    have g7 : W0.heap[w.heap.size + 1 + 1 + 1]? = some (.cells #[.slice A b.length c] 23) := by rw [hW0]; exact blk_alloc (blk_new' _ _ _ (by simp)) _
    have g8 : W0.heap[w.heap.size + 1 + 1 + 1 + 1]? = some (.cells #[.func (.func 54) #[] #[.pointer (some ⟨w.heap.size, 0, none⟩), .pointer (some ⟨w.heap.size + 1 + 1, 0, none⟩)], .func (.func 55) #[] #[.pointer (some ⟨w.heap.size, 0, none⟩), .pointer (some ⟨w.heap.size + 1 + 1, 0, none⟩), .pointer (some ⟨w.heap.size + 1 + 1 + 1, 0, none⟩)], .func (.func 56) #[] #[.pointer (some ⟨w.heap.size, 0, none⟩), .pointer (some ⟨w.heap.size + 1 + 1, 0, none⟩)], .func (.func 57) #[] #[.pointer (some ⟨w.heap.size, 0, none⟩), .pointer (some ⟨w.heap.size + 1 + 1, 0, none⟩), .pointer (some ⟨w.heap.size + 1, 0, none⟩)], .func (.func 12) #[.pointer (some ⟨g, 0, none⟩)] #[]] 36) := by rw [hW0]; exact blk_new' _ _ _ (by simp)
    have nf : ∀ k, w.heap.size ≤ k → ¬ F k := fun k hk hf => by have := hFlt k hf; omega
    have m4 := hk.blk g4 (nf _ (by omega))
    have m5 := hk.blk g5 (nf _ (by omega))
    have m6 := hk.blk g6 (nf _ (by omega))
    have m7 := hk.blk g7 (nf _ (by omega))
    have m8 := hk.blk g8 (nf _ (by omega))
    exact ⟨blk_cell m4 0 rfl, blk_cell m5 0 rfl, blk_cell m6 0 rfl, blk_cell m7 0 rfl, blk_cell m8 0 rfl, blk_cell m8 1 rfl, blk_cell m8 2 rfl, blk_cell m8 3 rfl, blk_cell m8 4 rfl⟩
  have hst0 : wrSt F W0 g s name beside b 0 W0 := ⟨W0.heap.size, F, s, h.kept hk0 (fun _ _ h => h), fun k hk => .inl hk, Kept.refl _ _, Nat.le_refl _, fun hm => by
    obtain ⟨_, _, _, _, hin⟩ := h
    have := hin.below _ (hin.inF _ hm)
    omega, rfl⟩
  have hkst : ∀ k W, wrSt F W0 g s name beside b k W → Kept F W0 W := fun k W h => by obtain ⟨_, _, _, _, _, h3, _⟩ := h; exact h3
  have HB0 := Lib.hid (hbs.kept0 hk0)
  have HFN := Lib.hid hfn
  have HST0 := Lib.hid hst0
  have HKST := Lib.hid hkst
  have HK0 := Lib.hid hk0
  have HZ0 := Lib.hid hz0
  have HW0 := Lib.hid hW0
  clear hfn hst0 hkst hk0 hz0 hW0 hFlt
  have HS1 := Lib.hid S1
  have HS2 := Lib.hid S2
  have HS3 := Lib.hid S3
  have HS4 := Lib.hid S4
  have HS5 := Lib.hid S5
  have HFAR := Lib.hid hfar
  clear S1 S2 S3 S4 S5 h hbs hfar hc hf hbe hna hdir hw hr hfit
  unfold ptrV at *
  go_enter Tryz.func37, Tryz.ntmps37
  go_wp2_with fail
  rw [← HW0.out]
  go_loopw [20] (fun i wr => ∃ k : Nat, k ≤ 5 ∧ i = .int .i64 k ∧ wrSt F W0 g s name beside b k wr) (fun i _ => 5 - (intOf i).toNat)
  case atStart => exact ⟨0, by omega, rfl, HST0.out⟩
  case round =>
    obtain ⟨k, hk, rfl, hst⟩ := hrel
    obtain ⟨x4, x5, x6, x7, z0, z1, z2, z3, z4⟩ := HFN.out wr (HKST.out k wr hst)
    have HST := Lib.hid hst
    clear hst
    rcases (show k = 0 ∨ k = 1 ∨ k = 2 ∨ k = 3 ∨ k = 4 ∨ k = 5 from by omega) with rfl | rfl | rfl | rfl | rfl | rfl
    · have Q := Lib.hid (wr1 x4 x6 (HS1.out W0 wr HST.out))
      go_wp2_with (go_at_call 54; refine Q.out.mono ?_; rintro e w2 ⟨rfl, hp⟩; (have HP := Lib.hid hp); clear hp)
      exact ⟨⟨1, by omega, rfl, HP.out⟩, by simp [intOf]⟩
    · have Q := Lib.hid (wr2 x4 x6 x7 (HS2.out W0 wr HST.out HB0.out HFAR.out))
      go_wp2_with (go_at_call 55; refine Q.out.mono ?_; rintro e w2 ⟨rfl, hp⟩; (have HP := Lib.hid hp); clear hp)
      exact ⟨⟨2, by omega, rfl, HP.out⟩, by simp [intOf]⟩
    · have Q := Lib.hid (wr3 x4 x6 (HS3.out W0 wr HST.out))
      go_wp2_with (go_at_call 56; refine Q.out.mono ?_; rintro e w2 ⟨rfl, hp⟩; (have HP := Lib.hid hp); clear hp)
      exact ⟨⟨3, by omega, rfl, HP.out⟩, by simp [intOf]⟩
    · have Q := Lib.hid (wr4 x4 x5 x6 (HS4.out W0 wr HST.out))
      go_wp2_with (go_at_call 57; refine Q.out.mono ?_; rintro e w2 ⟨rfl, hp⟩; (have HP := Lib.hid hp); clear hp)
      exact ⟨⟨4, by omega, rfl, HP.out⟩, by simp [intOf]⟩
    · have Q := Lib.hid (HS5.out W0 wr HST.out)
      go_wp2_with (go_at_call 12; refine Q.out.mono ?_; rintro e w2 ⟨rfl, hp⟩; (have HP := Lib.hid hp); clear hp)
      exact ⟨⟨5, by omega, rfl, HP.out⟩, by simp [intOf]⟩
    · go_wp2_with fail
      go_ret
      obtain ⟨f, F', sk, r1, r2, r3, r4, r5, rfl⟩ := HST.out
      have hz := HZ0.out
      refine ⟨rfl, f, F', r1, (HK0.out.of0 (F := F)).transF r3, fun k hk => ?_, r5, by omega⟩
      rcases r2 k hk with h1 | h1
      · exact .inl h1
      · exact .inr (by omega)
end
end Go.Proofs.YtflnekjmcpmbbaaGreatDoor

/- Walks: a segment is opened. -/
set_option linter.unusedVariables false
set_option linter.unusedSimpArgs false
namespace Go.Proofs.YtflnekjmcpmbbaaGreatDoor
open Go.RowKit Go.MapKept

def recLens (l : List Rec) : List Nat := l.map fun r => (encR r).length
theorem recLens_le (l : List Rec) (k : Nat) : (recLens (l.take k)).sum ≤ (recLens l).sum := by
  unfold recLens
  rw [List.map_take]
  exact sum_take_le _ _
theorem recLens_succ (l : List Rec) (k : Nat) (h : k < l.length) : recLens (l.take (k + 1)) = recLens (l.take k) ++ [(encR l[k]).length] := by
  rw [List.take_succ_eq_append_getElem h]
  unfold recLens
  rw [List.map_append]
  rfl
/-- The cells of an owned list of records. -/
theorem rcells_get : ∀ (l : List Rec) (k j : Nat) (h : k < l.length), j < 4 → (rcells l)[k * 4 + j]? = (l[k].cells)[j]?
  | [], _, _, h, _ => by simp at h
  | c :: r, k, j, h, hj => by
    have hl : c.cells.length = 4 := rfl
    unfold rcells
    rw [List.flatMap_cons]
    cases k with
    | zero => rw [List.getElem?_append_left (by omega)]; simp
    | succ k =>
      rw [List.getElem?_append_right (by omega), hl]
      have := rcells_get r k j (by simpa using h) hj
      rw [show (k + 1) * 4 + j - 4 = k * 4 + j from by omega]
      exact this
/-- What an owned list of records is good for once its owner is forgotten: its cells. -/
def SeesRecs (w : World) (v : Value) (R : List Rec) : Prop := Reads w v 4 R.length (rcells R)
theorem SeesRecs.own {w : World} {base : Nat} {v : Value} {R : List Rec} (h : OwnRecs w base v R) : SeesRecs w v R := Reads.own h
theorem SeesRecs.kept0 {w w' : World} {v : Value} {R : List Rec} (h : SeesRecs w v R) (k : Kept noF w w') : SeesRecs w' v R := Reads.kept0 h k
theorem SeesRecs.keptF {F : Nat → Prop} {w w' : World} {v : Value} {R : List Rec} (h : SeesRecs w v R) (k : Kept F w w') (hF : ∀ b, v.ownBlock = some b → ¬ F b) : SeesRecs w' v R := Reads.kept h k (fun _ b hb => hF b hb)
theorem recs_at {w : World} {A : Option Addr} {c : Nat} {R : List Rec} (h : SeesRecs w (.slice A R.length c) R) (hn : 0 < R.length) : ∃ g o, A = some ⟨g, o, none⟩ ∧ ∀ k j u (hk : k < R.length), (R[k].cells)[j]? = some u → w.cell? ⟨g, o + (k * 4 + j), none⟩ = some u := by
  obtain ⟨h1, h2, A', c', e, h3, h4⟩ := h
  cases e
  obtain ⟨b, o, rfl, hc⟩ := h4 hn
  refine ⟨b, o, rfl, fun k j u hk hu => hc _ _ ?_⟩
  have hj : j < 4 := by
    have := (List.getElem?_eq_some_iff.1 hu).1
    exact this
  rw [rcells_get R k j hk hj]
  exact hu

/-- The files behind an opening: where the end is torn, the whole records are written anew. -/
def OpenSt (s : FsS) (name beside : ByteArray) (bs : List UInt8) (e : Nat) (ss : FsS) : Prop :=
  (e = bs.length ∧ ss = s) ∨ (e < bs.length ∧ ∃ f2, f2 ∉ s.ids ∧ ss = s.written name beside (bs.take e) f2)

set_option maxHeartbeats 1000000 in
set_option maxRecDepth 100000 in
theorem rawOpen_none (F : Nat → Prop) (w : World) (g : Nat) (s : FsS) (num : Int) (name : ByteArray) (hN : ∀ w, Calls Tryz.prog 22 #[.int .i64 num] w fun e w' => e = .returned (.string name) ∧ w = w')
    (h : FsAt F w g s) (hn : mget s.dir name = none) :
    Calls Tryz.prog 14 #[ptrV g, .int .i64 num] w fun e w' => e = .returned (.tuple #[.pointer none, .int .i64 3]) ∧ w = w' := by
  have q := Read_none F g s w name h hn
  have Q := Lib.hid q
  have HNM := Lib.hid hN
  clear q hN h hn
  unfold ptrV at *
  go_enter Tryz.func14, Tryz.ntmps14
  go_wp2_with (first | (go_at_call 22; refine (HNM.out _).mono ?_; rintro e w' ⟨rfl, rfl⟩) | (go_at_call 9; refine Q.out.mono ?_; rintro e w2 ⟨rfl, rfl⟩))
  go_ret2
  exact ⟨rfl, rfl⟩
set_option maxHeartbeats 1000000 in
set_option maxRecDepth 100000 in
theorem rawOpen_bad (F : Nat → Prop) (w : World) (g f : Nat) (s : FsS) (num : Int) (name : ByteArray) (hN : ∀ w, Calls Tryz.prog 22 #[.int .i64 num] w fun e w' => e = .returned (.string name) ∧ w = w')
    (h : FsAt F w g s) (hn : mget s.dir name = some f) (hlen : (s.files f).1.length < 4294967296) (hbad : (scanF (s.files f).1).2.2 = false) :
    Calls Tryz.prog 14 #[ptrV g, .int .i64 num] w fun e w' => e = .returned (.tuple #[.pointer none, .int .i64 6]) ∧ Kept noF w w' := by
  have q := Read_some F g f s w name h hn (by omega)
  have qs : ∀ (W : World) (A : Option Addr) (c : Nat), Reads W (.slice A (s.files f).1.length c) 1 (s.files f).1.length (bvs (s.files f).1) → Calls Tryz.prog 36 #[.slice A (s.files f).1.length c] W fun e w' => ∃ v x, e = .returned (.tuple #[v, .int .i64 x, .bool false]) ∧ Kept noF W w' := by
    intro W A c hr
    refine (RScan_any A c (s.files f).1 W hr hlen).mono ?_
    rintro e w' ⟨v, rfl, _, hk⟩
    unfold scanF at hbad
    simp only at hbad
    rw [hbad]
    exact ⟨v, _, rfl, hk⟩
  have Q := Lib.hid q
  have QS := Lib.hid qs
  have HNM := Lib.hid hN
  clear q qs hN h hn hbad
  generalize (s.files f).1 = bs at *
  unfold ptrV at *
  go_enter Tryz.func14, Tryz.ntmps14
  go_wp2_with (first | (go_at_call 22; refine (HNM.out _).mono ?_; rintro e w' ⟨rfl, rfl⟩) | (go_at_call 9; refine Q.out.mono ?_; rintro e w2 ⟨v2, rfl, hown2, hk2⟩; (obtain ⟨A2, c2, rfl, hc2⟩ := own_form hown2); (have QS2 := Lib.hid (QS.out w2 A2 c2 (Reads.own hown2))); (have HK2 := Lib.hid hk2); clear hown2 hk2 hc2) | (go_at_call 36; refine QS2.out.mono ?_; rintro e w3 ⟨v3, x3, rfl, hk3⟩; (have HK3 := Lib.hid hk3); clear hk3))
  go_ret2
  exact ⟨rfl, HK2.out.trans0 HK3.out⟩

set_option maxHeartbeats 400000 in
set_option maxRecDepth 100000 in
theorem rawOpen_ok (F : Nat → Prop) (w : World) (g f : Nat) (s : FsS) (num : Int) (name numS beside : ByteArray) (R : List Rec) (E : Nat) (hN : ∀ w, Calls Tryz.prog 22 #[.int .i64 num] w fun e w' => e = .returned (.string name) ∧ w = w')
    (hI : ∀ w, Calls Tryz.prog 38 #[.int .i64 num, .int .i64 10] w fun e w' => e = .returned (.string numS) ∧ w = w') (hbs : beside = numS ++ ⟨#[46, 110, 101, 119]⟩) (hns : numS.size ≤ 20)
    (h : FsAt F w g s) (hn : mget s.dir name = some f) (hlen : (s.files f).1.length < 4194304) (hok : scanF (s.files f).1 = (R, E, true)) (hE : E ≤ (s.files f).1.length) (hRl : R.length < 100000000) (hsum : (recLens R).sum < 1000000000000)
    (hc : s.calls < 1000000000000) (hf : s.fail = -1) (hbe : mayR beside = true) (hna : mayR name = true)
    (hdir : mget s.dir beside = none → s.dir.length < 150) (hw : s.waits.length < 999999990) (hr : 0 ≤ s.room ∧ s.room ≤ 4194304) (hfit : E < (s.files f).1.length → (E : Int) ≤ s.room - sumL s.files s.dir) :
    Calls Tryz.prog 14 #[ptrV g, .int .i64 num] w fun e w' => ∃ sg FF GG ss, e = .returned (.tuple #[ptrV sg, .int .i64 0]) ∧ FsAt FF w' g ss ∧ SegAt GG w' sg g name (recLens R) ∧ (∀ k, GG k → ¬ FF k) ∧ Kept F w w' ∧ (∀ k, FF k → F k ∨ w.heap.size ≤ k) ∧ (∀ k, GG k → w.heap.size ≤ k) ∧ OpenSt s name beside (s.files f).1 E ss := by
  subst hbs
  have q := Read_some F g f s w name h hn (by omega)
  have hbF : ∀ k, F k → k < w.heap.size := by obtain ⟨_, _, _, _, hin⟩ := h; exact hin.below
  have qs : ∀ (W : World) (A : Option Addr) (c : Nat), Reads W (.slice A (s.files f).1.length c) 1 (s.files f).1.length (bvs (s.files f).1) → Calls Tryz.prog 36 #[.slice A (s.files f).1.length c] W fun e w' => ∃ v, e = .returned (.tuple #[v, .int .i64 (E : Nat), .bool true]) ∧ OwnRecs w' W.heap.size v R ∧ Kept noF W w' := by
    intro W A c hr
    refine (RScan_any A c (s.files f).1 W hr (by omega)).mono ?_
    rintro e w' ⟨v, rfl, ho, hk⟩
    unfold scanF at hok
    simp only [Prod.mk.injEq] at hok
    rw [hok.1] at ho
    rw [hok.2.1, hok.2.2]
    exact ⟨v, rfl, ho, hk⟩
  have qw : ∀ (W : World) (A : Option Addr) (c : Nat), E < (s.files f).1.length → Kept noF w W → Reads W (.slice A (s.files f).1.length c) 1 (s.files f).1.length (bvs (s.files f).1) → (∀ b, (Value.slice A (s.files f).1.length c).ownBlock = some b → w.heap.size ≤ b) →
      (∀ w' : World, (Instr.slice 23 (.slice A (s.files f).1.length c) none (some (.int .i64 (E : Nat))) none).run Tryz.prog w' = .ok (.slice A E c) w') ∧
      Calls Tryz.prog 37 #[ptrV g, .string name, .string (numS ++ ⟨#[46, 110, 101, 119]⟩), .slice A E c] W fun e w' => e = .returned (.int .i64 0) ∧ ∃ FF ss, FsAt FF w' g ss ∧ Kept F w w' ∧ Kept F W w' ∧ (∀ k, FF k → F k ∨ W.heap.size ≤ k) ∧ (∀ k, FF k → k < w'.heap.size) ∧ OpenSt s name (numS ++ ⟨#[46, 110, 101, 119]⟩) (s.files f).1 E ss := by
    intro W A c hlt hk hrd hbb
    obtain ⟨k1, k2⟩ := cut_h (P := Tryz.prog) Tryz.underlying23 infoU8 (by decide) hrd E hE E rfl .i64
    refine ⟨k1, ?_⟩
    have e1 : (bvs (s.files f).1).take (E * 1) = bvs ((s.files f).1.take E) := by simp [bvs, List.map_take]
    have el : ((s.files f).1.take E).length = E := by rw [List.length_take]; omega
    rw [e1] at k2
    have := Write_ok (b := (s.files f).1.take E) hc hf hbe hna hdir hw hr (by rw [el]; exact hfit hlt) W A c (h.kept hk (fun _ _ h => h)) (by rw [el]; exact k2) (fun _ k hk2 hF => by
      have h1 := hbb k (by rw [← hk2]; cases A <;> rfl)
      have h2 := hbF k hF
      omega)
    rw [el] at this
    refine this.mono ?_
    rintro e w' ⟨rfl, f2, FF, r1, r2, r3, r4, r5⟩
    refine ⟨rfl, FF, _, r1, (hk.of0 (F := F)).transF r2, r2, r3, ?_, .inr ⟨hlt, f2, r4, rfl⟩⟩
    obtain ⟨_, _, _, _, hin⟩ := r1
    exact hin.below
  have Q := Lib.hid q
  have QS := Lib.hid qs
  have QW := Lib.hid qw
  have HNM := Lib.hid hN
  have HI := Lib.hid hI
  have HBF := Lib.hid hbF
  have HFS0 := Lib.hid h
  clear q qs qw hN hI hbF h hn hok hfit hc hf hbe hna hdir hw hr
  generalize (s.files f).1 = bs at *
  have HSUM := Lib.hid hsum
  have HRL := Lib.hid hRl
  clear hsum
  unfold ptrV at *
  by_cases hlt : E < bs.length
  · go_enter Tryz.func14, Tryz.ntmps14
    go_upto_region 8 with (first | (go_at_call 22; refine (HNM.out _).mono ?_; rintro e w' ⟨rfl, rfl⟩) | (go_at_call 9; refine Q.out.mono ?_; rintro e w2 ⟨v2, rfl, hown2, hk2⟩; (obtain ⟨A2, c2, rfl, hc2⟩ := own_form hown2); (have QS2 := Lib.hid (QS.out w2 A2 c2 (Reads.own hown2))); (have HK2 := Lib.hid hk2); (have HO2 := Lib.hid hown2); clear hown2 hk2 hc2) | (go_at_call 36; refine QS2.out.mono ?_; rintro e w4 ⟨v3, rfl, ho3, hk3⟩; (obtain ⟨A3, c3, rfl, hc3⟩ := own_form ho3); (have HK3 := Lib.hid hk3); (have HO3 := Lib.hid ho3); clear hk3 ho3 hc3))
    have hk4 : Kept noF w w4 := HK2.out.trans0 HK3.out
    have hns1 : ¬ 9223372036854775807 < numS.size + 4 := by omega
    obtain ⟨hsl, hqw⟩ := QW.out w4.drew A2 c2 hlt hk4.drew (Reads.own (own_kept0 HO2.out HK3.out.drew)) (fun b hb => own_from HO2.out b hb)
    have HQW := Lib.hid hqw
    have HK4 := Lib.hid hk4
    clear hqw hk4
    go_region_held3 (fun w' => True) (first | go_keep | exact trivial)
      (first | (go_at_call 22; refine (HNM.out _).mono ?_; rintro e w' ⟨rfl, rfl⟩) | (go_at_call 38; refine (HI.out _).mono ?_; rintro e w' ⟨rfl, rfl⟩) | (go_at_call 37; refine HQW.out.mono ?_; rintro e w3 ⟨rfl, hpost⟩; (have HP := Lib.hid hpost); clear hpost))
    all_goals
      obtain ⟨FF, ss, r1, r2, r3, r4, r5, r6⟩ := HP.out
      have hz4 := HK4.out.size
      have hz2 := HK2.out.size
      have hrec : SeesRecs w3 (.slice A3 R.length c3) R := (SeesRecs.own HO3.out).keptF ((Kept.refl F w4).drew.transF r3) (fun b hb hF => by have := own_from HO3.out b hb; have := HBF.out b hF; omega)
      have HRB : Hid (∀ b, (Value.slice A3 R.length c3).ownBlock = some b → b < w3.heap.size) := Lib.hid (fun b hb => Nat.lt_of_lt_of_le (own_lt HO3.out b hb) r3.size)
      have HFFN : Hid (∀ k, FF k → F k ∨ w.heap.size ≤ k) := Lib.hid (fun k hk => (r4 k hk).imp id (fun h => by have : w4.heap.size ≤ k := h; omega))
      have HFS := Lib.hid r1
      have HKU := Lib.hid r2
      have HBEL := Lib.hid r5
      have HSS := Lib.hid r6
      have HREC0 := Lib.hid hrec
      clear r1 r2 r3 r4 r5 r6 hz4 hz2 hrec HP hsl hns1 HQW
      go_upto_region 12 with (go_at_call 22; refine (HNM.out _).mono ?_; rintro e w' ⟨rfl, rfl⟩)
      have hsgW : SegAt (fun k => k = w3.heap.size) (w3.alloc (.cells #[.pointer (some ⟨g, 0, none⟩), .string name, .slice none 0 0, .int .i64 0] 78)) w3.heap.size g name [] := ⟨.slice none 0 0, ⟨blk_new _ _, World.ownsRow_nil _ _ _ _⟩, rfl, by simp [Value.ownBlock], by simp⟩
      have HSG := Lib.hid hsgW
      have HREC := Lib.hid (HREC0.out.kept0 ((Kept.refl noF w3).alloc (.cells #[.pointer (some ⟨g, 0, none⟩), .string name, .slice none 0 0, .int .i64 0] 78)))
      have HZW : Hid ((w3.alloc (.cells #[.pointer (some ⟨g, 0, none⟩), .string name, .slice none 0 0, .int .i64 0] 78)).heap.size = w3.heap.size + 1) := Lib.hid (by simp)
      have HKW : Hid (Kept noF w3 (w3.alloc (.cells #[.pointer (some ⟨g, 0, none⟩), .string name, .slice none 0 0, .int .i64 0] 78))) := Lib.hid ((Kept.refl _ _).alloc _)
      clear hsgW
      generalize (w3.alloc (.cells #[.pointer (some ⟨g, 0, none⟩), .string name, .slice none 0 0, .int .i64 0] 78)) = W1 at *
      go_wp2_with fail
      go_loopw [59] (fun i wr => ∃ (k : Nat) (Gk : Nat → Prop), k ≤ R.length ∧ i = .int .i64 k ∧ SegAt Gk wr w3.heap.size g name (recLens (R.take k)) ∧ (∀ b, Gk b → w3.heap.size ≤ b) ∧ Kept (fun b => w3.heap.size ≤ b) W1 wr) (fun i _ => R.length - (intOf i).toNat)
      case atStart => exact ⟨0, _, Nat.zero_le _, rfl, HSG.out, fun b hb => by omega, Kept.refl _ _⟩
      case round =>
        obtain ⟨k, Gk, hk, rfl, hsg, hG, hkr⟩ := hrel
        by_cases hlk : k < R.length
        · obtain ⟨gr, orr, rfl, hcell⟩ := recs_at (HREC.out.keptF hkr (fun b hb hf => by have := HRB.out b hb; omega)) (by omega)
          have hlen := recLens_succ R k hlk
          have hbnd : (recLens (R.take k)).sum + (encR R[k]).length < 4611686018427387904 ∧ (recLens (R.take k)).length < 1000000000 := by
            have h1 := recLens_le R (k + 1)
            have h2 := HSUM.out
            have h3 := HRL.out
            rw [hlen] at h1
            simp at h1
            refine ⟨by omega, ?_⟩
            simp [recLens]; omega
          have HLEN := Lib.hid hlen
          have HBND := Lib.hid hbnd
          have hcell2 := fun j u => hcell k j u hlk
          have henc := fun W => Encode_any R[k] W
          have hfin : ∀ w4 : World, Kept noF wr w4 → Calls Tryz.prog 40 #[ptrV w3.heap.size, .int .i64 ((encR R[k]).length : Nat)] w4 fun e w' => e = .returned (.tuple #[]) ∧ ∃ G', SegAt G' w' w3.heap.size g name (recLens (R.take (k + 1))) ∧ (∀ b, G' b → w3.heap.size ≤ b) ∧ Kept (fun b => w3.heap.size ≤ b) W1 w' := by
            intro w4 hk4
            refine (add_any Gk w4 w3.heap.size g name (recLens (R.take k)) (encR R[k]).length (hsg.kept hk4 (fun _ _ h => h)) HBND.out.2 HBND.out.1).mono ?_
            rintro e w' ⟨rfl, G', r1, r2, r3⟩
            have hz4 : w3.heap.size ≤ w4.heap.size := by have := HZW.out; have := hkr.size; have := hk4.size; omega
            refine ⟨rfl, G', by rw [HLEN.out]; exact r1, fun b hb => ?_, (hkr.trans0 hk4).trans r2 (fun i _ hi => hG i hi)⟩
            rcases r3 b hb with h | h
            · exact hG b h
            · omega
          clear hcell hlen hbnd hsg hG hkr
          generalize R[k] = rk at *
          obtain ⟨rk1, rk2, rk3, rk4⟩ := rk
          have d0 : wr.cell? ⟨gr, orr + k * 4, none⟩ = some (.int .i64 rk1) := hcell2 0 _ rfl
          have d1 : wr.cell? ⟨gr, orr + k * 4 + 1, none⟩ = some (.int .i64 rk2) := by rw [Nat.add_assoc]; exact hcell2 1 _ rfl
          have d2 : wr.cell? ⟨gr, orr + k * 4 + 2, none⟩ = some (.string rk3) := by rw [Nat.add_assoc]; exact hcell2 2 _ rfl
          have d3 : wr.cell? ⟨gr, orr + k * 4 + 3, none⟩ = some (.string rk4) := by rw [Nat.add_assoc]; exact hcell2 3 _ rfl
          have HFIN := Lib.hid hfin
          have HENC := Lib.hid henc
          unfold Rec.v at HENC
          unfold ptrV at HFIN
          clear hcell2 henc hfin
          go_wp2_with (first | (go_at_call 39; refine (HENC.out _).mono ?_; rintro e w5 ⟨v5, rfl, hown5, hk5⟩; (obtain ⟨A5, c5, rfl, hc5⟩ := own_form hown5); (have HK5 := Lib.hid hk5); clear hown5 hk5 hc5) | (go_at_call 40; refine (HFIN.out _ (((Kept.refl noF wr).alloc _).trans0 HK5.out)).mono ?_; rintro e w6 ⟨rfl, hp⟩; (have HP6 := Lib.hid hp); clear hp))
          obtain ⟨G', r1, r2, r3⟩ := HP6.out
          exact ⟨⟨k + 1, G', by omega, by go_num, r1, r2, r3⟩, by simp [intOf]; omega⟩
        · obtain rfl : k = R.length := by omega
          rw [List.take_length] at hsg
          have HSG2 := Lib.hid hsg
          have HG2 := Lib.hid hG
          have HKR := Lib.hid hkr
          clear hsg hG hkr
          go_wp2
          go_ret2
          have hz3 := HKU.out.size
          have hzW := HZW.out
          refine ⟨w3.heap.size, FF, Gk, ss, rfl, (HFS.out.kept HKW.out (fun _ _ h => h)).kept HKR.out (fun b hb (h : w3.heap.size ≤ b) => by have := HBEL.out b hb; omega), HSG2.out, fun k hk hf => ?_, ?_, HFFN.out, fun k hk => ?_, HSS.out⟩
          · have := HG2.out k hk; have := HBEL.out k hf; omega
          · exact (HKU.out.trans0 HKW.out).trans HKR.out (fun i hi (h : w3.heap.size ≤ i) => by omega)
          · have := HG2.out k hk; omega
  · go_enter Tryz.func14, Tryz.ntmps14
    go_upto_region 12 with (first | (go_at_call 22; refine (HNM.out _).mono ?_; rintro e w' ⟨rfl, rfl⟩) | (go_at_call 9; refine Q.out.mono ?_; rintro e w2 ⟨v2, rfl, hown2, hk2⟩; (obtain ⟨A2, c2, rfl, hc2⟩ := own_form hown2); (have QS2 := Lib.hid (QS.out w2 A2 c2 (Reads.own hown2))); (have HK2 := Lib.hid hk2); (have HO2 := Lib.hid hown2); clear hown2 hk2 hc2) | (go_at_call 36; refine QS2.out.mono ?_; rintro e w3 ⟨v3, rfl, ho3, hk3⟩; (obtain ⟨A3, c3, rfl, hc3⟩ := own_form ho3); (have HK3 := Lib.hid hk3); (have HO3 := Lib.hid ho3); clear hk3 ho3 hc3))
    obtain ⟨FF, hFF⟩ : ∃ FF, FF = F := ⟨_, rfl⟩
    obtain ⟨ss, hss⟩ : ∃ ss, ss = s := ⟨_, rfl⟩
    have hk4 : Kept noF w w3 := HK2.out.trans0 HK3.out
    have HREC0 : Hid (SeesRecs w3 (.slice A3 R.length c3) R) := Lib.hid (SeesRecs.own HO3.out)
    have HRB : Hid (∀ b, (Value.slice A3 R.length c3).ownBlock = some b → b < w3.heap.size) := Lib.hid (fun b hb => own_lt HO3.out b hb)
    have HFFN : Hid (∀ k, FF k → F k ∨ w.heap.size ≤ k) := Lib.hid (fun k hk => .inl (by rw [← hFF]; exact hk))
    have HFS : Hid (FsAt FF w3 g ss) := Lib.hid (by rw [hFF, hss]; exact HFS0.out.kept hk4 (fun _ _ h => h))
    have HKU : Hid (Kept F w w3) := Lib.hid (hk4.of0)
    have HBEL : Hid (∀ k, FF k → k < w3.heap.size) := Lib.hid (fun k hk => by rw [hFF] at hk; have := HBF.out k hk; have := hk4.size; omega)
    have HSS : Hid (OpenSt s name (numS ++ ⟨#[46, 110, 101, 119]⟩) bs E ss) := Lib.hid (.inl ⟨by omega, hss⟩)
    clear hk4 hFF hss
    have hsgW : SegAt (fun k => k = w3.heap.size) (w3.alloc (.cells #[.pointer (some ⟨g, 0, none⟩), .string name, .slice none 0 0, .int .i64 0] 78)) w3.heap.size g name [] := ⟨.slice none 0 0, ⟨blk_new _ _, World.ownsRow_nil _ _ _ _⟩, rfl, by simp [Value.ownBlock], by simp⟩
    have HSG := Lib.hid hsgW
    have HREC := Lib.hid (HREC0.out.kept0 ((Kept.refl noF w3).alloc (.cells #[.pointer (some ⟨g, 0, none⟩), .string name, .slice none 0 0, .int .i64 0] 78)))
    have HZW : Hid ((w3.alloc (.cells #[.pointer (some ⟨g, 0, none⟩), .string name, .slice none 0 0, .int .i64 0] 78)).heap.size = w3.heap.size + 1) := Lib.hid (by simp)
    have HKW : Hid (Kept noF w3 (w3.alloc (.cells #[.pointer (some ⟨g, 0, none⟩), .string name, .slice none 0 0, .int .i64 0] 78))) := Lib.hid ((Kept.refl _ _).alloc _)
    clear hsgW
    generalize (w3.alloc (.cells #[.pointer (some ⟨g, 0, none⟩), .string name, .slice none 0 0, .int .i64 0] 78)) = W1 at *
    go_wp2_with fail
    go_loopw [59] (fun i wr => ∃ (k : Nat) (Gk : Nat → Prop), k ≤ R.length ∧ i = .int .i64 k ∧ SegAt Gk wr w3.heap.size g name (recLens (R.take k)) ∧ (∀ b, Gk b → w3.heap.size ≤ b) ∧ Kept (fun b => w3.heap.size ≤ b) W1 wr) (fun i _ => R.length - (intOf i).toNat)
    case atStart => exact ⟨0, _, Nat.zero_le _, rfl, HSG.out, fun b hb => by omega, Kept.refl _ _⟩
    case round =>
      obtain ⟨k, Gk, hk, rfl, hsg, hG, hkr⟩ := hrel
      by_cases hlk : k < R.length
      · obtain ⟨gr, orr, rfl, hcell⟩ := recs_at (HREC.out.keptF hkr (fun b hb hf => by have := HRB.out b hb; omega)) (by omega)
        have hlen := recLens_succ R k hlk
        have hbnd : (recLens (R.take k)).sum + (encR R[k]).length < 4611686018427387904 ∧ (recLens (R.take k)).length < 1000000000 := by
          have h1 := recLens_le R (k + 1)
          have h2 := HSUM.out
          have h3 := HRL.out
          rw [hlen] at h1
          simp at h1
          refine ⟨by omega, ?_⟩
          simp [recLens]; omega
        have HLEN := Lib.hid hlen
        have HBND := Lib.hid hbnd
        have hcell2 := fun j u => hcell k j u hlk
        have henc := fun W => Encode_any R[k] W
        have hfin : ∀ w4 : World, Kept noF wr w4 → Calls Tryz.prog 40 #[ptrV w3.heap.size, .int .i64 ((encR R[k]).length : Nat)] w4 fun e w' => e = .returned (.tuple #[]) ∧ ∃ G', SegAt G' w' w3.heap.size g name (recLens (R.take (k + 1))) ∧ (∀ b, G' b → w3.heap.size ≤ b) ∧ Kept (fun b => w3.heap.size ≤ b) W1 w' := by
          intro w4 hk4
          refine (add_any Gk w4 w3.heap.size g name (recLens (R.take k)) (encR R[k]).length (hsg.kept hk4 (fun _ _ h => h)) HBND.out.2 HBND.out.1).mono ?_
          rintro e w' ⟨rfl, G', r1, r2, r3⟩
          have hz4 : w3.heap.size ≤ w4.heap.size := by have := HZW.out; have := hkr.size; have := hk4.size; omega
          refine ⟨rfl, G', by rw [HLEN.out]; exact r1, fun b hb => ?_, (hkr.trans0 hk4).trans r2 (fun i _ hi => hG i hi)⟩
          rcases r3 b hb with h | h
          · exact hG b h
          · omega
        clear hcell hlen hbnd hsg hG hkr
        generalize R[k] = rk at *
        obtain ⟨rk1, rk2, rk3, rk4⟩ := rk
        have d0 : wr.cell? ⟨gr, orr + k * 4, none⟩ = some (.int .i64 rk1) := hcell2 0 _ rfl
        have d1 : wr.cell? ⟨gr, orr + k * 4 + 1, none⟩ = some (.int .i64 rk2) := by rw [Nat.add_assoc]; exact hcell2 1 _ rfl
        have d2 : wr.cell? ⟨gr, orr + k * 4 + 2, none⟩ = some (.string rk3) := by rw [Nat.add_assoc]; exact hcell2 2 _ rfl
        have d3 : wr.cell? ⟨gr, orr + k * 4 + 3, none⟩ = some (.string rk4) := by rw [Nat.add_assoc]; exact hcell2 3 _ rfl
        have HFIN := Lib.hid hfin
        have HENC := Lib.hid henc
        unfold Rec.v at HENC
        unfold ptrV at HFIN
        clear hcell2 henc hfin
        go_wp2_with (first | (go_at_call 39; refine (HENC.out _).mono ?_; rintro e w5 ⟨v5, rfl, hown5, hk5⟩; (obtain ⟨A5, c5, rfl, hc5⟩ := own_form hown5); (have HK5 := Lib.hid hk5); clear hown5 hk5 hc5) | (go_at_call 40; refine (HFIN.out _ (((Kept.refl noF wr).alloc _).trans0 HK5.out)).mono ?_; rintro e w6 ⟨rfl, hp⟩; (have HP6 := Lib.hid hp); clear hp))
        obtain ⟨G', r1, r2, r3⟩ := HP6.out
        exact ⟨⟨k + 1, G', by omega, by go_num, r1, r2, r3⟩, by simp [intOf]; omega⟩
      · obtain rfl : k = R.length := by omega
        rw [List.take_length] at hsg
        have HSG2 := Lib.hid hsg
        have HG2 := Lib.hid hG
        have HKR := Lib.hid hkr
        clear hsg hG hkr
        go_wp2
        go_ret2
        have hz3 := HKU.out.size
        have hzW := HZW.out
        refine ⟨w3.heap.size, FF, Gk, ss, rfl, (HFS.out.kept HKW.out (fun _ _ h => h)).kept HKR.out (fun b hb (h : w3.heap.size ≤ b) => by have := HBEL.out b hb; omega), HSG2.out, fun k hk hf => ?_, ?_, HFFN.out, fun k hk => ?_, HSS.out⟩
        · have := HG2.out k hk; have := HBEL.out k hf; omega
        · exact (HKU.out.trans0 HKW.out).trans HKR.out (fun i hi (h : w3.heap.size ≤ i) => by omega)
        · have := HG2.out k hk; omega
end Go.Proofs.YtflnekjmcpmbbaaGreatDoor

/- Plain: what was encoded is read back; the records of a file and their places. -/
set_option linter.unusedVariables false
set_option linter.unusedSimpArgs false
namespace Go.Proofs.YtflnekjmcpmbbaaGreatDoor
open Go.RowKit

theorem ofNat_toNat {n : Nat} (h : n < 256) : (UInt8.ofNat n).toNat = n := by
  simp [UInt8.toNat_ofNat']; omega
theorem valL_put : ∀ (k n : Nat), n < 128 ^ (k + 1) → valL (putL n) = n
  | 0, n, h => by
    rw [putL_small (by omega)]
    simp only [valL]
    rw [ofNat_toNat (by omega)]; omega
  | k + 1, n, h => by
    by_cases hb : 127 < n
    · rw [putL_big hb]
      simp only [valL]
      rw [valL_put k (n / 128) (by rw [Nat.pow_succ] at h; omega), ofNat_toNat (by omega)]
      omega
    · rw [putL_small (by omega)]
      simp only [valL]
      rw [ofNat_toNat (by omega)]; omega
theorem putL_pos (n : Nat) : 0 < (putL n).length := by
  by_cases hb : 127 < n
  · rw [putL_big hb]; simp
  · rw [putL_small (by omega)]; simp
/-- Where a number's bytes end. -/
theorem stop_put : ∀ (k n : Nat) (l : List UInt8), n < 128 ^ (k + 1) → stopAt (k + 1) (putL n ++ l) = some ((putL n).length - 1)
  | 0, n, l, h => by
    rw [putL_small (by omega)]
    simp only [List.cons_append, List.nil_append, stopAt]
    rw [if_pos (by rw [ofNat_toNat (by omega)]; omega)]
    rfl
  | k + 1, n, l, h => by
    by_cases hb : 127 < n
    · rw [putL_big hb, List.cons_append]
      have := stop_put k (n / 128) l (by rw [Nat.pow_succ] at h; omega)
      have hp := putL_pos (n / 128)
      show (if _ then _ else _) = _
      rw [if_neg (by rw [ofNat_toNat (by omega)]; omega), this]
      simp only [Option.map_some, List.length_cons]
      congr 1
      omega
    · rw [putL_small (by omega)]
      simp only [List.cons_append, List.nil_append]
      show (if _ then _ else _) = _
      rw [if_pos (by rw [ofNat_toNat (by omega)]; omega)]
      rfl
theorem stopAt_mono : ∀ (f : Nat) (b : List UInt8) (k : Nat), stopAt f b = some k → ∀ d, stopAt (f + d) b = some k
  | 0, _, _, h, _ => by simp [stopAt] at h
  | _ + 1, [], _, h, _ => by simp [stopAt] at h
  | f + 1, c :: r, k, h, d => by
    rw [show f + 1 + d = (f + d) + 1 from by omega]
    unfold stopAt at h ⊢
    split
    · rename_i hc; rw [if_pos hc] at h; exact h
    · rename_i hc
      rw [if_neg hc] at h
      cases hs : stopAt f r with
      | none => simp [hs] at h
      | some j => rw [stopAt_mono f r j hs d]; simpa [hs] using h
theorem put_last : ∀ (k n : Nat), n < 128 ^ (k + 1) → 1 < (putL n).length → (putL n)[(putL n).length - 1]?.getD 0 ≠ 0
  | 0, n, h, h1 => by rw [putL_small (by omega)] at h1; simp at h1
  | k + 1, n, h, h1 => by
    by_cases hb : 127 < n
    · rw [putL_big hb]
      have hp := putL_pos (n / 128)
      by_cases h2 : 1 < (putL (n / 128)).length
      · have := put_last k (n / 128) (by rw [Nat.pow_succ] at h; omega) h2
        rw [List.length_cons, show (putL (n / 128)).length + 1 - 1 = ((putL (n / 128)).length - 1) + 1 from by omega, List.getElem?_cons_succ]
        exact this
      · have h3 : ¬ 127 < n / 128 := by
          intro h4
          rw [putL_big h4, List.length_cons] at h2
          have := putL_pos (n / 128 / 128)
          omega
        rw [putL_small (by omega)]
        simp only [List.length_cons, List.length_nil]
        intro e
        have e2 := congrArg UInt8.toNat e
        simp at e2
        omega
    · rw [putL_small (by omega)] at h1; simp at h1
theorem getL_putL (n : Nat) (l : List UInt8) (h : n < 72057594037927936) : getL (putL n ++ l) = (n, (putL n).length) := by
  have hs := stopAt_mono 8 _ _ (stop_put 7 n l (by omega)) 2
  have hl := putL_len 7 n (by omega)
  have hp := putL_pos n
  unfold getL
  rw [hs]
  simp only
  rw [if_neg ?_]
  · rw [show (putL n).length - 1 + 1 = (putL n).length from by omega, List.take_left, valL_put 7 n (by omega)]
  · rintro (⟨h1, h2⟩ | ⟨h1, _⟩)
    · have := put_last 7 n (by omega) (by omega)
      rw [List.getElem?_append_left (by omega)] at h2
      exact this h2
    · omega
theorem getTextL_textL (s l : List UInt8) (h : s.length < 72057594037927936) : getTextL (textL s ++ l) = (s, (textL s).length) := by
  unfold getTextL textL
  rw [List.append_assoc, getL_putL _ _ h]
  simp only
  have hp := putL_pos s.length
  rw [if_neg (by simp only [List.length_append]; omega), List.drop_left, List.take_left, List.length_append]
theorem textL_pos (s : List UInt8) : 0 < (textL s).length := by have := putL_pos s.length; unfold textL; simp; omega
theorem numR_put (n m : Nat) (l : List UInt8) (h : n < 72057594037927936) (hm : n ≤ m) : numR (putL n ++ l, false) m = (n, (l, false)) := by
  have hg := getL_putL n l h
  have hp := putL_pos n
  rw [numR_some _ _ (by rw [hg]; simp only; omega) (by rw [hg]; simp only; omega), hg]
  simp
theorem textR_text (s l : List UInt8) (h : s.length < 72057594037927936) : textR (textL s ++ l, false) = (s, (l, false)) := by
  have hg := getTextL_textL s l h
  have hp := textL_pos s
  rw [textR_some _ (by rw [hg]; simp only; omega), hg]
  simp
/-- What was encoded is read back. -/
theorem dec_body (r : Rec) (h : checkR r = 0) : decX (bodyL r) = (r, ([], false)) := by
  obtain ⟨h1, h2, h3, h4, h5, h6⟩ := checkR_ok h
  obtain ⟨k, s, key, val⟩ := r
  simp only at h1 h2 h3 h4 h5 h6
  obtain ⟨s, rfl⟩ := Int.eq_ofNat_of_zero_le (show 0 ≤ s by omega)
  have hk := size_len key
  have hv := size_len val
  have e2 : ∀ l, numR (putL s ++ l, false) 1125899906842624 = (s, (l, false)) := fun l => numR_put s _ l (by omega) (by omega)
  rcases h1 with rfl | ⟨rfl, h7⟩
  · have e1 : numR (bodyL ⟨1, s, key, val⟩, false) 1 = (1, (putL s ++ textL key.data.toList ++ textL val.data.toList, false)) := by
      unfold bodyL
      simp only [if_true]
      have := getL_small (UInt8.ofNat (1 : Int).toNat) (putL s ++ textL key.data.toList ++ textL val.data.toList) (by decide)
      rw [Int.toNat_natCast, numR_some _ _ (by rw [this]; decide) (by rw [this]; decide), this]
      rfl
    rw [List.append_assoc] at e1
    have e3 := textR_text key.data.toList (textL val.data.toList) (by omega)
    have e4 := textR_text val.data.toList [] (by omega)
    rw [List.append_nil] at e4
    rw [decX_put e1 (e2 _) e3 e4]
  · have e1 : numR (bodyL ⟨0, s, key, val⟩, false) 1 = (0, (putL s ++ textL key.data.toList, false)) := by
      unfold bodyL
      have := getL_small (UInt8.ofNat (0 : Int).toNat) (putL s ++ textL key.data.toList ++ []) (by decide)
      simp only [show ¬ ((0 : Int) = 1) from by decide, if_false, Int.toNat_natCast]
      rw [numR_some _ _ (by rw [this]; decide) (by rw [this]; decide), this]
      simp
    have e3 := textR_text key.data.toList [] (by omega)
    rw [List.append_nil] at e3
    have hve : val = ⟨#[]⟩ := by
      have := empty_toList val h7
      obtain ⟨⟨l⟩⟩ := val
      have h8 : l = [] := this
      rw [h8]
    rw [decX_del e1 (e2 _) e3, hve]
theorem body_ok (r : Rec) (h : checkR r = 0) : decOk (bodyL r) = true ∧ (decX (bodyL r)).1 = r := by
  have hd := dec_body r h
  refine ⟨?_, by rw [hd]⟩
  unfold decOk
  rw [hd]
  simp [doneR, h, encR]
end Go.Proofs.YtflnekjmcpmbbaaGreatDoor

/- Plain: records one behind the other; the places of the pieces. -/
set_option linter.unusedVariables false
set_option linter.unusedSimpArgs false
namespace Go.Proofs.YtflnekjmcpmbbaaGreatDoor
open Go.RowKit

theorem getFour_four (n : Nat) (l : List UInt8) (h : n < 4294967296) : getFourL (fourL n ++ l) = n := by
  unfold getFourL fourL
  rw [if_neg (by simp)]
  simp only [List.cons_append, List.nil_append, List.getElem?_cons_zero, List.getElem?_cons_succ, Option.getD_some]
  simp only [UInt8.toNat_ofNat']
  omega
theorem first_seal (x l : List UInt8) (h : x.length < 4294967296) : firstL (sealL x ++ l) = (some x, true) := by
  have e1 : sealL x ++ l = fourL x.length ++ (fourL (crcSum (fourL x.length)) ++ (fourL (crcSum x) ++ (x ++ l))) := by simp [sealL, headL]
  have l4 : ∀ n, (fourL n).length = 4 := fun n => rfl
  have d4 : (sealL x ++ l).drop 4 = fourL (crcSum (fourL x.length)) ++ (fourL (crcSum x) ++ (x ++ l)) := by rw [e1]; exact List.drop_left' rfl
  have d8 : (sealL x ++ l).drop 8 = fourL (crcSum x) ++ (x ++ l) := by
    rw [show 8 = 4 + 4 from rfl, ← List.drop_drop, d4]; exact List.drop_left' rfl
  have d12 : (sealL x ++ l).drop 12 = x ++ l := by
    rw [show 12 = 8 + 4 from rfl, ← List.drop_drop, d8]; exact List.drop_left' rfl
  have t4 : (sealL x ++ l).take 4 = fourL x.length := by rw [e1]; exact List.take_left' rfl
  have g0 : getFourL (sealL x ++ l) = x.length := by rw [e1]; exact getFour_four _ _ h
  have hl : (sealL x ++ l).length = 12 + x.length + l.length := by rw [List.length_append, sealL_length]
  unfold firstL
  rw [if_neg (by omega), d4, t4, getFour_four _ _ (crcSum_lt _), if_neg (by simp), g0, if_neg (by omega), d8, d12, getFour_four _ _ (crcSum_lt _), List.take_left, if_neg (by simp)]
theorem scan_seal (x l : List UInt8) (h : x.length < 4294967296) : scanL (sealL x ++ l) = (x :: (scanL l).1, (scanL l).2) := by
  rw [scanL_some (first_seal x l h)]
  have : (sealL x ++ l).drop (12 + x.length) = l := by rw [← sealL_length]; exact List.drop_left
  rw [this]
/-- What a first seal says of the bytes. -/
theorem first_take {bs x : List UInt8} {c : Bool} (h : firstL bs = (some x, c)) : bs.take (12 + x.length) = sealL x := by
  unfold firstL at h
  split at h
  · cases h
  · rename_i h12
    split at h
    · cases h
    · rename_i h4
      split at h
      · cases h
      · rename_i hl
        split at h
        · cases h
        · rename_i h8
          simp only [Prod.mk.injEq, Option.some.injEq] at h
          obtain ⟨rfl, _⟩ := h
          have hx : ((bs.drop 12).take (getFourL bs)).length = getFourL bs := by rw [List.length_take, List.length_drop]; omega
          have f0 : bs.take 4 = fourL (getFourL bs) := by
            have := (four_eq (bs.take 4) (getFourL bs) (by rw [List.length_take]; omega) (getFourL_lt bs)).2 (getFourL_take bs 4 (by omega))
            exact this.symm
          have f4 : (bs.drop 4).take 4 = fourL (crcSum (bs.take 4)) := by
            have := (four_eq ((bs.drop 4).take 4) (crcSum (bs.take 4)) (by rw [List.length_take, List.length_drop]; omega) (crcSum_lt _)).2 (by rw [getFourL_take _ 4 (by omega)]; exact Classical.not_not.1 h4)
            exact this.symm
          have f8 : (bs.drop 8).take 4 = fourL (crcSum ((bs.drop 12).take (getFourL bs))) := by
            have := (four_eq ((bs.drop 8).take 4) (crcSum ((bs.drop 12).take (getFourL bs))) (by rw [List.length_take, List.length_drop]; omega) (crcSum_lt _)).2 (by rw [getFourL_take _ 4 (by omega)]; exact Classical.not_not.1 h8)
            exact this.symm
          unfold sealL headL
          rw [hx, ← f8, ← f0, ← f4]
          rw [show 12 + getFourL bs = 4 + (4 + (4 + getFourL bs)) from by omega]
          rw [List.take_add, List.take_add, List.take_add, List.drop_drop, List.drop_drop]
          simp [List.append_assoc]
theorem body_len (r : Rec) (h : checkR r = 0) : (bodyL r).length < 5000 := by
  obtain ⟨h1, h2, h3, h4, h5, h6⟩ := checkR_ok h
  have hk := size_len r.key
  have hv := size_len r.val
  have p1 := putL_len 7 r.seq.toNat (by omega)
  have p2 := putL_len 1 r.key.data.toList.length (by omega)
  have p3 := putL_len 1 r.val.data.toList.length (by omega)
  unfold bodyL textL
  simp only [List.length_cons, List.length_append]
  split
  · simp only [List.length_append]; omega
  · simp only [List.length_nil]; omega
theorem enc_len (r : Rec) (h : checkR r = 0) : (encR r).length = 12 + (bodyL r).length := by
  unfold encR; rw [if_pos h, sealL_length]
theorem enc_le (r : Rec) : (encR r).length < 5012 := by
  by_cases h : checkR r = 0
  · rw [enc_len r h]; have := body_len r h; omega
  · unfold encR; rw [if_neg h]; simp
theorem recsL_cons (s : List UInt8) (r : List (List UInt8)) : recsL (s :: r) = if decOk s then ((decX s).1 :: (recsL r).1, 12 + s.length + (recsL r).2.1, (recsL r).2.2) else ([], 0, false) := rfl
def encsL (R : List Rec) : List UInt8 := R.flatMap encR
theorem encsL_length (R : List Rec) : (encsL R).length = (recLens R).sum := by
  induction R with
  | nil => rfl
  | cons r R ih => simp [encsL, recLens] at *
def GoodRs (R : List Rec) : Prop := ∀ r ∈ R, checkR r = 0
/-- The records behind good ones. -/
theorem scan_encs (R : List Rec) (l : List UInt8) (h : GoodRs R) : scanF (encsL R ++ l) = (R ++ (scanF l).1, (encsL R).length + (scanF l).2.1, (scanF l).2.2) := by
  induction R with
  | nil => simp [encsL]
  | cons r R ih =>
    have hr := h r List.mem_cons_self
    have ih := ih (fun q hq => h q (List.mem_cons_of_mem _ hq))
    have hb := body_ok r hr
    have hbl := body_len r hr
    have e1 : encsL (r :: R) ++ l = sealL (bodyL r) ++ (encsL R ++ l) := by simp [encsL, encR, hr]
    have e2 : (encsL (r :: R)).length = 12 + (bodyL r).length + (encsL R).length := by simp [encsL, enc_len r hr]
    unfold scanF at ih ⊢
    rw [e1, scan_seal _ _ (by omega)]
    simp only [Prod.mk.injEq] at ih
    rw [recsL_cons, if_pos hb.1, hb.2]
    simp only
    rw [ih.1, ih.2.1, ih.2.2, e2]
    simp only [List.cons_append, Prod.mk.injEq, true_and, and_true]
    omega
theorem scan_nil : scanF [] = ([], 0, true) := by
  unfold scanF
  rw [scanL_none (firstL_short (by simp))]
  rfl
theorem scan_all (R : List Rec) (h : GoodRs R) : scanF (encsL R) = (R, (encsL R).length, true) := by
  have := scan_encs R [] h
  rw [List.append_nil, scan_nil] at this
  simpa using this
/-- What the records of a file say of its bytes. -/
theorem recs_take : ∀ (n : Nat) (bs : List UInt8), bs.length ≤ n → GoodRs (scanF bs).1 ∧ bs.take (scanF bs).2.1 = encsL (scanF bs).1 ∧ (scanF bs).2.1 = (encsL (scanF bs).1).length ∧ (scanF bs).2.1 ≤ bs.length
  | n, bs, hn => by
    have nilc : ∀ c : Bool, scanL bs = ([], c) → GoodRs (scanF bs).1 ∧ bs.take (scanF bs).2.1 = encsL (scanF bs).1 ∧ (scanF bs).2.1 = (encsL (scanF bs).1).length ∧ (scanF bs).2.1 ≤ bs.length := by
      intro c hc
      unfold scanF
      rw [hc]
      simp [recsL, encsL, GoodRs]
    cases h : firstL bs with
    | mk o c =>
      cases o with
      | none => exact nilc c (scanL_none h)
      | some x =>
        have hx := (firstL_some h).1
        have ht := first_take h
        have hs := scanL_some h
        match n with
        | 0 => omega
        | n + 1 =>
          have ih := recs_take n (bs.drop (12 + x.length)) (by simp; omega)
          unfold scanF at ih ⊢
          rw [hs]
          simp only at ih ⊢
          rw [recsL_cons]
          by_cases hd : decOk x = true
          · rw [if_pos hd]
            simp only
            have hd2 : checkR (decX x).1 = 0 ∧ encR (decX x).1 = sealL x := by
              unfold decOk at hd
              simp at hd
              exact ⟨hd.1.2, hd.2⟩
            obtain ⟨i1, i2, i3, i4⟩ := ih
            refine ⟨fun r hr => ?_, ?_, ?_, ?_⟩
            · rcases List.mem_cons.1 hr with rfl | hr
              · exact hd2.1
              · exact i1 r hr
            · rw [List.take_add, ht, i2]
              simp [encsL, hd2.2]
            · simp only [encsL, List.flatMap_cons, List.length_append, hd2.2, sealL_length] at *
              omega
            · rw [List.length_drop] at i4; omega
          · rw [if_neg hd]
            simp [encsL, GoodRs]
theorem GoodRs.snoc {R : List Rec} {r : Rec} (h : GoodRs R) (hr : checkR r = 0) : GoodRs (R ++ [r]) := fun q hq => by
  rcases List.mem_append.1 hq with h1 | h1
  · exact h q h1
  · simp at h1; rw [h1]; exact hr
/-- One record's piece of a file. -/
theorem piece (R : List Rec) (l : List UInt8) (i : Nat) (hi : i < R.length) : ((encsL R ++ l).drop ((recLens R).take i).sum).take (encR R[i]).length = encR R[i] := by
  have e1 : ((recLens R).take i).sum = (encsL (R.take i)).length := by rw [encsL_length]; unfold recLens; rw [List.map_take]
  have e2 : encsL R = encsL (R.take i) ++ (encR R[i] ++ encsL (R.drop (i + 1))) := by
    have h : R = R.take i ++ (R[i] :: R.drop (i + 1)) := by rw [← List.drop_eq_getElem_cons hi, List.take_append_drop]
    have h2 : encsL R = encsL (R.take i ++ (R[i] :: R.drop (i + 1))) := congrArg encsL h
    rw [h2]
    unfold encsL
    rw [List.flatMap_append, List.flatMap_cons]
  rw [e1, e2, List.append_assoc, List.append_assoc, List.drop_left, List.take_left]
theorem piece_scan (R : List Rec) (l : List UInt8) (h : GoodRs R) (i : Nat) (hi : i < R.length) (hi2 : i < (recLens R).length) : scanF (((encsL R ++ l).drop ((recLens R).take i).sum).take (recLens R)[i]) = ([R[i]], (recLens R)[i], true) := by
  have e : (recLens R)[i] = (encR R[i]).length := by simp [recLens]
  rw [e, piece R l i hi]
  have hg : GoodRs [R[i]] := fun q hq => by simp at hq; rw [hq]; exact h _ (List.getElem_mem hi)
  have := scan_all [R[i]] hg
  simpa [encsL] using this
end Go.Proofs.YtflnekjmcpmbbaaGreatDoor
