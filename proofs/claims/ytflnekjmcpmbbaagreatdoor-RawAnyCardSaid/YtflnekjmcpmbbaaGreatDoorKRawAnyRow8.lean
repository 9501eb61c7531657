/- Part 8 of the texts beneath: FsChgW, FsOps, FsOps2, FsSyncDir, FsSort, Lay, FsSort2, FsCrashP. -/
import Derived.Test.YtflnekjmcpmbbaaGreatDoorKRawAnyRow7
import Derived.Deep.RegionHeld3
import Derived.Deep.DeepCutAuto
import Derived.Deep.RegionLaw
import Derived.Shelf.SlMaps.Clone
import Derived.Sort.KeysCollected
import Derived.Shelf.SlIter.Nil
import Derived.Shelf.SortM.Plain
import Derived.Shelf.SortM.SortNone
import Derived.Ground.GgzProg
import Derived.Ground.SlgmProg
import Derived.Test.YtflnekjmcpmbbaaGreatDoorProg

/- Walks: a change of the directory that waits. -/
set_option linter.unusedVariables false
set_option linter.unusedSimpArgs false
namespace Go.Proofs.YtflnekjmcpmbbaaGreatDoor
open Go.RowKit Go.MapKept

theorem infoChg : (Tryz.prog.info? 62).map (fun i => (i.zero, i.size, i.bytes)) = some (some (.agg #[.int .i64 0, .string ⟨#[]⟩, .string ⟨#[]⟩, .pointer none]), 4, 48) := by kernel_rfl
theorem step_app2 {P : Program} {w : World} {ops : Array Oper} {o : Oper} {a : Act} {K : Act → World → Prop} {Q : Exit → Act → World → Prop} {E : Prop} (hgd : o.guard = none) (s x : Operand) (t : TypeId)
    (ho : o.op = .call { callee := .builtin .append, args := #[s, x], argTypes := #[t, t] })
    (base : Nat) (e : TypeId) (z : Value) (sz bytes : Nat) (ht : P.underlying t = some (.slice e))
    (hinfo : (P.info? e).map (fun i => (i.zero, i.size, i.bytes)) = some (some z, sz, bytes)) (hzs : z.cells.size = sz) (hsz : 0 < sz)
    (v : Value) (n : Nat) (xs : List Value) (hs : a.eval s = v) (hown : w.ownsRow base e sz v n xs) (y : Value) (m : Nat) (news : List Value) (hx : a.eval x = y) (hy : Reads w y sz m news)
    (h1 : ∀ u ∈ news, u.oneCell' = true) (hb : (n + m) * bytes ≤ 140737488355328) (hlen : n + m ≤ 9223372036854775807) (hbase : base ≤ w.heap.size)
    (h : ∀ v' w', w'.ownsRow base e sz v' (n + m) (xs ++ news) → w.grownBy w' v.ownBlock → (∀ k, v'.ownBlock = some k → v.ownBlock = some k ∨ w.heap.size ≤ k) → K (a.put o.dst v') w') :
    if Region.wanted o (yielded ops a.tmps) = true then Oper.wp P o a w K Q else E := by
  have hw : Region.wanted o (yielded ops a.tmps) = true := by simp [Region.wanted, hgd]
  rw [if_pos hw]
  obtain ⟨v', w', hr, h2, h3, h4⟩ := run_app2 (P := P) w base t o.type e z sz bytes ht hinfo hzs hsz v n xs hown y m news hy h1 hb hlen hbase
  unfold Oper.wp execOp
  simp only [ho, resolve, invoke, builtin, Sem.run_bind, Sem.run_pure, Result.andThen_ok, List.map_toArray, List.map_cons, List.map_nil, hs, hx, hr]
  exact h v' w' h2 h3 h4

/-- The same where the operation is guarded. -/
theorem step_app2g {P : Program} {w : World} {ops : Array Oper} {o : Oper} {a : Act} {K : Act → World → Prop} {Q : Exit → Act → World → Prop} {E : Prop} (hw : Region.wanted o (yielded ops a.tmps) = true) (s x : Operand) (t : TypeId)
    (ho : o.op = .call { callee := .builtin .append, args := #[s, x], argTypes := #[t, t] })
    (base : Nat) (e : TypeId) (z : Value) (sz bytes : Nat) (ht : P.underlying t = some (.slice e))
    (hinfo : (P.info? e).map (fun i => (i.zero, i.size, i.bytes)) = some (some z, sz, bytes)) (hzs : z.cells.size = sz) (hsz : 0 < sz)
    (v : Value) (n : Nat) (xs : List Value) (hs : a.eval s = v) (hown : w.ownsRow base e sz v n xs) (y : Value) (m : Nat) (news : List Value) (hx : a.eval x = y) (hy : Reads w y sz m news)
    (h1 : ∀ u ∈ news, u.oneCell' = true) (hb : (n + m) * bytes ≤ 140737488355328) (hlen : n + m ≤ 9223372036854775807) (hbase : base ≤ w.heap.size)
    (h : ∀ v' w', w'.ownsRow base e sz v' (n + m) (xs ++ news) → w.grownBy w' v.ownBlock → (∀ k, v'.ownBlock = some k → v.ownBlock = some k ∨ w.heap.size ≤ k) → K (a.put o.dst v') w') :
    if Region.wanted o (yielded ops a.tmps) = true then Oper.wp P o a w K Q else E := by
  rw [if_pos hw]
  obtain ⟨v', w', hr, h2, h3, h4⟩ := run_app2 (P := P) w base t o.type e z sz bytes ht hinfo hzs hsz v n xs hown y m news hy h1 hb hlen hbase
  unfold Oper.wp execOp
  simp only [ho, resolve, invoke, builtin, Sem.run_bind, Sem.run_pure, Result.andThen_ok, List.map_toArray, List.map_cons, List.map_nil, hs, hx, hr]
  exact h v' w' h2 h3 h4

set_option maxHeartbeats 1000000 in
set_option maxRecDepth 100000 in
theorem change_gen (F : Nat → Prop) (w : World) (g dm lm : Nat) (wv : Value) (bv : Nat → Value) (s : FsS) (h : FsIn F w g dm lm wv bv s) (k : Int) (a b : ByteArray) (q : Option Addr) (m' : List (ByteArray × Nat))
    (hdo : ∀ w1, MapAt Value.string ptrV w1 dm s.dir → Calls Tryz.prog 43 #[.map (some dm), chgV k a b (.pointer q)] w1 fun e w' => e = .returned (.tuple #[]) ∧ MapAt Value.string ptrV w' dm m' ∧ Kept (oneF dm) w1 w')
    (hs : ∀ p ∈ m', p.2 ∈ s.ids) (c : Chg) (hcc : c.cells = [.int .i64 k, .string a, .string b, .pointer q]) (hcf : ∀ f ∈ c.file, f ∈ s.ids) (hw : s.waits.length < 1000000000) (hcw : ∀ f ∈ c.file, f ∈ FsS.ids { s with dir := m' }) :
    Calls Tryz.prog 26 #[ptrV g, chgV k a b (.pointer q)] w fun e w' => ∃ F' wv', e = .returned (.int .i64 0) ∧ FsIn F' w' g dm lm wv' bv { s with dir := m', waits := s.waits ++ [c] } ∧ Kept F w w' ∧ (∀ k, F' k → F k ∨ w.heap.size ≤ k) := by
  have c1 : w.cell? ⟨g, 1, none⟩ = some (.map (some dm)) := blk_cell h.blk 1 rfl
  have c3 : w.cell? ⟨g, 3, none⟩ = some wv := blk_cell h.blk 3 rfl
  have f3 := blk_frozen h.blk 3
  have hdm := h.dir.lt
  have hgl := blk_lt h.blk
  obtain ⟨k1, k2, k3, k4, k5⟩ := h.kinds
  have hb0 := blk_new w (.cells #[.int .i64 k, .string a, .string b, .pointer q] 62)
  have hm0 : MapAt Value.string ptrV (w.alloc (.cells #[.int .i64 k, .string a, .string b, .pointer q] 62)).drew dm s.dir := (h.dir.kept0 ((Kept.refl _ w).alloc _)).kept0 (Kept.refl _ _).drew
  have hq := hdo _ hm0
  have hdt : ∀ W : World, Kept (oneF dm) (w.alloc (.cells #[.int .i64 k, .string a, .string b, .pointer q] 62)).drew W → MapAt Value.string ptrV W dm m' →
      FsIn F W g dm lm wv bv { s with dir := m' } ∧ W.heap[w.heap.size]? = some (.cells #[.int .i64 k, .string a, .string b, .pointer q] 62) ∧ Kept F w W := by
    intro W hk hm
    refine ⟨(h.kept (G := noF) (((Kept.refl _ w).alloc _).drew) (fun _ _ h => h)).dirTurn hk hm hs, hk.blk hb0 (by unfold oneF; omega), ?_⟩
    exact (((Kept.refl F w).alloc _).drew).trans hk (fun i _ hi => by unfold oneF at hi; rw [hi]; exact h.inD)
  have hkp : ∀ W : World, Kept (oneF dm) (w.alloc (.cells #[.int .i64 k, .string a, .string b, .pointer q] 62)).drew W →
      W.cell? ⟨g, 1, none⟩ = some (.map (some dm)) ∧ W.cell? ⟨w.heap.size, 0, none⟩ = some (.int .i64 k) ∧ W.cell? ⟨w.heap.size, 1, none⟩ = some (.string a) ∧ W.cell? ⟨w.heap.size, 2, none⟩ = some (.string b) ∧ W.cell? ⟨w.heap.size, 3, none⟩ = some (.pointer q) := by
    intro W hk
    have hbk := hk.blk hb0 (show ¬ oneF dm w.heap.size by unfold oneF; omega)
    have hgk := hk.blk (blk_alloc h.blk _) (fun e => k1 e.symm)
    exact ⟨blk_cell hgk 1 rfl, blk_cell hbk 0 rfl, blk_cell hbk 1 rfl, blk_cell hbk 2 rfl, blk_cell hbk 3 rfl⟩
  have HQ := Lib.hid hq
  have HDT := Lib.hid hdt
  have HKP := Lib.hid hkp
  have HCC := Lib.hid hcc
  have HCF := Lib.hid hcw
  clear h hdo hs hcc hcf hcw hq hdt hkp hm0 hb0 k1 k2 k3 k4 k5
  unfold chgV ptrV at *
  go_enter Tryz.func26, Tryz.ntmps26
  go_wp2_with fail
  go_region_held3 (fun w' => w'.cell? ⟨g, 1, none⟩ = some (.map (some dm)) ∧ w'.cell? ⟨w.heap.size, 0, none⟩ = some (.int .i64 k) ∧ w'.cell? ⟨w.heap.size, 1, none⟩ = some (.string a) ∧ w'.cell? ⟨w.heap.size, 2, none⟩ = some (.string b) ∧ w'.cell? ⟨w.heap.size, 3, none⟩ = some (.pointer q))
    (first | go_keep | exact HKP.out _ hk1)
    (first | (go_at_call 43; refine HQ.out.mono ?_; rintro e w1 ⟨rfl, hm1, hk1⟩))
  obtain ⟨hin1, hbx, hkF⟩ := HDT.out w1 hk1 hm1
  have d3 : w1.cell? ⟨g, 3, none⟩ = some wv := blk_cell hin1.blk 3 rfl
  have d4 : ∀ o : Obj, (w1.alloc o).cell? ⟨g, 3, none⟩ = some wv := fun o => blk_cell (blk_alloc hin1.blk o) 3 rfl
  have b0 : w1.cell? ⟨w.heap.size, 0, none⟩ = some (.int .i64 k) := blk_cell hbx 0 rfl
  have b1 : w1.cell? ⟨w.heap.size, 1, none⟩ = some (.string a) := blk_cell hbx 1 rfl
  have b2 : w1.cell? ⟨w.heap.size, 2, none⟩ = some (.string b) := blk_cell hbx 2 rfl
  have b3 : w1.cell? ⟨w.heap.size, 3, none⟩ = some (.pointer q) := blk_cell hbx 3 rfl
  have hown : ∀ W : World, Kept noF w1 W → W.ownsRow 0 62 4 wv s.waits.length (s.waits.flatMap Chg.cells) := fun W hk => own_kept0 hin1.waits hk
  have hkk : ∀ o : Obj, Kept noF w1 (w1.alloc o).drew := fun o => ((Kept.refl _ _).alloc o).drew
  have hgb : ∀ W w2 : World, Kept noF w1 W → W.grownBy w2 wv.ownBlock → w2.heap[g]? = some (.cells (fsCells s.room (.map (some dm)) (.map (some lm)) wv s.calls s.fail) 55) := by
    intro W w2 hk hg
    have h1 := hk.blk0 hin1.blk
    exact ((Kept.refl (fun k => wv.ownBlock = some k) W).grown hg (fun k hk => .inl hk)).blk h1 (fun e => (hin1.kinds.2.2.1 g e).1 rfl)
  have hfin : ∀ (W w2 : World) (v2 : Value), Kept noF w1 W → W.grownBy w2 wv.ownBlock → w2.ownsRow 0 62 4 v2 (s.waits.length + 1) (s.waits.flatMap Chg.cells ++ [.int .i64 k, .string a, .string b, .pointer q]) → (∀ k, v2.ownBlock = some k → wv.ownBlock = some k ∨ W.heap.size ≤ k) →
      FsIn (fun k => F k ∨ v2.ownBlock = some k) (w2.setCell ⟨g, 3, none⟩ v2) g dm lm v2 bv { s with dir := m', waits := s.waits ++ [c] } ∧ Kept F w (w2.setCell ⟨g, 3, none⟩ v2) ∧ (∀ k, (F k ∨ v2.ownBlock = some k) → F k ∨ w.heap.size ≤ k) := by
    intro W w2 v2 hk hg ho hw2
    have hsz : w.heap.size ≤ W.heap.size := Nat.le_trans hkF.size hk.size
    have hc := HCC.out
    have hcf : ∀ f ∈ c.file, f ∈ FsS.ids { s with dir := m' } := HCF.out
    have hwF := hin1.inW
    refine ⟨(hin1.kept hk (fun _ _ h => h)).waitTurn (c := c) hg (by rw [hc]; exact ho) hw2 hcf, ?_, ?_⟩
    · exact ((hkF.trans0 hk).grown hg (fun k hk => .inl (hwF k hk))).set g 3 (.inl hin1.inG) _
    · rintro k (h | h)
      · exact .inl h
      · rcases hw2 k h with h1 | h1
        · exact .inl (hwF k h1)
        · exact .inr (by omega)
  have hb48 : (s.waits.length + 1) * 48 ≤ 140737488355328 := by omega
  have hb63 : s.waits.length + 1 ≤ 9223372036854775807 := by omega
  have HOWN := Lib.hid hown
  have HKK := Lib.hid hkk
  have HGB := Lib.hid hgb
  have HFIN := Lib.hid hfin
  clear hin1 hbx hkF hm1 hk1 c1 c3 f3 hown hkk hgb hfin hw
  go_wp2_with fail
  go_region_law (refine step_app2 rfl _ _ 53 rfl 0 62 _ 4 48 Tryz.underlying53 infoChg rfl (by decide) wv s.waits.length (s.waits.flatMap Chg.cells) (by rfl) (HOWN.out _ (HKK.out _)) _ 1 [.int .i64 k, .string a, .string b, .pointer q] (by rfl) (Reads.lit _ [.int .i64 k, .string a, .string b, .pointer q] _ 4 1 rfl (by omega)) (by simp [Value.oneCell']) hb48 hb63 (Nat.zero_le _) ?_; intro v2 w2 hown2 hgr2 hwh2; (obtain ⟨A2, c2, rfl, hc2⟩ := own_form hown2); (have hk2 := HGB.out _ _ (HKK.out _) hgr2); (have x2 := blk_cell hk2 3 rfl); (have y2 := blk_frozen hk2 3); (have HO2 := Lib.hid hown2); (have HG2 := Lib.hid hgr2); (have HW2 := Lib.hid hwh2); clear hown2 hgr2 hwh2 hk2)
  all_goals
    go_wp2_with fail
    go_ret
    obtain ⟨r1, r2, r3⟩ := HFIN.out _ _ _ (HKK.out _) HG2.out HO2.out HW2.out
    exact ⟨_, _, rfl, r1, r2, r3⟩
end Go.Proofs.YtflnekjmcpmbbaaGreatDoor

/- Walks: Create, Rename. -/
set_option linter.unusedVariables false
set_option linter.unusedSimpArgs false
namespace Go.Proofs.YtflnekjmcpmbbaaGreatDoor
open Go.RowKit Go.MapKept

def FsS.create (s : FsS) (name : ByteArray) (f : Nat) : FsS := { s with dir := mput s.dir name f, waits := s.waits ++ [.made name f], files := upd s.files f ([], 0), extra := f :: s.extra }
def FsS.rename (s : FsS) (a b : ByteArray) (f : Nat) : FsS := { s with dir := mput (mdel s.dir a) b f, waits := s.waits ++ [.named a b] }
theorem mem_mput {m : List (ByteArray × Nat)} {a : ByteArray} {f : Nat} {p : ByteArray × Nat} (h : p ∈ mput m a f) : p.2 = f ∨ p ∈ m := by
  unfold mput at h
  rcases List.mem_cons.1 h with rfl | h
  · exact .inl rfl
  · exact .inr (List.mem_filter.1 h).1
theorem mem_mdel {m : List (ByteArray × Nat)} {a : ByteArray} {p : ByteArray × Nat} (h : p ∈ mdel m a) : p ∈ m := (List.mem_filter.1 h).1
theorem mem_ids_dirp {s : FsS} {p : ByteArray × Nat} (h : p ∈ s.dir) : p.2 ∈ s.ids := by
  unfold FsS.ids
  simp only [List.mem_append, List.mem_map]
  exact .inl (.inl (.inl ⟨_, h, rfl⟩))
theorem mem_ids_extra {s : FsS} {f : Nat} (h : f ∈ s.extra) : f ∈ s.ids := by
  unfold FsS.ids
  simp only [List.mem_append, List.mem_map]
  exact .inr h

/-- The change that a new file is, at a world where its block has just been made. -/
theorem change_made (F : Nat → Prop) (w : World) (g dm lm : Nat) (wv : Value) (bv : Nat → Value) (s : FsS) (h : FsIn F w g dm lm wv bv s) (name : ByteArray) (hw : s.waits.length < 1000000000) :
    Calls Tryz.prog 26 #[ptrV g, chgV 0 name ⟨#[]⟩ (ptrV w.heap.size)] (w.alloc (.cells #[.slice none 0 0, .int .i64 0] 60)) fun e w' =>
      e = .returned (.int .i64 0) ∧ ∃ F', FsAt F' w' g (s.create name w.heap.size) ∧ Kept F w w' ∧ (∀ k, F' k → F k ∨ w.heap.size ≤ k) := by
  have hnF : ¬ F w.heap.size := fun hf => by have := h.below _ hf; omega
  have h0 := h.kept (G := noF) ((Kept.refl _ w).alloc (.cells #[.slice none 0 0, .int .i64 0] 60)) (fun _ _ h => h)
  have h1 := h0.add (f := w.heap.size) (v := .slice none 0 0) (l := []) (n := 0) (blk_new w _) (World.ownsRow_nil _ _ _ _) hnF (by simp [Value.ownBlock])
  have hc := change_gen _ _ g dm lm wv _ _ h1 0 name ⟨#[]⟩ (some ⟨w.heap.size, 0, none⟩) (mput s.dir name w.heap.size) (fun w1 hm => do_made dm w.heap.size s.dir name ⟨#[]⟩ w1 hm)
    (by
      intro p hp
      rcases mem_mput hp with e | hp
      · rw [e]; exact mem_ids_extra List.mem_cons_self
      · exact mem_ids_dirp hp)
    (.made name w.heap.size) rfl (by intro f hf; simp only [Chg.file, List.mem_cons, List.not_mem_nil, or_false] at hf; rw [hf]; exact mem_ids_extra List.mem_cons_self) hw
    (by intro f hf; simp only [Chg.file, List.mem_cons, List.not_mem_nil, or_false] at hf; rw [hf]; exact mem_ids_extra List.mem_cons_self)
  refine hc.mono ?_
  rintro e w' ⟨F', wv', rfl, r1, r2, r3⟩
  refine ⟨rfl, F', ⟨_, _, _, _, r1⟩, ?_, ?_⟩
  · exact ((Kept.refl F w).alloc _).trans r2 (fun i hi hk => by
      rcases hk with hk | hk | hk
      · exact hk
      · omega
      · simp [Value.ownBlock] at hk)
  · intro k hk
    rcases r3 k hk with (h4 | h4 | h4) | h4
    · exact .inl h4
    · exact .inr (by omega)
    · simp [Value.ownBlock] at h4
    · simp at h4; exact .inr (by omega)

theorem change_named (F : Nat → Prop) (w : World) (g dm lm : Nat) (wv : Value) (bv : Nat → Value) (s : FsS) (h : FsIn F w g dm lm wv bv s) (a b : ByteArray) (f : Nat) (hf : mget s.dir a = some f) (hw : s.waits.length < 1000000000) :
    Calls Tryz.prog 26 #[ptrV g, chgV 1 a b (.pointer none)] w fun e w' =>
      e = .returned (.int .i64 0) ∧ ∃ F', FsAt F' w' g (s.rename a b f) ∧ Kept F w w' ∧ (∀ k, F' k → F k ∨ w.heap.size ≤ k) := by
  have hc := change_gen _ _ g dm lm wv _ _ h 1 a b none (mput (mdel s.dir a) b f) (fun w1 hm => do_named dm f s.dir a b _ w1 hm hf)
    (by
      intro p hp
      rcases mem_mput hp with e | hp
      · rw [e]; exact mem_ids_dir hf
      · exact mem_ids_dirp (mem_mdel hp))
    (.named a b) rfl (by intro f hf; simp [Chg.file] at hf) hw (by intro f hf; simp [Chg.file] at hf)
  refine hc.mono ?_
  rintro e w' ⟨F', wv', rfl, r1, r2, r3⟩
  exact ⟨rfl, F', ⟨_, _, _, _, r1⟩, r2, r3⟩

theorem mayR_size {s : ByteArray} (h : mayR s = true) : s.size ≤ 20 := by
  unfold mayR at h
  simp at h
  have := size_len s
  rw [this]; simp; omega

set_option maxHeartbeats 1000000 in
set_option maxRecDepth 100000 in
theorem Create_ok (F : Nat → Prop) (g : Nat) (s : FsS) (w : World) (name : ByteArray) (h : FsAt F w g s) (hc : s.calls < 4611686018427387904) (hf : s.fail ≠ 0) (hm : mayR name = true)
    (hn : mget s.dir name = none → s.dir.length < 150) (hw : s.waits.length < 1000000000) :
    Calls Tryz.prog 6 #[ptrV g, .string name] w fun e w' => e = .returned (.int .i64 0) ∧ ∃ f F', FsAt F' w' g (s.called.create name f) ∧ Kept F w w' ∧ (∀ k, F' k → F k ∨ w.heap.size ≤ k) ∧ w.heap.size ≤ f := by
  obtain ⟨dm, lm, wv, bv, hin⟩ := h
  have q := call_at F w g dm lm wv bv s hin hc
  have e0 : errR s.fail = 0 := by unfold errR; rw [if_neg hf]
  rw [e0] at q
  have hgF := hin.inG
  have hsz := mayR_size hm
  have Q := Lib.hid q
  have HM := Lib.hid hm
  have HN := Lib.hid hn
  have QM : ∀ w, Calls Tryz.prog 25 #[.string name] w fun e w' => e = .returned (.bool true) ∧ w = w' := fun w => by
    have := may_any name w (by omega)
    rw [hm] at this
    exact this
  have HQM := Lib.hid QM
  clear q e0 hin hf hm hn QM hsz
  unfold ptrV at *
  go_enter Tryz.func6, Tryz.ntmps6
  go_wp2_with fail
  refine Q.out.mono ?_
  rintro e w1 ⟨rfl, hin1, hk1⟩
  have c1 : w1.cell? ⟨g, 1, none⟩ = some (.map (some dm)) := blk_cell hin1.blk 1 rfl
  have hlook := hin1.dir.look (P := Tryz.prog) encStr Tryz.underlying52 Tryz.underlying9 (zeroFile w1) name false
  have hlen := fun ty => hin1.dir.len (P := Tryz.prog) Tryz.underlying52 ty
  have hd : s.called.dir = s.dir := rfl
  rw [hd] at hlook hlen
  have hch := change_made F w1 g dm lm wv bv s.called hin1 name hw
  have HCH := Lib.hid hch
  have HK1 := Lib.hid (hk1.mono (F := oneF g) (G := F) (fun i _ h => by unfold oneF at h; rw [h]; exact hgF))
  have HZ := Lib.hid hk1.size
  clear hch hin1 hk1 hd hw
  unfold chgV ptrV at HCH
  cases hmg : mget s.dir name with
  | none =>
    have hlt := HN.out hmg
    rw [hmg] at hlook
    have hl : (Instr.lookup 52 (.map (some dm)) (.string name) false).run Tryz.prog w1 = .ok (.pointer none) w1 := hlook
    clear hlook hmg
    go_wp2_with (first | (go_at_call 25; refine (HQM.out _).mono ?_; rintro e w' ⟨rfl, rfl⟩) | (go_at_call 26; refine HCH.out.mono ?_; rintro e w2 ⟨rfl, hpost⟩; (have HP := Lib.hid hpost); clear hpost))
    go_ret
    obtain ⟨F', r1, r2, r3⟩ := HP.out
    exact ⟨rfl, _, F', r1, HK1.out.transF r2, fun k hk => (r3 k hk).imp id (fun h => Nat.le_trans HZ.out h), HZ.out⟩
  | some f0 =>
    rw [hmg] at hlook
    have hl : (Instr.lookup 52 (.map (some dm)) (.string name) false).run Tryz.prog w1 = .ok (.pointer (some ⟨f0, 0, none⟩)) w1 := hlook
    clear hlook hmg
    go_wp2_with (first | (go_at_call 25; refine (HQM.out _).mono ?_; rintro e w' ⟨rfl, rfl⟩) | (go_at_call 26; refine HCH.out.mono ?_; rintro e w2 ⟨rfl, hpost⟩; (have HP := Lib.hid hpost); clear hpost))
    go_ret
    obtain ⟨F', r1, r2, r3⟩ := HP.out
    exact ⟨rfl, _, F', r1, HK1.out.transF r2, fun k hk => (r3 k hk).imp id (fun h => Nat.le_trans HZ.out h), HZ.out⟩
end Go.Proofs.YtflnekjmcpmbbaaGreatDoor

/- Walks: Rename, Sync. -/
set_option linter.unusedVariables false
set_option linter.unusedSimpArgs false
namespace Go.Proofs.YtflnekjmcpmbbaaGreatDoor
open Go.RowKit Go.MapKept

set_option maxHeartbeats 1000000 in
set_option maxRecDepth 100000 in
theorem Rename_ok (F : Nat → Prop) (g f : Nat) (s : FsS) (w : World) (a b : ByteArray) (h : FsAt F w g s) (hc : s.calls < 4611686018427387904) (hf : s.fail ≠ 0) (hn : mget s.dir a = some f) (hm : mayR b = true) (hw : s.waits.length < 1000000000) :
    Calls Tryz.prog 58 #[ptrV g, .string a, .string b] w fun e w' => e = .returned (.int .i64 0) ∧ ∃ F', FsAt F' w' g (s.called.rename a b f) ∧ Kept F w w' ∧ (∀ k, F' k → F k ∨ w.heap.size ≤ k) := by
  obtain ⟨dm, lm, wv, bv, hin⟩ := h
  have q := call_at F w g dm lm wv bv s hin hc
  have e0 : errR s.fail = 0 := by unfold errR; rw [if_neg hf]
  rw [e0] at q
  have hgF := hin.inG
  have hsz := mayR_size hm
  have Q := Lib.hid q
  have HN := Lib.hid hn
  have QM : ∀ w, Calls Tryz.prog 25 #[.string b] w fun e w' => e = .returned (.bool true) ∧ w = w' := fun w => by
    have := may_any b w (by omega)
    rw [hm] at this
    exact this
  have HQM := Lib.hid QM
  clear q e0 hin hf hm hn QM hsz
  unfold ptrV at *
  go_enter Tryz.func58, Tryz.ntmps58
  go_wp2_with fail
  refine Q.out.mono ?_
  rintro e w1 ⟨rfl, hin1, hk1⟩
  have c1 : w1.cell? ⟨g, 1, none⟩ = some (.map (some dm)) := blk_cell hin1.blk 1 rfl
  have hlook := hin1.dir.look (P := Tryz.prog) encStr Tryz.underlying52 Tryz.underlying9 (zeroFile w1) a false
  have hd : s.called.dir = s.dir := rfl
  rw [hd, HN.out] at hlook
  have hl : (Instr.lookup 52 (.map (some dm)) (.string a) false).run Tryz.prog w1 = .ok (.pointer (some ⟨f, 0, none⟩)) w1 := hlook
  have hch := change_named F w1 g dm lm wv bv s.called hin1 a b f HN.out hw
  have HCH := Lib.hid hch
  have HK1 := Lib.hid (hk1.mono (F := oneF g) (G := F) (fun i _ h => by unfold oneF at h; rw [h]; exact hgF))
  have HZ := Lib.hid hk1.size
  clear hch hin1 hk1 hd hw hlook
  unfold chgV ptrV at HCH
  go_wp2_with (first | (go_at_call 25; refine (HQM.out _).mono ?_; rintro e w' ⟨rfl, rfl⟩) | (go_at_call 26; refine HCH.out.mono ?_; rintro e w2 ⟨rfl, hpost⟩; (have HP := Lib.hid hpost); clear hpost))
  go_ret
  obtain ⟨F', r1, r2, r3⟩ := HP.out
  exact ⟨rfl, F', r1, HK1.out.transF r2, fun k hk => (r3 k hk).imp id (fun h => Nat.le_trans HZ.out h)⟩

/-- How far a file is synced turns. -/
theorem FsIn.sync {F : Nat → Prop} {w : World} {g dm lm : Nat} {wv : Value} {bv : Nat → Value} {s : FsS} (h : FsIn F w g dm lm wv bv s) {f : Nat} (hf : f ∈ s.ids) (n : Nat) :
    FsIn F (w.setCell ⟨f, 1, none⟩ (.int .i64 n)) g dm lm wv bv (s.put f ((s.files f).1, n)) := by
  obtain ⟨k1, k2, k3, k4, k5⟩ := h.kinds
  have hk := Kept.set1 w f 1 (.int .i64 n)
  exact
    { blk := hk.blk h.blk (fun e => (k4 f hf).1 e.symm)
      dir := h.dir.kept hk (fun e => (k4 f hf).2.1 e.symm)
      lasts := h.lasts.kept hk (fun e => (k4 f hf).2.2.1 e.symm)
      apart := h.apart
      waits := own_kept h.waits hk (fun b hb e => (k4 f hf).2.2.2 (by unfold oneF at e; rw [← e]; exact hb))
      file := fun j hj => by
        by_cases e : j = f
        · subst e
          have := blk_set (h.file j hf) 1 (.int .i64 n)
          simpa [upd, FsS.put] using this
        · have := hk.blk (h.file j hj) (fun e2 => e e2)
          simpa [FsS.put, upd, e] using this
      bytes := fun j hj => by
        have := own_kept (h.bytes j hj) hk (fun b hb e => (k5 j hj b hb).2.2.2.2 f hf (by unfold oneF at e; exact e.symm))
        by_cases e : j = f
        · subst e; simpa [upd, FsS.put] using this
        · simpa [FsS.put, upd, e] using this
      own := h.own
      inG := h.inG
      inD := h.inD
      inL := h.inL
      inW := h.inW
      inF := h.inF
      inB := h.inB
      below := fun b hb => Nat.lt_of_lt_of_le (h.below b hb) hk.size
      calls0 := h.calls0
      fail1 := h.fail1
      fail2 := h.fail2 }

set_option maxHeartbeats 1000000 in
set_option maxRecDepth 100000 in
theorem Sync_ok (F : Nat → Prop) (g f : Nat) (s : FsS) (w : World) (name : ByteArray) (h : FsAt F w g s) (hc : s.calls < 4611686018427387904) (hf : s.fail ≠ 0) (hn : mget s.dir name = some f) :
    Calls Tryz.prog 11 #[ptrV g, .string name] w fun e w' => e = .returned (.int .i64 0) ∧ FsAt F w' g (s.called.put f ((s.files f).1, (s.files f).1.length)) ∧ Kept F w w' := by
  obtain ⟨dm, lm, wv, bv, hin⟩ := h
  have q := call_at F w g dm lm wv bv s hin hc
  have e0 : errR s.fail = 0 := by unfold errR; rw [if_neg hf]
  rw [e0] at q
  have hid := mem_ids_dir hn
  have hgF := hin.inG
  have hfF := hin.inF f hid
  have Q := Lib.hid q
  have HN := Lib.hid hn
  have HID := Lib.hid hid
  clear q e0 hin hf hn hid
  unfold ptrV at *
  go_enter Tryz.func11, Tryz.ntmps11
  go_wp2_with fail
  refine Q.out.mono ?_
  rintro e w1 ⟨rfl, hin1, hk1⟩
  have c1 : w1.cell? ⟨g, 1, none⟩ = some (.map (some dm)) := blk_cell hin1.blk 1 rfl
  have hlook := hin1.dir.look (P := Tryz.prog) encStr Tryz.underlying52 Tryz.underlying9 (zeroFile w1) name false
  have hd : s.called.dir = s.dir := rfl
  rw [hd, HN.out] at hlook
  have hl : (Instr.lookup 52 (.map (some dm)) (.string name) false).run Tryz.prog w1 = .ok (.pointer (some ⟨f, 0, none⟩)) w1 := hlook
  have hby : w1.ownsRow 0 5 1 (bv f) (s.files f).1.length (bvs (s.files f).1) := hin1.bytes f HID.out
  have hblk : w1.heap[f]? = some (.cells #[bv f, .int .i64 (s.files f).2] 60) := hin1.file f HID.out
  obtain ⟨Af, cf, hbv, hcf⟩ := own_form hby
  have x0 : w1.cell? ⟨f, 0, none⟩ = some (.slice Af (s.files f).1.length cf) := by rw [← hbv]; exact blk_cell hblk 0 rfl
  have x1 : w1.cell? ⟨f, 1, none⟩ = some (.int .i64 (s.files f).2) := blk_cell hblk 1 rfl
  have y1 := blk_frozen hblk 1
  have hfin := hin1.sync HID.out (s.files f).1.length
  have HFIN := Lib.hid hfin
  have HK1 := Lib.hid (hk1.mono (F := oneF g) (G := F) (fun i _ h => by unfold oneF at h; rw [h]; exact hgF))
  clear hin1 hk1 hd hlook hby hblk hbv hfin hcf
  go_wp2
  go_ret
  exact ⟨rfl, ⟨_, _, _, _, HFIN.out⟩, HK1.out.set f 1 (.inl hfF) _⟩
end Go.Proofs.YtflnekjmcpmbbaaGreatDoor

/- Walks: a map copied; SyncDir. -/
set_option linter.unusedVariables false
set_option linter.unusedSimpArgs false
namespace Go.Proofs.YtflnekjmcpmbbaaGreatDoor
open Go.RowKit Go.MapKept

set_option maxHeartbeats 1000000 in
set_option maxRecDepth 100000 in
theorem mapsClone_run (b : Nat) (es : Array MapEntry) (clock : Nat) (w : World) (hb : w.heap[b]? = some (.map es clock)) :
    Calls Tryz.prog 33 #[.map (some b)] w fun e w' => e = .returned (.map (some w.heap.size)) ∧ w.alloc (.map es clock) = w' := by
  have hq := fun w => run_eql_map_nil_sl (P := Tryz.prog) w 52 _ _ (some b) Tryz.underlying52
  go_enter Tryz.func33, Tryz.ntmps33
  go_wp2
  rw [run_callFunc_extern Tryz.func48 (by kernel_rfl) (by kernel_rfl) (by kernel_rfl) (e := Extern.MapsClone.clone) (by kernel_rfl), run_maps_clone_sl w 52 hb]
  simp only [Result.andThen]
  rw [Oper.upon_value]
  go_wp2
  rw [run_typeAssert_map_sl _ 52 _ _ _ _ Tryz.underlying52]
  simp only [Result.andThen]
  rw [Oper.upon_value]
  go_wp2
  go_ret
  exact ⟨rfl, rfl⟩
theorem mapsClone_any (b : Nat) (m : List (ByteArray × Nat)) (w : World) (h : MapAt Value.string ptrV w b m) :
    Calls Tryz.prog 33 #[.map (some b)] w fun e w' => e = .returned (.map (some w.heap.size)) ∧ MapAt Value.string ptrV w' w.heap.size m ∧ Kept noF w w' ∧ w'.heap.size = w.heap.size + 1 := by
  obtain ⟨es, clock, hb, r⟩ := h
  refine (mapsClone_run b es clock w hb).mono ?_
  rintro e w' ⟨rfl, rfl⟩
  exact ⟨rfl, ⟨es, clock, blk_new _ _, r⟩, (Kept.refl _ _).alloc _, by simp⟩

def FsS.synced (s : FsS) : FsS := { s with lasts := s.dir, waits := [] }
theorem FsIn.syncDir {F : Nat → Prop} {w : World} {g dm lm : Nat} {wv : Value} {bv : Nat → Value} {s : FsS} (h : FsIn F w g dm lm wv bv s) {lm' : Nat} (hm : MapAt Value.string ptrV w lm' s.dir) (hF : ¬ F lm') :
    FsIn (fun k => F k ∨ k = lm') ((w.setCell ⟨g, 2, none⟩ (.map (some lm'))).setCell ⟨g, 3, none⟩ (.slice none 0 0)) g dm lm' (.slice none 0 0) bv s.synced := by
  obtain ⟨k1, k2, k3, k4, k5⟩ := h.kinds
  have hk : Kept (oneF g) w ((w.setCell ⟨g, 2, none⟩ (.map (some lm'))).setCell ⟨g, 3, none⟩ (.slice none 0 0)) := (Kept.set1 w g 2 _).transF (Kept.set1 _ g 3 _)
  have hid : ∀ j, j ∈ s.synced.ids → j ∈ s.ids := by
    intro j hj
    unfold FsS.ids FsS.synced at hj
    unfold FsS.ids
    simp only [List.mem_append, List.flatMap_nil, List.not_mem_nil, or_false] at hj ⊢
    rcases hj with (hj | hj) | hj
    · exact .inl (.inl (.inl hj))
    · exact .inl (.inl (.inl hj))
    · exact .inr hj
  exact
    { blk := by have := blk_set (blk_set h.blk 2 (.map (some lm'))) 3 (.slice none 0 0); simpa [fsCells, FsS.synced] using this
      dir := h.dir.kept hk k1
      lasts := hm.kept hk (fun e => hF (by unfold oneF at e; rw [e]; exact h.inG))
      apart := fun e => hF (by rw [← e]; exact h.inD)
      waits := World.ownsRow_nil _ _ _ _
      file := fun f hf => hk.blk (h.file f (hid f hf)) (k4 f (hid f hf)).1
      bytes := fun f hf => own_kept (h.bytes f (hid f hf)) hk (fun b hb => (k5 f (hid f hf) b hb).1)
      own := fun f1 h1 f2 h2 => h.own f1 (hid f1 h1) f2 (hid f2 h2)
      inG := .inl h.inG
      inD := .inl h.inD
      inL := .inr rfl
      inW := by simp [Value.ownBlock]
      inF := fun f hf => .inl (h.inF f (hid f hf))
      inB := fun f hf b hb => .inl (h.inB f (hid f hf) b hb)
      below := fun k hk' => by
        rcases hk' with hk' | rfl
        · exact Nat.lt_of_lt_of_le (h.below k hk') hk.size
        · have := hm.lt; simpa using this
      calls0 := h.calls0
      fail1 := h.fail1
      fail2 := h.fail2 }

set_option maxHeartbeats 1000000 in
set_option maxRecDepth 100000 in
theorem SyncDir_ok (F : Nat → Prop) (g : Nat) (s : FsS) (w : World) (h : FsAt F w g s) (hc : s.calls < 4611686018427387904) (hf : s.fail ≠ 0) :
    Calls Tryz.prog 12 #[ptrV g] w fun e w' => e = .returned (.int .i64 0) ∧ ∃ F', FsAt F' w' g s.called.synced ∧ Kept F w w' ∧ (∀ k, F' k → F k ∨ w.heap.size ≤ k) := by
  obtain ⟨dm, lm, wv, bv, hin⟩ := h
  have q := call_at F w g dm lm wv bv s hin hc
  have e0 : errR s.fail = 0 := by unfold errR; rw [if_neg hf]
  rw [e0] at q
  have hgF := hin.inG
  have Q := Lib.hid q
  clear q e0 hin hf
  unfold ptrV at *
  go_enter Tryz.func12, Tryz.ntmps12
  go_wp2_with fail
  refine Q.out.mono ?_
  rintro e w1 ⟨rfl, hin1, hk1⟩
  have c1 : w1.cell? ⟨g, 1, none⟩ = some (.map (some dm)) := blk_cell hin1.blk 1 rfl
  have hcl := mapsClone_any dm s.dir w1 hin1.dir
  have hkk : ∀ w2, Kept noF w1 w2 → w2.heap[g]? = some (.cells (fsCells s.called.room (.map (some dm)) (.map (some lm)) wv s.called.calls s.called.fail) 55) := fun w2 hk => hk.blk0 hin1.blk
  have hfin : ∀ w2, Kept noF w1 w2 → MapAt Value.string ptrV w2 w1.heap.size s.dir → FsIn (fun k => F k ∨ k = w1.heap.size) ((w2.setCell ⟨g, 2, none⟩ (.map (some w1.heap.size))).setCell ⟨g, 3, none⟩ (.slice none 0 0)) g dm w1.heap.size (.slice none 0 0) bv s.called.synced :=
    fun w2 hk hm => (hin1.kept hk (fun _ _ h => h)).syncDir hm (fun hf => by have := hin1.below _ hf; omega)
  have HCL := Lib.hid hcl
  have HKK := Lib.hid hkk
  have HFIN := Lib.hid hfin
  have HK1 := Lib.hid (hk1.mono (F := oneF g) (G := F) (fun i _ h => by unfold oneF at h; rw [h]; exact hgF))
  have HZ := Lib.hid hk1.size
  clear hin1 hk1 hcl hkk hfin
  go_wp2_with (go_at_call 33; refine HCL.out.mono ?_; rintro e w2 ⟨rfl, hm2, hk2, hz2⟩; (have hb2 := HKK.out w2 hk2); (have x2 := blk_cell hb2 2 rfl); (have x3 := blk_cell hb2 3 rfl); (have y2 := blk_frozen hb2 2); (have y3 := blk_frozen hb2 3); (have HM2 := Lib.hid hm2); (have HK2 := Lib.hid hk2); clear hm2 hk2 hz2 hb2)
  go_ret
  refine ⟨rfl, _, ⟨_, _, _, _, HFIN.out w2 HK2.out HM2.out⟩, ?_, ?_⟩
  · exact ((HK1.out.trans0 HK2.out).set g 2 (.inl hgF) _).set g 3 (.inl hgF) _
  · rintro k (h | h)
    · exact .inl h
    · have := HZ.out; exact .inr (by omega)
end Go.Proofs.YtflnekjmcpmbbaaGreatDoor

/- Walks: a map's names in order. -/
set_option linter.unusedVariables false
set_option linter.unusedSimpArgs false
namespace Go.Proofs.YtflnekjmcpmbbaaGreatDoor
open Go.RowKit Go.MapKept Go.Maps Go.Shelf

/-- A map's names, in order. -/
def namesL (m : List (ByteArray × Nat)) : List ByteArray := ((m.map fun p => p.1.data.toList).mergeSort (fun x y => decide (x ≤ y))).map fun l => ⟨l.toArray⟩
theorem namesL_length (m : List (ByteArray × Nat)) : (namesL m).length = m.length := by simp [namesL, List.length_mergeSort]
theorem namesL_perm (m : List (ByteArray × Nat)) : (namesL m).Perm (mkeys m) := by
  unfold namesL mkeys
  have h := (List.mergeSort_perm (m.map fun p => p.1.data.toList) (fun x y => decide (x ≤ y))).map (fun l => (⟨l.toArray⟩ : ByteArray))
  refine h.trans ?_
  rw [List.map_map]
  have : ((fun l => (⟨l.toArray⟩ : ByteArray)) ∘ fun p : ByteArray × Nat => p.1.data.toList) = fun p => p.1 := by
    funext p; simp
  rw [this]

def anyR : Value → Option (DataW Unit × List MemPlace) := fun _ => some (.lit (.bool true), [])
theorem MapAt.owns {ev : Nat → Value} {P : Program} {w : World} {b : Nat} {m : List (ByteArray × Nat)} (h : MapAt Value.string ev w b m) {k : TypeId} (hk : P.underlying k = some .string) (hs : ∀ p ∈ m, p.1.size ≤ maxLen) (hl : m.length ≤ maxLen) :
    ∃ D : DataW Unit, w.ownsMap P k anyR b m.length D ∧ (strKeys D).Perm (m.map fun p => p.1.data.toList) ∧ Maps.size D = m.length := by
  obtain ⟨es, clock, hb, hst, hm⟩ := h
  have hlen : es.size = m.length := by have := hm.length_eq; simpa using this
  have hk1 : ∀ x ∈ es.toList, ∃ p ∈ m, x.key = .string p.1 := fun x hx => by
    obtain ⟨p, hp, e⟩ := List.mem_map.1 (hm.mem_iff.1 (List.mem_map.2 ⟨x, hx, rfl⟩))
    simp only [Prod.mk.injEq] at e
    exact ⟨p, hp, e.1.symm⟩
  have hrd : ∀ x ∈ es.toList, ∀ p : ByteArray × Nat, p.1.size ≤ maxLen → x.key = .string p.1 → WideElems.rd P k anyR x = some (.string p.1.data.toList, .lit (.bool true)) := fun x hx p hp e => by
    have hkey : keyOf P k x.key = some (.string p.1.data.toList) := by rw [e]; simp [keyOf, hk, mapKey, hp]
    exact WideElems.rd_mk (R := anyR) (born := x.born) (val := x.val) (yv := (.lit (.bool true), [])) hkey rfl
  have F : WideElems.Fit P k anyR es clock := ⟨by omega, hst, fun x hx => by
    obtain ⟨p, hp, e⟩ := hk1 x hx
    exact ⟨_, hrd x hx p (hs p hp) e⟩⟩
  refine ⟨_, ⟨es, clock, hb, F, by omega, rfl⟩, ?_, ?_⟩
  · unfold strKeys
    refine ((WideShapes.sorted_perm _).map _).trans ?_
    rw [List.map_map]
    have h2 := (hm.map Prod.fst)
    simp only [List.map_map] at h2
    have e1 : (es.toList.map ((fun p : Lit × DataW Unit => strOf p.1) ∘ WideElems.rg P k anyR)) = (es.toList.map (Prod.fst ∘ fun e : MapEntry => (e.key, e.val))).map (fun v => match v with | .string s => s.data.toList | _ => []) := by
      rw [List.map_map]
      apply List.map_congr_left
      intro x hx
      obtain ⟨p, hp, e⟩ := hk1 x hx
      simp only [Function.comp_apply]
      rw [WideElems.rg_of (hrd x hx p (hs p hp) e), e]
      rfl
    rw [e1]
    refine (h2.map _).trans ?_
    rw [List.map_map]
    exact List.Perm.of_eq (List.map_congr_left (fun p _ => rfl))
  · unfold Maps.size
    simp only
    rw [(WideShapes.sorted_perm _).length_eq]
    simp [hlen]
end Go.Proofs.YtflnekjmcpmbbaaGreatDoor

/-
  DERIVED: THE SHELF's CONTRACTS AT THIS DUMP, IN PLAIN WORDS (tools/lay-plain.mjs out of 'YtflnekjmcpmbbaaGreatDoorLayX.lean', which tools/lay-shelf.mjs wrote): THE SAME DECLARATIONS UNDER THE SAME NAMES: 'import', 'namespace', 'open', 'def', 'theorem' AND NOTHING ELSE: no command of the shelf's: FOR A HAND-IN. Each laying: the table of numbers ('.._ren') and one theorem, a field a fact of the dump's own or the kernel's comparison; each contract: ONE APPLICATION.
-/
namespace Go.Proofs
open Go.Shelf
def Tryz.keysL_ren : Go.Shelf.Ren := ⟨fun | 7 => 45 | 10 => 65 | n => n, fun | 23 => 52 | 26 => 9 | 3 => 57 | 28 => 86 | 0 => 0 | 27 => 85 | 33 => 56 | 4 => 4 | n => n, fun | n => n⟩
theorem Tryz.keysL : Go.Proofs.SlLaysZ.n7 Tryz.prog Tryz.keysL_ren := {
  mixed := by kernel_rfl
  f7 := ⟨Tryz.f45.name, by decide, Tryz.func45.trans (congrArg some (by kernel_rfl))⟩
  f10 := ⟨Tryz.f65.name, by decide, Tryz.func65.trans (congrArg some (by kernel_rfl))⟩
  t0 := Tryz.underlying0
  a0 := Tryz.isAgg0
  z0 := Tryz.sizeOf0
  v0 := Tryz.zeroValue0
  t4 := Tryz.underlying4
  a4 := Tryz.isAgg4
  z4 := Tryz.sizeOf4
  v4 := Tryz.zeroValue4
  t23 := Tryz.underlying52
  a23 := Tryz.isAgg52
  z23 := Tryz.sizeOf52
  v23 := Tryz.zeroValue52
  t26 := Tryz.underlying9
  a26 := Tryz.isAgg9
  z26 := Tryz.sizeOf9
  v26 := Tryz.zeroValue9
  t27 := Tryz.underlying85
  a27 := Tryz.isAgg85
  z27 := Tryz.sizeOf85
  v27 := Tryz.zeroValue85
  t28 := Tryz.underlying86
  a28 := Tryz.isAgg86
  z28 := Tryz.sizeOf86
  v28 := Tryz.zeroValue86
  t33 := Tryz.underlying56
  a33 := Tryz.isAgg56
  z33 := Tryz.sizeOf56
  v33 := Tryz.zeroValue56 }
def Tryz.sortedL_ren : Go.Shelf.Ren := ⟨fun | 6 => 44 | 8 => 63 | 9 => 64 | 11 => 77 | 13 => 79 | 12 => 78 | 23 => 98 | 24 => 85 | 14 => 89 | 15 => 90 | 16 => 91 | 17 => 92 | 18 => 93 | 19 => 94 | 20 => 95 | 21 => 96 | 22 => 97 | 25 => 101 | 26 => 102 | 27 => 103 | 28 => 104 | 29 => 105 | 30 => 106 | 31 => 107 | n => n, fun | 26 => 9 | 28 => 86 | 24 => 83 | 0 => 0 | 3 => 3 | 37 => 92 | 48 => 89 | 50 => 65 | 4 => 4 | 40 => 123 | 39 => 122 | 45 => 128 | 5 => 5 | 9 => 9 | 51 => 131 | 55 => 135 | 57 => 139 | 58 => 140 | 33 => 56 | n => n, fun | n => n⟩
theorem Tryz.sortedL : Go.Proofs.SlLaysZ.n6 Tryz.prog Tryz.sortedL_ren := {
  mixed := by kernel_rfl
  f6 := ⟨Tryz.f44.name, by decide, Tryz.func44.trans (congrArg some (by kernel_rfl))⟩
  f8 := ⟨Tryz.f63.name, by decide, Tryz.func63.trans (congrArg some (by kernel_rfl))⟩
  f11 := ⟨Tryz.f77.name, by decide, Tryz.func77.trans (congrArg some (by kernel_rfl))⟩
  t0 := Tryz.underlying0
  a0 := Tryz.isAgg0
  z0 := Tryz.sizeOf0
  v0 := Tryz.zeroValue0
  t24 := Tryz.underlying83
  a24 := Tryz.isAgg83
  z24 := Tryz.sizeOf83
  v24 := Tryz.zeroValue83
  t26 := Tryz.underlying9
  a26 := Tryz.isAgg9
  z26 := Tryz.sizeOf9
  v26 := Tryz.zeroValue9
  t28 := Tryz.underlying86
  a28 := Tryz.isAgg86
  z28 := Tryz.sizeOf86
  v28 := Tryz.zeroValue86
  i26 := by kernel_rfl }
def Tryz.sortL_ren : Go.Shelf.Ren := ⟨fun | 6 => 64 | 8 => 79 | 9 => 78 | 19 => 98 | 20 => 85 | 21 => 89 | 22 => 90 | 23 => 91 | 24 => 92 | 25 => 93 | 26 => 94 | 27 => 95 | 28 => 96 | 29 => 97 | 36 => 101 | 31 => 102 | 32 => 103 | 37 => 104 | 38 => 105 | 39 => 106 | 41 => 107 | n => n, fun | 27 => 83 | 29 => 9 | 3 => 3 | 32 => 92 | 26 => 83 | 0 => 0 | 44 => 89 | 46 => 65 | 4 => 4 | 36 => 123 | 35 => 122 | 41 => 128 | 5 => 5 | 9 => 9 | 53 => 131 | 57 => 135 | 63 => 139 | 64 => 140 | n => n, fun | n => n⟩
theorem Tryz.sortL : Go.Proofs.SlLaysM.n6 Tryz.prog Tryz.sortL_ren := {
  mixed := by kernel_rfl
  f6 := ⟨Tryz.f64.name, by decide, Tryz.func64.trans (congrArg some (by kernel_rfl))⟩
  f8 := Tryz.func79.trans (congrArg some (by kernel_rfl))
  f9 := ⟨Tryz.f78.name, by decide, Tryz.func78.trans (congrArg some (by kernel_rfl))⟩
  f19 := Tryz.func98.trans (congrArg some (by kernel_rfl))
  f20 := Tryz.func85.trans (congrArg some (by kernel_rfl))
  f21 := ⟨Tryz.f89.name, by decide, Tryz.func89.trans (congrArg some (by kernel_rfl))⟩
  f22 := ⟨Tryz.f90.name, by decide, Tryz.func90.trans (congrArg some (by kernel_rfl))⟩
  f23 := ⟨Tryz.f91.name, by decide, Tryz.func91.trans (congrArg some (by kernel_rfl))⟩
  f24 := ⟨Tryz.f92.name, by decide, Tryz.func92.trans (congrArg some (by kernel_rfl))⟩
  f25 := ⟨Tryz.f93.name, by decide, Tryz.func93.trans (congrArg some (by kernel_rfl))⟩
  f26 := ⟨Tryz.f94.name, by decide, Tryz.func94.trans (congrArg some (by kernel_rfl))⟩
  f27 := ⟨Tryz.f95.name, by decide, Tryz.func95.trans (congrArg some (by kernel_rfl))⟩
  f28 := ⟨Tryz.f96.name, by decide, Tryz.func96.trans (congrArg some (by kernel_rfl))⟩
  f29 := ⟨Tryz.f97.name, by decide, Tryz.func97.trans (congrArg some (by kernel_rfl))⟩
  f31 := Tryz.func102.trans (congrArg some (by kernel_rfl))
  f32 := Tryz.func103.trans (congrArg some (by kernel_rfl))
  f36 := ⟨Tryz.f101.name, by decide, Tryz.func101.trans (congrArg some (by kernel_rfl))⟩
  f37 := ⟨Tryz.f104.name, by decide, Tryz.func104.trans (congrArg some (by kernel_rfl))⟩
  f38 := ⟨Tryz.f105.name, by decide, Tryz.func105.trans (congrArg some (by kernel_rfl))⟩
  f39 := ⟨Tryz.f106.name, by decide, Tryz.func106.trans (congrArg some (by kernel_rfl))⟩
  f41 := ⟨Tryz.f107.name, by decide, Tryz.func107.trans (congrArg some (by kernel_rfl))⟩
  t0 := Tryz.underlying0
  a0 := Tryz.isAgg0
  z0 := Tryz.sizeOf0
  v0 := Tryz.zeroValue0
  t3 := Tryz.underlying3
  a3 := Tryz.isAgg3
  z3 := Tryz.sizeOf3
  v3 := Tryz.zeroValue3
  t4 := Tryz.underlying4
  a4 := Tryz.isAgg4
  z4 := Tryz.sizeOf4
  v4 := Tryz.zeroValue4
  t5 := Tryz.underlying5
  a5 := Tryz.isAgg5
  z5 := Tryz.sizeOf5
  v5 := Tryz.zeroValue5
  t9 := Tryz.underlying9
  a9 := Tryz.isAgg9
  z9 := Tryz.sizeOf9
  v9 := Tryz.zeroValue9
  t26 := Tryz.underlying83
  a26 := Tryz.isAgg83
  z26 := Tryz.sizeOf83
  v26 := Tryz.zeroValue83
  t27 := Tryz.underlying83
  a27 := Tryz.isAgg83
  z27 := Tryz.sizeOf83
  v27 := Tryz.zeroValue83
  t29 := Tryz.underlying9
  a29 := Tryz.isAgg9
  z29 := Tryz.sizeOf9
  v29 := Tryz.zeroValue9
  t32 := Tryz.underlying92
  a32 := Tryz.isAgg92
  z32 := Tryz.sizeOf92
  v32 := Tryz.zeroValue92
  t35 := Tryz.underlying122
  a35 := Tryz.isAgg122
  z35 := Tryz.sizeOf122
  v35 := Tryz.zeroValue122
  t36 := Tryz.underlying123
  a36 := Tryz.isAgg123
  z36 := Tryz.sizeOf123
  v36 := Tryz.zeroValue123
  t41 := Tryz.underlying128
  a41 := Tryz.isAgg128
  z41 := Tryz.sizeOf128
  v41 := Tryz.zeroValue128
  t44 := Tryz.underlying89
  a44 := Tryz.isAgg89
  z44 := Tryz.sizeOf89
  v44 := Tryz.zeroValue89
  t46 := Tryz.underlying65
  a46 := Tryz.isAgg65
  z46 := Tryz.sizeOf65
  v46 := Tryz.zeroValue65
  t53 := Tryz.underlying131
  a53 := Tryz.isAgg131
  z53 := Tryz.sizeOf131
  v53 := Tryz.zeroValue131
  t57 := Tryz.underlying135
  a57 := Tryz.isAgg135
  z57 := Tryz.sizeOf135
  v57 := Tryz.zeroValue135
  t63 := Tryz.underlying139
  a63 := Tryz.isAgg139
  z63 := Tryz.sizeOf139
  v63 := Tryz.zeroValue139
  t64 := Tryz.underlying140
  a64 := Tryz.isAgg140
  z64 := Tryz.sizeOf140
  v64 := Tryz.zeroValue140 }
end Go.Proofs

/- Walks: a map's names in order, collected and sorted by the library. -/
set_option linter.unusedVariables false
set_option linter.unusedSimpArgs false
namespace Go.Proofs.YtflnekjmcpmbbaaGreatDoor
open Go.RowKit Go.MapKept Go.Maps Go.Sort Go.Shelf

theorem sorts_lay (m : Nat) : AnyZ.SortsIn Tryz.prog Tryz.sortedL_ren Fence.wide m :=
  ⟨fun blk off cap ss W hH hblk hsz => callsIn_wide.2 (AnyM.slices_Sort_string Tryz.sortL blk off cap ss W hH hblk hsz),
   fun p cap W => callsIn_wide.2 (AnyM.slices_Sort_string_none Tryz.sortL p cap W)⟩

theorem Keys_any (b : Nat) (w : World) : Calls Tryz.prog 45 #[.map (some b)] w fun e w' =>
    e = .returned (.func (.func 65) #[] #[.pointer (some ⟨w.heap.size, 0, none⟩)]) ∧ w.alloc (.cells #[.map (some b)] 52) = w' :=
  (callsIn_wide.1 (AnyZ.keys_in Tryz.keysL Fence.wide 5 trivial rfl (some b) w)).mono (fun e w' h => ⟨h.1, h.2.symm⟩)

set_option maxHeartbeats 1000000 in
theorem Sorted_any (b : Nat) (m : List (ByteArray × Nat)) (w : World) (h : MapAt Value.string ptrV w b m) (hs : ∀ p ∈ m, p.1.size ≤ maxLen) (hl : m.length < 1000000000) :
    Calls Tryz.prog 44 #[.func (.func 65) #[] #[.pointer (some ⟨w.heap.size, 0, none⟩)]] (w.alloc (.cells #[.map (some b)] 52)) fun e w' =>
      ∃ v, e = .returned v ∧ w'.ownsRow w.heap.size 9 1 v (namesL m).length ((namesL m).map Value.string) ∧ Kept noF w w' := by
  have hbl := h.lt
  obtain ⟨D, hown, hperm, hsize⟩ := h.owns Tryz.underlying9 hs (by unfold maxLen; omega)
  have hseq : SeqGives Fence.wide 2 Tryz.prog 65 #[.pointer (some ⟨w.heap.size, 0, none⟩)] _root_.Go.Proofs.encStr (fun ss => ss.Perm (strKeys D)) (Maps.size D) (w.alloc (.cells #[.map (some b)] 52)) :=
    AnyZ.keys_gives (ρ := Tryz.keysL_ren) { Tryz.keysL with } Fence.wide _ trivial rfl (by omega) w.heap.size b m.length D _ (by simp) (by simp) (by
      obtain ⟨es, clock, hb, Ft, hs, hD⟩ := hown
      exact ⟨es, clock, (Below.heap_alloc _ _ b hbl).trans hb, Ft, hs, hD⟩)
  have hc := callsIn_wide.1 (AnyZ.sorted_in Tryz.sortedL Fence.wide 5 trivial trivial trivial trivial rfl (by omega) (sorts_lay _) (enters_of Tryz.func64 (by kernel_rfl) rfl) 65 #[.pointer (some ⟨w.heap.size, 0, none⟩)] trivial (enters_of Tryz.func65 (by kernel_rfl) rfl) _ _ (by rw [hsize]; unfold maxLen; omega) (by rw [hsize]; omega) _ hseq)
  refine hc.mono ?_
  rintro e w' ⟨v, ss, rfl, hS, hrow, hnil, hb⟩
  have hp : ss.Perm (m.map fun p => p.1.data.toList) := hS.trans hperm
  have e1 : ss.length = (namesL m).length := by rw [namesL_length, hp.length_eq, List.length_map]
  have e2 : (ss.mergeSort (fun x y => decide (x ≤ y))).map _root_.Go.Proofs.encStr = (namesL m).map Value.string := by
    unfold namesL
    have := mergeSort_of_perm hp
    rw [show (ss.mergeSort fun x y => decide (x ≤ y)) = (m.map fun p => p.1.data.toList).mergeSort (fun x y => decide (x ≤ y)) from this, List.map_map]
    rfl
  rw [e1, e2] at hrow
  refine ⟨v, rfl, own_base hrow (by simp), ?_⟩
  exact ((Kept.refl noF w).alloc _).trans0 (Kept.ofBelow hb)
end Go.Proofs.YtflnekjmcpmbbaaGreatDoor

/- The files behind a crash: what the walk carries, and what its end says. -/
set_option linter.unusedVariables false
set_option linter.unusedSimpArgs false
namespace Go.Proofs.YtflnekjmcpmbbaaGreatDoor
open Go.RowKit Go.MapKept

/-! Lists of names, plain -/
theorem mget_isSome_mem {β : Type} {m : List (ByteArray × β)} {a : ByteArray} : (∃ v, mget m a = some v) ↔ a ∈ mkeys m := by
  constructor
  · rintro ⟨v, h⟩; exact List.mem_map.2 ⟨_, mget_mem h, rfl⟩
  · intro h
    cases e : mget m a with
    | some v => exact ⟨v, rfl⟩
    | none =>
      obtain ⟨p, hp, rfl⟩ := List.mem_map.1 h
      exact absurd rfl ((mget_none.1 e) p hp)
theorem perm_of_mget {β : Type} {m m' : List (ByteArray × β)} (h1 : (mkeys m).Nodup) (h2 : (mkeys m').Nodup) (h : ∀ a, mget m a = mget m' a) : m.Perm m' := by
  have n1 : m.Nodup := (List.Pairwise.of_map _ (fun a b hne e => hne (by rw [e])) h1)
  have n2 : m'.Nodup := (List.Pairwise.of_map _ (fun a b hne e => hne (by rw [e])) h2)
  refine (List.perm_ext_iff_of_nodup n1 n2).2 fun p => ?_
  obtain ⟨a, v⟩ := p
  exact ⟨fun hp => mget_mem (by rw [← h]; exact mget_of_mem h1 hp), fun hp => mget_mem (by rw [h]; exact mget_of_mem h2 hp)⟩
/-- Names with what the files hold. -/
def viewF (files : Nat → List UInt8 × Nat) (d : List (ByteArray × Nat)) : List (ByteArray × (List UInt8 × Nat)) := d.map fun p => (p.1, files p.2)
theorem viewF_keys (files : Nat → List UInt8 × Nat) (d : List (ByteArray × Nat)) : mkeys (viewF files d) = mkeys d := by simp [viewF, mkeys]
theorem mget_map {β γ : Type} (m : List (ByteArray × β)) (f : β → γ) (a : ByteArray) : mget (m.map fun p => (p.1, f p.2)) a = (mget m a).map f := by
  induction m with
  | nil => rfl
  | cons p r ih =>
    unfold mget at ih ⊢
    by_cases h : p.1 = a
    · simp [h]
    · rw [List.map_cons, List.find?_cons_of_neg (by simpa using h), List.find?_cons_of_neg (by simpa using h)]; exact ih
theorem mget_view (files : Nat → List UInt8 × Nat) (d : List (ByteArray × Nat)) (a : ByteArray) : mget (viewF files d) a = (mget d a).map files := mget_map d files a
def cutF (x : List UInt8 × Nat) : List UInt8 × Nat := (x.1.take x.2, (x.1.take x.2).length)

/-- Behind a crash: the names and bytes that last. -/
structure Crashed (s s' : FsS) : Prop where
  room : s'.room = s.room
  calls : s'.calls = 0
  fail : s'.fail = -1
  waits : s'.waits = []
  lasts : s'.lasts = s'.dir
  extra : s'.extra = []
  names : (mkeys s'.dir).Nodup
  view : (viewF s'.files s'.dir).Perm ((viewF s.files s.lasts).map fun p => (p.1, cutF p.2))
/-- The first of some names are done. -/
structure Half (s : FsS) (ns : List ByteArray) (i : Nat) (m : List (ByteArray × Nat)) (fl : Nat → List UInt8 × Nat) (ids : List Nat) : Prop where
  out : ∀ a, mget s.lasts a = none → mget m a = none
  done : ∀ a f, mget s.lasts a = some f → a ∈ ns.take i → ∃ f', mget m a = some f' ∧ f' ∈ ids ∧ fl f' = cutF (s.files f)
  todo : ∀ a f, mget s.lasts a = some f → a ∉ ns.take i → mget m a = some f
theorem Half.start (s : FsS) (ns : List ByteArray) (fl : Nat → List UInt8 × Nat) (ids : List Nat) : Half s ns 0 s.lasts fl ids :=
  ⟨fun _ h => h, fun a f h h2 => by simp at h2, fun a f h _ => h⟩
theorem Half.step {s : FsS} {ns : List ByteArray} {i : Nat} {m : List (ByteArray × Nat)} {fl : Nat → List UInt8 × Nat} {ids : List Nat} (h : Half s ns i m fl ids) (hi : i < ns.length) (hnd : ns.Nodup) {f f' : Nat} (hf : mget s.lasts ns[i] = some f) (hf' : f' ∉ ids) :
    Half s ns (i + 1) (mput m ns[i] f') (upd fl f' (cutF (s.files f))) (f' :: ids) := by
  have ht : ns.take (i + 1) = ns.take i ++ [ns[i]] := by rw [List.take_succ_eq_append_getElem hi]
  have hno : ns[i] ∉ ns.take i := by
    intro hm
    obtain ⟨j, hj, e⟩ := List.getElem_of_mem hm
    rw [List.getElem_take] at e
    have hjl : j < i := by have := hj; simp at this; omega
    have := (List.getElem_inj hnd).1 e
    omega
  refine ⟨fun a ha => ?_, fun a g ha hm => ?_, fun a g ha hm => ?_⟩
  · rw [mget_put, if_neg (by rintro rfl; rw [hf] at ha; cases ha)]
    exact h.out a ha
  · rw [ht] at hm
    by_cases e : ns[i] = a
    · refine ⟨f', by rw [mget_put, if_pos e], List.mem_cons_self, ?_⟩
      rw [← e, hf] at ha
      cases ha
      simp [upd]
    · rcases List.mem_append.1 hm with hm | hm
      · obtain ⟨f2, h1, h2, h3⟩ := h.done a g ha hm
        refine ⟨f2, by rw [mget_put, if_neg e]; exact h1, List.mem_cons_of_mem _ h2, ?_⟩
        rw [upd_ne _ _ (by rintro rfl; exact hf' h2)]
        exact h3
      · simp at hm; exact absurd hm.symm e
  · rw [ht] at hm
    simp only [List.mem_append, List.mem_singleton, not_or] at hm
    rw [mget_put, if_neg (fun e => hm.2 e.symm)]
    exact h.todo a g ha hm.1
theorem Half.all {s : FsS} {ns : List ByteArray} {m : List (ByteArray × Nat)} {fl : Nat → List UInt8 × Nat} {ids : List Nat} (h : Half s ns ns.length m fl ids) (hns : ns.Perm (mkeys s.lasts)) (hn : (mkeys s.lasts).Nodup) (hm : (mkeys m).Nodup) :
    (viewF fl m).Perm ((viewF s.files s.lasts).map fun p => (p.1, cutF p.2)) ∧ ∀ p ∈ m, p.2 ∈ ids := by
  have key : ∀ a f, mget s.lasts a = some f → ∃ f', mget m a = some f' ∧ f' ∈ ids ∧ fl f' = cutF (s.files f) := fun a f ha => by
    refine h.done a f ha ?_
    rw [List.take_length]
    exact hns.mem_iff.2 (mget_isSome_mem.1 ⟨f, ha⟩)
  constructor
  · refine perm_of_mget (by rw [viewF_keys]; exact hm) (by rw [show mkeys ((viewF s.files s.lasts).map fun p => (p.1, cutF p.2)) = mkeys s.lasts from by simp [viewF, mkeys]]; exact hn) fun a => ?_
    rw [mget_view, mget_map, mget_view]
    cases e : mget s.lasts a with
    | none => rw [h.out a e]; rfl
    | some f =>
      obtain ⟨f', h1, h2, h3⟩ := key a f e
      rw [h1]
      simp [h3]
  · intro p hp
    have h1 := mget_of_mem hm (show (p.1, p.2) ∈ m from hp)
    cases e : mget s.lasts p.1 with
    | none => rw [h.out _ e] at h1; cases h1
    | some f =>
      obtain ⟨f', h2, h3, _⟩ := key _ _ e
      rw [h1] at h2; cases h2
      exact h3

/-- New files, from block 'base' on. -/
structure FilesIn (base : Nat) (w : World) (bv : Nat → Value) (fl : Nat → List UInt8 × Nat) (ids : List Nat) : Prop where
  file : ∀ f ∈ ids, w.heap[f]? = some (.cells #[bv f, .int .i64 (fl f).2] 60)
  bytes : ∀ f ∈ ids, w.ownsRow 0 5 1 (bv f) (fl f).1.length (bvs (fl f).1)
  own : ∀ f ∈ ids, ∀ f2 ∈ ids, f ≠ f2 → ∀ b, (bv f).ownBlock = some b → (bv f2).ownBlock ≠ some b
  inF : ∀ f ∈ ids, base ≤ f
  inB : ∀ f ∈ ids, ∀ b, (bv f).ownBlock = some b → base ≤ b
theorem FilesIn.nil (base : Nat) (w : World) (bv : Nat → Value) (fl : Nat → List UInt8 × Nat) : FilesIn base w bv fl [] := ⟨by simp, by simp, by simp, by simp, by simp⟩
theorem FilesIn.kept {base : Nat} {w w' : World} {bv : Nat → Value} {fl : Nat → List UInt8 × Nat} {ids : List Nat} {G : Nat → Prop} (h : FilesIn base w bv fl ids) (k : Kept G w w') (hG : ∀ b, base ≤ b → ¬ G b) : FilesIn base w' bv fl ids :=
  { h with
    file := fun f hf => k.blk (h.file f hf) (hG _ (h.inF f hf))
    bytes := fun f hf => own_kept (h.bytes f hf) k (fun b hb => hG _ (h.inB f hf b hb)) }
theorem FilesIn.fresh {base : Nat} {w : World} {bv : Nat → Value} {fl : Nat → List UInt8 × Nat} {ids : List Nat} (h : FilesIn base w bv fl ids) {f : Nat} (hf : w.heap.size ≤ f) : f ∉ ids := fun hm => by
  have := blk_lt (h.file f hm); omega
theorem FilesIn.add {base : Nat} {w w2 : World} {bv : Nat → Value} {fl : Nat → List UInt8 × Nat} {ids : List Nat} {G : Nat → Prop} (h : FilesIn base w bv fl ids) (k : Kept G w w2) (hG : ∀ b, base ≤ b → b < w.heap.size → ¬ G b) (hb : base ≤ w.heap.size)
    {f : Nat} {v : Value} {x : List UInt8 × Nat} (hf : w2.heap[f]? = some (.cells #[v, .int .i64 x.2] 60)) (hv : w2.ownsRow w.heap.size 5 1 v x.1.length (bvs x.1)) (hfn : w.heap.size ≤ f) :
    FilesIn base w2 (upd bv f v) (upd fl f x) (f :: ids) := by
  have hne : ∀ j, j ∈ ids → j ≠ f := fun j hj e => by subst e; exact h.fresh hfn hj
  have hlt : ∀ j ∈ ids, ∀ b, (bv j).ownBlock = some b → b < w.heap.size := fun j hj b hb => own_lt (h.bytes j hj) b hb
  exact
    { file := fun j hj => by
        rcases List.mem_cons.1 hj with rfl | hj
        · simpa [upd] using hf
        · have := k.blk (h.file j hj) (hG _ (h.inF j hj) (blk_lt (h.file j hj)))
          simpa [upd, hne j hj] using this
      bytes := fun j hj => by
        rcases List.mem_cons.1 hj with rfl | hj
        · simpa [upd] using own_base hv (Nat.zero_le _)
        · have := own_kept (h.bytes j hj) k (fun b hb => hG _ (h.inB j hj b hb) (hlt j hj b hb))
          simpa [upd, hne j hj] using this
      own := fun f1 h1 f2 h2 hn b hb hb2 => by
        rcases List.mem_cons.1 h1 with e1 | e1 <;> rcases List.mem_cons.1 h2 with e2 | e2
        · exact hn (e1.trans e2.symm)
        · rw [e1, upd_same] at hb
          rw [upd_ne _ _ (hne f2 e2)] at hb2
          have := own_from hv b hb
          have := hlt f2 e2 b hb2
          omega
        · rw [e2, upd_same] at hb2
          rw [upd_ne _ _ (hne f1 e1)] at hb
          have := own_from hv b hb2
          have := hlt f1 e1 b hb
          omega
        · rw [upd_ne _ _ (hne f1 e1)] at hb
          rw [upd_ne _ _ (hne f2 e2)] at hb2
          exact h.own f1 e1 f2 e2 hn b hb hb2
      inF := fun j hj => by
        rcases List.mem_cons.1 hj with rfl | hj
        · omega
        · exact h.inF j hj
      inB := fun j hj b hb => by
        rcases List.mem_cons.1 hj with rfl | hj
        · rw [upd_same] at hb; have := own_from hv b hb; omega
        · rw [upd_ne _ _ (hne j hj)] at hb; exact h.inB j hj b hb }
end Go.Proofs.YtflnekjmcpmbbaaGreatDoor
