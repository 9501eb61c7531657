/- Part 9 of the texts beneath: FsCrash, RawAdd, RawSync, RawGet, RawCreate. -/
import Derived.Test.YtflnekjmcpmbbaaGreatDoorKRawAnyRow8
import Derived.Deep.RegionHeld3
import Derived.Deep.DeepCutAuto
import Derived.Deep.RegionLaw
import Derived.Test.YtflnekjmcpmbbaaGreatDoorKRawAnyRow6

/- Walks: a crash at which nothing that waits lasts. -/
set_option linter.unusedVariables false
set_option linter.unusedSimpArgs false
namespace Go.Proofs.YtflnekjmcpmbbaaGreatDoor
open Go.RowKit Go.MapKept

theorem Chg.four (c : Chg) : ∃ k a b q, c.cells = [.int .i64 k, .string a, .string b, .pointer q] := by
  cases c with
  | made n f => exact ⟨0, n, ⟨#[]⟩, some ⟨f, 0, none⟩, rfl⟩
  | named a b => exact ⟨1, a, b, none, rfl⟩
  | gone a => exact ⟨2, a, ⟨#[]⟩, none, rfl⟩
theorem flat4 : ∀ (l : List Chg) (k j : Nat) (h : k < l.length), j < 4 → (l.flatMap Chg.cells)[k * 4 + j]? = (l[k].cells)[j]?
  | [], _, _, h, _ => by simp at h
  | c :: r, k, j, h, hj => by
    obtain ⟨kk, a, b, q, e⟩ := c.four
    have hl : c.cells.length = 4 := by rw [e]; rfl
    rw [List.flatMap_cons]
    cases k with
    | zero => rw [List.getElem?_append_left (by omega)]; simp
    | succ k =>
      rw [List.getElem?_append_right (by omega), hl]
      have := flat4 r k j (by simpa using h) hj
      rw [show (k + 1) * 4 + j - 4 = k * 4 + j from by omega, this]
      rfl

set_option maxHeartbeats 1000000 in
set_option maxRecDepth 100000 in
theorem Crash_any (F : Nat → Prop) (g : Nat) (s : FsS) (w : World) (h : FsAt F w g s) (hw : s.waits.length < 1000000000) (hl : s.lasts.length < 1000000000)
    (hs : ∀ p ∈ s.lasts, p.1.size ≤ maxLen ∧ (s.files p.2).2 ≤ (s.files p.2).1.length ∧ (s.files p.2).1.length ≤ 140737488351232) :
    Calls Tryz.prog 18 #[ptrV g, .int .i64 0, .slice none 0 0] w fun e w' => ∃ g' F' s', e = .returned (ptrV g') ∧ FsAt F' w' g' s' ∧ (∀ k, F' k → w.heap.size ≤ k) ∧ Kept noF w w' ∧ Crashed s s' := by
  obtain ⟨dm, lm, wv, bv, hin⟩ := h
  have c0 : w.cell? ⟨g, 0, none⟩ = some (.int .i64 s.room) := blk_cell hin.blk 0 rfl
  have c2 : w.cell? ⟨g, 2, none⟩ = some (.map (some lm)) := blk_cell hin.blk 2 rfl
  obtain ⟨Aw, cw, hwv, hcw⟩ := own_form hin.waits
  have hq : Calls Tryz.prog 33 #[.map (some lm)] w.drew fun e w' => e = .returned (.map (some w.heap.size)) ∧ MapAt Value.string ptrV w' w.heap.size s.lasts ∧ Kept noF w.drew w' ∧ w'.heap.size = w.heap.size + 1 := mapsClone_any lm s.lasts w.drew hin.lasts
  have HQ := Lib.hid hq
  have HIN := Lib.hid hin
  have HS := Lib.hid hs
  have HWV := Lib.hid hwv
  clear hq hin hs hwv hcw
  unfold ptrV at *
  go_enter Tryz.func18, Tryz.ntmps18
  go_wp2_with fail
  go_region_held3 (fun w' => w'.cell? ⟨g, 0, none⟩ = some (.int .i64 s.room) ∧ w'.cell? ⟨g, 2, none⟩ = some (.map (some lm)))
    (first | go_keep | exact ⟨hk1.cell0 (w := w.drew) c0, hk1.cell0 (w := w.drew) c2⟩)
    (first | (go_at_call 33; refine HQ.out.mono ?_; rintro e w1 ⟨rfl, hm1, hk1, hz1⟩))
  have hkW : Kept noF w (w1.alloc (.cells #[.int .i64 s.room, .map none, .map (some w.heap.size), .slice none 0 0, .int .i64 0, .int .i64 (-1)] 55)) := ((Kept.refl noF w).drew.trans0 hk1).alloc _
  have hbW := blk_new' w1 (.cells #[.int .i64 s.room, .map none, .map (some w.heap.size), .slice none 0 0, .int .i64 0, .int .i64 (-1)] 55) (w.heap.size + 1) hz1.symm
  have hmW := hm1.kept0 ((Kept.refl noF w1).alloc (.cells #[.int .i64 s.room, .map none, .map (some w.heap.size), .slice none 0 0, .int .i64 0, .int .i64 (-1)] 55))
  have hzW : (w1.alloc (.cells #[.int .i64 s.room, .map none, .map (some w.heap.size), .slice none 0 0, .int .i64 0, .int .i64 (-1)] 55)).heap.size = w.heap.size + 2 := by simp; omega
  clear hm1 hk1 hz1 c0 c2
  generalize (w1.alloc (.cells #[.int .i64 s.room, .map none, .map (some w.heap.size), .slice none 0 0, .int .i64 0, .int .i64 (-1)] 55)) = W at *
  have c3 : W.cell? ⟨g, 3, none⟩ = some (.slice Aw s.waits.length cw) := by rw [← HWV.out]; exact hkW.cell0 (blk_cell HIN.out.blk 3 rfl)
  have HKW := Lib.hid hkW
  have HBW := Lib.hid hbW
  have HMW := Lib.hid hmW
  have HZW := Lib.hid hzW
  clear hkW hbW hmW hzW HQ
  go_wp2_with fail
  clear c3
  go_loopw [33] (fun i wr => ∃ k : Nat, k ≤ s.waits.length ∧ i = .int .i64 k ∧ Kept noF W wr) (fun i _ => s.waits.length - (intOf i).toNat)
  case atStart => exact ⟨0, Nat.zero_le _, rfl, Kept.refl _ _⟩
  case round =>
    obtain ⟨k, hk, rfl, hkr⟩ := hrel
    by_cases hlt : k < s.waits.length
    · obtain ⟨ck, ca, cb, cq, hce⟩ := (s.waits[k]).four
      have hrow := own_kept0 (own_kept0 HIN.out.waits HKW.out) hkr
      rw [HWV.out] at hrow
      obtain ⟨gw, rfl, hcell⟩ : ∃ gw, Aw = some ⟨gw, 0, none⟩ ∧ ∀ j u, (s.waits.flatMap Chg.cells)[j]? = some u → wr.cell? ⟨gw, j, none⟩ = some u := by
        rcases hrow.2 with ⟨e, _⟩ | ⟨gw, cap, cur, e, _⟩
        · simp only [Value.slice.injEq] at e; omega
        · cases e
          refine ⟨gw, rfl, fun j u hj => ?_⟩
          have := hrow.cells (g := gw) rfl j u hj
          rw [add_plain, Nat.zero_add] at this
          exact this
      have d0 : wr.cell? ⟨gw, k * 4, none⟩ = some (.int .i64 ck) := hcell (k * 4 + 0) _ (by rw [flat4 _ k 0 hlt (by omega), hce]; rfl)
      have d1 : wr.cell? ⟨gw, k * 4 + 1, none⟩ = some (.string ca) := hcell (k * 4 + 1) _ (by rw [flat4 _ k 1 hlt (by omega), hce]; rfl)
      have d2 : wr.cell? ⟨gw, k * 4 + 2, none⟩ = some (.string cb) := hcell (k * 4 + 2) _ (by rw [flat4 _ k 2 hlt (by omega), hce]; rfl)
      have d3 : wr.cell? ⟨gw, k * 4 + 3, none⟩ = some (.pointer cq) := hcell (k * 4 + 3) _ (by rw [flat4 _ k 3 hlt (by omega), hce]; rfl)
      have k0 : decide ((k : Int) < 0) = false := by simp
      have HKR := Lib.hid hkr
      clear hkr hrow hcell hce
      go_wp2
      exact ⟨⟨k + 1, by omega, by go_num, HKR.out.alloc _⟩, by simp [intOf]; omega⟩
    · obtain ⟨wo, rfl⟩ : ∃ wo : World, wo = wr := ⟨_, rfl⟩
      have hcb := hkr.blk0 HBW.out
      have cc2 := blk_cell hcb 2 rfl
      have hmr := HMW.out.kept0 hkr
      have hso := Sorted_any w.heap.size s.lasts wo hmr (fun p hp => (HS.out p hp).1) hl
      have HSO := Lib.hid hso
      have HKR := Lib.hid (HKW.out.trans0 hkr)
      have HCB := Lib.hid hcb
      have HMR := Lib.hid hmr
      clear hkr hcb hmr hso HBW HMW HKW
      have HZR : Hid (w.heap.size + 2 ≤ wo.heap.size) := Lib.hid (by have := blk_lt HCB.out; omega)
      clear HZW
      have hnd : (mkeys s.lasts).Nodup := HMR.out.nodup
      have hnp := namesL_perm s.lasts
      have HNP := Lib.hid hnp
      have HND := Lib.hid hnd
      have HNN := Lib.hid (hnp.nodup_iff.2 hnd)
      have hll : (namesL s.lasts).length < 1000000000 := by rw [namesL_length]; exact hl
      clear hnd hnp hl
      generalize hns : namesL s.lasts = ns at *
      have HNS := Lib.hid hns
      clear hns
      go_wp2_with (first | (go_at_call 45; refine (Keys_any _ _).mono ?_; rintro e w' ⟨rfl, rfl⟩) | (go_at_call 44; refine HSO.out.mono ?_; rintro e w2 ⟨v2, rfl, hown2, hk2⟩; (obtain ⟨An, cn, rfl, hcn⟩ := own_form hown2); (have HO2 := Lib.hid hown2); (have HK2 := Lib.hid hk2); (clear hown2 hk2 hcn)))
      clear cc2
      go_loopw [55] (fun i wx => ∃ (k2 : Nat) (m : List (ByteArray × Nat)) (bv2 : Nat → Value) (fl : Nat → List UInt8 × Nat) (ids : List Nat), k2 ≤ ns.length ∧ i = .int .i64 k2 ∧ MapAt Value.string ptrV wx w.heap.size m ∧ Half s ns k2 m fl ids ∧ FilesIn w2.heap.size wx bv2 fl ids ∧ Kept (oneF w.heap.size) w2 wx) (fun i _ => ns.length - (intOf i).toNat)
      case atStart => exact ⟨0, s.lasts, bv, fun _ => ([], 0), [], Nat.zero_le _, rfl, HMR.out.kept0 HK2.out, Half.start _ _ _ _, FilesIn.nil _ _ _ _, Kept.refl _ _⟩
      case round =>
        obtain ⟨k2, m, bv2, fl, ids, hle2, rfl, hm, hhalf, hfi, hkx⟩ := hrel
        have hKx : Kept noF w wr := (HKR.out.trans0 HK2.out).trans hkx (fun i hi h => by unfold oneF at h; omega)
        have hzx := hkx.size
        have hz2 := HK2.out.size
        have hcb2 := hkx.blk (HK2.out.blk0 HCB.out) (show ¬ oneF w.heap.size (w.heap.size + 1) by unfold oneF; omega)
        have x2 := blk_cell hcb2 2 rfl
        by_cases hlt2 : k2 < ns.length
        · have hmem : ns[k2] ∈ mkeys s.lasts := HNP.out.mem_iff.1 (List.getElem_mem hlt2)
          obtain ⟨f0, hf0⟩ := mget_isSome_mem.2 hmem
          have hno : ns[k2] ∉ ns.take k2 := by
            intro hm
            obtain ⟨j, hj, e⟩ := List.getElem_of_mem hm
            rw [List.getElem_take] at e
            have hjl : j < k2 := by have := hj; simp at this; omega
            have := (List.getElem_inj HNN.out).1 e
            omega
          have hmf := hhalf.todo _ _ hf0 hno
          have hfid : f0 ∈ s.ids := by
            unfold FsS.ids
            simp only [List.mem_append, List.mem_map]
            exact .inl (.inl (.inr ⟨_, mget_mem hf0, rfl⟩))
          obtain ⟨_, hsy, hbl⟩ := HS.out _ (mget_mem hf0)
          simp only at hsy hbl
          have hfb := hKx.blk0 (HIN.out.file f0 hfid)
          have hby := own_kept0 (HIN.out.bytes f0 hfid) hKx
          obtain ⟨Af, cf, hbv, hcf⟩ := own_form hby
          rw [hbv] at hfb hby
          have y0 := blk_cell hfb 0 rfl
          have y1 := blk_cell hfb 1 rfl
          obtain ⟨hsl, hrd⟩ := cut_h (P := Tryz.prog) Tryz.underlying23 infoU8 (by decide) (Reads.own hby) (s.files f0).2 hsy _ rfl .i64
          have hbl2 : ((s.files f0).1.take (s.files f0).2).length = (s.files f0).2 := by rw [List.length_take]; omega
          have e1 : (bvs (s.files f0).1).take ((s.files f0).2 * 1) = bvs ((s.files f0).1.take (s.files f0).2) := by simp [bvs, List.map_take]
          rw [e1] at hrd
          have hq : Calls Tryz.prog 32 #[.slice Af (s.files f0).2 cf] wr.drew fun e w' => ∃ v', e = .returned v' ∧ w'.ownsRow wr.heap.size 5 1 v' (s.files f0).2 (bvs ((s.files f0).1.take (s.files f0).2)) ∧ Kept noF wr w' := by
            have := bytesClone_any (.slice Af (s.files f0).2 cf) ((s.files f0).1.take (s.files f0).2) wr.drew (by rw [hbl2]; exact hrd) (by omega)
            rw [hbl2] at this
            refine this.mono ?_
            rintro e w' ⟨v', r1, r2, r3⟩
            exact ⟨v', r1, r2, (Kept.refl noF wr).drew.trans0 r3⟩
          have hlook := hm.look (P := Tryz.prog) encStr Tryz.underlying52 Tryz.underlying9 (zeroFile wr) ns[k2] false
          rw [hmf] at hlook
          have hl2 : (Instr.lookup 52 (.map (some w.heap.size)) (.string ns[k2]) false).run Tryz.prog wr = .ok (.pointer (some ⟨f0, 0, none⟩)) wr := hlook
          obtain ⟨gn, rfl, hcell⟩ : ∃ gn, An = some ⟨gn, 0, none⟩ ∧ ∀ j u, (ns.map Value.string)[j]? = some u → wr.cell? ⟨gn, j, none⟩ = some u := by
            have hrow := own_kept HO2.out hkx (fun b hb => by have := own_from HO2.out b hb; have := HZR.out; unfold oneF; omega)
            rcases hrow.2 with ⟨e, _⟩ | ⟨gw, cap, cur, e, _⟩
            · simp only [Value.slice.injEq] at e; omega
            · cases e
              refine ⟨gw, rfl, fun j u hj => ?_⟩
              have := hrow.cells (g := gw) rfl j u hj
              rw [add_plain, Nat.zero_add] at this
              exact this
          have d0 : wr.cell? ⟨gn, k2, none⟩ = some (.string ns[k2]) := hcell k2 _ (by simp [hlt2])
          have hput : ∀ (w3 : World) (o : Obj), Kept noF wr w3 → ∃ w4, (Instr.mapUpdate 52 (.map (some w.heap.size)) (.string ns[k2]) (.pointer (some ⟨w3.heap.size, 0, none⟩))).run Tryz.prog (w3.alloc o) = .ok () w4 ∧ MapAt Value.string ptrV w4 w.heap.size (mput m ns[k2] w3.heap.size) ∧ Kept (oneF w.heap.size) (w3.alloc o) w4 := by
            intro w3 o hk3
            obtain ⟨w4, r1, r2, r3, _⟩ := ((hm.kept0 hk3).kept0 ((Kept.refl noF w3).alloc o)).put (P := Tryz.prog) encStr Tryz.underlying52 Tryz.underlying9 ns[k2] w3.heap.size
            exact ⟨w4, r1, r2, r3⟩
          have hx2 : ∀ w3, Kept noF wr w3 → w3.cell? ⟨w.heap.size + 1, 2, none⟩ = some (.map (some w.heap.size)) := fun w3 hk3 => hk3.cell0 x2
          have hfin : ∀ (w3 w4 : World) (v3 : Value), Kept noF wr w3 → w3.ownsRow wr.heap.size 5 1 v3 (s.files f0).2 (bvs ((s.files f0).1.take (s.files f0).2)) → MapAt Value.string ptrV w4 w.heap.size (mput m ns[k2] w3.heap.size) → Kept (oneF w.heap.size) (w3.alloc (.cells #[v3, .int .i64 (s.files f0).2] 60)) w4 →
              MapAt Value.string ptrV w4 w.heap.size (mput m ns[k2] w3.heap.size) ∧ Half s ns (k2 + 1) (mput m ns[k2] w3.heap.size) (upd fl w3.heap.size (cutF (s.files f0))) (w3.heap.size :: ids) ∧ FilesIn w2.heap.size w4 (upd bv2 w3.heap.size v3) (upd fl w3.heap.size (cutF (s.files f0))) (w3.heap.size :: ids) ∧ Kept (oneF w.heap.size) w2 w4 := by
            intro w3 w4 v3 hk3 ho3 hm4 hk4
            have hz3 := hk3.size
            have hk34 : Kept (oneF w.heap.size) wr w4 := ((hk3.of0 (F := oneF w.heap.size)).alloc _).transF hk4
            have hx : cutF (s.files f0) = ((s.files f0).1.take (s.files f0).2, (s.files f0).2) := by unfold cutF; rw [hbl2]
            have hnb : ∀ b, w2.heap.size ≤ b → ¬ oneF w.heap.size b := fun b hb h => by have := HZR.out; unfold oneF at h; omega
            refine ⟨hm4, hhalf.step hlt2 HNN.out hf0 (hfi.fresh hz3), hfi.add hk34 (fun b hb _ => hnb b hb) hzx ?_ ?_ hz3, hkx.transF hk34⟩
            · rw [hx]
              exact hk4.blk (blk_new w3 _) (hnb _ (by omega))
            · rw [hx]
              simp only [hbl2]
              exact own_kept (own_kept0 ho3 ((Kept.refl noF w3).alloc _)) hk4 (fun b hb => hnb b (by have := own_from ho3 b hb; omega))
          have kt : decide ((k2 : Int) < 0) = false := by simp
          have HQ2 := Lib.hid hq
          have HPUT := Lib.hid hput
          have HX2 := Lib.hid hx2
          have HFIN := Lib.hid hfin
          generalize ns[k2] = nm at *
          generalize (s.files f0).2 = syn at *
          generalize (s.files f0).1 = fb at *
          clear hq hput hx2 hfin hlook hcell hrd hby hfb hfid hmf hmem hno hf0 hm hhalf hfi hkx hKx hcb2 hbv e1 hbl2
          have ws1 : IntKind.i64.wrap ((syn : Int) + 0) = (syn : Int) := by rw [Int.add_zero]; exact IntWalk.i64_in _ (by omega)
          have ws2 : IntKind.i64.wrap (syn : Int) = (syn : Int) := IntWalk.i64_in _ (by omega)
          go_upto_region 17 with fail
          go_region_held3 (fun w' => w'.cell? ⟨f0, 0, none⟩ = some (.slice Af fb.length cf) ∧ w'.cell? ⟨f0, 1, none⟩ = some (.int .i64 syn))
            (first | go_keep | exact ⟨hk3.cell0 y0, hk3.cell0 y1⟩)
            (first | (go_at_call 32; refine HQ2.out.mono ?_; rintro e w3 ⟨v3, rfl, hown3, hk3⟩; (obtain ⟨A3, c3, rfl, hc3⟩ := own_form hown3)))
          all_goals
            clear ws1 ws2
            have x3 := HX2.out w3 hk3
            obtain ⟨w4, hput4, hm4, hk4⟩ := HPUT.out w3 (.cells #[.slice A3 syn c3, .int .i64 syn] 60) hk3
            have HP := Lib.hid (HFIN.out w3 w4 _ hk3 hown3 hm4 hk4)
            clear hm4 hk4 hown3 hk3 y0 y1
            go_wp2
            obtain ⟨r1, r2, r3, r4⟩ := HP.out
            exact ⟨⟨k2 + 1, _, _, _, _, by omega, by go_num, r1, r2, r3, r4⟩, by simp [intOf]; omega⟩
        · obtain rfl : k2 = ns.length := by omega
          obtain ⟨hview, hids⟩ := hhalf.all HNP.out HND.out hm.nodup
          have hcl := mapsClone_any w.heap.size m wr hm
          have hx : ∀ w3, Kept noF wr w3 → w3.heap[w.heap.size + 1]? = some (.cells #[.int .i64 s.room, .map none, .map (some w.heap.size), .slice none 0 0, .int .i64 0, .int .i64 (-1)] 55) := fun w3 hk => hk.blk0 hcb2
          have hfin : ∀ w3, MapAt Value.string ptrV w3 wr.heap.size m → Kept noF wr w3 →
              FsIn (fun k => w.heap.size ≤ k ∧ k < w3.heap.size) (w3.setCell ⟨w.heap.size + 1, 1, none⟩ (.map (some wr.heap.size))) (w.heap.size + 1) wr.heap.size w.heap.size (.slice none 0 0) bv2 ⟨s.room, 0, -1, m, m, [], fl, []⟩ ∧ Kept noF w (w3.setCell ⟨w.heap.size + 1, 1, none⟩ (.map (some wr.heap.size))) := by
            intro w3 hm3 hk3
            have hz3 := hk3.size
            have hzr := HZR.out
            have hs1 := Kept.set1 w3 (w.heap.size + 1) 1 (.map (some wr.heap.size))
            have hb3 := hx w3 hk3
            have hl3 := hm3.lt
            have hfi3 := (hfi.kept hk3 (fun _ _ h => h)).kept hs1 (fun b hb h => by unfold oneF at h; omega)
            have hid : ∀ j, j ∈ FsS.ids ⟨s.room, 0, -1, m, m, [], fl, []⟩ → j ∈ ids := by
              intro j hj
              unfold FsS.ids at hj
              simp only [List.flatMap_nil, List.append_nil, List.mem_append, List.mem_map, or_self] at hj
              obtain ⟨p, hp, rfl⟩ := hj
              exact hids p hp
            refine ⟨?_, (hKx.trans0 hk3).setCell (p := ⟨w.heap.size + 1, 1, none⟩) (.inr (by simp)) _⟩
            exact
              { blk := by have := blk_set hb3 1 (.map (some wr.heap.size)); simpa [fsCells] using this
                dir := hm3.kept hs1 (by unfold oneF; omega)
                lasts := (hm.kept0 hk3).kept hs1 (by unfold oneF; omega)
                apart := by omega
                waits := World.ownsRow_nil _ _ _ _
                file := fun f hf => hfi3.file f (hid f hf)
                bytes := fun f hf => hfi3.bytes f (hid f hf)
                own := fun f1 h1 f2 h2 => hfi3.own f1 (hid f1 h1) f2 (hid f2 h2)
                inG := by omega
                inD := by omega
                inL := by omega
                inW := by simp [Value.ownBlock]
                inF := fun f hf => by have := hfi3.inF f (hid f hf); have := blk_lt (hfi3.file f (hid f hf)); simp at this; omega
                inB := fun f hf b hb => by have := hfi3.inB f (hid f hf) b hb; have := own_lt (hfi3.bytes f (hid f hf)) b hb; simp at this; omega
                below := fun k hk => by simp; omega
                calls0 := Int.le_refl _
                fail1 := Int.le_refl _
                fail2 := by simp }
          have hcr : Crashed s ⟨s.room, 0, -1, m, m, [], fl, []⟩ := ⟨rfl, rfl, rfl, rfl, rfl, rfl, hm.nodup, hview⟩
          have HCL := Lib.hid hcl
          have HX := Lib.hid hx
          have HFIN := Lib.hid hfin
          have HCR := Lib.hid hcr
          have HZ := Lib.hid (Nat.le_trans hz2 hzx)
          clear hcl hx hfin hcr hview hids hm hhalf hfi hkx hKx hcb2 hzx hz2
          go_wp2_with (go_at_call 33; refine HCL.out.mono ?_; rintro e w3 ⟨rfl, hm3, hk3, hz3⟩; (have hb3 := HX.out w3 hk3); (have z1 := blk_cell hb3 1 rfl); (have z2 := blk_frozen hb3 1); (have HF3 := Lib.hid (HFIN.out w3 hm3 hk3)); clear hm3 hk3 hz3 hb3)
          go_ret
          obtain ⟨r1, r2⟩ := HF3.out
          exact ⟨_, _, _, rfl, ⟨_, _, _, _, r1⟩, fun k hk => hk.1, r2, HCR.out⟩
end Go.Proofs.YtflnekjmcpmbbaaGreatDoor

/- A segment that grows, as a state; add, Len, Size. -/
set_option linter.unusedVariables false
set_option linter.unusedSimpArgs false
namespace Go.Proofs.YtflnekjmcpmbbaaGreatDoor
open Go.RowKit Go.MapKept

/-- Where pieces of these lengths begin. -/
def startsL : List Nat → Nat → List Nat
  | [], _ => []
  | n :: r, a => a :: startsL r (a + n)
theorem startsL_length : ∀ (l : List Nat) (a : Nat), (startsL l a).length = l.length
  | [], _ => rfl
  | n :: r, a => by simp [startsL, startsL_length r]
theorem startsL_snoc : ∀ (l : List Nat) (a n : Nat), startsL (l ++ [n]) a = startsL l a ++ [a + l.sum]
  | [], a, n => by simp [startsL]
  | x :: r, a, n => by simp [startsL, startsL_snoc r, Nat.add_assoc]
theorem startsL_get : ∀ (l : List Nat) (a i : Nat), i < l.length → (startsL l a)[i]? = some (a + (l.take i).sum)
  | [], _, _, h => by simp at h
  | n :: r, a, 0, _ => by simp [startsL]
  | n :: r, a, i + 1, h => by
    simp only [startsL, List.getElem?_cons_succ]
    rw [startsL_get r (a + n) i (by simpa using h)]
    simp [Nat.add_assoc]
def intV (l : List Nat) : List Value := l.map fun (n : Nat) => Value.int .i64 (n : Int)
theorem intV_one (l : List Nat) : ∀ u ∈ intV l, u.oneCell' = true := by
  intro u hu
  obtain ⟨n, _, rfl⟩ := List.mem_map.1 hu
  rfl
def segCells (g : Nat) (name : ByteArray) (av : Value) (e : Nat) : Array Value := #[ptrV g, .string name, av, .int .i64 (e : Int)]
/-- Block sg is a segment on the disk g; its records have these lengths; its blocks are sg and the list's. -/
structure SegIn (w : World) (sg g : Nat) (name : ByteArray) (av : Value) (lens : List Nat) : Prop where
  blk : w.heap[sg]? = some (.cells (segCells g name av lens.sum) 78)
  ats : w.ownsRow 0 3 1 av lens.length (intV (startsL lens 0))
/-- The same; its blocks are among G. -/
def SegAt (G : Nat → Prop) (w : World) (sg g : Nat) (name : ByteArray) (lens : List Nat) : Prop :=
  ∃ av, SegIn w sg g name av lens ∧ G sg ∧ (∀ b, av.ownBlock = some b → G b) ∧ ∀ k, G k → k < w.heap.size
theorem SegIn.kept {F : Nat → Prop} {w w' : World} {sg g : Nat} {name : ByteArray} {av : Value} {lens : List Nat} (h : SegIn w sg g name av lens) (k : Kept F w w') (h1 : ¬ F sg) (h2 : ∀ b, av.ownBlock = some b → ¬ F b) : SegIn w' sg g name av lens :=
  ⟨k.blk h.blk h1, own_kept h.ats k h2⟩
theorem SegAt.kept {F G : Nat → Prop} {w w' : World} {sg g : Nat} {name : ByteArray} {lens : List Nat} (h : SegAt G w sg g name lens) (k : Kept F w w') (hF : ∀ b, G b → ¬ F b) : SegAt G w' sg g name lens := by
  obtain ⟨av, h1, h2, h3, h4⟩ := h
  exact ⟨av, h1.kept k (hF _ h2) (fun b hb => hF b (h3 b hb)), h2, h3, fun b hb => Nat.lt_of_lt_of_le (h4 b hb) k.size⟩
theorem SegAt.mono {G G' : Nat → Prop} {w : World} {sg g : Nat} {name : ByteArray} {lens : List Nat} (h : SegAt G w sg g name lens) (hG : ∀ k, G k → G' k) (hb : ∀ k, G' k → k < w.heap.size) : SegAt G' w sg g name lens := by
  obtain ⟨av, h1, h2, h3, h4⟩ := h
  exact ⟨av, h1, hG _ h2, fun b hb => hG _ (h3 b hb), hb⟩
theorem infoInt : (Tryz.prog.info? 3).map (fun i => (i.zero, i.size, i.bytes)) = some (some (.int .i64 0), 1, 8) := by kernel_rfl

set_option maxHeartbeats 1000000 in
set_option maxRecDepth 100000 in
theorem Len_any (w : World) (sg g : Nat) (name : ByteArray) (av : Value) (lens : List Nat) (h : SegIn w sg g name av lens) (hl : lens.length < 1000000000) :
    Calls Tryz.prog 21 #[ptrV sg] w fun e w' => e = .returned (.int .i64 lens.length) ∧ w = w' := by
  obtain ⟨A, c, rfl, hc⟩ := own_form h.ats
  have c2 : w.cell? ⟨sg, 2, none⟩ = some (.slice A lens.length c) := blk_cell h.blk 2 rfl
  clear h hc
  unfold ptrV
  go_enter Tryz.func21, Tryz.ntmps21
  go_wp2
  go_ret
  exact ⟨rfl, rfl⟩
set_option maxHeartbeats 1000000 in
set_option maxRecDepth 100000 in
theorem Size_any (w : World) (sg g : Nat) (name : ByteArray) (av : Value) (lens : List Nat) (h : SegIn w sg g name av lens) :
    Calls Tryz.prog 42 #[ptrV sg] w fun e w' => e = .returned (.int .i64 lens.sum) ∧ w = w' := by
  have c3 : w.cell? ⟨sg, 3, none⟩ = some (.int .i64 lens.sum) := blk_cell h.blk 3 rfl
  clear h
  unfold ptrV
  go_enter Tryz.func42, Tryz.ntmps42
  go_wp2
  go_ret
  exact ⟨rfl, rfl⟩

set_option maxHeartbeats 1000000 in
set_option maxRecDepth 100000 in
theorem add_any (G : Nat → Prop) (w : World) (sg g : Nat) (name : ByteArray) (lens : List Nat) (n : Nat) (h : SegAt G w sg g name lens) (hl : lens.length < 1000000000) (hs : lens.sum + n < 4611686018427387904) :
    Calls Tryz.prog 40 #[ptrV sg, .int .i64 n] w fun e w' => e = .returned (.tuple #[]) ∧ ∃ G', SegAt G' w' sg g name (lens ++ [n]) ∧ Kept G w w' ∧ (∀ k, G' k → G k ∨ w.heap.size ≤ k) := by
  obtain ⟨av, hin, h2, h3, h4⟩ := h
  obtain ⟨A, c, rfl, hc⟩ := own_form hin.ats
  have c2 : w.cell? ⟨sg, 2, none⟩ = some (.slice A lens.length c) := blk_cell hin.blk 2 rfl
  have c3 : w.cell? ⟨sg, 3, none⟩ = some (.int .i64 lens.sum) := blk_cell hin.blk 3 rfl
  have d2 : ∀ o : Obj, (w.alloc o).cell? ⟨sg, 2, none⟩ = some (.slice A lens.length c) := fun o => blk_cell (blk_alloc hin.blk o) 2 rfl
  have d3 : ∀ o : Obj, (w.alloc o).cell? ⟨sg, 3, none⟩ = some (.int .i64 lens.sum) := fun o => blk_cell (blk_alloc hin.blk o) 3 rfl
  have hown : ∀ W : World, Kept noF w W → W.ownsRow 0 3 1 (.slice A lens.length c) lens.length (intV (startsL lens 0)) := fun W hk => own_kept0 hin.ats hk
  have hkk : ∀ o : Obj, Kept noF w (w.alloc o).drew := fun o => ((Kept.refl _ _).alloc o).drew
  have hnb : (Value.slice A lens.length c).ownBlock ≠ some sg := by
    intro hb; obtain ⟨_, e⟩ := own_block hin.ats sg hb; rw [hin.blk] at e; simp at e
  have hgb : ∀ W w2 : World, Kept noF w W → W.grownBy w2 (Value.slice A lens.length c).ownBlock → w2.heap[sg]? = some (.cells (segCells g name (.slice A lens.length c) lens.sum) 78) := by
    intro W w2 hk hg
    exact ((Kept.refl (fun k => (Value.slice A lens.length c).ownBlock = some k) W).grown hg (fun k hk => .inl hk)).blk (hk.blk0 hin.blk) hnb
  have hfin : ∀ (W w2 : World) (v2 : Value), Kept noF w W → W.grownBy w2 (Value.slice A lens.length c).ownBlock → w2.ownsRow 0 3 1 v2 (lens.length + 1) (intV (startsL lens 0) ++ [.int .i64 lens.sum]) → (∀ k, v2.ownBlock = some k → (Value.slice A lens.length c).ownBlock = some k ∨ W.heap.size ≤ k) →
      SegAt (fun k => G k ∨ v2.ownBlock = some k) ((w2.setCell ⟨sg, 2, none⟩ v2).setCell ⟨sg, 3, none⟩ (.int .i64 ((lens.sum : Int) + n))) sg g name (lens ++ [n]) ∧ Kept G w ((w2.setCell ⟨sg, 2, none⟩ v2).setCell ⟨sg, 3, none⟩ (.int .i64 ((lens.sum : Int) + n))) ∧ (∀ k, (G k ∨ v2.ownBlock = some k) → G k ∨ w.heap.size ≤ k) := by
    intro W w2 v2 hk hg ho hw2
    have hs1 : Kept (oneF sg) w2 ((w2.setCell ⟨sg, 2, none⟩ v2).setCell ⟨sg, 3, none⟩ (.int .i64 ((lens.sum : Int) + n))) := (Kept.set1 w2 sg 2 _).transF (Kept.set1 _ sg 3 _)
    have hv2 : v2.ownBlock ≠ some sg := by
      intro hb
      rcases hw2 sg hb with h1 | h1
      · exact hnb h1
      · have := blk_lt hin.blk; have := hk.size; omega
    have hkw : Kept G w w2 := (hk.of0 (F := G)).grown hg (fun k hk => .inl (h3 k hk))
    refine ⟨⟨v2, ⟨?_, ?_⟩, .inl h2, fun b hb => .inr hb, ?_⟩, (hkw.set sg 2 (.inl h2) _).set sg 3 (.inl h2) _, ?_⟩
    · have := blk_set (blk_set (hgb W w2 hk hg) 2 v2) 3 (.int .i64 ((lens.sum : Int) + n))
      rw [this]
      simp [segCells]
    · have := own_kept ho hs1 (fun b hb hf => hv2 (by unfold oneF at hf; rw [hb, hf]))
      rw [startsL_snoc]
      simpa [intV] using this
    · rintro k (h | h)
      · have := h4 k h; have := hkw.size; simp; omega
      · have := own_lt ho k h; simpa using this
    · rintro k (h | h)
      · exact .inl h
      · rcases hw2 k h with h1 | h1
        · exact .inl (h3 k h1)
        · have := hk.size; exact .inr (by omega)
  have hb8 : (lens.length + 1) * 8 ≤ 140737488355328 := by omega
  have hb63 : lens.length + 1 ≤ 9223372036854775807 := by omega
  have hone : ∀ u ∈ [Value.int .i64 (lens.sum : Int)], u.oneCell' = true := by simp [Value.oneCell']
  have HOWN := Lib.hid hown
  have HKK := Lib.hid hkk
  have HGB := Lib.hid hgb
  have HFIN := Lib.hid hfin
  have HONE := Lib.hid hone
  clear hin h2 h3 h4 hown hkk hnb hgb hfin hc hl hone
  unfold ptrV
  go_enter Tryz.func40, Tryz.ntmps40
  go_wp2_with fail
  go_region_law (refine step_app2 rfl _ _ 76 rfl 0 3 _ 1 8 Tryz.underlying76 infoInt rfl (by decide) (.slice A lens.length c) lens.length (intV (startsL lens 0)) (by rfl) (HOWN.out _ (HKK.out _)) _ 1 [.int .i64 lens.sum] (by rfl) (Reads.lit _ [.int .i64 lens.sum] _ 1 1 rfl (by omega)) HONE.out hb8 hb63 (Nat.zero_le _) ?_; intro v2 w2 hown2 hgr2 hwh2; (obtain ⟨A2, c4, rfl, hc4⟩ := own_form hown2); (have hk2 := HGB.out _ _ (HKK.out _) hgr2); (have x2 : w2.cell? ⟨sg, 2, none⟩ = some (.slice A lens.length c) := blk_cell hk2 2 rfl); (have y2 := blk_frozen hk2 2); (have x3 : w2.cell? ⟨sg, 3, none⟩ = some (.int .i64 lens.sum) := blk_cell hk2 3 rfl); (have y3 := blk_frozen hk2 3); (have HO2 := Lib.hid hown2); (have HG2 := Lib.hid hgr2); (have HW2 := Lib.hid hwh2); clear hown2 hgr2 hwh2 hk2)
  all_goals
    go_wp2
    first | go_end0 | (refine bodyPost_ret (results_none rfl _ _ _) rfl ?_)
    obtain ⟨r1, r2, r3⟩ := HFIN.out _ _ _ (HKK.out _) HG2.out HO2.out HW2.out
    exact ⟨rfl, _, r1, r2, r3⟩
end Go.Proofs.YtflnekjmcpmbbaaGreatDoor

/- Walks: a segment's Sync and Append. -/
set_option linter.unusedVariables false
set_option linter.unusedSimpArgs false
namespace Go.Proofs.YtflnekjmcpmbbaaGreatDoor
open Go.RowKit Go.MapKept

set_option maxHeartbeats 1000000 in
set_option maxRecDepth 100000 in
theorem rawSync_ok (F G : Nat → Prop) (w : World) (g f sg : Nat) (s : FsS) (name : ByteArray) (lens : List Nat) (h : FsAt F w g s) (hs : SegAt G w sg g name lens) (hFG : ∀ k, G k → ¬ F k) (hc : s.calls < 4611686018427387904) (hf : s.fail ≠ 0) (hn : mget s.dir name = some f) :
    Calls Tryz.prog 17 #[ptrV sg] w fun e w' => e = .returned (.int .i64 0) ∧ FsAt F w' g (s.called.put f ((s.files f).1, (s.files f).1.length)) ∧ SegAt G w' sg g name lens ∧ Kept F w w' := by
  have hq : Calls Tryz.prog 11 #[ptrV g, .string name] w.drew fun e w' => e = .returned (.int .i64 0) ∧ (FsAt F w' g (s.called.put f ((s.files f).1, (s.files f).1.length)) ∧ SegAt G w' sg g name lens ∧ Kept F w w') := by
    refine (Sync_ok F g f s w.drew name (h.kept ((Kept.refl noF w).drew) (fun _ _ h => h)) hc hf hn).mono ?_
    rintro e w' ⟨rfl, r1, r2⟩
    have hk : Kept F w w' := (Kept.refl F w).drew.transF r2
    exact ⟨rfl, r1, hs.kept hk hFG, hk⟩
  obtain ⟨av, hin, h2, h3, h4⟩ := hs
  have c0 : w.cell? ⟨sg, 0, none⟩ = some (ptrV g) := blk_cell hin.blk 0 rfl
  have c1 : w.cell? ⟨sg, 1, none⟩ = some (.string name) := blk_cell hin.blk 1 rfl
  have hnF := hFG _ h2
  have Q := Lib.hid hq
  have HX : ∀ w', Kept F w w' → w'.cell? ⟨sg, 0, none⟩ = some (ptrV g) ∧ w'.cell? ⟨sg, 1, none⟩ = some (.string name) := fun w' hk => ⟨hk.cell c0 hnF, hk.cell c1 hnF⟩
  have HX := Lib.hid HX
  clear hq h hin h2 h3 h4 hFG hf hn hc
  unfold ptrV at *
  go_enter Tryz.func17, Tryz.ntmps17
  go_wp2_with fail
  go_region_held3 (fun w' => w'.cell? ⟨sg, 0, none⟩ = some (.pointer (some ⟨g, 0, none⟩)) ∧ w'.cell? ⟨sg, 1, none⟩ = some (.string name))
    (first | go_keep | exact HX.out _ HP.out.2.2)
    (first | (go_at_call 11; refine Q.out.mono ?_; rintro e w2 ⟨rfl, hpost⟩; (have HP := Lib.hid hpost); clear hpost))
  all_goals (go_wp2; go_ret; exact ⟨rfl, HP.out⟩)

set_option maxHeartbeats 1000000 in
set_option maxRecDepth 100000 in
theorem rawAppend_ok (F G : Nat → Prop) (w : World) (g f sg : Nat) (s : FsS) (name : ByteArray) (lens : List Nat) (r : Rec) (h : FsAt F w g s) (hs : SegAt G w sg g name lens) (hFG : ∀ k, G k → ¬ F k) (hc : s.calls < 4611686018427387904) (hf : s.fail ≠ 0) (hn : mget s.dir name = some f)
    (hr : checkR r = 0) (hrm : 0 ≤ s.room ∧ s.room ≤ 4194304) (hfit : ((encR r).length : Int) ≤ s.room - sumL s.files s.dir) (hl : lens.length < 999999999) (hsum : lens.sum < 1000000000000) :
    Calls Tryz.prog 16 #[ptrV sg, r.v] w fun e w' => e = .returned (.tuple #[.int .i64 lens.length, .int .i64 0]) ∧ ∃ F' G', FsAt F' w' g (s.called.put f ((s.files f).1 ++ encR r, (s.files f).2)) ∧ SegAt G' w' sg g name (lens ++ [(encR r).length]) ∧ (∀ k, G' k → ¬ F' k) ∧
      Kept (fun k => F k ∨ G k) w w' ∧ (∀ k, F' k → F k ∨ w.heap.size ≤ k) ∧ (∀ k, G' k → G k ∨ w.heap.size ≤ k) := by
  obtain ⟨rk, rs, rkey, rval⟩ := r
  have hbF : ∀ k, F k → k < w.heap.size := by obtain ⟨_, _, _, _, hin⟩ := h; exact hin.below
  have hbG : ∀ k, G k → k < w.heap.size := by obtain ⟨_, _, _, _, hb⟩ := hs; exact hb
  have hsg : G sg := by obtain ⟨_, _, hb, _⟩ := hs; exact hb
  have hq := Encode_any ⟨rk, rs, rkey, rval⟩ (w.alloc (.cells #[.int .i64 rk, .int .i64 rs, .string rkey, .string rval] 32))
  rw [hr] at hq
  obtain ⟨hrm1, hrm2⟩ := hrm
  have hle : (encR ⟨rk, rs, rkey, rval⟩).length ≤ 4194304 := by omega
  generalize hB : encR ⟨rk, rs, rkey, rval⟩ = B at *
  have hA : ∀ (W : World) (A : Option Addr) (c : Nat), Kept noF w W → W.ownsRow (w.heap.size + 1) 5 1 (.slice A B.length c) B.length (bvs B) → Calls Tryz.prog 7 #[ptrV g, .string name, .slice A B.length c] W.drew fun e w' =>
      e = .returned (.int .i64 0) ∧ ∃ F', FsAt F' w' g (s.called.put f ((s.files f).1 ++ B, (s.files f).2)) ∧ SegAt G w' sg g name lens ∧ Kept F w w' ∧ (∀ k, F' k → F k ∨ w.heap.size ≤ k) ∧ (∀ k, F' k → k < w'.heap.size) := by
    intro W A c hk ho
    have hz := hk.size
    refine (Append_ok F g f s W.drew name A c B ((h.kept hk (fun _ _ h => h)).kept ((Kept.refl noF W).drew) (fun _ _ h => h)) hc hf hn ⟨hrm1, hrm2⟩ hfit (Reads.own ho) (fun _ b hb hF => by have := own_from ho b hb; have := hbF b hF; omega)).mono ?_
    rintro e w' ⟨F', rfl, r1, r2, r3⟩
    have hk2 : Kept F w w' := (hk.of0 (F := F)).transF ((Kept.refl F W).drew.transF r2)
    refine ⟨rfl, F', r1, hs.kept hk2 hFG, hk2, fun k hk3 => ?_, ?_⟩
    · rcases r3 k hk3 with h1 | h1
      · exact .inl h1
      · have : W.heap.size ≤ k := h1
        exact .inr (by omega)
    · obtain ⟨_, _, _, _, hin⟩ := r1; exact hin.below
  obtain ⟨av, hin, h2, h3, h4⟩ := id hs
  have c0 : w.cell? ⟨sg, 0, none⟩ = some (ptrV g) := blk_cell hin.blk 0 rfl
  have c1 : w.cell? ⟨sg, 1, none⟩ = some (.string name) := blk_cell hin.blk 1 rfl
  have hX : ∀ w', Kept F w w' → w'.cell? ⟨sg, 0, none⟩ = some (ptrV g) ∧ w'.cell? ⟨sg, 1, none⟩ = some (.string name) := fun w' hk => ⟨hk.cell c0 (hFG _ hsg), hk.cell c1 (hFG _ hsg)⟩
  have Q := Lib.hid hq
  have HA := Lib.hid hA
  have HX := Lib.hid hX
  have HFG := Lib.hid hFG
  have HBF := Lib.hid hbF
  have HBG := Lib.hid hbG
  have HSG := Lib.hid hsg
  clear hq hA hX hin h2 h3 h4 hFG h hs hf hn hc c0 c1 hfit hr hbF hbG hsg hB
  unfold Rec.v
  unfold ptrV at *
  go_enter Tryz.func16, Tryz.ntmps16
  go_wp2_with (go_at_call 39; refine Q.out.mono ?_; rintro e w1 ⟨v1, rfl, hown1, hk1⟩; (obtain ⟨A1, c1, rfl, hc1⟩ := own_form hown1))
  have hkw1 : Kept noF w w1 := ((Kept.refl noF w).alloc _).trans0 hk1
  have qa := HA.out w1 A1 c1 hkw1 (own_base hown1 (by simp))
  have hx1 := HX.out w1 (hkw1.of0)
  obtain ⟨d0, d1⟩ := hx1
  have QA := Lib.hid qa
  have HK1 := Lib.hid hkw1
  clear hk1 hkw1 hown1 qa HA
  go_region_held3 (fun w' => w'.cell? ⟨sg, 0, none⟩ = some (.pointer (some ⟨g, 0, none⟩)) ∧ w'.cell? ⟨sg, 1, none⟩ = some (.string name))
    (first | go_keep | exact HX.out _ HP.out.choose_spec.2.2.1)
    (first | (go_at_call 7; refine QA.out.mono ?_; rintro e w2 ⟨rfl, hpost⟩; (have HP := Lib.hid hpost); clear hpost))
  all_goals
    obtain ⟨F', r1, r2, r3, r4, r5⟩ := HP.out
    have hadd := add_any G w2 sg g name lens B.length r2 (by omega) (by omega)
    have HADD := Lib.hid hadd
    have HR1 := Lib.hid r1
    have HR3 := Lib.hid r3
    have HR4 := Lib.hid r4
    have HR5 := Lib.hid r5
    clear hadd r1 r2 r3 r4 r5 HP QA
    unfold ptrV at HADD
    go_wp2_with (go_at_call 40; refine HADD.out.mono ?_; rintro e w3 ⟨rfl, hpost⟩; (have HP3 := Lib.hid hpost); (obtain ⟨G', hs3, hk3, hG3⟩ := hpost); (obtain ⟨av3, hin3, _, _, _⟩ := hs3); (obtain ⟨A3, c3, rfl, hc3⟩ := own_form hin3.ats); (have x2 : w3.cell? ⟨sg, 2, none⟩ = some (.slice A3 (lens ++ [B.length]).length c3) := blk_cell hin3.blk 2 rfl); clear hin3 hk3 hG3)
    go_ret2
    obtain ⟨G3, q1, q2, q3⟩ := HP3.out
    refine ⟨?_, F', G3, ?_, q1, ?_, ?_, HR4.out, ?_⟩
    · simp
    · exact HR1.out.kept q2 (fun b hb hg => by
        rcases HR4.out b hb with h1 | h1
        · exact HFG.out b hg h1
        · have := HBG.out b hg; omega)
    · intro k hk hf
      have h5 := HR5.out k hf
      rcases q3 k hk with h1 | h1
      · rcases HR4.out k hf with h2 | h2
        · exact HFG.out k h1 h2
        · have := HBG.out k h1; omega
      · omega
    · exact (HR3.out.mono (fun i _ h => .inl h)).trans q2 (fun i _ h => .inr h)
    · intro k hk
      have := HR3.out.size
      rcases q3 k hk with h1 | h1
      · exact .inl h1
      · exact .inr (by omega)
end Go.Proofs.YtflnekjmcpmbbaaGreatDoor

/- Walks: a segment's Get. -/
set_option linter.unusedVariables false
set_option linter.unusedSimpArgs false
namespace Go.Proofs.YtflnekjmcpmbbaaGreatDoor
open Go.RowKit Go.MapKept

/-- What the records' scan tells. -/
def scanF (bs : List UInt8) : List Rec × Nat × Bool := ((recsL (scanL bs).1).1, (recsL (scanL bs).1).2.1, ((recsL (scanL bs).1).2.2 && (scanL bs).2))
theorem sum_take_succ : ∀ (l : List Nat) (i : Nat) (h : i < l.length), (l.take (i + 1)).sum = (l.take i).sum + l[i]
  | [], _, h => by simp at h
  | n :: r, 0, _ => by simp
  | n :: r, i + 1, h => by simp [sum_take_succ r i (by simpa using h)]; omega
theorem sum_take_le : ∀ (l : List Nat) (i : Nat), (l.take i).sum ≤ l.sum
  | [], _ => by simp
  | n :: r, 0 => by simp
  | n :: r, i + 1 => by simp [sum_take_le r i]

set_option maxHeartbeats 1000000 in
set_option maxRecDepth 100000 in
theorem rawGet_range (w : World) (g sg : Nat) (name : ByteArray) (av : Value) (lens : List Nat) (i : Int) (hs : SegIn w sg g name av lens) (hl : lens.length < 1000000000) (hi : (lens.length : Int) ≤ i) :
    Calls Tryz.prog 20 #[ptrV sg, .int .i64 i] w fun e w' => e = .returned (.tuple #[zeroRec.v, .int .i64 7]) ∧ Kept noF w w' := by
  obtain ⟨A, c, rfl, hc⟩ := own_form hs.ats
  have c2 : w.cell? ⟨sg, 2, none⟩ = some (.slice A lens.length c) := blk_cell hs.blk 2 rfl
  have d2 : ∀ o : Obj, (w.alloc o).cell? ⟨sg, 2, none⟩ = some (.slice A lens.length c) := fun o => blk_cell (blk_alloc hs.blk o) 2 rfl
  clear hs hc
  have h0 : ¬ i < 0 := by omega
  unfold ptrV
  go_enter Tryz.func20, Tryz.ntmps20
  go_wp2
  refine bodyPost_ret (v := .tuple #[zeroRec.v, .int .i64 7]) (by simp [results, Tryz.results20, go_sem, zeroRec, Rec.v]) rfl ⟨rfl, ?_⟩
  exact (Kept.refl _ _).alloc _

theorem rec_at {w : World} {base : Nat} {v : Value} {cs : List Value} (h : w.ownsRow base 32 4 v 1 cs) : ∃ g c, v = .slice (some ⟨g, 0, none⟩) 1 c ∧ ∀ j u, cs[j]? = some u → w.cell? ⟨g, j, none⟩ = some u := by
  rcases h.2 with ⟨e, e2⟩ | ⟨gw, cap, cur, rfl, _⟩
  · omega
  · refine ⟨gw, cap, rfl, fun j u hj => ?_⟩
    have := h.cells (g := gw) rfl j u hj
    rw [add_plain, Nat.zero_add] at this
    exact this

set_option maxHeartbeats 1000000 in
set_option maxRecDepth 100000 in
theorem rawGet_ok (F : Nat → Prop) (w : World) (g f sg : Nat) (s : FsS) (name : ByteArray) (av : Value) (lens : List Nat) (i : Nat) (r : Rec) (ok : Bool) (h : FsAt F w g s) (hs : SegIn w sg g name av lens) (hn : mget s.dir name = some f) (hl : lens.length < 1000000000) (hi : i < lens.length)
    (hlen : (s.files f).1.length < 4294967296) (hend : lens.sum ≤ (s.files f).1.length) (hscan : scanF (((s.files f).1.drop (lens.take i).sum).take lens[i]) = ([r], lens[i], ok)) :
    Calls Tryz.prog 20 #[ptrV sg, .int .i64 i] w fun e w' => e = .returned (.tuple #[r.v, .int .i64 0]) ∧ Kept noF w w' := by
  obtain ⟨rk, rs, rkey, rval⟩ := r
  obtain ⟨A, c, rfl, hc⟩ := own_form hs.ats
  have hst := sum_take_succ lens i hi
  have hst2 := sum_take_le lens (i + 1)
  obtain ⟨ga, rfl, hcell⟩ : ∃ ga, A = some ⟨ga, 0, none⟩ ∧ ∀ j u, (intV (startsL lens 0))[j]? = some u → w.cell? ⟨ga, j, none⟩ = some u := by
    rcases hs.ats.2 with ⟨e, _⟩ | ⟨gw, cap, cur, e, _⟩
    · simp only [Value.slice.injEq] at e; omega
    · cases e
      refine ⟨gw, rfl, fun j u hj => ?_⟩
      have := hs.ats.cells (g := gw) rfl j u hj
      rw [add_plain, Nat.zero_add] at this
      exact this
  have hcs : ∀ j, j < lens.length → w.cell? ⟨ga, j, none⟩ = some (.int .i64 ((lens.take j).sum : Nat)) := by
    intro j hj
    refine hcell j _ ?_
    unfold intV
    rw [List.getElem?_map, startsL_get lens 0 j hj]
    simp
  have c0 : w.cell? ⟨sg, 0, none⟩ = some (ptrV g) := blk_cell hs.blk 0 rfl
  have c1 : w.cell? ⟨sg, 1, none⟩ = some (.string name) := blk_cell hs.blk 1 rfl
  have c2 : w.cell? ⟨sg, 2, none⟩ = some (.slice (some ⟨ga, 0, none⟩) lens.length c) := blk_cell hs.blk 2 rfl
  have c3 : w.cell? ⟨sg, 3, none⟩ = some (.int .i64 (lens.sum : Nat)) := blk_cell hs.blk 3 rfl
  have ci := hcs i hi
  have ci1 : i + 1 < lens.length → w.cell? ⟨ga, i + 1, none⟩ = some (.int .i64 ((lens.take (i + 1)).sum : Nat)) := hcs (i + 1)
  have d0 : ∀ o : Obj, (w.alloc o).cell? ⟨sg, 0, none⟩ = some (ptrV g) := fun o => blk_cell (blk_alloc hs.blk o) 0 rfl
  have d1 : ∀ o : Obj, (w.alloc o).cell? ⟨sg, 1, none⟩ = some (.string name) := fun o => blk_cell (blk_alloc hs.blk o) 1 rfl
  have d2 : ∀ o : Obj, (w.alloc o).cell? ⟨sg, 2, none⟩ = some (.slice (some ⟨ga, 0, none⟩) lens.length c) := fun o => blk_cell (blk_alloc hs.blk o) 2 rfl
  have d3 : ∀ o : Obj, (w.alloc o).cell? ⟨sg, 3, none⟩ = some (.int .i64 (lens.sum : Nat)) := fun o => blk_cell (blk_alloc hs.blk o) 3 rfl
  have di : ∀ o : Obj, (w.alloc o).cell? ⟨ga, i, none⟩ = some (.int .i64 ((lens.take i).sum : Nat)) := fun o => ((Kept.refl noF w).alloc o).cell0 ci
  have di1 : i + 1 < lens.length → ∀ o : Obj, (w.alloc o).cell? ⟨ga, i + 1, none⟩ = some (.int .i64 ((lens.take (i + 1)).sum : Nat)) := fun h o => ((Kept.refl noF w).alloc o).cell0 (ci1 h)
  have hlast : ¬ i + 1 < lens.length → (lens.take (i + 1)).sum = lens.sum := fun h => by rw [List.take_of_length_le (by omega)]
  have hq : ∀ W, Kept noF w W → Calls Tryz.prog 9 #[ptrV g, .string name] W.drew fun e w' => ∃ v, e = .returned (.tuple #[v, .int .i64 0]) ∧ w'.ownsRow W.heap.size 5 1 v (s.files f).1.length (bvs (s.files f).1) ∧ Kept noF W w' := by
    intro W hk
    refine (Read_some F g f s W.drew name ((h.kept hk (fun _ _ h => h)).kept ((Kept.refl noF W).drew) (fun _ _ h => h)) hn (by omega)).mono ?_
    rintro e w' ⟨v, r1, r2, r3⟩
    exact ⟨v, r1, r2, (Kept.refl noF W).drew.trans0 r3⟩
  have hN : lens[i] = (lens.take (i + 1)).sum - (lens.take i).sum := by omega
  have hle : (lens.take i).sum ≤ (lens.take (i + 1)).sum := by omega
  rw [hN] at hscan
  generalize hSS : (lens.take i).sum = S at *
  generalize hEE : (lens.take (i + 1)).sum = E at *
  generalize hbb : (s.files f).1 = bs at *
  have hE : E ≤ bs.length := by omega
  have hx : ∀ W, Kept noF w W → W.cell? ⟨sg, 0, none⟩ = some (ptrV g) ∧ W.cell? ⟨sg, 1, none⟩ = some (.string name) := fun W hk => ⟨hk.cell0 c0, hk.cell0 c1⟩
  have hy : ∀ W, Kept noF w W → W.cell? ⟨sg, 2, none⟩ = some (.slice (some ⟨ga, 0, none⟩) lens.length c) ∧ W.cell? ⟨ga, i, none⟩ = some (.int .i64 (S : Nat)) := fun W hk => ⟨hk.cell0 c2, hk.cell0 ci⟩
  have hsc : ∀ (W : World) (Ab : Option Addr) (cb : Nat), Reads W (.slice Ab bs.length cb) 1 bs.length (bvs bs) → ∃ A1, (∀ w' : World, (Instr.slice 23 (.slice Ab bs.length cb) (some (.int .i64 (S : Nat))) (some (.int .i64 (E : Nat))) none).run Tryz.prog w' = .ok (.slice A1 (E - S) (cb - S)) w') ∧
      Calls Tryz.prog 36 #[.slice A1 (E - S) (cb - S)] W fun e w' => ∃ v, e = .returned (.tuple #[v, .int .i64 ((E : Int) - (S : Int)), .bool ok]) ∧ w'.ownsRow W.heap.size 32 4 v 1 [.int .i64 rk, .int .i64 rs, .string rkey, .string rval] ∧ Kept noF W w' := by
    intro W Ab cb hrd
    obtain ⟨A1, k1, k2, _⟩ := cut_lh (P := Tryz.prog) Tryz.underlying23 infoU8 (by decide) hrd S E hle hE S E rfl rfl .i64 .i64
    refine ⟨A1, k1, ?_⟩
    have e1 : ((bvs bs).drop (S * 1)).take ((E - S) * 1) = bvs ((bs.drop S).take (E - S)) := by simp [bvs, List.map_take, List.map_drop]
    rw [e1] at k2
    have el : ((bs.drop S).take (E - S)).length = E - S := by simp; omega
    have q := RScan_any A1 (cb - S) ((bs.drop S).take (E - S)) W (by rw [el]; exact k2) (by omega)
    unfold scanF at hscan
    simp only [Prod.mk.injEq] at hscan
    rw [hscan.1, hscan.2.1, hscan.2.2, el, Int.ofNat_sub hle] at q
    exact q
  have HQ := Lib.hid hq
  have HX := Lib.hid hx
  have HY := Lib.hid hy
  have HSC := Lib.hid hsc
  clear hq hx hy hsc hcs hcell h hs hn hscan hst hst2 hN hSS hEE hbb hc
  have hzr : ¬ ((i : Int) < 0) := by omega
  unfold ptrV at *
  have hkW : Kept noF w (w.alloc (.cells #[.int .i64 0, .int .i64 0, .string ⟨#[]⟩, .string ⟨#[]⟩] 32)) := (Kept.refl noF w).alloc _
  have HKW := Lib.hid hkW
  clear hkW
  by_cases hla : i + 1 < lens.length
  · have ci2 := ci1 hla
    have di2 := di1 hla
    clear ci1 hlast di1
    go_enter Tryz.func20, Tryz.ntmps20
    go_upto_region 8 with fail
    go_region_held3 (fun w' => w'.cell? ⟨sg, 0, none⟩ = some (.pointer (some ⟨g, 0, none⟩)) ∧ w'.cell? ⟨sg, 1, none⟩ = some (.string name))
      (first | go_keep | exact HX.out w2 (HKW.out.trans0 hk2))
      (first | (go_at_call 9; refine (HQ.out _ HKW.out).mono ?_; rintro e w2 ⟨v2, rfl, hown2, hk2⟩; (obtain ⟨A2, q2, rfl, hc2⟩ := own_form hown2)))
    all_goals
      have hkw2 := HKW.out.trans0 hk2
      obtain ⟨y2, yi⟩ := HY.out w2 hkw2
      obtain ⟨A1, hsl, hq3⟩ := HSC.out w2 A2 q2 (Reads.own hown2)
      have hres : ∀ w3, Kept noF w2 w3 → w3.heap[w.heap.size]? = some (.cells #[.int .i64 0, .int .i64 0, .string ⟨#[]⟩, .string ⟨#[]⟩] 32) ∧ Kept noF w w3 ∧ w.heap.size ≤ w3.heap.size := fun w3 hk3 => ⟨hk3.blk0 (hk2.blk0 (blk_new w _)), hkw2.trans0 hk3, (hkw2.trans0 hk3).size⟩
      have hy3 : ∀ w3, Kept noF w2 w3 → w3.cell? ⟨sg, 2, none⟩ = some (.slice (some ⟨ga, 0, none⟩) lens.length c) ∧ w3.cell? ⟨ga, i, none⟩ = some (.int .i64 (S : Nat)) := fun w3 hk3 => HY.out w3 (hkw2.trans0 hk3)
      have HQ3 := Lib.hid hq3
      have HRES := Lib.hid hres
      have HY3 := Lib.hid hy3
      have HC2 := Lib.hid hc2
      clear hkw2 hown2 hk2 hq3 hres hy3 c0 c1 c2 c3 ci d0 d1 d2 d3 di hc2
      go_wp2_with (go_at_call 36; refine HQ3.out.mono ?_; rintro e w3 ⟨v3, rfl, hown3, hk3⟩; (obtain ⟨g3, q3, rfl, hcell3⟩ := rec_at hown3); (obtain ⟨z2, zi⟩ := HY3.out w3 hk3); (obtain ⟨hb3, hkw3, hz3⟩ := HRES.out w3 hk3); (have z3 := hcell3 0 _ rfl); (have z4 := hcell3 1 _ rfl); (have z5 := hcell3 2 _ rfl); (have z6 := hcell3 3 _ rfl); (have e0 := blk_cell hb3 0 rfl); (have e1 := blk_cell hb3 1 rfl); (have e2 := blk_cell hb3 2 rfl); (have e3 := blk_cell hb3 3 rfl); (have f0 := blk_frozen hb3 0); (have f1 := blk_frozen hb3 1); (have f2 := blk_frozen hb3 2); (have f3 := blk_frozen hb3 3); (have HB3 := Lib.hid hb3); (have HKW3 := Lib.hid hkw3); clear hcell3 hown3 hk3 hb3 hkw3 hz3)
      refine bodyPost_ret (v := .tuple #[.agg #[.int .i64 rk, .int .i64 rs, .string rkey, .string rval], .int .i64 0]) (by simp [results, Tryz.results20, go_sem, e0, e1, e2, e3]) rfl ⟨rfl, ?_⟩
      (repeat' (first | exact HKW3.out | (refine Kept.set ?_ _ _ (.inr (Nat.le_refl _)) _)))
  · have hE2 := hlast hla
    rw [← hE2] at c3 d3
    clear ci1 hlast di1 hE2
    go_enter Tryz.func20, Tryz.ntmps20
    go_upto_region 8 with fail
    go_region_held3 (fun w' => w'.cell? ⟨sg, 0, none⟩ = some (.pointer (some ⟨g, 0, none⟩)) ∧ w'.cell? ⟨sg, 1, none⟩ = some (.string name))
      (first | go_keep | exact HX.out w2 (HKW.out.trans0 hk2))
      (first | (go_at_call 9; refine (HQ.out _ HKW.out).mono ?_; rintro e w2 ⟨v2, rfl, hown2, hk2⟩; (obtain ⟨A2, q2, rfl, hc2⟩ := own_form hown2)))
    all_goals
      have hkw2 := HKW.out.trans0 hk2
      obtain ⟨y2, yi⟩ := HY.out w2 hkw2
      obtain ⟨A1, hsl, hq3⟩ := HSC.out w2 A2 q2 (Reads.own hown2)
      have hres : ∀ w3, Kept noF w2 w3 → w3.heap[w.heap.size]? = some (.cells #[.int .i64 0, .int .i64 0, .string ⟨#[]⟩, .string ⟨#[]⟩] 32) ∧ Kept noF w w3 ∧ w.heap.size ≤ w3.heap.size := fun w3 hk3 => ⟨hk3.blk0 (hk2.blk0 (blk_new w _)), hkw2.trans0 hk3, (hkw2.trans0 hk3).size⟩
      have hy3 : ∀ w3, Kept noF w2 w3 → w3.cell? ⟨sg, 2, none⟩ = some (.slice (some ⟨ga, 0, none⟩) lens.length c) ∧ w3.cell? ⟨ga, i, none⟩ = some (.int .i64 (S : Nat)) := fun w3 hk3 => HY.out w3 (hkw2.trans0 hk3)
      have HQ3 := Lib.hid hq3
      have HRES := Lib.hid hres
      have HY3 := Lib.hid hy3
      have HC2 := Lib.hid hc2
      clear hkw2 hown2 hk2 hq3 hres hy3 c0 c1 c2 c3 ci d0 d1 d2 d3 di hc2
      go_wp2_with (go_at_call 36; refine HQ3.out.mono ?_; rintro e w3 ⟨v3, rfl, hown3, hk3⟩; (obtain ⟨g3, q3, rfl, hcell3⟩ := rec_at hown3); (obtain ⟨z2, zi⟩ := HY3.out w3 hk3); (obtain ⟨hb3, hkw3, hz3⟩ := HRES.out w3 hk3); (have z3 := hcell3 0 _ rfl); (have z4 := hcell3 1 _ rfl); (have z5 := hcell3 2 _ rfl); (have z6 := hcell3 3 _ rfl); (have e0 := blk_cell hb3 0 rfl); (have e1 := blk_cell hb3 1 rfl); (have e2 := blk_cell hb3 2 rfl); (have e3 := blk_cell hb3 3 rfl); (have f0 := blk_frozen hb3 0); (have f1 := blk_frozen hb3 1); (have f2 := blk_frozen hb3 2); (have f3 := blk_frozen hb3 3); (have HB3 := Lib.hid hb3); (have HKW3 := Lib.hid hkw3); clear hcell3 hown3 hk3 hb3 hkw3 hz3)
      refine bodyPost_ret (v := .tuple #[.agg #[.int .i64 rk, .int .i64 rs, .string rkey, .string rval], .int .i64 0]) (by simp [results, Tryz.results20, go_sem, e0, e1, e2, e3]) rfl ⟨rfl, ?_⟩
      (repeat' (first | exact HKW3.out | (refine Kept.set ?_ _ _ (.inr (Nat.le_refl _)) _)))
end Go.Proofs.YtflnekjmcpmbbaaGreatDoor

/- Walks: a new segment; the steps of Write. -/
set_option linter.unusedVariables false
set_option linter.unusedSimpArgs false
namespace Go.Proofs.YtflnekjmcpmbbaaGreatDoor
open Go.RowKit Go.MapKept

set_option maxHeartbeats 1000000 in
set_option maxRecDepth 100000 in
theorem rawCreate_ok (F : Nat → Prop) (w : World) (g : Nat) (s : FsS) (num : Int) (name : ByteArray) (hN : ∀ w, Calls Tryz.prog 22 #[.int .i64 num] w fun e w' => e = .returned (.string name) ∧ w = w') (h1 : 1 ≤ num) (h2 : num ≤ 1125899906842624)
    (h : FsAt F w g s) (hc : s.calls < 4611686018427387904) (hf : s.fail ≠ 0) (hm : mayR name = true) (hn : mget s.dir name = none → s.dir.length < 150) (hw : s.waits.length < 1000000000) :
    Calls Tryz.prog 19 #[ptrV g, .int .i64 num] w fun e w' => ∃ sg f F' G', e = .returned (.tuple #[ptrV sg, .int .i64 0]) ∧ FsAt F' w' g (s.called.create name f) ∧ SegAt G' w' sg g name [] ∧ (∀ k, G' k → ¬ F' k) ∧ Kept F w w' ∧ (∀ k, F' k → F k ∨ w.heap.size ≤ k) ∧ (∀ k, G' k → w.heap.size ≤ k) ∧ w.heap.size ≤ f := by
  have q := Create_ok F g s w name h hc hf hm hn hw
  have Q := Lib.hid q
  have HNM := Lib.hid hN
  clear q hN h hc hf hm hn hw
  unfold ptrV at *
  go_enter Tryz.func19, Tryz.ntmps19
  go_wp2_with (first | (go_at_call 22; refine (HNM.out _).mono ?_; rintro e w' ⟨rfl, rfl⟩) | (go_at_call 6; refine Q.out.mono ?_; rintro e w2 ⟨rfl, hpost⟩; (have HP := Lib.hid hpost); clear hpost))
  go_ret2
  obtain ⟨f, F', r1, r2, r3, r4⟩ := HP.out
  have hb : ∀ k, F' k → k < w2.heap.size := by obtain ⟨_, _, _, _, hin⟩ := r1; exact hin.below
  have hz := r2.size
  refine ⟨w2.heap.size, f, F', fun k => k = w2.heap.size, rfl, r1.kept (G := noF) ((Kept.refl _ _).alloc _) (fun _ _ h => h), ⟨.slice none 0 0, ⟨blk_new _ _, World.ownsRow_nil _ _ _ _⟩, rfl, by simp [Value.ownBlock], by simp⟩, ?_, r2.alloc _, r3, ?_, r4⟩
  · rintro k rfl hk
    have := hb _ hk
    omega
  · rintro k rfl
    exact hz

section
variable {P : World → Prop} {W : World}
set_option maxHeartbeats 1000000 in
set_option maxRecDepth 100000 in
theorem wr1 {g b4 b6 : Nat} {beside : ByteArray} (c4 : W.cell? ⟨b4, 0, none⟩ = some (ptrV g)) (c6 : W.cell? ⟨b6, 0, none⟩ = some (.string beside))
    (hc : Calls Tryz.prog 6 #[ptrV g, .string beside] W fun e w' => e = .returned (.int .i64 0) ∧ P w') :
    Calls Tryz.prog 54 #[.pointer (some ⟨b4, 0, none⟩), .pointer (some ⟨b6, 0, none⟩)] W fun e w' => e = .returned (.int .i64 0) ∧ P w' := by
  have Q := Lib.hid hc
  clear hc
  unfold ptrV at *
  go_enter Tryz.func54, Tryz.ntmps54
  go_wp2_with (go_at_call 6; refine Q.out.mono ?_; rintro e w2 ⟨rfl, hp⟩; (have HP := Lib.hid hp); clear hp)
  go_ret
  exact ⟨rfl, HP.out⟩
set_option maxHeartbeats 1000000 in
set_option maxRecDepth 100000 in
theorem wr2 {g b4 b6 b7 : Nat} {beside : ByteArray} {A : Option Addr} {n c : Nat} (c4 : W.cell? ⟨b4, 0, none⟩ = some (ptrV g)) (c6 : W.cell? ⟨b6, 0, none⟩ = some (.string beside)) (c7 : W.cell? ⟨b7, 0, none⟩ = some (.slice A n c))
    (hc : Calls Tryz.prog 7 #[ptrV g, .string beside, .slice A n c] W fun e w' => e = .returned (.int .i64 0) ∧ P w') :
    Calls Tryz.prog 55 #[.pointer (some ⟨b4, 0, none⟩), .pointer (some ⟨b6, 0, none⟩), .pointer (some ⟨b7, 0, none⟩)] W fun e w' => e = .returned (.int .i64 0) ∧ P w' := by
  have Q := Lib.hid hc
  clear hc
  unfold ptrV at *
  go_enter Tryz.func55, Tryz.ntmps55
  go_wp2_with (go_at_call 7; refine Q.out.mono ?_; rintro e w2 ⟨rfl, hp⟩; (have HP := Lib.hid hp); clear hp)
  go_ret
  exact ⟨rfl, HP.out⟩
set_option maxHeartbeats 1000000 in
set_option maxRecDepth 100000 in
theorem wr3 {g b4 b6 : Nat} {beside : ByteArray} (c4 : W.cell? ⟨b4, 0, none⟩ = some (ptrV g)) (c6 : W.cell? ⟨b6, 0, none⟩ = some (.string beside))
    (hc : Calls Tryz.prog 11 #[ptrV g, .string beside] W fun e w' => e = .returned (.int .i64 0) ∧ P w') :
    Calls Tryz.prog 56 #[.pointer (some ⟨b4, 0, none⟩), .pointer (some ⟨b6, 0, none⟩)] W fun e w' => e = .returned (.int .i64 0) ∧ P w' := by
  have Q := Lib.hid hc
  clear hc
  unfold ptrV at *
  go_enter Tryz.func56, Tryz.ntmps56
  go_wp2_with (go_at_call 11; refine Q.out.mono ?_; rintro e w2 ⟨rfl, hp⟩; (have HP := Lib.hid hp); clear hp)
  go_ret
  exact ⟨rfl, HP.out⟩
set_option maxHeartbeats 1000000 in
set_option maxRecDepth 100000 in
theorem wr4 {g b4 b5 b6 : Nat} {beside name : ByteArray} (c4 : W.cell? ⟨b4, 0, none⟩ = some (ptrV g)) (c5 : W.cell? ⟨b5, 0, none⟩ = some (.string name)) (c6 : W.cell? ⟨b6, 0, none⟩ = some (.string beside))
    (hc : Calls Tryz.prog 58 #[ptrV g, .string beside, .string name] W fun e w' => e = .returned (.int .i64 0) ∧ P w') :
    Calls Tryz.prog 57 #[.pointer (some ⟨b4, 0, none⟩), .pointer (some ⟨b6, 0, none⟩), .pointer (some ⟨b5, 0, none⟩)] W fun e w' => e = .returned (.int .i64 0) ∧ P w' := by
  have Q := Lib.hid hc
  clear hc
  unfold ptrV at *
  go_enter Tryz.func57, Tryz.ntmps57
  go_wp2_with (go_at_call 58; refine Q.out.mono ?_; rintro e w2 ⟨rfl, hp⟩; (have HP := Lib.hid hp); clear hp)
  go_ret
  exact ⟨rfl, HP.out⟩
end
end Go.Proofs.YtflnekjmcpmbbaaGreatDoor
