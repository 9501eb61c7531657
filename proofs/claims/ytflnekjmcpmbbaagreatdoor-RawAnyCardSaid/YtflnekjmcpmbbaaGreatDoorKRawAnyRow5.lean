/- Part 5 of the texts beneath: Dec. -/
import Derived.Test.YtflnekjmcpmbbaaGreatDoorKRawAnyRow4

/- Walks: a record out of its bytes. -/
set_option linter.unusedVariables false
set_option linter.unusedSimpArgs false
namespace Go.Proofs.YtflnekjmcpmbbaaGreatDoor
open Go.RowKit

set_option maxHeartbeats 400000 in
set_option maxRecDepth 100000 in
theorem bytesEqual_any (v1 v2 : Value) (a b : List UInt8) (w : World) (h1 : Reads w v1 1 a.length (bvs a)) (h2 : Reads w v2 1 b.length (bvs b)) :
    Calls Tryz.prog 70 #[v1, v2] w fun e w' => e = .returned (.bool (a == b)) ∧ w = w' := by
  have c1 := conv_string (P := Tryz.prog) (dst := 9) Tryz.underlying23 Tryz.underlying5 Tryz.underlying9 h1
  have c2 := conv_string (P := Tryz.prog) (dst := 9) Tryz.underlying23 Tryz.underlying5 Tryz.underlying9 h2
  go_enter Tryz.func70, Tryz.ntmps70
  go_wp2
  go_ret
  exact ⟨rfl, rfl⟩

def decX (bs : List UInt8) : Rec × (List UInt8 × Bool) :=
  let k := numR (bs, false) 1
  let q := numR k.2 1125899906842624
  let t := textR q.2
  let v := if k.1 = 1 then textR t.2 else ([], t.2)
  (⟨k.1, q.1, ⟨t.1.toArray⟩, ⟨v.1.toArray⟩⟩, v.2)
theorem decX_eq (bs : List UInt8) : decX bs = (⟨(numR (bs, false) 1).1, (numR (numR (bs, false) 1).2 1125899906842624).1, ⟨(textR (numR (numR (bs, false) 1).2 1125899906842624).2).1.toArray⟩,
    ⟨(if (numR (bs, false) 1).1 = 1 then textR (textR (numR (numR (bs, false) 1).2 1125899906842624).2).2 else ([], (textR (numR (numR (bs, false) 1).2 1125899906842624).2).2)).1.toArray⟩⟩,
    (if (numR (bs, false) 1).1 = 1 then textR (textR (numR (numR (bs, false) 1).2 1125899906842624).2).2 else ([], (textR (numR (numR (bs, false) 1).2 1125899906842624).2).2)).2) := rfl
def decOk (bs : List UInt8) : Bool := doneR (decX bs).2 && (checkR (decX bs).1 == 0) && (encR (decX bs).1 == sealL bs)

set_option maxHeartbeats 2000000 in
set_option maxRecDepth 100000 in
theorem decode_any (A : Option Addr) (c : Nat) (bs : List UInt8) (w : World) (hr : Reads w (.slice A bs.length c) 1 bs.length (bvs bs)) (hlen : bs.length < 4294967296) (hbc : bs.length ≤ c) :
    Calls Tryz.prog 52 #[.slice A bs.length c] w fun e w' => e = .returned (.tuple #[(decX bs).1.v, .bool (decOk bs)]) ∧ Kept noF w w' := by
  have hR0 := blk_alloc (blk_new w (.cells #[.int .i64 0, .int .i64 0, .string ⟨#[]⟩, .string ⟨#[]⟩] 32)) (.cells #[.slice A bs.length c, .bool false] 104)
  have hB0 := blk_new' (w.alloc (.cells #[.int .i64 0, .int .i64 0, .string ⟨#[]⟩, .string ⟨#[]⟩] 32)) (.cells #[.slice A bs.length c, .bool false] 104) (w.heap.size + 1) (by simp)
  have hk0 : Kept noF w ((w.alloc (.cells #[.int .i64 0, .int .i64 0, .string ⟨#[]⟩, .string ⟨#[]⟩] 32)).alloc (.cells #[.slice A bs.length c, .bool false] 104)) := ((Kept.refl _ w).alloc _).alloc _
  have hz0 : ((w.alloc (.cells #[.int .i64 0, .int .i64 0, .string ⟨#[]⟩, .string ⟨#[]⟩] 32)).alloc (.cells #[.slice A bs.length c, .bool false] 104)).heap.size = w.heap.size + 2 := by simp
  have hrd0 : RdAt ((w.alloc (.cells #[.int .i64 0, .int .i64 0, .string ⟨#[]⟩, .string ⟨#[]⟩] 32)).alloc (.cells #[.slice A bs.length c, .bool false] 104)) (w.heap.size + 1) (bs, false) :=
    ⟨A, c, hB0, hr.kept0 hk0, fun hp b hb => by obtain ⟨b', e, hlt⟩ := hr.lt (by omega) hp; rw [e] at hb; cases hb; omega⟩
  have hr0 := hr.kept0 hk0
  go_enter Tryz.func52, Tryz.ntmps52
  go_wp2_with fail
  generalize ((w.alloc (.cells #[.int .i64 0, .int .i64 0, .string ⟨#[]⟩, .string ⟨#[]⟩] 32)).alloc (.cells #[.slice A bs.length c, .bool false] 104)) = W0 at *
  refine (Num_any W0 (w.heap.size + 1) (bs, false) 1 _ rfl (by omega) hrd0).mono ?_
  rintro e w1 ⟨rfl, hrd1, hk1⟩
  go_wp2_with fail
  refine (Num_any w1 (w.heap.size + 1) (numR (bs, false) 1).2 1125899906842624 _ rfl (by omega) hrd1).mono ?_
  rintro e w2 ⟨rfl, hrd2, hk2⟩
  go_wp2_with fail
  refine (TextR_any w2 (w.heap.size + 1) _ hrd2).mono ?_
  rintro e w3 ⟨rfl, hrd3, hk3⟩
  have hz1 := hk1.size
  have hz2 := hk2.size
  have hz3 := hk3.size
  have hk03 : Kept noF w w3 := ((hk0.trans hk1 (fun i hi hg => by unfold oneF at hg; omega)).trans hk2 (fun i hi hg => by unfold oneF at hg; omega)).trans hk3 (fun i hi hg => by unfold oneF at hg; omega)
  have hres3 := hk3.blk (hk2.blk (hk1.blk hR0 (by unfold oneF; omega)) (by unfold oneF; omega)) (by unfold oneF; omega)
  have hX := decX_eq bs
  clear hR0 hB0 hrd0 hr0 hk0 hk1 hk2 hk3 hrd1 hrd2
  generalize numR (bs, false) 1 = K at *
  obtain ⟨k, s1⟩ := K
  simp only at hX hrd3 ⊢
  generalize numR s1 1125899906842624 = Q at *
  obtain ⟨q, s2⟩ := Q
  simp only at hX hrd3 ⊢
  generalize textR s2 = T at *
  obtain ⟨key, s3⟩ := T
  simp only at hX hrd3 ⊢
  have HX := Lib.hid hX
  clear hX
  cases hk : (k : Int) == 1
  · have hk1 : ¬ k = 1 := by simp at hk; omega
    go_wp2_with fail
    refine (Encode_any ⟨k, q, ⟨key.toArray⟩, ⟨#[]⟩⟩ _).mono ?_
    rintro e w6 ⟨vc, rfl, hownc, hk6⟩
    have hxb := hk6.blk0 (blk_new w3 _)
    have hres6 := hk6.blk0 (blk_alloc hres3 _)
    have hrd6 : RdAt w6 (w.heap.size + 1) s3 := (hrd3.kept ((Kept.refl _ _).alloc _)).kept hk6
    have hk06 : Kept noF w w6 := (hk03.alloc _).trans0 hk6
    have hr6 := hr.kept0 hk06
    have hz6 := hk6.size
    obtain ⟨A6, c6, rfl, hc6⟩ := own_form hownc
    have x0 := blk_cell hxb 0 rfl
    have x1 := blk_cell hxb 1 rfl
    have x2 := blk_cell hxb 2 rfl
    have x3 := blk_cell hxb 3 rfl
    have r0 := blk_cell hres6 0 rfl
    have r1 := blk_cell hres6 1 rfl
    have r2 := blk_cell hres6 2 rfl
    have r3 := blk_cell hres6 3 rfl
    have f0 := blk_frozen hres6 0
    have f1 := blk_frozen hres6 1
    have f2 := blk_frozen hres6 2
    have f3 := blk_frozen hres6 3
    have hne : w.heap.size ≠ w3.heap.size := by omega
    have hok : decOk bs = (doneR s3 && (checkR (⟨k, q, ⟨key.toArray⟩, ⟨#[]⟩⟩ : Rec) == 0) && (encR (⟨k, q, ⟨key.toArray⟩, ⟨#[]⟩⟩ : Rec) == sealL bs)) := by unfold decOk; rw [HX.out]; simp only [if_neg hk1]
    have hXv : (decX bs).1 = (⟨k, q, ⟨key.toArray⟩, ⟨#[]⟩⟩ : Rec) := by rw [HX.out]; simp only [if_neg hk1]
    have HOK := Lib.hid hok
    have HXV := Lib.hid hXv
    clear hok hXv
    generalize hC : checkR (⟨k, q, ⟨key.toArray⟩, ⟨#[]⟩⟩ : Rec) = C at *
    generalize hE : encR (⟨k, q, ⟨key.toArray⟩, ⟨#[]⟩⟩ : Rec) = E at *
    have HC := Lib.hid hC
    have HE := Lib.hid hE
    clear hE hC
    have RD := Lib.hid hrd6
    have HRES := Lib.hid hres6
    have HR6 := Lib.hid hr6
    have HOWN := Lib.hid hownc
    have HK06 := Lib.hid hk06
    clear hrd6 hres6 hxb hr6 hownc hk06 hk6
    have RDd : RdAt w6.drew (w.heap.size + 1) s3 := RD.out
    have RDH := Lib.hid RDd
    clear RDd
    cases hd : doneR s3
    · go_wp2_with fail
      refine wp_region_held_drew (S := (fun w' => w'.cell? ⟨w3.heap.size, 0, none⟩ = some (.int .i64 k) ∧ w'.cell? ⟨w3.heap.size, 1, none⟩ = some (.int .i64 q) ∧ w'.cell? ⟨w3.heap.size, 2, none⟩ = some (.string ⟨key.toArray⟩) ∧ w'.cell? ⟨w3.heap.size, 3, none⟩ = some (.string ⟨#[]⟩))) (by kernel_rfl) ?_ (fun hHeld => ?_)
      · (try dsimp only); exact ⟨x0, x1, x2, x3⟩
      refine' wpAnyH_take (i := 0) (v := _) rfl (by kernel_rfl) (by kernel_rfl) (by kernel_rfl) (fun _ _ _ h => h) (Or.inl ⟨by rfl, ?hy1⟩) (by assumption) ?rest1
      case hy1 => (intro w hSw; (try dsimp only at hSw); go_simp; (try with_reducible rfl))
      (try simp only [Act.put, List.setIfInBounds_toArray, List.set_cons_zero, List.set_cons_succ, List.getElem_toArray, List.getElem_cons_zero, List.getElem_cons_succ])
      refine' wpAnyH_take (i := 1) (v := _) rfl (by kernel_rfl) (by kernel_rfl) (by kernel_rfl) (fun _ _ _ h => h) (Or.inl ⟨by rfl, ?hy2⟩) (by assumption) ?rest2
      case hy2 => (intro w hSw; (try dsimp only at hSw); go_simp; (try with_reducible rfl))
      (try simp only [Act.put, List.setIfInBounds_toArray, List.set_cons_zero, List.set_cons_succ, List.getElem_toArray, List.getElem_cons_zero, List.getElem_cons_succ])
      refine wpAnyH_ready (rs := [2]) (by kernel_rfl) (by simp) ?_
      refine AllReadyH.cons rfl (fun K hK => ?_) AllReadyH.nil
      go_simp
      go_at_call 69
      refine (Done_lit _ (w.heap.size + 1) s3 false hd RDH.out).mono ?_
      rintro e w' ⟨rfl, rfl⟩
      go_wp2_with fail
      refine hK.out _ _ ?_ (fun hHeld => ?_)
      · (try dsimp only); exact hHeld
      clear hK K
      (try simp only [Act.put, List.setIfInBounds_toArray, List.set_cons_zero, List.set_cons_succ, List.getElem_toArray, List.getElem_cons_zero, List.getElem_cons_succ])
      refine' wpAnyH_take (i := 3) (v := _) rfl (by kernel_rfl) (by kernel_rfl) (by kernel_rfl) (fun _ _ _ h => h) (Or.inl ⟨by rfl, ?hy3⟩) (by assumption) ?rest3
      case hy3 => (intro w hSw; (try dsimp only at hSw); go_simp; (try with_reducible rfl))
      (try simp only [Act.put, List.setIfInBounds_toArray, List.set_cons_zero, List.set_cons_succ, List.getElem_toArray, List.getElem_cons_zero, List.getElem_cons_succ])
      refine wpAnyH_take (i := 4) (v := undef) rfl (by kernel_rfl) (by kernel_rfl) (by kernel_rfl) (fun _ _ _ h => h) (Or.inr ⟨by rfl, rfl⟩) (by assumption) ?_
      (try simp only [Act.put, List.setIfInBounds_toArray, List.set_cons_zero, List.set_cons_succ, List.getElem_toArray, List.getElem_cons_zero, List.getElem_cons_succ])
      refine wpAnyH_take (i := 5) (v := undef) rfl (by kernel_rfl) (by kernel_rfl) (by kernel_rfl) (fun _ _ _ h => h) (Or.inr ⟨by rfl, rfl⟩) (by assumption) ?_
      (try simp only [Act.put, List.setIfInBounds_toArray, List.set_cons_zero, List.set_cons_succ, List.getElem_toArray, List.getElem_cons_zero, List.getElem_cons_succ])
      refine' wpAnyH_take (i := 6) (v := _) rfl (by kernel_rfl) (by kernel_rfl) (by kernel_rfl) (fun _ _ _ h => h) (Or.inl ⟨by rfl, ?hy4⟩) (by assumption) ?rest4
      case hy4 => (intro w hSw; (try dsimp only at hSw); go_simp; (try with_reducible rfl))
      (try simp only [Act.put, List.setIfInBounds_toArray, List.set_cons_zero, List.set_cons_succ, List.getElem_toArray, List.getElem_cons_zero, List.getElem_cons_succ])
      refine' wpAnyH_take (i := 7) (v := _) rfl (by kernel_rfl) (by kernel_rfl) (by kernel_rfl) (fun _ _ _ h => h) (Or.inl ⟨by rfl, ?hy5⟩) (by assumption) ?rest5
      case hy5 => (intro w hSw; (try dsimp only at hSw); go_simp; (try with_reducible rfl))
      (try simp only [Act.put, List.setIfInBounds_toArray, List.set_cons_zero, List.set_cons_succ, List.getElem_toArray, List.getElem_cons_zero, List.getElem_cons_succ])
      refine wpAnyH_take (i := 8) (v := undef) rfl (by kernel_rfl) (by kernel_rfl) (by kernel_rfl) (fun _ _ _ h => h) (Or.inr ⟨by rfl, rfl⟩) (by assumption) ?_
      (try simp only [Act.put, List.setIfInBounds_toArray, List.set_cons_zero, List.set_cons_succ, List.getElem_toArray, List.getElem_cons_zero, List.getElem_cons_succ])
      refine wpAnyH_take (i := 9) (v := undef) rfl (by kernel_rfl) (by kernel_rfl) (by kernel_rfl) (fun _ _ _ h => h) (Or.inr ⟨by rfl, rfl⟩) (by assumption) ?_
      (try simp only [Act.put, List.setIfInBounds_toArray, List.set_cons_zero, List.set_cons_succ, List.getElem_toArray, List.getElem_cons_zero, List.getElem_cons_succ])
      refine wpAnyH_take (i := 10) (v := undef) rfl (by kernel_rfl) (by kernel_rfl) (by kernel_rfl) (fun _ _ _ h => h) (Or.inr ⟨by rfl, rfl⟩) (by assumption) ?_
      (try simp only [Act.put, List.setIfInBounds_toArray, List.set_cons_zero, List.set_cons_succ, List.getElem_toArray, List.getElem_cons_zero, List.getElem_cons_succ])
      refine wpAnyH_take (i := 11) (v := undef) rfl (by kernel_rfl) (by kernel_rfl) (by kernel_rfl) (fun _ _ _ h => h) (Or.inr ⟨by rfl, rfl⟩) (by assumption) ?_
      (try simp only [Act.put, List.setIfInBounds_toArray, List.set_cons_zero, List.set_cons_succ, List.getElem_toArray, List.getElem_cons_zero, List.getElem_cons_succ])
      refine' wpAnyH_take (i := 12) (v := _) rfl (by kernel_rfl) (by kernel_rfl) (by kernel_rfl) (fun _ _ _ h => h) (Or.inl ⟨by rfl, ?hy6⟩) (by assumption) ?rest6
      case hy6 => (intro w hSw; (try dsimp only at hSw); go_simp; (try with_reducible rfl))
      (try simp only [Act.put, List.setIfInBounds_toArray, List.set_cons_zero, List.set_cons_succ, List.getElem_toArray, List.getElem_cons_zero, List.getElem_cons_succ])
      refine wpAnyH_ready (rs := [13]) (by kernel_rfl) (by simp) ?_
      refine AllReadyH.cons rfl (fun K hK => ?_) AllReadyH.nil
      go_simp
      refine hK.out _ _ ?_ (fun hHeld => ?_)
      · (try dsimp only); go_keep
      clear hK K
      (try simp only [Act.put, List.setIfInBounds_toArray, List.set_cons_zero, List.set_cons_succ, List.getElem_toArray, List.getElem_cons_zero, List.getElem_cons_succ])
      refine' wpAnyH_take (i := 14) (v := _) rfl (by kernel_rfl) (by kernel_rfl) (by kernel_rfl) (fun _ _ _ h => h) (Or.inl ⟨by rfl, ?hy7⟩) (by assumption) ?rest7
      case hy7 => (intro w hSw; (try dsimp only at hSw); go_simp; (try with_reducible rfl))
      (try simp only [Act.put, List.setIfInBounds_toArray, List.set_cons_zero, List.set_cons_succ, List.getElem_toArray, List.getElem_cons_zero, List.getElem_cons_succ])
      refine wpAnyH_done (by kernel_rfl) ?_ _
      go_wp2_with fail
      have hB := (blk_set (blk_set (blk_set (blk_set HRES.out 0 (.int .i64 k)) 1 (.int .i64 q)) 2 (.string ⟨key.toArray⟩)) 3 (.string ⟨#[]⟩))
      have hK : Kept noF w ((((w6.setCell ⟨w.heap.size, 0, none⟩ (.int .i64 k)).setCell ⟨w.heap.size, 1, none⟩ (.int .i64 q)).setCell ⟨w.heap.size, 2, none⟩ (.string ⟨key.toArray⟩)).setCell ⟨w.heap.size, 3, none⟩ (.string ⟨#[]⟩)) := ((((HK06.out.set w.heap.size 0 (.inr (by omega)) _).set w.heap.size 1 (.inr (by omega)) _).set w.heap.size 2 (.inr (by omega)) _).set w.heap.size 3 (.inr (by omega)) _)
      generalize ((((w6.setCell ⟨w.heap.size, 0, none⟩ (.int .i64 k)).setCell ⟨w.heap.size, 1, none⟩ (.int .i64 q)).setCell ⟨w.heap.size, 2, none⟩ (.string ⟨key.toArray⟩)).setCell ⟨w.heap.size, 3, none⟩ (.string ⟨#[]⟩)) = wf at *
      simp only [List.size_toArray, List.length_cons, List.length_nil, List.setIfInBounds_toArray, List.set_cons_succ, List.set_cons_zero] at hB
      have e0 := blk_cell hB 0 rfl
      have e1 := blk_cell hB 1 rfl
      have e2 := blk_cell hB 2 rfl
      have e3 := blk_cell hB 3 rfl
      clear hB
      refine bodyPost_ret (v := .tuple #[.agg #[.int .i64 k, .int .i64 q, .string ⟨key.toArray⟩, .string ⟨#[]⟩], .bool false]) (by simp [results, Tryz.results52, go_sem, e0, e1, e2, e3]) rfl ⟨?_, hK.drew⟩
      rw [HXV.out, HOK.out, hd]; rfl
    · cases h0 : C == 0
      · go_wp2_with fail
        refine wp_region_held_drew (S := (fun w' => w'.cell? ⟨w3.heap.size, 0, none⟩ = some (.int .i64 k) ∧ w'.cell? ⟨w3.heap.size, 1, none⟩ = some (.int .i64 q) ∧ w'.cell? ⟨w3.heap.size, 2, none⟩ = some (.string ⟨key.toArray⟩) ∧ w'.cell? ⟨w3.heap.size, 3, none⟩ = some (.string ⟨#[]⟩))) (by kernel_rfl) ?_ (fun hHeld => ?_)
        · (try dsimp only); exact ⟨x0, x1, x2, x3⟩
        refine' wpAnyH_take (i := 0) (v := _) rfl (by kernel_rfl) (by kernel_rfl) (by kernel_rfl) (fun _ _ _ h => h) (Or.inl ⟨by rfl, ?hy8⟩) (by assumption) ?rest8
        case hy8 => (intro w hSw; (try dsimp only at hSw); go_simp; (try with_reducible rfl))
        (try simp only [Act.put, List.setIfInBounds_toArray, List.set_cons_zero, List.set_cons_succ, List.getElem_toArray, List.getElem_cons_zero, List.getElem_cons_succ])
        refine' wpAnyH_take (i := 1) (v := _) rfl (by kernel_rfl) (by kernel_rfl) (by kernel_rfl) (fun _ _ _ h => h) (Or.inl ⟨by rfl, ?hy9⟩) (by assumption) ?rest9
        case hy9 => (intro w hSw; (try dsimp only at hSw); go_simp; (try with_reducible rfl))
        (try simp only [Act.put, List.setIfInBounds_toArray, List.set_cons_zero, List.set_cons_succ, List.getElem_toArray, List.getElem_cons_zero, List.getElem_cons_succ])
        refine wpAnyH_ready (rs := [2]) (by kernel_rfl) (by simp) ?_
        refine AllReadyH.cons rfl (fun K hK => ?_) AllReadyH.nil
        go_simp
        go_at_call 69
        refine (Done_lit _ (w.heap.size + 1) s3 true hd RDH.out).mono ?_
        rintro e w' ⟨rfl, rfl⟩
        go_wp2_with fail
        refine hK.out _ _ ?_ (fun hHeld => ?_)
        · (try dsimp only); exact hHeld
        clear hK K
        (try simp only [Act.put, List.setIfInBounds_toArray, List.set_cons_zero, List.set_cons_succ, List.getElem_toArray, List.getElem_cons_zero, List.getElem_cons_succ])
        refine' wpAnyH_take (i := 3) (v := _) rfl (by kernel_rfl) (by kernel_rfl) (by kernel_rfl) (fun _ _ _ h => h) (Or.inl ⟨by rfl, ?hy10⟩) (by assumption) ?rest10
        case hy10 => (intro w hSw; (try dsimp only at hSw); go_simp; (try with_reducible rfl))
        (try simp only [Act.put, List.setIfInBounds_toArray, List.set_cons_zero, List.set_cons_succ, List.getElem_toArray, List.getElem_cons_zero, List.getElem_cons_succ])
        refine' wpAnyH_take (i := 4) (v := _) rfl (by kernel_rfl) (by kernel_rfl) (by kernel_rfl) (fun _ _ _ h => h) (Or.inl ⟨by rfl, ?hy11⟩) (by assumption) ?rest11
        case hy11 => (intro w hSw; (try dsimp only at hSw); go_simp; (try with_reducible rfl))
        (try simp only [Act.put, List.setIfInBounds_toArray, List.set_cons_zero, List.set_cons_succ, List.getElem_toArray, List.getElem_cons_zero, List.getElem_cons_succ])
        refine' wpAnyH_take (i := 5) (v := _) rfl (by kernel_rfl) (by kernel_rfl) (by kernel_rfl) (fun _ _ _ h => h) (Or.inl ⟨by rfl, ?hy12⟩) (by assumption) ?rest12
        case hy12 => (intro w hSw; (try dsimp only at hSw); go_simp; (try with_reducible rfl))
        (try simp only [Act.put, List.setIfInBounds_toArray, List.set_cons_zero, List.set_cons_succ, List.getElem_toArray, List.getElem_cons_zero, List.getElem_cons_succ])
        refine' wpAnyH_take (i := 6) (v := _) rfl (by kernel_rfl) (by kernel_rfl) (by kernel_rfl) (fun _ _ _ h => h) (Or.inl ⟨by rfl, ?hy13⟩) (by assumption) ?rest13
        case hy13 => (intro w hSw; (try dsimp only at hSw); go_simp; (try with_reducible rfl))
        (try simp only [Act.put, List.setIfInBounds_toArray, List.set_cons_zero, List.set_cons_succ, List.getElem_toArray, List.getElem_cons_zero, List.getElem_cons_succ])
        refine' wpAnyH_take (i := 7) (v := _) rfl (by kernel_rfl) (by kernel_rfl) (by kernel_rfl) (fun _ _ _ h => h) (Or.inl ⟨by rfl, ?hy14⟩) (by assumption) ?rest14
        case hy14 => (intro w hSw; (try dsimp only at hSw); go_simp; (try with_reducible rfl))
        (try simp only [Act.put, List.setIfInBounds_toArray, List.set_cons_zero, List.set_cons_succ, List.getElem_toArray, List.getElem_cons_zero, List.getElem_cons_succ])
        refine wpAnyH_take (i := 8) (v := undef) rfl (by kernel_rfl) (by kernel_rfl) (by kernel_rfl) (fun _ _ _ h => h) (Or.inr ⟨by rfl, rfl⟩) (by assumption) ?_
        (try simp only [Act.put, List.setIfInBounds_toArray, List.set_cons_zero, List.set_cons_succ, List.getElem_toArray, List.getElem_cons_zero, List.getElem_cons_succ])
        refine wpAnyH_take (i := 9) (v := undef) rfl (by kernel_rfl) (by kernel_rfl) (by kernel_rfl) (fun _ _ _ h => h) (Or.inr ⟨by rfl, rfl⟩) (by assumption) ?_
        (try simp only [Act.put, List.setIfInBounds_toArray, List.set_cons_zero, List.set_cons_succ, List.getElem_toArray, List.getElem_cons_zero, List.getElem_cons_succ])
        refine wpAnyH_take (i := 10) (v := undef) rfl (by kernel_rfl) (by kernel_rfl) (by kernel_rfl) (fun _ _ _ h => h) (Or.inr ⟨by rfl, rfl⟩) (by assumption) ?_
        (try simp only [Act.put, List.setIfInBounds_toArray, List.set_cons_zero, List.set_cons_succ, List.getElem_toArray, List.getElem_cons_zero, List.getElem_cons_succ])
        refine wpAnyH_take (i := 11) (v := undef) rfl (by kernel_rfl) (by kernel_rfl) (by kernel_rfl) (fun _ _ _ h => h) (Or.inr ⟨by rfl, rfl⟩) (by assumption) ?_
        (try simp only [Act.put, List.setIfInBounds_toArray, List.set_cons_zero, List.set_cons_succ, List.getElem_toArray, List.getElem_cons_zero, List.getElem_cons_succ])
        refine' wpAnyH_take (i := 12) (v := _) rfl (by kernel_rfl) (by kernel_rfl) (by kernel_rfl) (fun _ _ _ h => h) (Or.inl ⟨by rfl, ?hy15⟩) (by assumption) ?rest15
        case hy15 => (intro w hSw; (try dsimp only at hSw); go_simp; (try with_reducible rfl))
        (try simp only [Act.put, List.setIfInBounds_toArray, List.set_cons_zero, List.set_cons_succ, List.getElem_toArray, List.getElem_cons_zero, List.getElem_cons_succ])
        refine wpAnyH_ready (rs := [13]) (by kernel_rfl) (by simp) ?_
        refine AllReadyH.cons rfl (fun K hK => ?_) AllReadyH.nil
        go_simp
        refine hK.out _ _ ?_ (fun hHeld => ?_)
        · (try dsimp only); go_keep
        clear hK K
        (try simp only [Act.put, List.setIfInBounds_toArray, List.set_cons_zero, List.set_cons_succ, List.getElem_toArray, List.getElem_cons_zero, List.getElem_cons_succ])
        refine' wpAnyH_take (i := 14) (v := _) rfl (by kernel_rfl) (by kernel_rfl) (by kernel_rfl) (fun _ _ _ h => h) (Or.inl ⟨by rfl, ?hy16⟩) (by assumption) ?rest16
        case hy16 => (intro w hSw; (try dsimp only at hSw); go_simp; (try with_reducible rfl))
        (try simp only [Act.put, List.setIfInBounds_toArray, List.set_cons_zero, List.set_cons_succ, List.getElem_toArray, List.getElem_cons_zero, List.getElem_cons_succ])
        refine wpAnyH_done (by kernel_rfl) ?_ _
        go_wp2_with fail
        have hB := (blk_set (blk_set (blk_set (blk_set HRES.out 0 (.int .i64 k)) 1 (.int .i64 q)) 2 (.string ⟨key.toArray⟩)) 3 (.string ⟨#[]⟩))
        have hK : Kept noF w ((((w6.setCell ⟨w.heap.size, 0, none⟩ (.int .i64 k)).setCell ⟨w.heap.size, 1, none⟩ (.int .i64 q)).setCell ⟨w.heap.size, 2, none⟩ (.string ⟨key.toArray⟩)).setCell ⟨w.heap.size, 3, none⟩ (.string ⟨#[]⟩)) := ((((HK06.out.set w.heap.size 0 (.inr (by omega)) _).set w.heap.size 1 (.inr (by omega)) _).set w.heap.size 2 (.inr (by omega)) _).set w.heap.size 3 (.inr (by omega)) _)
        generalize ((((w6.setCell ⟨w.heap.size, 0, none⟩ (.int .i64 k)).setCell ⟨w.heap.size, 1, none⟩ (.int .i64 q)).setCell ⟨w.heap.size, 2, none⟩ (.string ⟨key.toArray⟩)).setCell ⟨w.heap.size, 3, none⟩ (.string ⟨#[]⟩)) = wf at *
        simp only [List.size_toArray, List.length_cons, List.length_nil, List.setIfInBounds_toArray, List.set_cons_succ, List.set_cons_zero] at hB
        have e0 := blk_cell hB 0 rfl
        have e1 := blk_cell hB 1 rfl
        have e2 := blk_cell hB 2 rfl
        have e3 := blk_cell hB 3 rfl
        clear hB
        refine bodyPost_ret (v := .tuple #[.agg #[.int .i64 k, .int .i64 q, .string ⟨key.toArray⟩, .string ⟨#[]⟩], .bool false]) (by simp [results, Tryz.results52, go_sem, e0, e1, e2, e3]) rfl ⟨?_, hK.drew⟩
        rw [HXV.out, HOK.out, hd, h0]; rfl
      · go_wp2_with fail
        refine wp_region_held_drew (S := (fun w' => w'.cell? ⟨w3.heap.size, 0, none⟩ = some (.int .i64 k) ∧ w'.cell? ⟨w3.heap.size, 1, none⟩ = some (.int .i64 q) ∧ w'.cell? ⟨w3.heap.size, 2, none⟩ = some (.string ⟨key.toArray⟩) ∧ w'.cell? ⟨w3.heap.size, 3, none⟩ = some (.string ⟨#[]⟩))) (by kernel_rfl) ?_ (fun hHeld => ?_)
        · (try dsimp only); exact ⟨x0, x1, x2, x3⟩
        refine' wpAnyH_take (i := 0) (v := _) rfl (by kernel_rfl) (by kernel_rfl) (by kernel_rfl) (fun _ _ _ h => h) (Or.inl ⟨by rfl, ?hy17⟩) (by assumption) ?rest17
        case hy17 => (intro w hSw; (try dsimp only at hSw); go_simp; (try with_reducible rfl))
        (try simp only [Act.put, List.setIfInBounds_toArray, List.set_cons_zero, List.set_cons_succ, List.getElem_toArray, List.getElem_cons_zero, List.getElem_cons_succ])
        refine' wpAnyH_take (i := 1) (v := _) rfl (by kernel_rfl) (by kernel_rfl) (by kernel_rfl) (fun _ _ _ h => h) (Or.inl ⟨by rfl, ?hy18⟩) (by assumption) ?rest18
        case hy18 => (intro w hSw; (try dsimp only at hSw); go_simp; (try with_reducible rfl))
        (try simp only [Act.put, List.setIfInBounds_toArray, List.set_cons_zero, List.set_cons_succ, List.getElem_toArray, List.getElem_cons_zero, List.getElem_cons_succ])
        refine wpAnyH_ready (rs := [2]) (by kernel_rfl) (by simp) ?_
        refine AllReadyH.cons rfl (fun K hK => ?_) AllReadyH.nil
        go_simp
        go_at_call 69
        refine (Done_lit _ (w.heap.size + 1) s3 true hd RDH.out).mono ?_
        rintro e w' ⟨rfl, rfl⟩
        go_wp2_with fail
        refine hK.out _ _ ?_ (fun hHeld => ?_)
        · (try dsimp only); exact hHeld
        clear hK K
        (try simp only [Act.put, List.setIfInBounds_toArray, List.set_cons_zero, List.set_cons_succ, List.getElem_toArray, List.getElem_cons_zero, List.getElem_cons_succ])
        refine' wpAnyH_take (i := 3) (v := _) rfl (by kernel_rfl) (by kernel_rfl) (by kernel_rfl) (fun _ _ _ h => h) (Or.inl ⟨by rfl, ?hy19⟩) (by assumption) ?rest19
        case hy19 => (intro w hSw; (try dsimp only at hSw); go_simp; (try with_reducible rfl))
        (try simp only [Act.put, List.setIfInBounds_toArray, List.set_cons_zero, List.set_cons_succ, List.getElem_toArray, List.getElem_cons_zero, List.getElem_cons_succ])
        refine' wpAnyH_take (i := 4) (v := _) rfl (by kernel_rfl) (by kernel_rfl) (by kernel_rfl) (fun _ _ _ h => h) (Or.inl ⟨by rfl, ?hy20⟩) (by assumption) ?rest20
        case hy20 => (intro w hSw; (try dsimp only at hSw); go_simp; (try with_reducible rfl))
        (try simp only [Act.put, List.setIfInBounds_toArray, List.set_cons_zero, List.set_cons_succ, List.getElem_toArray, List.getElem_cons_zero, List.getElem_cons_succ])
        refine' wpAnyH_take (i := 5) (v := _) rfl (by kernel_rfl) (by kernel_rfl) (by kernel_rfl) (fun _ _ _ h => h) (Or.inl ⟨by rfl, ?hy21⟩) (by assumption) ?rest21
        case hy21 => (intro w hSw; (try dsimp only at hSw); go_simp; (try with_reducible rfl))
        (try simp only [Act.put, List.setIfInBounds_toArray, List.set_cons_zero, List.set_cons_succ, List.getElem_toArray, List.getElem_cons_zero, List.getElem_cons_succ])
        refine' wpAnyH_take (i := 6) (v := _) rfl (by kernel_rfl) (by kernel_rfl) (by kernel_rfl) (fun _ _ _ h => h) (Or.inl ⟨by rfl, ?hy22⟩) (by assumption) ?rest22
        case hy22 => (intro w hSw; (try dsimp only at hSw); go_simp; (try with_reducible rfl))
        (try simp only [Act.put, List.setIfInBounds_toArray, List.set_cons_zero, List.set_cons_succ, List.getElem_toArray, List.getElem_cons_zero, List.getElem_cons_succ])
        refine' wpAnyH_take (i := 7) (v := _) rfl (by kernel_rfl) (by kernel_rfl) (by kernel_rfl) (fun _ _ _ h => h) (Or.inl ⟨by rfl, ?hy23⟩) (by assumption) ?rest23
        case hy23 => (intro w hSw; (try dsimp only at hSw); go_simp; (try with_reducible rfl))
        (try simp only [Act.put, List.setIfInBounds_toArray, List.set_cons_zero, List.set_cons_succ, List.getElem_toArray, List.getElem_cons_zero, List.getElem_cons_succ])
        refine' wpAnyH_take (i := 8) (v := _) rfl (by kernel_rfl) (by kernel_rfl) (by kernel_rfl) (fun _ _ _ h => h) (Or.inl ⟨by rfl, ?hy24⟩) (by assumption) ?rest24
        case hy24 => (intro w hSw; (try dsimp only at hSw); go_simp; (try with_reducible rfl))
        (try simp only [Act.put, List.setIfInBounds_toArray, List.set_cons_zero, List.set_cons_succ, List.getElem_toArray, List.getElem_cons_zero, List.getElem_cons_succ])
        refine' wpAnyH_take (i := 9) (v := _) rfl (by kernel_rfl) (by kernel_rfl) (by kernel_rfl) (fun _ _ _ h => h) (Or.inl ⟨by rfl, ?hy25⟩) (by assumption) ?rest25
        case hy25 => (intro w hSw; (try dsimp only at hSw); go_simp; (try with_reducible rfl))
        (try simp only [Act.put, List.setIfInBounds_toArray, List.set_cons_zero, List.set_cons_succ, List.getElem_toArray, List.getElem_cons_zero, List.getElem_cons_succ])
        refine wpAnyH_ready (rs := [10]) (by kernel_rfl) (by simp) ?_
        refine AllReadyH.cons rfl (fun K hK => ?_) AllReadyH.nil
        go_simp
        go_at_call 53
        refine (Seal_any A c bs w6.drew HR6.out hlen).mono ?_
        rintro e w7 ⟨v7, rfl, hown7, hk7⟩
        have X0 := hk7.cell0 (w := w6.drew) x0
        have X1 := hk7.cell0 (w := w6.drew) x1
        have X2 := hk7.cell0 (w := w6.drew) x2
        have X3 := hk7.cell0 (w := w6.drew) x3
        have R0 := hk7.cell0 (w := w6.drew) r0
        have R1 := hk7.cell0 (w := w6.drew) r1
        have R2 := hk7.cell0 (w := w6.drew) r2
        have R3 := hk7.cell0 (w := w6.drew) r3
        have hres7 := hk7.blk0 (w := w6.drew) HRES.out
        have F0 := blk_frozen hres7 0
        have F1 := blk_frozen hres7 1
        have F2 := blk_frozen hres7 2
        have F3 := blk_frozen hres7 3
        have HRES7 := Lib.hid hres7
        have HOWN7 := Lib.hid hown7
        have HK7 := Lib.hid hk7
        clear hres7 hown7 hk7
        go_wp2_with fail
        refine hK.out _ _ ?_ (fun hHeld => ?_)
        · (try dsimp only); exact ⟨X0, X1, X2, X3⟩
        clear hK K
        (try simp only [Act.put, List.setIfInBounds_toArray, List.set_cons_zero, List.set_cons_succ, List.getElem_toArray, List.getElem_cons_zero, List.getElem_cons_succ])
        refine wpAnyH_ready (rs := [11]) (by kernel_rfl) (by simp) ?_
        refine AllReadyH.cons rfl (fun K hK => ?_) AllReadyH.nil
        go_simp
        go_at_call 70
        refine (bytesEqual_any _ _ E (sealL bs) _ (((Reads.own HOWN.out).kept0 (Kept.refl _ _).drew).kept0 HK7.out) (Reads.own HOWN7.out)).mono ?_
        rintro e w' ⟨rfl, rfl⟩
        go_wp2_with fail
        refine hK.out _ _ ?_ (fun hHeld => ?_)
        · (try dsimp only); exact hHeld
        clear hK K
        (try simp only [Act.put, List.setIfInBounds_toArray, List.set_cons_zero, List.set_cons_succ, List.getElem_toArray, List.getElem_cons_zero, List.getElem_cons_succ])
        refine' wpAnyH_take (i := 12) (v := _) rfl (by kernel_rfl) (by kernel_rfl) (by kernel_rfl) (fun _ _ _ h => h) (Or.inl ⟨by rfl, ?hy26⟩) (by assumption) ?rest26
        case hy26 => (intro w hSw; (try dsimp only at hSw); go_simp; (try with_reducible rfl))
        (try simp only [Act.put, List.setIfInBounds_toArray, List.set_cons_zero, List.set_cons_succ, List.getElem_toArray, List.getElem_cons_zero, List.getElem_cons_succ])
        refine wpAnyH_ready (rs := [13]) (by kernel_rfl) (by simp) ?_
        refine AllReadyH.cons rfl (fun K hK => ?_) AllReadyH.nil
        go_simp
        refine hK.out _ _ ?_ (fun hHeld => ?_)
        · (try dsimp only); go_keep
        clear hK K
        (try simp only [Act.put, List.setIfInBounds_toArray, List.set_cons_zero, List.set_cons_succ, List.getElem_toArray, List.getElem_cons_zero, List.getElem_cons_succ])
        refine' wpAnyH_take (i := 14) (v := _) rfl (by kernel_rfl) (by kernel_rfl) (by kernel_rfl) (fun _ _ _ h => h) (Or.inl ⟨by rfl, ?hy27⟩) (by assumption) ?rest27
        case hy27 => (intro w hSw; (try dsimp only at hSw); go_simp; (try with_reducible rfl))
        (try simp only [Act.put, List.setIfInBounds_toArray, List.set_cons_zero, List.set_cons_succ, List.getElem_toArray, List.getElem_cons_zero, List.getElem_cons_succ])
        refine wpAnyH_done (by kernel_rfl) ?_ _
        have hz7 : w6.heap.size ≤ w7.heap.size := HK7.out.size
        go_wp2_with fail
        have hB := (blk_set (blk_set (blk_set (blk_set HRES7.out 0 (.int .i64 k)) 1 (.int .i64 q)) 2 (.string ⟨key.toArray⟩)) 3 (.string ⟨#[]⟩))
        have hK : Kept noF w ((((w7.setCell ⟨w.heap.size, 0, none⟩ (.int .i64 k)).setCell ⟨w.heap.size, 1, none⟩ (.int .i64 q)).setCell ⟨w.heap.size, 2, none⟩ (.string ⟨key.toArray⟩)).setCell ⟨w.heap.size, 3, none⟩ (.string ⟨#[]⟩)) := (((((HK06.out.drew.trans0 HK7.out).set w.heap.size 0 (.inr (by omega)) _).set w.heap.size 1 (.inr (by omega)) _).set w.heap.size 2 (.inr (by omega)) _).set w.heap.size 3 (.inr (by omega)) _)
        generalize ((((w7.setCell ⟨w.heap.size, 0, none⟩ (.int .i64 k)).setCell ⟨w.heap.size, 1, none⟩ (.int .i64 q)).setCell ⟨w.heap.size, 2, none⟩ (.string ⟨key.toArray⟩)).setCell ⟨w.heap.size, 3, none⟩ (.string ⟨#[]⟩)) = wf at *
        simp only [List.size_toArray, List.length_cons, List.length_nil, List.setIfInBounds_toArray, List.set_cons_succ, List.set_cons_zero] at hB
        have e0 := blk_cell hB 0 rfl
        have e1 := blk_cell hB 1 rfl
        have e2 := blk_cell hB 2 rfl
        have e3 := blk_cell hB 3 rfl
        clear hB
        refine bodyPost_ret (v := .tuple #[.agg #[.int .i64 k, .int .i64 q, .string ⟨key.toArray⟩, .string ⟨#[]⟩], .bool (E == sealL bs)]) (by simp [results, Tryz.results52, go_sem, e0, e1, e2, e3]) rfl ⟨?_, hK⟩
        rw [HXV.out, HOK.out, hd, h0]; rfl
  · obtain rfl : k = 1 := by simp at hk; omega
    clear hk
    have hk : (((1 : Nat) : Int) == 1) = true := rfl
    go_wp2_with fail
    refine (TextR_any _ (w.heap.size + 1) s3 (hrd3.kept ((Kept.refl _ _).alloc _))).mono ?_
    rintro e w4 ⟨rfl, hrd4, hk4⟩
    have hxa := hk4.blk (blk_new w3 _) (by unfold oneF; omega)
    have hres4 := hk4.blk (blk_alloc hres3 _) (by unfold oneF; omega)
    have hz4 := hk4.size
    simp only [World.size_alloc] at hz4
    have hk04 : Kept noF w w4 := (hk03.alloc _).trans hk4 (fun i hi hg => by unfold oneF at hg; omega)
    clear hk4
    generalize hV : textR s3 = V at *
    obtain ⟨val, s4⟩ := V
    simp only at hrd4 ⊢
    have HV := Lib.hid hV
    clear hV
    have y0 := blk_cell hxa 0 rfl
    have y1 := blk_cell hxa 1 rfl
    have y2 := blk_cell hxa 2 rfl
    have y3 := blk_cell hxa 3 rfl
    have g3 := blk_frozen hxa 3
    go_wp2_with fail
    refine (Encode_any ⟨1, q, ⟨key.toArray⟩, ⟨val.toArray⟩⟩ _).mono ?_
    rintro e w6 ⟨vc, rfl, hownc, hk6⟩
    have hxb := hk6.blk0 (blk_set hxa 3 (.string ⟨val.toArray⟩))
    have hres6 := hk6.blk0 (blk_far hres4 (p := ⟨w3.heap.size, 3, none⟩) (by simp; omega) (.string ⟨val.toArray⟩))
    have hk06 : Kept noF w w6 := (hk04.set w3.heap.size 3 (.inr (by omega)) _).trans0 hk6
    have hrd6 : RdAt w6 (w.heap.size + 1) s4 := (hrd4.far w3.heap.size 3 (by omega) _).kept hk6
    have hr6 := hr.kept0 hk06
    simp only [List.size_toArray, List.length_cons, List.length_nil, List.setIfInBounds_toArray, List.set_cons_succ, List.set_cons_zero] at hxb
    clear y0 y1 y2 y3 g3 hxa hres4 hrd4
    have hz6 := hk6.size
    obtain ⟨A6, c6, rfl, hc6⟩ := own_form hownc
    have x0 := blk_cell hxb 0 rfl
    have x1 := blk_cell hxb 1 rfl
    have x2 := blk_cell hxb 2 rfl
    have x3 := blk_cell hxb 3 rfl
    have r0 := blk_cell hres6 0 rfl
    have r1 := blk_cell hres6 1 rfl
    have r2 := blk_cell hres6 2 rfl
    have r3 := blk_cell hres6 3 rfl
    have f0 := blk_frozen hres6 0
    have f1 := blk_frozen hres6 1
    have f2 := blk_frozen hres6 2
    have f3 := blk_frozen hres6 3
    have hne : w.heap.size ≠ w3.heap.size := by omega
    have hok : decOk bs = (doneR s4 && (checkR (⟨1, q, ⟨key.toArray⟩, ⟨val.toArray⟩⟩ : Rec) == 0) && (encR (⟨1, q, ⟨key.toArray⟩, ⟨val.toArray⟩⟩ : Rec) == sealL bs)) := by unfold decOk; rw [HX.out]; rfl
    have hXv : (decX bs).1 = (⟨1, q, ⟨key.toArray⟩, ⟨val.toArray⟩⟩ : Rec) := by rw [HX.out]; rfl
    have HOK := Lib.hid hok
    have HXV := Lib.hid hXv
    clear hok hXv
    generalize hC : checkR (⟨1, q, ⟨key.toArray⟩, ⟨val.toArray⟩⟩ : Rec) = C at *
    generalize hE : encR (⟨1, q, ⟨key.toArray⟩, ⟨val.toArray⟩⟩ : Rec) = E at *
    have HC := Lib.hid hC
    have HE := Lib.hid hE
    clear hE hC
    have RD := Lib.hid hrd6
    have HRES := Lib.hid hres6
    have HR6 := Lib.hid hr6
    have HOWN := Lib.hid hownc
    have HK06 := Lib.hid hk06
    clear hrd6 hres6 hxb hr6 hownc hk06 hk6
    have RDd : RdAt w6.drew (w.heap.size + 1) s4 := RD.out
    have RDH := Lib.hid RDd
    clear RDd
    cases hd : doneR s4
    · go_wp2_with fail
      refine wp_region_held_drew (S := (fun w' => w'.cell? ⟨w3.heap.size, 0, none⟩ = some (.int .i64 1) ∧ w'.cell? ⟨w3.heap.size, 1, none⟩ = some (.int .i64 q) ∧ w'.cell? ⟨w3.heap.size, 2, none⟩ = some (.string ⟨key.toArray⟩) ∧ w'.cell? ⟨w3.heap.size, 3, none⟩ = some (.string ⟨val.toArray⟩))) (by kernel_rfl) ?_ (fun hHeld => ?_)
      · (try dsimp only); exact ⟨x0, x1, x2, x3⟩
      refine' wpAnyH_take (i := 0) (v := _) rfl (by kernel_rfl) (by kernel_rfl) (by kernel_rfl) (fun _ _ _ h => h) (Or.inl ⟨by rfl, ?hy28⟩) (by assumption) ?rest28
      case hy28 => (intro w hSw; (try dsimp only at hSw); go_simp; (try with_reducible rfl))
      (try simp only [Act.put, List.setIfInBounds_toArray, List.set_cons_zero, List.set_cons_succ, List.getElem_toArray, List.getElem_cons_zero, List.getElem_cons_succ])
      refine' wpAnyH_take (i := 1) (v := _) rfl (by kernel_rfl) (by kernel_rfl) (by kernel_rfl) (fun _ _ _ h => h) (Or.inl ⟨by rfl, ?hy29⟩) (by assumption) ?rest29
      case hy29 => (intro w hSw; (try dsimp only at hSw); go_simp; (try with_reducible rfl))
      (try simp only [Act.put, List.setIfInBounds_toArray, List.set_cons_zero, List.set_cons_succ, List.getElem_toArray, List.getElem_cons_zero, List.getElem_cons_succ])
      refine wpAnyH_ready (rs := [2]) (by kernel_rfl) (by simp) ?_
      refine AllReadyH.cons rfl (fun K hK => ?_) AllReadyH.nil
      go_simp
      go_at_call 69
      refine (Done_lit _ (w.heap.size + 1) s4 false hd RDH.out).mono ?_
      rintro e w' ⟨rfl, rfl⟩
      go_wp2_with fail
      refine hK.out _ _ ?_ (fun hHeld => ?_)
      · (try dsimp only); exact hHeld
      clear hK K
      (try simp only [Act.put, List.setIfInBounds_toArray, List.set_cons_zero, List.set_cons_succ, List.getElem_toArray, List.getElem_cons_zero, List.getElem_cons_succ])
      refine' wpAnyH_take (i := 3) (v := _) rfl (by kernel_rfl) (by kernel_rfl) (by kernel_rfl) (fun _ _ _ h => h) (Or.inl ⟨by rfl, ?hy30⟩) (by assumption) ?rest30
      case hy30 => (intro w hSw; (try dsimp only at hSw); go_simp; (try with_reducible rfl))
      (try simp only [Act.put, List.setIfInBounds_toArray, List.set_cons_zero, List.set_cons_succ, List.getElem_toArray, List.getElem_cons_zero, List.getElem_cons_succ])
      refine wpAnyH_take (i := 4) (v := undef) rfl (by kernel_rfl) (by kernel_rfl) (by kernel_rfl) (fun _ _ _ h => h) (Or.inr ⟨by rfl, rfl⟩) (by assumption) ?_
      (try simp only [Act.put, List.setIfInBounds_toArray, List.set_cons_zero, List.set_cons_succ, List.getElem_toArray, List.getElem_cons_zero, List.getElem_cons_succ])
      refine wpAnyH_take (i := 5) (v := undef) rfl (by kernel_rfl) (by kernel_rfl) (by kernel_rfl) (fun _ _ _ h => h) (Or.inr ⟨by rfl, rfl⟩) (by assumption) ?_
      (try simp only [Act.put, List.setIfInBounds_toArray, List.set_cons_zero, List.set_cons_succ, List.getElem_toArray, List.getElem_cons_zero, List.getElem_cons_succ])
      refine' wpAnyH_take (i := 6) (v := _) rfl (by kernel_rfl) (by kernel_rfl) (by kernel_rfl) (fun _ _ _ h => h) (Or.inl ⟨by rfl, ?hy31⟩) (by assumption) ?rest31
      case hy31 => (intro w hSw; (try dsimp only at hSw); go_simp; (try with_reducible rfl))
      (try simp only [Act.put, List.setIfInBounds_toArray, List.set_cons_zero, List.set_cons_succ, List.getElem_toArray, List.getElem_cons_zero, List.getElem_cons_succ])
      refine' wpAnyH_take (i := 7) (v := _) rfl (by kernel_rfl) (by kernel_rfl) (by kernel_rfl) (fun _ _ _ h => h) (Or.inl ⟨by rfl, ?hy32⟩) (by assumption) ?rest32
      case hy32 => (intro w hSw; (try dsimp only at hSw); go_simp; (try with_reducible rfl))
      (try simp only [Act.put, List.setIfInBounds_toArray, List.set_cons_zero, List.set_cons_succ, List.getElem_toArray, List.getElem_cons_zero, List.getElem_cons_succ])
      refine wpAnyH_take (i := 8) (v := undef) rfl (by kernel_rfl) (by kernel_rfl) (by kernel_rfl) (fun _ _ _ h => h) (Or.inr ⟨by rfl, rfl⟩) (by assumption) ?_
      (try simp only [Act.put, List.setIfInBounds_toArray, List.set_cons_zero, List.set_cons_succ, List.getElem_toArray, List.getElem_cons_zero, List.getElem_cons_succ])
      refine wpAnyH_take (i := 9) (v := undef) rfl (by kernel_rfl) (by kernel_rfl) (by kernel_rfl) (fun _ _ _ h => h) (Or.inr ⟨by rfl, rfl⟩) (by assumption) ?_
      (try simp only [Act.put, List.setIfInBounds_toArray, List.set_cons_zero, List.set_cons_succ, List.getElem_toArray, List.getElem_cons_zero, List.getElem_cons_succ])
      refine wpAnyH_take (i := 10) (v := undef) rfl (by kernel_rfl) (by kernel_rfl) (by kernel_rfl) (fun _ _ _ h => h) (Or.inr ⟨by rfl, rfl⟩) (by assumption) ?_
      (try simp only [Act.put, List.setIfInBounds_toArray, List.set_cons_zero, List.set_cons_succ, List.getElem_toArray, List.getElem_cons_zero, List.getElem_cons_succ])
      refine wpAnyH_take (i := 11) (v := undef) rfl (by kernel_rfl) (by kernel_rfl) (by kernel_rfl) (fun _ _ _ h => h) (Or.inr ⟨by rfl, rfl⟩) (by assumption) ?_
      (try simp only [Act.put, List.setIfInBounds_toArray, List.set_cons_zero, List.set_cons_succ, List.getElem_toArray, List.getElem_cons_zero, List.getElem_cons_succ])
      refine' wpAnyH_take (i := 12) (v := _) rfl (by kernel_rfl) (by kernel_rfl) (by kernel_rfl) (fun _ _ _ h => h) (Or.inl ⟨by rfl, ?hy33⟩) (by assumption) ?rest33
      case hy33 => (intro w hSw; (try dsimp only at hSw); go_simp; (try with_reducible rfl))
      (try simp only [Act.put, List.setIfInBounds_toArray, List.set_cons_zero, List.set_cons_succ, List.getElem_toArray, List.getElem_cons_zero, List.getElem_cons_succ])
      refine wpAnyH_ready (rs := [13]) (by kernel_rfl) (by simp) ?_
      refine AllReadyH.cons rfl (fun K hK => ?_) AllReadyH.nil
      go_simp
      refine hK.out _ _ ?_ (fun hHeld => ?_)
      · (try dsimp only); go_keep
      clear hK K
      (try simp only [Act.put, List.setIfInBounds_toArray, List.set_cons_zero, List.set_cons_succ, List.getElem_toArray, List.getElem_cons_zero, List.getElem_cons_succ])
      refine' wpAnyH_take (i := 14) (v := _) rfl (by kernel_rfl) (by kernel_rfl) (by kernel_rfl) (fun _ _ _ h => h) (Or.inl ⟨by rfl, ?hy34⟩) (by assumption) ?rest34
      case hy34 => (intro w hSw; (try dsimp only at hSw); go_simp; (try with_reducible rfl))
      (try simp only [Act.put, List.setIfInBounds_toArray, List.set_cons_zero, List.set_cons_succ, List.getElem_toArray, List.getElem_cons_zero, List.getElem_cons_succ])
      refine wpAnyH_done (by kernel_rfl) ?_ _
      go_wp2_with fail
      have hB := (blk_set (blk_set (blk_set (blk_set HRES.out 0 (.int .i64 1)) 1 (.int .i64 q)) 2 (.string ⟨key.toArray⟩)) 3 (.string ⟨val.toArray⟩))
      have hK : Kept noF w ((((w6.setCell ⟨w.heap.size, 0, none⟩ (.int .i64 1)).setCell ⟨w.heap.size, 1, none⟩ (.int .i64 q)).setCell ⟨w.heap.size, 2, none⟩ (.string ⟨key.toArray⟩)).setCell ⟨w.heap.size, 3, none⟩ (.string ⟨val.toArray⟩)) := ((((HK06.out.set w.heap.size 0 (.inr (by omega)) _).set w.heap.size 1 (.inr (by omega)) _).set w.heap.size 2 (.inr (by omega)) _).set w.heap.size 3 (.inr (by omega)) _)
      generalize ((((w6.setCell ⟨w.heap.size, 0, none⟩ (.int .i64 1)).setCell ⟨w.heap.size, 1, none⟩ (.int .i64 q)).setCell ⟨w.heap.size, 2, none⟩ (.string ⟨key.toArray⟩)).setCell ⟨w.heap.size, 3, none⟩ (.string ⟨val.toArray⟩)) = wf at *
      simp only [List.size_toArray, List.length_cons, List.length_nil, List.setIfInBounds_toArray, List.set_cons_succ, List.set_cons_zero] at hB
      have e0 := blk_cell hB 0 rfl
      have e1 := blk_cell hB 1 rfl
      have e2 := blk_cell hB 2 rfl
      have e3 := blk_cell hB 3 rfl
      clear hB
      refine bodyPost_ret (v := .tuple #[.agg #[.int .i64 1, .int .i64 q, .string ⟨key.toArray⟩, .string ⟨val.toArray⟩], .bool false]) (by simp [results, Tryz.results52, go_sem, e0, e1, e2, e3]) rfl ⟨?_, hK.drew⟩
      rw [HXV.out, HOK.out, hd]; rfl
    · cases h0 : C == 0
      · go_wp2_with fail
        refine wp_region_held_drew (S := (fun w' => w'.cell? ⟨w3.heap.size, 0, none⟩ = some (.int .i64 1) ∧ w'.cell? ⟨w3.heap.size, 1, none⟩ = some (.int .i64 q) ∧ w'.cell? ⟨w3.heap.size, 2, none⟩ = some (.string ⟨key.toArray⟩) ∧ w'.cell? ⟨w3.heap.size, 3, none⟩ = some (.string ⟨val.toArray⟩))) (by kernel_rfl) ?_ (fun hHeld => ?_)
        · (try dsimp only); exact ⟨x0, x1, x2, x3⟩
        refine' wpAnyH_take (i := 0) (v := _) rfl (by kernel_rfl) (by kernel_rfl) (by kernel_rfl) (fun _ _ _ h => h) (Or.inl ⟨by rfl, ?hy35⟩) (by assumption) ?rest35
        case hy35 => (intro w hSw; (try dsimp only at hSw); go_simp; (try with_reducible rfl))
        (try simp only [Act.put, List.setIfInBounds_toArray, List.set_cons_zero, List.set_cons_succ, List.getElem_toArray, List.getElem_cons_zero, List.getElem_cons_succ])
        refine' wpAnyH_take (i := 1) (v := _) rfl (by kernel_rfl) (by kernel_rfl) (by kernel_rfl) (fun _ _ _ h => h) (Or.inl ⟨by rfl, ?hy36⟩) (by assumption) ?rest36
        case hy36 => (intro w hSw; (try dsimp only at hSw); go_simp; (try with_reducible rfl))
        (try simp only [Act.put, List.setIfInBounds_toArray, List.set_cons_zero, List.set_cons_succ, List.getElem_toArray, List.getElem_cons_zero, List.getElem_cons_succ])
        refine wpAnyH_ready (rs := [2]) (by kernel_rfl) (by simp) ?_
        refine AllReadyH.cons rfl (fun K hK => ?_) AllReadyH.nil
        go_simp
        go_at_call 69
        refine (Done_lit _ (w.heap.size + 1) s4 true hd RDH.out).mono ?_
        rintro e w' ⟨rfl, rfl⟩
        go_wp2_with fail
        refine hK.out _ _ ?_ (fun hHeld => ?_)
        · (try dsimp only); exact hHeld
        clear hK K
        (try simp only [Act.put, List.setIfInBounds_toArray, List.set_cons_zero, List.set_cons_succ, List.getElem_toArray, List.getElem_cons_zero, List.getElem_cons_succ])
        refine' wpAnyH_take (i := 3) (v := _) rfl (by kernel_rfl) (by kernel_rfl) (by kernel_rfl) (fun _ _ _ h => h) (Or.inl ⟨by rfl, ?hy37⟩) (by assumption) ?rest37
        case hy37 => (intro w hSw; (try dsimp only at hSw); go_simp; (try with_reducible rfl))
        (try simp only [Act.put, List.setIfInBounds_toArray, List.set_cons_zero, List.set_cons_succ, List.getElem_toArray, List.getElem_cons_zero, List.getElem_cons_succ])
        refine' wpAnyH_take (i := 4) (v := _) rfl (by kernel_rfl) (by kernel_rfl) (by kernel_rfl) (fun _ _ _ h => h) (Or.inl ⟨by rfl, ?hy38⟩) (by assumption) ?rest38
        case hy38 => (intro w hSw; (try dsimp only at hSw); go_simp; (try with_reducible rfl))
        (try simp only [Act.put, List.setIfInBounds_toArray, List.set_cons_zero, List.set_cons_succ, List.getElem_toArray, List.getElem_cons_zero, List.getElem_cons_succ])
        refine' wpAnyH_take (i := 5) (v := _) rfl (by kernel_rfl) (by kernel_rfl) (by kernel_rfl) (fun _ _ _ h => h) (Or.inl ⟨by rfl, ?hy39⟩) (by assumption) ?rest39
        case hy39 => (intro w hSw; (try dsimp only at hSw); go_simp; (try with_reducible rfl))
        (try simp only [Act.put, List.setIfInBounds_toArray, List.set_cons_zero, List.set_cons_succ, List.getElem_toArray, List.getElem_cons_zero, List.getElem_cons_succ])
        refine' wpAnyH_take (i := 6) (v := _) rfl (by kernel_rfl) (by kernel_rfl) (by kernel_rfl) (fun _ _ _ h => h) (Or.inl ⟨by rfl, ?hy40⟩) (by assumption) ?rest40
        case hy40 => (intro w hSw; (try dsimp only at hSw); go_simp; (try with_reducible rfl))
        (try simp only [Act.put, List.setIfInBounds_toArray, List.set_cons_zero, List.set_cons_succ, List.getElem_toArray, List.getElem_cons_zero, List.getElem_cons_succ])
        refine' wpAnyH_take (i := 7) (v := _) rfl (by kernel_rfl) (by kernel_rfl) (by kernel_rfl) (fun _ _ _ h => h) (Or.inl ⟨by rfl, ?hy41⟩) (by assumption) ?rest41
        case hy41 => (intro w hSw; (try dsimp only at hSw); go_simp; (try with_reducible rfl))
        (try simp only [Act.put, List.setIfInBounds_toArray, List.set_cons_zero, List.set_cons_succ, List.getElem_toArray, List.getElem_cons_zero, List.getElem_cons_succ])
        refine wpAnyH_take (i := 8) (v := undef) rfl (by kernel_rfl) (by kernel_rfl) (by kernel_rfl) (fun _ _ _ h => h) (Or.inr ⟨by rfl, rfl⟩) (by assumption) ?_
        (try simp only [Act.put, List.setIfInBounds_toArray, List.set_cons_zero, List.set_cons_succ, List.getElem_toArray, List.getElem_cons_zero, List.getElem_cons_succ])
        refine wpAnyH_take (i := 9) (v := undef) rfl (by kernel_rfl) (by kernel_rfl) (by kernel_rfl) (fun _ _ _ h => h) (Or.inr ⟨by rfl, rfl⟩) (by assumption) ?_
        (try simp only [Act.put, List.setIfInBounds_toArray, List.set_cons_zero, List.set_cons_succ, List.getElem_toArray, List.getElem_cons_zero, List.getElem_cons_succ])
        refine wpAnyH_take (i := 10) (v := undef) rfl (by kernel_rfl) (by kernel_rfl) (by kernel_rfl) (fun _ _ _ h => h) (Or.inr ⟨by rfl, rfl⟩) (by assumption) ?_
        (try simp only [Act.put, List.setIfInBounds_toArray, List.set_cons_zero, List.set_cons_succ, List.getElem_toArray, List.getElem_cons_zero, List.getElem_cons_succ])
        refine wpAnyH_take (i := 11) (v := undef) rfl (by kernel_rfl) (by kernel_rfl) (by kernel_rfl) (fun _ _ _ h => h) (Or.inr ⟨by rfl, rfl⟩) (by assumption) ?_
        (try simp only [Act.put, List.setIfInBounds_toArray, List.set_cons_zero, List.set_cons_succ, List.getElem_toArray, List.getElem_cons_zero, List.getElem_cons_succ])
        refine' wpAnyH_take (i := 12) (v := _) rfl (by kernel_rfl) (by kernel_rfl) (by kernel_rfl) (fun _ _ _ h => h) (Or.inl ⟨by rfl, ?hy42⟩) (by assumption) ?rest42
        case hy42 => (intro w hSw; (try dsimp only at hSw); go_simp; (try with_reducible rfl))
        (try simp only [Act.put, List.setIfInBounds_toArray, List.set_cons_zero, List.set_cons_succ, List.getElem_toArray, List.getElem_cons_zero, List.getElem_cons_succ])
        refine wpAnyH_ready (rs := [13]) (by kernel_rfl) (by simp) ?_
        refine AllReadyH.cons rfl (fun K hK => ?_) AllReadyH.nil
        go_simp
        refine hK.out _ _ ?_ (fun hHeld => ?_)
        · (try dsimp only); go_keep
        clear hK K
        (try simp only [Act.put, List.setIfInBounds_toArray, List.set_cons_zero, List.set_cons_succ, List.getElem_toArray, List.getElem_cons_zero, List.getElem_cons_succ])
        refine' wpAnyH_take (i := 14) (v := _) rfl (by kernel_rfl) (by kernel_rfl) (by kernel_rfl) (fun _ _ _ h => h) (Or.inl ⟨by rfl, ?hy43⟩) (by assumption) ?rest43
        case hy43 => (intro w hSw; (try dsimp only at hSw); go_simp; (try with_reducible rfl))
        (try simp only [Act.put, List.setIfInBounds_toArray, List.set_cons_zero, List.set_cons_succ, List.getElem_toArray, List.getElem_cons_zero, List.getElem_cons_succ])
        refine wpAnyH_done (by kernel_rfl) ?_ _
        go_wp2_with fail
        have hB := (blk_set (blk_set (blk_set (blk_set HRES.out 0 (.int .i64 1)) 1 (.int .i64 q)) 2 (.string ⟨key.toArray⟩)) 3 (.string ⟨val.toArray⟩))
        have hK : Kept noF w ((((w6.setCell ⟨w.heap.size, 0, none⟩ (.int .i64 1)).setCell ⟨w.heap.size, 1, none⟩ (.int .i64 q)).setCell ⟨w.heap.size, 2, none⟩ (.string ⟨key.toArray⟩)).setCell ⟨w.heap.size, 3, none⟩ (.string ⟨val.toArray⟩)) := ((((HK06.out.set w.heap.size 0 (.inr (by omega)) _).set w.heap.size 1 (.inr (by omega)) _).set w.heap.size 2 (.inr (by omega)) _).set w.heap.size 3 (.inr (by omega)) _)
        generalize ((((w6.setCell ⟨w.heap.size, 0, none⟩ (.int .i64 1)).setCell ⟨w.heap.size, 1, none⟩ (.int .i64 q)).setCell ⟨w.heap.size, 2, none⟩ (.string ⟨key.toArray⟩)).setCell ⟨w.heap.size, 3, none⟩ (.string ⟨val.toArray⟩)) = wf at *
        simp only [List.size_toArray, List.length_cons, List.length_nil, List.setIfInBounds_toArray, List.set_cons_succ, List.set_cons_zero] at hB
        have e0 := blk_cell hB 0 rfl
        have e1 := blk_cell hB 1 rfl
        have e2 := blk_cell hB 2 rfl
        have e3 := blk_cell hB 3 rfl
        clear hB
        refine bodyPost_ret (v := .tuple #[.agg #[.int .i64 1, .int .i64 q, .string ⟨key.toArray⟩, .string ⟨val.toArray⟩], .bool false]) (by simp [results, Tryz.results52, go_sem, e0, e1, e2, e3]) rfl ⟨?_, hK.drew⟩
        rw [HXV.out, HOK.out, hd, h0]; rfl
      · go_wp2_with fail
        refine wp_region_held_drew (S := (fun w' => w'.cell? ⟨w3.heap.size, 0, none⟩ = some (.int .i64 1) ∧ w'.cell? ⟨w3.heap.size, 1, none⟩ = some (.int .i64 q) ∧ w'.cell? ⟨w3.heap.size, 2, none⟩ = some (.string ⟨key.toArray⟩) ∧ w'.cell? ⟨w3.heap.size, 3, none⟩ = some (.string ⟨val.toArray⟩))) (by kernel_rfl) ?_ (fun hHeld => ?_)
        · (try dsimp only); exact ⟨x0, x1, x2, x3⟩
        refine' wpAnyH_take (i := 0) (v := _) rfl (by kernel_rfl) (by kernel_rfl) (by kernel_rfl) (fun _ _ _ h => h) (Or.inl ⟨by rfl, ?hy44⟩) (by assumption) ?rest44
        case hy44 => (intro w hSw; (try dsimp only at hSw); go_simp; (try with_reducible rfl))
        (try simp only [Act.put, List.setIfInBounds_toArray, List.set_cons_zero, List.set_cons_succ, List.getElem_toArray, List.getElem_cons_zero, List.getElem_cons_succ])
        refine' wpAnyH_take (i := 1) (v := _) rfl (by kernel_rfl) (by kernel_rfl) (by kernel_rfl) (fun _ _ _ h => h) (Or.inl ⟨by rfl, ?hy45⟩) (by assumption) ?rest45
        case hy45 => (intro w hSw; (try dsimp only at hSw); go_simp; (try with_reducible rfl))
        (try simp only [Act.put, List.setIfInBounds_toArray, List.set_cons_zero, List.set_cons_succ, List.getElem_toArray, List.getElem_cons_zero, List.getElem_cons_succ])
        refine wpAnyH_ready (rs := [2]) (by kernel_rfl) (by simp) ?_
        refine AllReadyH.cons rfl (fun K hK => ?_) AllReadyH.nil
        go_simp
        go_at_call 69
        refine (Done_lit _ (w.heap.size + 1) s4 true hd RDH.out).mono ?_
        rintro e w' ⟨rfl, rfl⟩
        go_wp2_with fail
        refine hK.out _ _ ?_ (fun hHeld => ?_)
        · (try dsimp only); exact hHeld
        clear hK K
        (try simp only [Act.put, List.setIfInBounds_toArray, List.set_cons_zero, List.set_cons_succ, List.getElem_toArray, List.getElem_cons_zero, List.getElem_cons_succ])
        refine' wpAnyH_take (i := 3) (v := _) rfl (by kernel_rfl) (by kernel_rfl) (by kernel_rfl) (fun _ _ _ h => h) (Or.inl ⟨by rfl, ?hy46⟩) (by assumption) ?rest46
        case hy46 => (intro w hSw; (try dsimp only at hSw); go_simp; (try with_reducible rfl))
        (try simp only [Act.put, List.setIfInBounds_toArray, List.set_cons_zero, List.set_cons_succ, List.getElem_toArray, List.getElem_cons_zero, List.getElem_cons_succ])
        refine' wpAnyH_take (i := 4) (v := _) rfl (by kernel_rfl) (by kernel_rfl) (by kernel_rfl) (fun _ _ _ h => h) (Or.inl ⟨by rfl, ?hy47⟩) (by assumption) ?rest47
        case hy47 => (intro w hSw; (try dsimp only at hSw); go_simp; (try with_reducible rfl))
        (try simp only [Act.put, List.setIfInBounds_toArray, List.set_cons_zero, List.set_cons_succ, List.getElem_toArray, List.getElem_cons_zero, List.getElem_cons_succ])
        refine' wpAnyH_take (i := 5) (v := _) rfl (by kernel_rfl) (by kernel_rfl) (by kernel_rfl) (fun _ _ _ h => h) (Or.inl ⟨by rfl, ?hy48⟩) (by assumption) ?rest48
        case hy48 => (intro w hSw; (try dsimp only at hSw); go_simp; (try with_reducible rfl))
        (try simp only [Act.put, List.setIfInBounds_toArray, List.set_cons_zero, List.set_cons_succ, List.getElem_toArray, List.getElem_cons_zero, List.getElem_cons_succ])
        refine' wpAnyH_take (i := 6) (v := _) rfl (by kernel_rfl) (by kernel_rfl) (by kernel_rfl) (fun _ _ _ h => h) (Or.inl ⟨by rfl, ?hy49⟩) (by assumption) ?rest49
        case hy49 => (intro w hSw; (try dsimp only at hSw); go_simp; (try with_reducible rfl))
        (try simp only [Act.put, List.setIfInBounds_toArray, List.set_cons_zero, List.set_cons_succ, List.getElem_toArray, List.getElem_cons_zero, List.getElem_cons_succ])
        refine' wpAnyH_take (i := 7) (v := _) rfl (by kernel_rfl) (by kernel_rfl) (by kernel_rfl) (fun _ _ _ h => h) (Or.inl ⟨by rfl, ?hy50⟩) (by assumption) ?rest50
        case hy50 => (intro w hSw; (try dsimp only at hSw); go_simp; (try with_reducible rfl))
        (try simp only [Act.put, List.setIfInBounds_toArray, List.set_cons_zero, List.set_cons_succ, List.getElem_toArray, List.getElem_cons_zero, List.getElem_cons_succ])
        refine' wpAnyH_take (i := 8) (v := _) rfl (by kernel_rfl) (by kernel_rfl) (by kernel_rfl) (fun _ _ _ h => h) (Or.inl ⟨by rfl, ?hy51⟩) (by assumption) ?rest51
        case hy51 => (intro w hSw; (try dsimp only at hSw); go_simp; (try with_reducible rfl))
        (try simp only [Act.put, List.setIfInBounds_toArray, List.set_cons_zero, List.set_cons_succ, List.getElem_toArray, List.getElem_cons_zero, List.getElem_cons_succ])
        refine' wpAnyH_take (i := 9) (v := _) rfl (by kernel_rfl) (by kernel_rfl) (by kernel_rfl) (fun _ _ _ h => h) (Or.inl ⟨by rfl, ?hy52⟩) (by assumption) ?rest52
        case hy52 => (intro w hSw; (try dsimp only at hSw); go_simp; (try with_reducible rfl))
        (try simp only [Act.put, List.setIfInBounds_toArray, List.set_cons_zero, List.set_cons_succ, List.getElem_toArray, List.getElem_cons_zero, List.getElem_cons_succ])
        refine wpAnyH_ready (rs := [10]) (by kernel_rfl) (by simp) ?_
        refine AllReadyH.cons rfl (fun K hK => ?_) AllReadyH.nil
        go_simp
        go_at_call 53
        refine (Seal_any A c bs w6.drew HR6.out hlen).mono ?_
        rintro e w7 ⟨v7, rfl, hown7, hk7⟩
        have X0 := hk7.cell0 (w := w6.drew) x0
        have X1 := hk7.cell0 (w := w6.drew) x1
        have X2 := hk7.cell0 (w := w6.drew) x2
        have X3 := hk7.cell0 (w := w6.drew) x3
        have R0 := hk7.cell0 (w := w6.drew) r0
        have R1 := hk7.cell0 (w := w6.drew) r1
        have R2 := hk7.cell0 (w := w6.drew) r2
        have R3 := hk7.cell0 (w := w6.drew) r3
        have hres7 := hk7.blk0 (w := w6.drew) HRES.out
        have F0 := blk_frozen hres7 0
        have F1 := blk_frozen hres7 1
        have F2 := blk_frozen hres7 2
        have F3 := blk_frozen hres7 3
        have HRES7 := Lib.hid hres7
        have HOWN7 := Lib.hid hown7
        have HK7 := Lib.hid hk7
        clear hres7 hown7 hk7
        go_wp2_with fail
        refine hK.out _ _ ?_ (fun hHeld => ?_)
        · (try dsimp only); exact ⟨X0, X1, X2, X3⟩
        clear hK K
        (try simp only [Act.put, List.setIfInBounds_toArray, List.set_cons_zero, List.set_cons_succ, List.getElem_toArray, List.getElem_cons_zero, List.getElem_cons_succ])
        refine wpAnyH_ready (rs := [11]) (by kernel_rfl) (by simp) ?_
        refine AllReadyH.cons rfl (fun K hK => ?_) AllReadyH.nil
        go_simp
        go_at_call 70
        refine (bytesEqual_any _ _ E (sealL bs) _ (((Reads.own HOWN.out).kept0 (Kept.refl _ _).drew).kept0 HK7.out) (Reads.own HOWN7.out)).mono ?_
        rintro e w' ⟨rfl, rfl⟩
        go_wp2_with fail
        refine hK.out _ _ ?_ (fun hHeld => ?_)
        · (try dsimp only); exact hHeld
        clear hK K
        (try simp only [Act.put, List.setIfInBounds_toArray, List.set_cons_zero, List.set_cons_succ, List.getElem_toArray, List.getElem_cons_zero, List.getElem_cons_succ])
        refine' wpAnyH_take (i := 12) (v := _) rfl (by kernel_rfl) (by kernel_rfl) (by kernel_rfl) (fun _ _ _ h => h) (Or.inl ⟨by rfl, ?hy53⟩) (by assumption) ?rest53
        case hy53 => (intro w hSw; (try dsimp only at hSw); go_simp; (try with_reducible rfl))
        (try simp only [Act.put, List.setIfInBounds_toArray, List.set_cons_zero, List.set_cons_succ, List.getElem_toArray, List.getElem_cons_zero, List.getElem_cons_succ])
        refine wpAnyH_ready (rs := [13]) (by kernel_rfl) (by simp) ?_
        refine AllReadyH.cons rfl (fun K hK => ?_) AllReadyH.nil
        go_simp
        refine hK.out _ _ ?_ (fun hHeld => ?_)
        · (try dsimp only); go_keep
        clear hK K
        (try simp only [Act.put, List.setIfInBounds_toArray, List.set_cons_zero, List.set_cons_succ, List.getElem_toArray, List.getElem_cons_zero, List.getElem_cons_succ])
        refine' wpAnyH_take (i := 14) (v := _) rfl (by kernel_rfl) (by kernel_rfl) (by kernel_rfl) (fun _ _ _ h => h) (Or.inl ⟨by rfl, ?hy54⟩) (by assumption) ?rest54
        case hy54 => (intro w hSw; (try dsimp only at hSw); go_simp; (try with_reducible rfl))
        (try simp only [Act.put, List.setIfInBounds_toArray, List.set_cons_zero, List.set_cons_succ, List.getElem_toArray, List.getElem_cons_zero, List.getElem_cons_succ])
        refine wpAnyH_done (by kernel_rfl) ?_ _
        have hz7 : w6.heap.size ≤ w7.heap.size := HK7.out.size
        go_wp2_with fail
        have hB := (blk_set (blk_set (blk_set (blk_set HRES7.out 0 (.int .i64 1)) 1 (.int .i64 q)) 2 (.string ⟨key.toArray⟩)) 3 (.string ⟨val.toArray⟩))
        have hK : Kept noF w ((((w7.setCell ⟨w.heap.size, 0, none⟩ (.int .i64 1)).setCell ⟨w.heap.size, 1, none⟩ (.int .i64 q)).setCell ⟨w.heap.size, 2, none⟩ (.string ⟨key.toArray⟩)).setCell ⟨w.heap.size, 3, none⟩ (.string ⟨val.toArray⟩)) := (((((HK06.out.drew.trans0 HK7.out).set w.heap.size 0 (.inr (by omega)) _).set w.heap.size 1 (.inr (by omega)) _).set w.heap.size 2 (.inr (by omega)) _).set w.heap.size 3 (.inr (by omega)) _)
        generalize ((((w7.setCell ⟨w.heap.size, 0, none⟩ (.int .i64 1)).setCell ⟨w.heap.size, 1, none⟩ (.int .i64 q)).setCell ⟨w.heap.size, 2, none⟩ (.string ⟨key.toArray⟩)).setCell ⟨w.heap.size, 3, none⟩ (.string ⟨val.toArray⟩)) = wf at *
        simp only [List.size_toArray, List.length_cons, List.length_nil, List.setIfInBounds_toArray, List.set_cons_succ, List.set_cons_zero] at hB
        have e0 := blk_cell hB 0 rfl
        have e1 := blk_cell hB 1 rfl
        have e2 := blk_cell hB 2 rfl
        have e3 := blk_cell hB 3 rfl
        clear hB
        refine bodyPost_ret (v := .tuple #[.agg #[.int .i64 1, .int .i64 q, .string ⟨key.toArray⟩, .string ⟨val.toArray⟩], .bool (E == sealL bs)]) (by simp [results, Tryz.results52, go_sem, e0, e1, e2, e3]) rfl ⟨?_, hK⟩
        rw [HXV.out, HOK.out, hd, h0]; rfl
end Go.Proofs.YtflnekjmcpmbbaaGreatDoor
