/- Part 12 of the texts beneath: Args. -/
import Derived.Test.YtflnekjmcpmbbaaGreatDoorKRawAnyRow10
import Derived.Deep.Slices
import Derived.Deep.Fields
import Derived.ChangeSame
import Derived.ProofKit
import Derived.OpenShut
import Derived.Test.YtflnekjmcpmbbaaGreatDoorKRawAnyRow11

/- Arguments: a slice of records, a slice of bytes, as the walks' words have them. -/
set_option linter.unusedVariables false
set_option linter.unusedSimpArgs false
namespace Go.Proofs.YtflnekjmcpmbbaaGreatDoor
open Go.RowKit Go.ChangeShapes Go.WideShapes Go.Deep

theorem spot_none {w : World} {a : Addr} {v : Value} (h : w.cell? a = some v) : ∃ b o, a = ⟨b, o, none⟩ := by
  obtain ⟨b, o, s⟩ := a
  cases s with
  | none => exact ⟨b, o, rfl⟩
  | some k =>
    unfold World.cell? at h
    cases hb : w.heap[b]? with
    | none => simp [hb] at h
    | some ob => cases ob <;> simp [hb] at h

section
variable {H : Type} {enc : TypeId × Value → H} {P : Program} {w : World} {base : Nat} {spare : Nat → Bool} {held : Bool}
theorem open_slice_fields {t e : TypeId} {fs : Array Field} {fuel : Nat} {cs : List Value} {x : DataW H × List MemPlace} (ht : P.underlying t = some (.slice e)) (he : P.underlying e = some (.struct fs))
    (hone : oneCellFields P fs = true) (hC : P.cellsOf e = fs.size) (h : DataW.trod enc P w base spare held fuel t cs = some x) :
    (cs = [.slice none 0 0] ∧ x = (.nil, [])) ∨
    ∃ (a : Addr) (len cap m : Nat) (D : Nat → DataW H) (Pl : Nat → List MemPlace), cs = [.slice (some a) len cap] ∧ base ≤ a.block ∧ len ≤ cap ∧ cap ≤ maxLen ∧ m = (if spare a.block then cap else len) ∧
      x = (.slice ((List.range len).map D) ((List.range (m - len)).map fun j => D (len + j)), MemPlace.row a (m * fs.size) ++ (List.range m).flatMap Pl) ∧
      ∀ i, i < m → ∃ (ys : List (DataW H × List MemPlace)) (n : Nat), D i = .agg (ys.map (·.1)) ∧ Pl i = ys.flatMap (·.2) ∧ ys.length = fs.size ∧
        ∀ (j : Nat) (f : Field), fs[j]? = some f → ∃ (v : Value) (y : DataW H × List MemPlace), w.cell? (a.add (i * fs.size + j)) = some v ∧ ys[j]? = some y ∧ DataW.trod enc P w base spare held n f.type [v] = some y := by
  rcases open_slice ht h with h0 | ⟨a, len, cap, m, n, D, Pl, hcs, hb, hl, hm, hmm, hx, hi⟩
  · exact .inl h0
  · refine .inr ⟨a, len, cap, m, D, Pl, hcs, hb, hl, hm, hmm, by rw [hC] at hx; exact hx, fun i him => ?_⟩
    obtain ⟨cs', hc, ht'⟩ := hi i him
    rw [hC] at hc
    obtain ⟨ys, n', hn', hy, hlen, hyl, hf⟩ := DataW.trod_struct he ht'
    obtain ⟨_, hcl, hat⟩ := World.cells?_some hc
    simp only [Prod.mk.injEq] at hy
    refine ⟨ys, n', hy.1, hy.2, hyl, fun j f hj => ?_⟩
    obtain ⟨ho, hk⟩ := hone_of hone j f hj
    have hjl : j < fs.size := (Array.getElem?_eq_some_iff.1 hj).1
    have hcell := hat j hjl
    have hv : cs'[j]? = some (cs'[j]'(by omega)) := List.getElem?_eq_getElem (by omega)
    have h1 := hf j f hj
    rw [ho, hk] at h1
    have hone' : (cs'.drop j).take 1 = [cs'[j]'(by omega)] := by
      rw [List.drop_eq_getElem_cons (by omega)]
      rfl
    rw [hone'] at h1
    have hys : ys[j]? = some (ys[j]'(by omega)) := List.getElem?_eq_getElem (by omega)
    refine ⟨_, _, ?_, hys, h1.trans hys⟩
    rw [← Go.Deep.add_add, hcell, hv]
end

theorem recFields : ∃ f0 f1 f2 f3 : Field, Tryz.prog.underlying 32 = some (.struct #[f0, f1, f2, f3]) ∧ f0.type = 3 ∧ f1.type = 2 ∧ f2.type = 9 ∧ f3.type = 9 ∧ oneCellFields Tryz.prog #[f0, f1, f2, f3] = true ∧ Tryz.prog.cellsOf 32 = 4 :=
  ⟨_, _, _, _, Tryz.underlying32, rfl, rfl, rfl, rfl, by kernel_rfl, by kernel_rfl⟩

/-- A slice of records that came in. -/
theorem open_recs {H : Type} {enc : TypeId × Value → H} {w : World} {sp : Nat → Bool} {A : Option Addr} {len cap : Nat} {d : DataW H} {p : List MemPlace} (h : DataW.Trod enc Tryz.prog w 0 sp true 22 (.slice A len cap) d p) (hsp : ∀ b, sp b = true) :
    ∃ L : List Rec, L.length = len ∧ SeesRecs w (.slice A len cap) L := by
  obtain ⟨f0, f1, f2, f3, hu, t0, t1, t2, t3, hone, hC⟩ := recFields
  obtain ⟨fuel, hf⟩ := h
  rcases open_slice_fields Tryz.underlying22 hu hone hC hf with ⟨hcs, _⟩ | ⟨x, l, c, m, D, Pl, hcs, _, hl, hm, hmm, _, hcell⟩
  · simp [Value.cells] at hcs
    obtain ⟨rfl, rfl, rfl⟩ := hcs
    exact ⟨[], rfl, Reads.nil w 4⟩
  · simp [Value.cells] at hcs
    obtain ⟨rfl, rfl, rfl⟩ := hcs
    rw [hsp, if_pos rfl] at hmm
    subst hmm
    have hrec : ∀ i, i < len → ∃ r : Rec, ∀ j u, r.cells[j]? = some u → w.cell? (x.add (i * 4 + j)) = some u := by
      intro i hi
      obtain ⟨ys, n, _, _, _, hj⟩ := hcell i (by omega)
      obtain ⟨v0, y0, c0, _, k0⟩ := hj 0 f0 rfl
      obtain ⟨v1, y1, c1, _, k1⟩ := hj 1 f1 rfl
      obtain ⟨v2, y2, c2, _, k2⟩ := hj 2 f2 rfl
      obtain ⟨v3, y3, c3, _, k3⟩ := hj 3 f3 rfl
      rw [t0] at k0; rw [t1] at k1; rw [t2] at k2; rw [t3] at k3
      obtain ⟨n0, e0, _⟩ := DataW.trod_int Tryz.underlying3 k0
      obtain ⟨n1, e1, _⟩ := DataW.trod_int Tryz.underlying2 k1
      obtain ⟨n2, e2, _⟩ := DataW.trod_string Tryz.underlying9 k2
      obtain ⟨n3, e3, _⟩ := DataW.trod_string Tryz.underlying9 k3
      cases e0; cases e1; cases e2; cases e3
      refine ⟨⟨n0, n1, n2, n3⟩, fun j u hu => ?_⟩
      rcases j with _ | _ | _ | _ | j
      · cases hu; exact c0
      · cases hu; exact c1
      · cases hu; exact c2
      · cases hu; exact c3
      · simp [Rec.cells] at hu
    let fr : Nat → Rec := fun i => if h : i < len then Classical.choose (hrec i h) else ⟨0, 0, ⟨#[]⟩, ⟨#[]⟩⟩
    have hfr : ∀ i, i < len → ∀ j u, (fr i).cells[j]? = some u → w.cell? (x.add (i * 4 + j)) = some u := by
      intro i hi
      have := Classical.choose_spec (hrec i hi)
      simp only [fr, hi, dif_pos]
      exact this
    have hL : ((List.range len).map fr).length = len := by simp
    refine ⟨(List.range len).map fr, hL, ?_⟩
    unfold SeesRecs
    rw [hL]
    refine ⟨by rw [rcells_len, hL], by simp only [maxLen] at hm; omega, some x, _, rfl, hl, fun hn => ?_⟩
    have h0 := hfr 0 hn 0 _ rfl
    rw [Addr.add, if_pos rfl] at h0
    obtain ⟨b, o, rfl⟩ := spot_none h0
    refine ⟨b, o, rfl, fun j u hj => ?_⟩
    have hjl : j < len * 4 := by
      have := (List.getElem?_eq_some_iff.1 hj).1
      rw [rcells_len, hL] at this
      exact this
    have hk : j / 4 < ((List.range len).map fr).length := by rw [hL]; omega
    have hg := rcells_get ((List.range len).map fr) (j / 4) (j % 4) hk (by omega)
    rw [show j / 4 * 4 + j % 4 = j from by omega, hj] at hg
    have hq := hfr (j / 4) (by omega) (j % 4) u (by rw [hg]; simp)
    rw [add_plain, show j / 4 * 4 + j % 4 = j from by omega] at hq
    exact hq
/-- A slice of bytes that came in. -/
theorem open_bytes {H : Type} {enc : TypeId × Value → H} {w : World} {sp : Nat → Bool} {A : Option Addr} {len cap : Nat} {d : DataW H} {p : List MemPlace} (h : DataW.Trod enc Tryz.prog w 0 sp true 23 (.slice A len cap) d p) (hsp : ∀ b, sp b = true) :
    ∃ bs : List UInt8, bs.length = len ∧ Reads w (.slice A len cap) 1 len (bvs bs) := by
  obtain ⟨fuel, hf⟩ := h
  rcases open_ints Tryz.underlying23 Tryz.underlying5 (by kernel_rfl) hf with ⟨hcs, _⟩ | ⟨x, l, c, zs, hcs, _, hl, hm, hz, _, hcell, hwz⟩
  · simp [Value.cells] at hcs
    obtain ⟨rfl, rfl, rfl⟩ := hcs
    exact ⟨[], rfl, Reads.nil w 1⟩
  · simp [Value.cells] at hcs
    obtain ⟨rfl, rfl, rfl⟩ := hcs
    rw [hsp, if_pos rfl] at hz
    have hlen : ((zs.take len).map fun n => UInt8.ofNat n.toNat).length = len := by rw [List.length_map, List.length_take]; omega
    refine ⟨(zs.take len).map fun n => UInt8.ofNat n.toNat, hlen, ?_, by simp only [maxLen] at hm; omega, some x, cap, rfl, hl, fun hn => ?_⟩
    · rw [bvs_length, hlen]; omega
    · have h0 := hcell 0 (by omega)
      rw [Addr.add, if_pos rfl] at h0
      obtain ⟨b, o, rfl⟩ := spot_none h0
      refine ⟨b, o, rfl, fun j u hj => ?_⟩
      have hjl : j < len := by
        have := (List.getElem?_eq_some_iff.1 hj).1
        rw [bvs_length, hlen] at this
        exact this
      have hc := hcell j (by omega)
      rw [add_plain] at hc
      rw [hc]
      obtain ⟨z, hzz⟩ : ∃ z, z = zs.getD j 0 := ⟨_, rfl⟩
      rw [← hzz]
      have hz2 : zs[j]? = some z := by rw [hzz, List.getD_eq_getElem?_getD, List.getElem?_eq_getElem (by omega)]; rfl
      have hw := hwz z (List.mem_of_getElem? hz2)
      unfold bvs at hj
      rw [List.map_map, List.getElem?_map, List.getElem?_take, if_pos hjl, hz2] at hj
      simp only [Option.map_some, Option.some.injEq, Function.comp_apply] at hj
      rw [← hj]
      unfold u8v
      have hb : 0 ≤ z ∧ z ≤ 255 := by
        simp only [Lit.wf, IntKind.has, Bool.and_eq_true, decide_eq_true_eq] at hw
        have e1 : IntKind.u8.min = 0 := by decide
        have e2 : IntKind.u8.max = 255 := by decide
        rw [e1, e2] at hw
        exact hw
      have e3 : (UInt8.ofNat z.toNat).toNat = z.toNat := by simp [UInt8.toNat_ofNat']; omega
      rw [e3]
      congr 2
      omega
end Go.Proofs.YtflnekjmcpmbbaaGreatDoor
