/- Part 1 of the texts beneath: Base, App, Map. -/
import Derived.WalkKit
import Derived.WalkSpells
import Derived.Deep.Draws
import Derived.Deep.AppendLies
import Derived.Lib.AppendStr
import Derived.Laws.BytesArg
import Derived.Maps.Range
import Derived.WideLaws
import Derived.ChangeMaps4

/- Words on the world that all walks of this seat use: what a call may have turned ('Kept'), what a slice reads as ('Reads'). -/
set_option linter.unusedVariables false
set_option linter.unusedSimpArgs false
namespace Go.Proofs.YtflnekjmcpmbbaaGreatDoor
open Go.RowKit

/-- Of what was there, the blocks of F alone may have turned; new blocks may have come. -/
structure Kept (F : Nat → Prop) (w w' : World) : Prop where
  os : w'.os = w.os
  tape : w'.tape = w.tape
  output : w'.output = w.output
  size : w.heap.size ≤ w'.heap.size
  block : ∀ k, k < w.heap.size → ¬ F k → w'.heap[k]? = w.heap[k]?

def noF : Nat → Prop := fun _ => False
def oneF (b : Nat) : Nat → Prop := fun k => k = b

theorem Kept.refl (F : Nat → Prop) (w : World) : Kept F w w := ⟨rfl, rfl, rfl, Nat.le_refl _, fun _ _ _ => rfl⟩
theorem Kept.mono {F G : Nat → Prop} {w w' : World} (h : Kept F w w') (hG : ∀ k, k < w.heap.size → F k → G k) : Kept G w w' :=
  ⟨h.os, h.tape, h.output, h.size, fun k hk hn => h.block k hk (fun hf => hn (hG k hk hf))⟩
theorem Kept.trans {F G : Nat → Prop} {w w1 w2 : World} (h : Kept F w w1) (k : Kept G w1 w2) (hG : ∀ i, i < w.heap.size → G i → F i) : Kept F w w2 :=
  ⟨k.os.trans h.os, k.tape.trans h.tape, k.output.trans h.output, Nat.le_trans h.size k.size,
    fun i hi hn => (k.block i (Nat.lt_of_lt_of_le hi h.size) (fun hg => hn (hG i hi hg))).trans (h.block i hi hn)⟩
theorem Kept.trans0 {F : Nat → Prop} {w w1 w2 : World} (h : Kept F w w1) (k : Kept noF w1 w2) : Kept F w w2 := h.trans k (fun _ _ h => h.elim)
theorem Kept.transF {F : Nat → Prop} {w w1 w2 : World} (h : Kept F w w1) (k : Kept F w1 w2) : Kept F w w2 := h.trans k (fun _ _ h => h)
theorem Kept.of0 {F : Nat → Prop} {w w' : World} (h : Kept noF w w') : Kept F w w' := h.mono (fun _ _ h => h.elim)
theorem Kept.below {w w' : World} (h : Kept noF w w') : Below w.heap.size w w' := ⟨h.os, h.tape, h.output, h.size, fun k hk => h.block k hk (fun h => h)⟩
theorem Kept.belowF {F : Nat → Prop} {w w' : World} {B : Nat} (h : Kept F w w') (hB : B ≤ w.heap.size) (hF : ∀ k, F k → B ≤ k) : Below B w w' :=
  ⟨h.os, h.tape, h.output, h.size, fun k hk => h.block k (by omega) (fun hf => by have := hF k hf; omega)⟩
theorem Kept.ofBelow {w w' : World} {F : Nat → Prop} (h : Below w.heap.size w w') : Kept F w w' := ⟨h.os, h.tape, h.output, h.size, fun k hk _ => h.block k hk⟩
theorem Kept.alloc {F : Nat → Prop} {w w1 : World} (h : Kept F w w1) (o : Obj) : Kept F w (w1.alloc o) :=
  h.trans0 ⟨rfl, rfl, rfl, by simp, fun k hk _ => Below.heap_alloc _ _ _ hk⟩
theorem Kept.drew {F : Nat → Prop} {w w1 : World} (h : Kept F w w1) : Kept F w w1.drew := ⟨h.os, h.tape, h.output, h.size, h.block⟩
theorem Kept.drewN {F : Nat → Prop} {w w1 : World} (h : Kept F w w1) (n : Nat) : Kept F w (w1.drewN n) := ⟨h.os, h.tape, h.output, h.size, h.block⟩
theorem Kept.setCell {F : Nat → Prop} {w w1 : World} (h : Kept F w w1) {p : Addr} (hp : F p.block ∨ w.heap.size ≤ p.block) (u : Value) : Kept F w (w1.setCell p u) :=
  h.trans (G := fun k => k = p.block) ⟨rfl, rfl, rfl, by simp [World.setCell], fun k hk hn => Below.heap_setCell _ _ _ _ hn⟩
    (fun i hi hg => by subst hg; rcases hp with hp | hp; exact hp; omega)
theorem Kept.set {F : Nat → Prop} {w w1 : World} (h : Kept F w w1) (b i : Nat) (hb : F b ∨ w.heap.size ≤ b) (u : Value) : Kept F w (w1.setCell ⟨b, i, none⟩ u) := h.setCell (p := ⟨b, i, none⟩) hb u
theorem Kept.set1 (w : World) (b i : Nat) (u : Value) : Kept (oneF b) w (w.setCell ⟨b, i, none⟩ u) := Kept.set (F := oneF b) (Kept.refl (oneF b) w) b i (.inl (show b = b from rfl)) u
theorem Kept.grown {F : Nat → Prop} {w w1 w2 : World} {row : Option Nat} (h : Kept F w w1) (hg : w1.grownBy w2 row) (hr : ∀ k, row = some k → F k ∨ w.heap.size ≤ k) : Kept F w w2 :=
  h.trans (G := fun k => row = some k) ⟨hg.os, hg.tape, hg.output, hg.size, fun k hk hn => hg.block k hk (fun e => hn e.symm)⟩
    (fun i hi hg => by rcases hr i hg with h | h; exact h; omega)
theorem Kept.cell {F : Nat → Prop} {w w' : World} (h : Kept F w w') {p : Addr} {v : Value} (hc : w.cell? p = some v) (hp : ¬ F p.block) : w'.cell? p = some v := by
  have hb := World.block_lt_of_cell? w p hc
  exact (World.cell?_of_block (w := w) (h.block p.block hb hp)).trans hc
theorem Kept.blk {F : Nat → Prop} {w w' : World} (h : Kept F w w') {b : Nat} {o : Obj} (hb : w.heap[b]? = some o) (hp : ¬ F b) : w'.heap[b]? = some o :=
  (h.block b (Array.getElem?_eq_some_iff.1 hb).1 hp).trans hb
theorem Kept.blk0 {w w' : World} (h : Kept noF w w') {b : Nat} {o : Obj} (hb : w.heap[b]? = some o) : w'.heap[b]? = some o := h.blk hb (fun h => h)
theorem blk_lt {w : World} {b : Nat} {o : Obj} (hb : w.heap[b]? = some o) : b < w.heap.size := (Array.getElem?_eq_some_iff.1 hb).1

/-! Blocks of cells -/
theorem blk_cell {w : World} {g : Nat} {t : TypeId} {cs : Array Value} {f : Nat × Nat} (h : w.heap[g]? = some (.cells cs t f)) (i : Nat) {v : Value} (hv : cs[i]? = some v) : w.cell? ⟨g, i, none⟩ = some v := by
  simp [World.cell?, h, hv]
theorem blk_frozen {w : World} {g : Nat} {t : TypeId} {cs : Array Value} (h : w.heap[g]? = some (.cells cs t (0, 0))) (i : Nat) : w.frozen? ⟨g, i, none⟩ = false := by simp [World.frozen?, h]
theorem blk_set {w : World} {g : Nat} {t : TypeId} {cs : Array Value} {f : Nat × Nat} (h : w.heap[g]? = some (.cells cs t f)) (i : Nat) (u : Value) :
    (w.setCell ⟨g, i, none⟩ u).heap[g]? = some (.cells (cs.setIfInBounds i u) t f) := by
  simp [World.setCell, Array.getElem?_modify, h]
theorem blk_far {w : World} {g : Nat} {o : Obj} (h : w.heap[g]? = some o) {p : Addr} (hp : g ≠ p.block) (u : Value) : (w.setCell p u).heap[g]? = some o := by
  rw [Below.heap_setCell _ _ _ _ hp]; exact h
theorem blk_alloc {w : World} {g : Nat} {o : Obj} (h : w.heap[g]? = some o) (o' : Obj) : (w.alloc o').heap[g]? = some o := by
  rw [Below.heap_alloc _ _ _ (blk_lt h)]; exact h
theorem blk_new (w : World) (o : Obj) : (w.alloc o).heap[w.heap.size]? = some o := by
  show (w.heap.push o)[w.heap.size]? = some o
  simp
theorem blk_new' (w : World) (o : Obj) (n : Nat) (hn : n = w.heap.size) : (w.alloc o).heap[n]? = some o := by subst hn; exact blk_new w o

/-! What a slice reads as: n elements of sz cells each, the cells one behind the other. -/
def Reads (w : World) (v : Value) (sz n : Nat) (cs : List Value) : Prop :=
  cs.length = n * sz ∧ n ≤ 9223372036854775807 ∧ ∃ A c, v = .slice A n c ∧ n ≤ c ∧ (0 < n → ∃ b o, A = some ⟨b, o, none⟩ ∧ ∀ j u, cs[j]? = some u → w.cell? ⟨b, o + j, none⟩ = some u)

theorem Reads.kept {F : Nat → Prop} {w w' : World} {v : Value} {sz n : Nat} {cs : List Value} (h : Reads w v sz n cs) (k : Kept F w w') (hF : 0 < n → ∀ b, v.ownBlock = some b → ¬ F b) : Reads w' v sz n cs := by
  obtain ⟨h1, h2, A, c, rfl, h3, h4⟩ := h
  refine ⟨h1, h2, A, c, rfl, h3, fun hn => ?_⟩
  obtain ⟨b, o, rfl, hc⟩ := h4 hn
  exact ⟨b, o, rfl, fun j u hj => k.cell (hc j u hj) (hF hn b rfl)⟩
theorem Reads.kept0 {w w' : World} {v : Value} {sz n : Nat} {cs : List Value} (h : Reads w v sz n cs) (k : Kept noF w w') : Reads w' v sz n cs := h.kept k (fun _ _ _ h => h)
theorem Reads.nil (w : World) (sz : Nat) : Reads w (.slice none 0 0) sz 0 [] := ⟨by simp, by omega, none, 0, rfl, Nat.le_refl _, fun h => absurd h (by omega)⟩
theorem Reads.lt {w : World} {v : Value} {sz n : Nat} {cs : List Value} (h : Reads w v sz n cs) (hs : 0 < sz) (hn : 0 < n) : ∃ b, v.ownBlock = some b ∧ b < w.heap.size := by
  obtain ⟨h1, h2, A, c, rfl, h3, h4⟩ := h
  obtain ⟨b, o, rfl, hc⟩ := h4 hn
  have hp : 0 < cs.length := by rw [h1]; exact Nat.mul_pos hn hs
  exact ⟨b, rfl, World.block_lt_of_cell? w _ (hc 0 (cs[0]'hp) (by simp [hp]))⟩
/-- What is owned reads. -/
theorem Reads.own {w : World} {base : Nat} {e : TypeId} {sz n : Nat} {v : Value} {cs : List Value} (h : w.ownsRow base e sz v n cs) : Reads w v sz n cs := by
  have hl := h.1
  rcases h.2 with ⟨rfl, rfl⟩ | ⟨g, cap, cur, rfl, hb, hh, hc, hm, hs, ht⟩
  · obtain rfl : cs = [] := List.eq_nil_of_length_eq_zero (by simpa using hl)
    exact Reads.nil w sz
  · refine ⟨hl, by simp only [maxLen] at hm; omega, _, cap, rfl, hc, fun hn => ⟨g, 0, rfl, fun j u hj => ?_⟩⟩
    have := h.cells (g := g) rfl j u hj
    have e : (⟨g, 0, none⟩ : Addr).add j = ⟨g, 0 + j, none⟩ := by unfold Addr.add; split <;> simp_all
    rw [e] at this
    exact this
theorem Reads.lit (w : World) (cs : List Value) (e : TypeId) (sz n : Nat) (h : cs.length = n * sz) (hn : n ≤ 9223372036854775807) : Reads (w.alloc (.cells cs.toArray e)) (.slice (some ⟨w.heap.size, 0, none⟩) n n) sz n cs :=
  ⟨h, hn, _, n, rfl, Nat.le_refl _, fun _ => ⟨w.heap.size, 0, rfl, fun j u hj => by simp [hj]⟩⟩
theorem Reads.drew {w : World} {v : Value} {sz n : Nat} {cs : List Value} (h : Reads w v sz n cs) : Reads w.drew v sz n cs := h
theorem Reads.drewN {w : World} {v : Value} {sz n : Nat} {cs : List Value} (h : Reads w v sz n cs) (m : Nat) : Reads (w.drewN m) v sz n cs := h
theorem Reads.alloc {w : World} {v : Value} {sz n : Nat} {cs : List Value} (h : Reads w v sz n cs) (o : Obj) : Reads (w.alloc o) v sz n cs := h.kept0 ((Kept.refl _ _).alloc o)
/-- One element's cell. -/
theorem Reads.at1 {w : World} {A : Option Addr} {n c : Nat} {cs : List Value} (h : Reads w (.slice A n c) 1 n cs) (hn : 0 < n) : ∃ b o, A = some ⟨b, o, none⟩ ∧ ∀ j u, cs[j]? = some u → w.cell? ⟨b, o + j, none⟩ = some u := by
  obtain ⟨h1, h2, A', c', e, h3, h4⟩ := h
  cases e
  exact h4 hn
theorem Reads.form {w : World} {v : Value} {sz n : Nat} {cs : List Value} (h : Reads w v sz n cs) : ∃ A c, v = .slice A n c ∧ n ≤ c := by
  obtain ⟨h1, h2, A', c', e, h3, h4⟩ := h
  exact ⟨A', c', e, h3⟩

theorem own_kept {F : Nat → Prop} {w w' : World} {base : Nat} {e : TypeId} {sz n : Nat} {v : Value} {cs : List Value} (h : w.ownsRow base e sz v n cs) (k : Kept F w w') (hF : ∀ b, v.ownBlock = some b → ¬ F b) : w'.ownsRow base e sz v n cs := by
  refine ⟨h.1, ?_⟩
  rcases h.2 with h2 | ⟨g, cap, cur, rfl, hb, hh, r⟩
  · exact .inl h2
  · exact .inr ⟨g, cap, cur, rfl, hb, k.blk hh (hF g rfl), r⟩
theorem own_kept0 {w w' : World} {base : Nat} {e : TypeId} {sz n : Nat} {v : Value} {cs : List Value} (h : w.ownsRow base e sz v n cs) (k : Kept noF w w') : w'.ownsRow base e sz v n cs := own_kept h k (fun _ _ h => h)
theorem own_base {w : World} {base base' : Nat} {e : TypeId} {sz n : Nat} {v : Value} {cs : List Value} (h : w.ownsRow base e sz v n cs) (hb : base' ≤ base) : w.ownsRow base' e sz v n cs := by
  refine ⟨h.1, ?_⟩
  rcases h.2 with h2 | ⟨g, cap, cur, rfl, hbb, hh, r⟩
  · exact .inl h2
  · exact .inr ⟨g, cap, cur, rfl, by omega, hh, r⟩
theorem own_lt {w : World} {base : Nat} {e : TypeId} {sz n : Nat} {v : Value} {cs : List Value} (h : w.ownsRow base e sz v n cs) (k : Nat) (hk : v.ownBlock = some k) : k < w.heap.size := by
  rcases h.2 with ⟨rfl, _⟩ | ⟨g, cap, cur, rfl, hb, hh, _⟩
  · simp [Value.ownBlock] at hk
  · have : g = k := by simpa [Value.ownBlock] using hk
    subst this
    exact blk_lt hh
theorem own_from {w : World} {base : Nat} {e : TypeId} {sz n : Nat} {v : Value} {cs : List Value} (h : w.ownsRow base e sz v n cs) (k : Nat) (hk : v.ownBlock = some k) : base ≤ k := by
  rcases h.2 with ⟨rfl, _⟩ | ⟨g, cap, cur, rfl, hb, hh, _⟩
  · simp [Value.ownBlock] at hk
  · have : g = k := by simpa [Value.ownBlock] using hk
    omega
theorem own_len {w : World} {base : Nat} {e : TypeId} {sz n : Nat} {v : Value} {cs : List Value} (h : w.ownsRow base e sz v n cs) : cs.length = n * sz := h.1
theorem own_form {w : World} {base : Nat} {e : TypeId} {sz n : Nat} {v : Value} {cs : List Value} (h : w.ownsRow base e sz v n cs) : ∃ A c, v = .slice A n c ∧ n ≤ c := (Reads.own h).form
theorem own_lit (W : World) (base : Nat) (e : TypeId) (sz : Nat) (cs : List Value) (n : Nat) (hl : cs.length = n * sz) (hb : base ≤ W.heap.size) (hm : n ≤ 9223372036854775807) :
    (W.alloc (.cells cs.toArray e)).ownsRow base e sz (.slice (some ⟨W.heap.size, 0, none⟩) n n) n cs :=
  ⟨hl, .inr ⟨W.heap.size, n, cs.toArray, rfl, hb, blk_new _ _, Nat.le_refl _, by simp only [maxLen]; omega, by simpa using hl, by simp [← hl]⟩⟩

/-- 'append(s, ys...)' onto what is owned: the source whatever reads. -/
theorem run_app {P : Program} (w : World) (base : Nat) (t ty e : TypeId) (z : Value) (sz bytes : Nat) (ht : P.underlying t = some (.slice e))
    (hinfo : (P.info? e).map (fun i => (i.zero, i.size, i.bytes)) = some (some z, sz, bytes)) (hzs : z.cells.size = sz) (hsz : 0 < sz)
    (v : Value) (n : Nat) (xs : List Value) (hown : w.ownsRow base e sz v n xs) (y : Value) (m : Nat) (news : List Value) (hy : Reads w y sz m news)
    (h1 : ∀ u ∈ news, u.oneCell' = true) (hb : (n + m) * bytes ≤ 140737488355328) (hlen : n + m ≤ 9223372036854775807) (hbase : base ≤ w.heap.size) :
    ∃ v' w', (Builtin.append_ #[t, t] ty #[v, y]).run P w = .ok v' w' ∧ w'.ownsRow base e sz v' (n + m) (xs ++ news) ∧ w.grownBy w' v.ownBlock ∧ (v' = .slice none 0 0 ↔ v = .slice none 0 0 ∧ m = 0) := by
  obtain ⟨i, hi, hz, hs, hby⟩ : ∃ i, P.info? e = some i ∧ i.zero = some z ∧ i.size = sz ∧ i.bytes = bytes := by
    cases h : P.info? e with
    | none => simp [h] at hinfo
    | some i => simp [h] at hinfo; exact ⟨i, rfl, hinfo.1, hinfo.2.1, hinfo.2.2⟩
  obtain ⟨g1, g2, A, c, rfl, g3, g4⟩ := hy
  rcases Nat.eq_zero_or_pos m with rfl | hm
  · obtain rfl : news = [] := List.eq_nil_of_length_eq_zero (by simpa using g1)
    cases A with
    | none =>
      have hr := run_append_owned_none (P := P) w base t ty e i sz ht hi
      exact ⟨v, w, by
        rcases hown.2 with ⟨rfl, rfl⟩ | ⟨g, cap, cur, rfl, hbg, hg, hnc, hcm, hcs, htake⟩
        · simp [Builtin.append_, run_underlying ht, sizeOf, typeInfo, hi, Builtin.lenOf, Builtin.firstCells, loadCells, loadCellsFrom]
        · have hf : w.frozen? ⟨g, 0, none⟩ = false := by simp [World.frozen?, hg]
          simp [Builtin.append_, run_underlying ht, sizeOf, typeInfo, hi, Builtin.lenOf, Builtin.firstCells, loadCells, loadCellsFrom, hnc, storeCells], by simpa using hown, ⟨rfl, rfl, rfl, Nat.le_refl _, fun _ _ _ => rfl⟩, by simp⟩
    | some ad =>
      have := run_append_own (P := P) w base t ty e i z sz bytes ht hi hz hs hby hzs hsz v n xs hown ad 0 c [] (by simp) (by simp) (by simp) (by simp only [maxLen]; omega) hb hbase
      simpa using this
  · obtain ⟨b, o, rfl, hc⟩ := g4 hm
    exact run_append_own (P := P) w base t ty e i z sz bytes ht hi hz hs hby hzs hsz v n xs hown ⟨b, o, none⟩ m c news g1 (fun j u hj => by
      have e : (⟨b, o, none⟩ : Addr).add j = ⟨b, o + j, none⟩ := by unfold Addr.add; split <;> simp_all
      rw [e]; exact hc j u hj) h1 (by simp only [maxLen]; omega) hb hbase

theorem wpList_app {P : Program} {w : World} {ops : Array Oper} {rest : List Oper} {o : Oper} {a : Act} {Q : Exit → Act → World → Prop} (hgd : o.guard = none) (s x : Operand) (t : TypeId)
    (ho : o.op = .call { callee := .builtin .append, args := #[s, x], argTypes := #[t, t] })
    (base : Nat) (e : TypeId) (z : Value) (sz bytes : Nat) (ht : P.underlying t = some (.slice e))
    (hinfo : (P.info? e).map (fun i => (i.zero, i.size, i.bytes)) = some (some z, sz, bytes)) (hzs : z.cells.size = sz) (hsz : 0 < sz)
    (v : Value) (n : Nat) (xs : List Value) (hs : a.eval s = v) (hown : w.ownsRow base e sz v n xs) (y : Value) (m : Nat) (news : List Value) (hx : a.eval x = y) (hy : Reads w y sz m news)
    (h1 : ∀ u ∈ news, u.oneCell' = true) (hb : (n + m) * bytes ≤ 140737488355328) (hlen : n + m ≤ 9223372036854775807) (hbase : base ≤ w.heap.size)
    (h : ∀ v' w', w'.ownsRow base e sz v' (n + m) (xs ++ news) → w.grownBy w' v.ownBlock → wpList P ops Q rest (a.put o.dst v') w') : wpList P ops Q (o :: rest) a w := by
  obtain ⟨v', w', hr, h2, h3, _⟩ := run_app (P := P) w base t o.type e z sz bytes ht hinfo hzs hsz v n xs hown y m news hy h1 hb hlen hbase
  refine wpList_plain hgd fun K hK => ?_
  unfold Oper.wp execOp
  simp only [ho, resolve, invoke, builtin, Sem.run_bind, Sem.run_pure, Result.andThen_ok, List.map_toArray, List.map_cons, List.map_nil, hs, hx, hr]
  exact hK _ _ (h v' w' h2 h3)

/-! Bytes -/
def u8v (b : UInt8) : Value := .int .u8 (b.toNat : Int)
def bvs (bs : List UInt8) : List Value := bs.map u8v
theorem bvs_length (bs : List UInt8) : (bvs bs).length = bs.length := by simp [bvs]
theorem bvs_append (a b : List UInt8) : bvs (a ++ b) = bvs a ++ bvs b := by simp [bvs]
theorem bvs_one (bs : List UInt8) : ∀ u ∈ bvs bs, u.oneCell' = true := by
  intro u hu
  obtain ⟨b, _, rfl⟩ := List.mem_map.1 hu
  rfl
theorem bvs_get (bs : List UInt8) (j : Nat) (h : j < bs.length) : (bvs bs)[j]? = some (.int .u8 (bs[j].toNat : Int)) := by simp [bvs, u8v, h]
theorem strCells_bvs (s : ByteArray) : Lib.strCells s = bvs s.data.toList := by
  unfold Lib.strCells bvs u8v
  first | rfl | simp
theorem wpList_appStr {P : Program} {w : World} {ops : Array Oper} {rest : List Oper} {o : Oper} {a : Act} {Q : Exit → Act → World → Prop} (hgd : o.guard = none) (sl x : Operand) (t u : TypeId)
    (ho : o.op = .call { callee := .builtin .append, args := #[sl, x], argTypes := #[t, u] })
    (base : Nat) (e : TypeId) (ht : P.underlying t = some (.slice e)) (hu : P.underlying u = some .string)
    (hinfo : (P.info? e).map (fun i => (i.zero, i.size, i.bytes)) = some (some (.int .u8 0), 1, 1))
    (v : Value) (n : Nat) (bs : List UInt8) (hs : a.eval sl = v) (hown : w.ownsRow base e 1 v n (bvs bs)) (s : ByteArray) (hx : a.eval x = .string s)
    (hbytes : n + s.size ≤ 140737488355328) (hbase : base ≤ w.heap.size)
    (h : ∀ v' w', w'.ownsRow base e 1 v' (bs ++ s.data.toList).length (bvs (bs ++ s.data.toList)) → w.grownBy w' v.ownBlock → wpList P ops Q rest (a.put o.dst v') w') : wpList P ops Q (o :: rest) a w := by
  obtain ⟨i, hi, hz, hsz, hby⟩ : ∃ i, P.info? e = some i ∧ i.zero = some (.int .u8 0) ∧ i.size = 1 ∧ i.bytes = 1 := by
    cases h : P.info? e with
    | none => simp [h] at hinfo
    | some i => simp [h] at hinfo; exact ⟨i, rfl, hinfo.1, hinfo.2.1, hinfo.2.2⟩
  have hn : n = bs.length := by have := hown.1; simp [bvs] at this; omega
  refine Lib.wpList_append_own_string w hgd sl x t u ho base e i ht hu hi hz hsz hby v n (bvs bs) hs hown s hx (by simp only [maxLen]; omega) hbytes hbase (fun v' w' h1 h2 _ => h v' w' ?_ h2)
  rw [strCells_bvs, ← bvs_append] at h1
  have e1 : n + s.size = (bs ++ s.data.toList).length := by rw [List.length_append, hn]; congr 1
  rw [← e1]
  exact h1
/-- Bytes behind bytes. -/
theorem wpList_appB {P : Program} {w : World} {ops : Array Oper} {rest : List Oper} {o : Oper} {a : Act} {Q : Exit → Act → World → Prop} (hgd : o.guard = none) (s x : Operand) (t : TypeId)
    (ho : o.op = .call { callee := .builtin .append, args := #[s, x], argTypes := #[t, t] })
    (base : Nat) (e : TypeId) (ht : P.underlying t = some (.slice e))
    (hinfo : (P.info? e).map (fun i => (i.zero, i.size, i.bytes)) = some (some (.int .u8 0), 1, 1))
    (v : Value) (bs : List UInt8) (hs : a.eval s = v) (hown : w.ownsRow base e 1 v bs.length (bvs bs)) (y : Value) (news : List UInt8) (hx : a.eval x = y) (hy : Reads w y 1 news.length (bvs news))
    (hb : bs.length + news.length ≤ 140737488355328) (hbase : base ≤ w.heap.size)
    (h : ∀ v' w', w'.ownsRow base e 1 v' (bs ++ news).length (bvs (bs ++ news)) → w.grownBy w' v.ownBlock → wpList P ops Q rest (a.put o.dst v') w') : wpList P ops Q (o :: rest) a w := by
  refine wpList_app hgd s x t ho base e (.int .u8 0) 1 1 ht hinfo rfl (by decide) v _ _ hs hown y _ _ hx hy (bvs_one _) (by omega) (by omega) hbase (fun v' w' h1 h2 => h v' w' ?_ h2)
  rw [← bvs_append, ← List.length_append] at h1
  exact h1
/-- The same at a step of a region that draws its order. -/
theorem step_appB {P : Program} {w : World} {ops : Array Oper} {o : Oper} {a : Act} {K : Act → World → Prop} {Q : Exit → Act → World → Prop} {E : Prop} (hgd : o.guard = none) (s x : Operand) (t : TypeId)
    (ho : o.op = .call { callee := .builtin .append, args := #[s, x], argTypes := #[t, t] })
    (base : Nat) (e : TypeId) (ht : P.underlying t = some (.slice e))
    (hinfo : (P.info? e).map (fun i => (i.zero, i.size, i.bytes)) = some (some (.int .u8 0), 1, 1))
    (v : Value) (bs : List UInt8) (hs : a.eval s = v) (hown : w.ownsRow base e 1 v bs.length (bvs bs)) (y : Value) (news : List UInt8) (hx : a.eval x = y) (hy : Reads w y 1 news.length (bvs news))
    (hb : bs.length + news.length ≤ 140737488355328) (hbase : base ≤ w.heap.size)
    (h : ∀ v' w', w'.ownsRow base e 1 v' (bs ++ news).length (bvs (bs ++ news)) → w.grownBy w' v.ownBlock → K (a.put o.dst v') w') :
    if Region.wanted o (yielded ops a.tmps) = true then Oper.wp P o a w K Q else E := by
  have hw : Region.wanted o (yielded ops a.tmps) = true := by simp [Region.wanted, hgd]
  rw [if_pos hw]
  obtain ⟨v', w', hr, h2, h3, _⟩ := run_app (P := P) w base t o.type e (.int .u8 0) 1 1 ht hinfo rfl (by decide) v _ _ hown y _ _ hy (bvs_one _) (by omega) (by omega) hbase
  unfold Oper.wp execOp
  simp only [ho, resolve, invoke, builtin, Sem.run_bind, Sem.run_pure, Result.andThen_ok, List.map_toArray, List.map_cons, List.map_nil, hs, hx, hr]
  refine h v' w' ?_ h3
  rw [← bvs_append, ← List.length_append] at h2
  exact h2
theorem Kept.cell0 {w w' : World} (h : Kept noF w w') {p : Addr} {v : Value} (hc : w.cell? p = some v) : w'.cell? p = some v := h.cell hc (fun h => h)
theorem bvs_single (x : UInt8) : bvs [x] = [.int .u8 (x.toNat : Int)] := rfl
theorem Reads.byte (w : World) (e : TypeId) (x : UInt8) : Reads (w.alloc (.cells #[.int .u8 (x.toNat : Int)] e)) (.slice (some ⟨w.heap.size, 0, none⟩) 1 1) 1 [x].length (bvs [x]) := Reads.lit w (bvs [x]) e 1 1 rfl (by omega)

/-! Slicing what reads -/
theorem sz_info {P : Program} {e : TypeId} {z : Value} {sz bytes : Nat} (hinfo : (P.info? e).map (fun i => (i.zero, i.size, i.bytes)) = some (some z, sz, bytes)) : ∃ i, P.info? e = some i ∧ i.zero = some z ∧ i.size = sz ∧ i.bytes = bytes := by
  cases h : P.info? e with
  | none => simp [h] at hinfo
  | some i => simp [h] at hinfo; exact ⟨i, rfl, hinfo.1, hinfo.2.1, hinfo.2.2⟩
theorem add_plain (g o j : Nat) : (⟨g, o, none⟩ : Addr).add j = ⟨g, o + j, none⟩ := by unfold Addr.add; split <;> simp_all
theorem reads_cut {w : World} {A : Option Addr} {n c sz : Nat} {cs : List Value} (hr : Reads w (.slice A n c) sz n cs) (l h : Nat) (hlh : l ≤ h) (hhn : h ≤ n) (hs : 0 < sz) :
    Reads w (.slice (if c = l then A else A.map (·.add (l * sz))) (h - l) (c - l)) sz (h - l) ((cs.drop (l * sz)).take ((h - l) * sz)) ∧
    (∀ b, (Value.slice (if c = l then A else A.map (·.add (l * sz))) (h - l) (c - l)).ownBlock = some b → (Value.slice A n c).ownBlock = some b) := by
  obtain ⟨h1, h2, A', c', e, h3, h4⟩ := hr
  cases e
  refine ⟨⟨?_, by omega, _, _, rfl, by omega, fun hp => ?_⟩, ?_⟩
  · rw [List.length_take, List.length_drop, h1, ← Nat.sub_mul]
    exact Nat.min_eq_left (Nat.mul_le_mul_right _ (by omega))
  · obtain ⟨b, o, rfl, hc⟩ := h4 (by omega)
    rw [if_neg (by omega)]
    refine ⟨b, o + l * sz, by simp [add_plain], fun j u hj => ?_⟩
    rw [Nat.add_assoc]
    refine hc _ _ ?_
    rw [List.getElem?_take] at hj
    split at hj
    · rwa [List.getElem?_drop] at hj
    · cases hj
  · intro b hb
    cases A with
    | none => split at hb <;> simp [Value.ownBlock] at hb
    | some a =>
      split at hb
      · simpa [Value.ownBlock] using hb
      · simp only [Option.map_some, Value.ownBlock] at hb
        have : (a.add (l * sz)).block = a.block := by unfold Addr.add; split <;> rfl
        rw [this] at hb
        simpa [Value.ownBlock] using hb

section
variable {P : Program} {w : World} {A : Option Addr} {n c sz bytes : Nat} {cs : List Value} {t e : TypeId} {z : Value}
theorem cut_lh (ht : P.underlying t = some (.slice e)) (hinfo : (P.info? e).map (fun i => (i.zero, i.size, i.bytes)) = some (some z, sz, bytes)) (hs : 0 < sz)
    (hr : Reads w (.slice A n c) sz n cs) (l h : Nat) (hlh : l ≤ h) (hhn : h ≤ n) (il ih : Int) (hil : il = l) (hih : ih = h) (kl kh : IntKind) :
    ∃ A1, (∀ w' : World, (Instr.slice t (.slice A n c) (some (.int kl il)) (some (.int kh ih)) none).run P w' = .ok (.slice A1 (h - l) (c - l)) w') ∧
      Reads w (.slice A1 (h - l) (c - l)) sz (h - l) ((cs.drop (l * sz)).take ((h - l) * sz)) ∧ (∀ b, (Value.slice A1 (h - l) (c - l)).ownBlock = some b → (Value.slice A n c).ownBlock = some b) := by
  subst hil; subst hih
  obtain ⟨i, hi, _, hsz, _⟩ := sz_info hinfo
  have hnc : n ≤ c := by obtain ⟨_, _, A', c', e, h3, _⟩ := hr; cases e; exact h3
  have hel : P.elem t = e := by simp [Program.elem, ht]
  refine ⟨_, fun w' => ?_, reads_cut hr l h hlh hhn hs⟩
  rw [run_slice_lh w' t A n c (by rw [hel]; exact ht) kl kh l h (by omega) (by omega) (by omega)]
  simp [hel, sizeOf, typeInfo, hi, Result.andThen, sliced, hsz]
theorem cut_l (ht : P.underlying t = some (.slice e)) (hinfo : (P.info? e).map (fun i => (i.zero, i.size, i.bytes)) = some (some z, sz, bytes)) (hs : 0 < sz)
    (hr : Reads w (.slice A n c) sz n cs) (l : Nat) (hlh : l ≤ n) (il : Int) (hil : il = l) (kl : IntKind) :
    ∃ A1, (∀ w' : World, (Instr.slice t (.slice A n c) (some (.int kl il)) none none).run P w' = .ok (.slice A1 (n - l) (c - l)) w') ∧
      Reads w (.slice A1 (n - l) (c - l)) sz (n - l) (cs.drop (l * sz)) ∧ (∀ b, (Value.slice A1 (n - l) (c - l)).ownBlock = some b → (Value.slice A n c).ownBlock = some b) := by
  subst hil
  obtain ⟨i, hi, _, hsz, _⟩ := sz_info hinfo
  have hel : P.elem t = e := by simp [Program.elem, ht]
  have hcut := reads_cut hr l n hlh (Nat.le_refl _) hs
  have hd : (cs.drop (l * sz)).take ((n - l) * sz) = cs.drop (l * sz) := by
    apply List.take_of_length_le
    rw [List.length_drop, hr.1, Nat.sub_mul]
    exact Nat.le_refl _
  rw [hd] at hcut
  refine ⟨_, fun w' => ?_, hcut⟩
  rw [run_slice_l w' t A n c (by rw [hel]; exact ht) kl l (by omega) (by omega)]
  simp [hel, sizeOf, typeInfo, hi, Result.andThen, sliced, hsz]
theorem cut_h (ht : P.underlying t = some (.slice e)) (hinfo : (P.info? e).map (fun i => (i.zero, i.size, i.bytes)) = some (some z, sz, bytes)) (hs : 0 < sz)
    (hr : Reads w (.slice A n c) sz n cs) (h : Nat) (hlh : h ≤ n) (ih : Int) (hih : ih = h) (kh : IntKind) :
    (∀ w' : World, (Instr.slice t (.slice A n c) none (some (.int kh ih)) none).run P w' = .ok (.slice A h c) w') ∧
      Reads w (.slice A h c) sz h (cs.take (h * sz)) := by
  subst hih
  obtain ⟨i, hi, _, hsz, _⟩ := sz_info hinfo
  have hnc : n ≤ c := by obtain ⟨_, _, A', c', e, h3, _⟩ := hr; cases e; exact h3
  have hel : P.elem t = e := by simp [Program.elem, ht]
  refine ⟨fun w' => ?_, ?_⟩
  · rw [run_slice_h w' t A n c (by rw [hel]; exact ht) kh h (by omega) (by omega)]
    cases A <;> simp [hel, sizeOf, typeInfo, hi, Result.andThen, sliced, hsz, Addr.add]
  · obtain ⟨h1, h2, A', c', e, h3, h4⟩ := hr
    cases e
    refine ⟨?_, by omega, _, _, rfl, by omega, fun hp => ?_⟩
    · rw [List.length_take, h1]
      exact Nat.min_eq_left (Nat.mul_le_mul_right _ (by omega))
    · obtain ⟨b, o, rfl, hc⟩ := h4 (by omega)
      refine ⟨b, o, rfl, fun j u hj => hc j u ?_⟩
      rw [List.getElem?_take] at hj
      split at hj
      · exact hj
      · cases hj
end
/-- 'string(b)'. -/
theorem conv_string {P : Program} {w : World} {src dst e : TypeId} (hs : P.underlying src = some (.slice e)) (he : P.underlying e = some (.int .u8)) (hd : P.underlying dst = some .string)
    {v : Value} {bs : List UInt8} (hr : Reads w v 1 bs.length (bvs bs)) : (convert src dst v).run P w = .ok (.string ⟨bs.toArray⟩) w := by
  obtain ⟨h1, h2, A, c, rfl, h3, h4⟩ := hr
  rcases Nat.eq_zero_or_pos bs.length with h0 | h0
  · have : bs = [] := List.eq_nil_of_length_eq_zero h0
    subst this
    cases A with
    | none => exact run_convert_bytes_nil w src e hs he 0 c dst hd
    | some a =>
      rw [run_convert_bytes_string w src dst e _ _ c hs he hd]
      have h := run_bytesToString (P := P) w a 0 c [] (by simp [loadCells, loadCellsFrom])
      show (Conv.bytesToString (Value.slice (some a) 0 c)).run P w = .ok (.string ByteArray.empty) w
      simpa using h
  · obtain ⟨b, o, rfl, hc⟩ := h4 h0
    have := run_convert_bytes_arg w src e hs he b o bs.length c (bs.map fun x => (x.toNat : Int)) (by simp) (fun i hi => by
      rw [hc i _ (bvs_get bs i hi)]
      simp [List.getD, hi]) dst hd
    rw [this]
    congr 2
    unfold strOfNums
    congr 2
    rw [List.map_map]
    apply List.ext_getElem (by simp)
    intro i h1 h2
    simp [Function.comp_def]
end Go.Proofs.YtflnekjmcpmbbaaGreatDoor

/- 'append' onto what is owned, told where the new row lies: in the old block, or in a new one. Lists of byte slices. -/
set_option linter.unusedVariables false
set_option linter.unusedSimpArgs false
namespace Go.Proofs.YtflnekjmcpmbbaaGreatDoor
open Go.RowKit

theorem run_app2 {P : Program} (w : World) (base : Nat) (t ty e : TypeId) (z : Value) (sz bytes : Nat) (ht : P.underlying t = some (.slice e))
    (hinfo : (P.info? e).map (fun i => (i.zero, i.size, i.bytes)) = some (some z, sz, bytes)) (hzs : z.cells.size = sz) (hsz : 0 < sz)
    (v : Value) (n : Nat) (xs : List Value) (hown : w.ownsRow base e sz v n xs) (y : Value) (m : Nat) (news : List Value) (hy : Reads w y sz m news)
    (h1 : ∀ u ∈ news, u.oneCell' = true) (hb : (n + m) * bytes ≤ 140737488355328) (hlen : n + m ≤ 9223372036854775807) (hbase : base ≤ w.heap.size) :
    ∃ v' w', (Builtin.append_ #[t, t] ty #[v, y]).run P w = .ok v' w' ∧ w'.ownsRow base e sz v' (n + m) (xs ++ news) ∧ w.grownBy w' v.ownBlock ∧ (∀ k, v'.ownBlock = some k → v.ownBlock = some k ∨ w.heap.size ≤ k) := by
  obtain ⟨v', w', hr, h2, h3, h4⟩ := run_app (P := P) w base t ty e z sz bytes ht hinfo hzs hsz v n xs hown y m news hy h1 hb hlen hbase
  refine ⟨v', w', hr, h2, h3, ?_⟩
  obtain ⟨i, hi, hz, rfl, rfl⟩ := sz_info hinfo
  obtain ⟨g1, g2, A, c, rfl, g3, g4⟩ := hy
  rcases Nat.eq_zero_or_pos m with rfl | hm
  · obtain rfl : news = [] := List.eq_nil_of_length_eq_zero (by simpa using g1)
    have hv : v' = v := by
      rcases hown.2 with ⟨rfl, rfl⟩ | ⟨g, cap, cur, rfl, hbg, hg, hnc, hcm, hcs, htake⟩
      · exact h4.2 ⟨rfl, rfl⟩
      · have hf : w.frozen? ⟨g, 0, none⟩ = false := by simp [World.frozen?, hg]
        cases A with
        | none =>
          simp [Builtin.append_, run_underlying ht, sizeOf, typeInfo, hi, Builtin.lenOf, Builtin.firstCells, loadCells, loadCellsFrom, hnc, storeCells] at hr
          exact hr.1.symm
        | some ad =>
          have hr2 := run_append_room (P := P) w t ty e i ht hi g n cap cur hg ad 0 c [] (by simp) (by simp) (by simp) (by omega) (by rw [hcs]; exact Nat.mul_le_mul_right _ hnc)
          rw [hr] at hr2
          simp only [Result.ok.injEq] at hr2
          rw [hr2.1]; rfl
    subst hv
    exact fun k hk => .inl hk
  · obtain ⟨b, o, rfl, hc⟩ := g4 hm
    have hc' : ∀ j u, news[j]? = some u → w.cell? ((⟨b, o, none⟩ : Addr).add j) = some u := fun j u hj => by rw [add_plain]; exact hc j u hj
    rcases hown.2 with ⟨rfl, rfl⟩ | ⟨g, cap, cur, rfl, hbg, hg, hnc, hcm, hcs, htake⟩
    · have hr2 := run_append_nil (P := P) w t ty e i z ht hi hz ⟨b, o, none⟩ m c news g1 hc' hm (by omega) (by simp only [Nat.zero_add] at hb; omega)
      rw [hr] at hr2
      simp only [Result.ok.injEq] at hr2
      rw [hr2.1]
      intro k hk
      simp only [Value.ownBlock, Option.some.injEq] at hk
      exact .inr (by omega)
    · by_cases hroom : n + m ≤ cap
      · have hfit : n * i.size + news.length ≤ cur.size := by rw [g1, hcs, ← Nat.add_mul]; exact Nat.mul_le_mul_right _ hroom
        have hr2 := run_append_room (P := P) w t ty e i ht hi g n cap cur hg ⟨b, o, none⟩ m c news g1 hc' h1 hroom hfit
        rw [hr] at hr2
        simp only [Result.ok.injEq] at hr2
        rw [hr2.1]
        exact fun k hk => .inl hk
      · have hr2 := run_append_grow (P := P) w t ty e i z ht hi hz ⟨g, 0, none⟩ n cap xs hown.1 (hown.cells (g := g) rfl) ⟨b, o, none⟩ m c news g1 hc' (by omega) (by omega) (growslice_fits (by omega) hb)
        rw [hr] at hr2
        simp only [Result.ok.injEq] at hr2
        rw [hr2.1]
        intro k hk
        simp only [Value.ownBlock, Option.some.injEq] at hk
        exact .inr (by omega)

theorem wpList_app2 {P : Program} {w : World} {ops : Array Oper} {rest : List Oper} {o : Oper} {a : Act} {Q : Exit → Act → World → Prop} (hgd : o.guard = none) (s x : Operand) (t : TypeId)
    (ho : o.op = .call { callee := .builtin .append, args := #[s, x], argTypes := #[t, t] })
    (base : Nat) (e : TypeId) (z : Value) (sz bytes : Nat) (ht : P.underlying t = some (.slice e))
    (hinfo : (P.info? e).map (fun i => (i.zero, i.size, i.bytes)) = some (some z, sz, bytes)) (hzs : z.cells.size = sz) (hsz : 0 < sz)
    (v : Value) (n : Nat) (xs : List Value) (hs : a.eval s = v) (hown : w.ownsRow base e sz v n xs) (y : Value) (m : Nat) (news : List Value) (hx : a.eval x = y) (hy : Reads w y sz m news)
    (h1 : ∀ u ∈ news, u.oneCell' = true) (hb : (n + m) * bytes ≤ 140737488355328) (hlen : n + m ≤ 9223372036854775807) (hbase : base ≤ w.heap.size)
    (h : ∀ v' w', w'.ownsRow base e sz v' (n + m) (xs ++ news) → w.grownBy w' v.ownBlock → (∀ k, v'.ownBlock = some k → v.ownBlock = some k ∨ w.heap.size ≤ k) → wpList P ops Q rest (a.put o.dst v') w') : wpList P ops Q (o :: rest) a w := by
  obtain ⟨v', w', hr, h2, h3, h4⟩ := run_app2 (P := P) w base t o.type e z sz bytes ht hinfo hzs hsz v n xs hown y m news hy h1 hb hlen hbase
  refine wpList_plain hgd fun K hK => ?_
  unfold Oper.wp execOp
  simp only [ho, resolve, invoke, builtin, Sem.run_bind, Sem.run_pure, Result.andThen_ok, List.map_toArray, List.map_cons, List.map_nil, hs, hx, hr]
  exact hK _ _ (h v' w' h2 h3 h4)

/-- A value that is a byte slice, and reads as these bytes. -/
def SeesB (w : World) (v : Value) (bs : List UInt8) : Prop := ∃ A c, v = .slice A bs.length c ∧ bs.length ≤ c ∧ Reads w v 1 bs.length (bvs bs)
theorem SeesB.kept {F : Nat → Prop} {w w' : World} {v : Value} {bs : List UInt8} (h : SeesB w v bs) (k : Kept F w w') (hF : ∀ b, v.ownBlock = some b → 0 < bs.length → ¬ F b) : SeesB w' v bs := by
  obtain ⟨A, c, rfl, h1, h2⟩ := h
  exact ⟨A, c, rfl, h1, h2.kept k (fun hn b hb => hF b hb hn)⟩
theorem SeesB.kept0 {w w' : World} {v : Value} {bs : List UInt8} (h : SeesB w v bs) (k : Kept noF w w') : SeesB w' v bs := h.kept k (fun _ _ _ h => h)
theorem SeesB.lt {w : World} {v : Value} {bs : List UInt8} (h : SeesB w v bs) (hn : 0 < bs.length) (b : Nat) (hb : v.ownBlock = some b) : b < w.heap.size := by
  obtain ⟨A, c, rfl, h1, h2⟩ := h
  obtain ⟨b', e, hl⟩ := h2.lt (by omega) hn
  rw [e] at hb; cases hb; exact hl

/-- An owned list of byte slices, none of which lies in the list's own block. -/
def SeesBs (w : World) (base : Nat) (v : Value) (ls : List (List UInt8)) : Prop :=
  ∃ vs : List Value, w.ownsRow base 23 1 v ls.length vs ∧ vs.length = ls.length ∧ ∀ (i : Nat) (u : Value) (l : List UInt8), vs[i]? = some u → ls[i]? = some l → SeesB w u l ∧ (0 < l.length → ∀ b, u.ownBlock = some b → v.ownBlock ≠ some b)
theorem SeesBs.nil (w : World) (base : Nat) : SeesBs w base (.slice none 0 0) [] := ⟨[], World.ownsRow_nil _ _ _ _, rfl, by simp⟩
theorem SeesBs.kept {F : Nat → Prop} {w w' : World} {base : Nat} {v : Value} {ls : List (List UInt8)} (h : SeesBs w base v ls) (k : Kept F w w') (hF : ∀ b, v.ownBlock = some b → ¬ F b)
    (hF2 : ∀ b, b < w.heap.size → v.ownBlock ≠ some b → ¬ F b) : SeesBs w' base v ls := by
  obtain ⟨vs, h1, h2, h3⟩ := h
  refine ⟨vs, own_kept h1 k hF, h2, fun i u l hu hl => ⟨(h3 i u l hu hl).1.kept k (fun b hb hn => hF2 b ((h3 i u l hu hl).1.lt hn b hb) ((h3 i u l hu hl).2 hn b hb)), (h3 i u l hu hl).2⟩⟩
theorem SeesBs.kept0 {w w' : World} {base : Nat} {v : Value} {ls : List (List UInt8)} (h : SeesBs w base v ls) (k : Kept noF w w') : SeesBs w' base v ls := h.kept k (fun _ _ h => h) (fun _ _ _ h => h)
/-- One more at its end. -/
theorem SeesBs.snoc {w w' : World} {base : Nat} {v v' u : Value} {ls : List (List UInt8)} {l : List UInt8} {vs : List Value} (h2 : vs.length = ls.length)
    (h3 : ∀ (i : Nat) (u : Value) (l : List UInt8), vs[i]? = some u → ls[i]? = some l → SeesB w u l ∧ (0 < l.length → ∀ b, u.ownBlock = some b → v.ownBlock ≠ some b))
    (hu : SeesB w u l) (hu2 : 0 < l.length → ∀ b, u.ownBlock = some b → v.ownBlock ≠ some b)
    (hown : w'.ownsRow base 23 1 v' (ls.length + 1) (vs ++ [u])) (hg : w.grownBy w' v.ownBlock) (hw : ∀ k, v'.ownBlock = some k → v.ownBlock = some k ∨ w.heap.size ≤ k) :
    SeesBs w' base v' (ls ++ [l]) := by
  have hk : Kept (fun k => v.ownBlock = some k) w w' := (Kept.refl _ w).grown hg (fun k hk => .inl hk)
  have key : ∀ u l, SeesB w u l → (0 < l.length → ∀ b, u.ownBlock = some b → v.ownBlock ≠ some b) → SeesB w' u l ∧ (0 < l.length → ∀ b, u.ownBlock = some b → v'.ownBlock ≠ some b) := fun u l hs hn =>
    ⟨hs.kept hk (fun b hb hp => hn hp b hb), fun hp b hb hv => by
      rcases hw b hv with h | h
      · exact hn hp b hb h
      · have := hs.lt hp b hb; omega⟩
  refine ⟨vs ++ [u], by simpa using hown, by simp [h2], fun i u' l' hu' hl' => ?_⟩
  rcases Nat.lt_trichotomy i ls.length with hi | hi | hi
  · rw [List.getElem?_append_left (by omega)] at hu' hl'
    exact key _ _ (h3 i u' l' hu' hl').1 (h3 i u' l' hu' hl').2
  · subst hi
    rw [List.getElem?_append_right (by omega)] at hl'
    rw [← h2, List.getElem?_append_right (by omega)] at hu'
    simp at hu' hl'
    subst hu'; subst hl'
    exact key _ _ hu hu2
  · rw [List.getElem?_eq_none (by simp; omega)] at hl'
    cases hl'
end Go.Proofs.YtflnekjmcpmbbaaGreatDoor

/- Maps that the walks of this seat meet: a block that holds a map reads as a list of keys and values, in whatever order. -/
set_option linter.unusedVariables false
set_option linter.unusedSimpArgs false
set_option linter.unusedSectionVars false
namespace Go.Proofs.YtflnekjmcpmbbaaGreatDoor
open Go.RowKit Go.MapKept

section
variable {α β : Type} [DecidableEq α]
def mget (m : List (α × β)) (a : α) : Option β := (m.find? (fun p => decide (p.1 = a))).map (·.2)
def mdel (m : List (α × β)) (a : α) : List (α × β) := m.filter (fun p => decide (p.1 ≠ a))
def mput (m : List (α × β)) (a : α) (v : β) : List (α × β) := (a, v) :: mdel m a
def mkeys (m : List (α × β)) : List α := m.map (·.1)

theorem mget_mem {m : List (α × β)} {a : α} {v : β} (h : mget m a = some v) : (a, v) ∈ m := by
  unfold mget at h
  obtain ⟨p, hp, rfl⟩ := Option.map_eq_some_iff.1 h
  have h1 := List.mem_of_find?_eq_some hp
  have h2 := List.find?_some hp
  simp at h2
  subst h2
  exact h1
theorem mget_of_mem {m : List (α × β)} (hn : (mkeys m).Nodup) {a : α} {v : β} (h : (a, v) ∈ m) : mget m a = some v := by
  induction m with
  | nil => simp at h
  | cons p r ih =>
    simp only [mkeys, List.map_cons, List.nodup_cons] at hn
    rcases List.mem_cons.1 h with rfl | h
    · simp [mget]
    · have hne : p.1 ≠ a := fun e => hn.1 (by rw [e]; exact List.mem_map.2 ⟨_, h, rfl⟩)
      have := ih hn.2 h
      unfold mget at this ⊢
      rw [List.find?_cons_of_neg (by simpa using hne)]
      exact this
theorem mget_none {m : List (α × β)} {a : α} : mget m a = none ↔ ∀ p ∈ m, p.1 ≠ a := by
  unfold mget
  simp [List.find?_eq_none]
theorem mget_del (m : List (α × β)) (a b : α) : mget (mdel m a) b = if a = b then none else mget m b := by
  by_cases h : a = b
  · subst h
    simp only [if_true]
    rw [mget_none]
    intro p hp
    simpa [mdel] using (List.mem_filter.1 hp).2
  · rw [if_neg h]
    unfold mget mdel
    rw [List.find?_filter]
    congr 2
    funext p
    by_cases hp : p.1 = b
    · simp [hp]; exact fun e => h e.symm
    · simp [hp]
theorem mget_put (m : List (α × β)) (a b : α) (v : β) : mget (mput m a v) b = if a = b then some v else mget m b := by
  unfold mput
  by_cases h : a = b
  · subst h; simp [mget]
  · have := mget_del m a b
    rw [if_neg h] at this ⊢
    rw [← this]
    unfold mget
    rw [List.find?_cons_of_neg (by simpa using h)]
theorem mkeys_del {m : List (α × β)} (h : (mkeys m).Nodup) (a : α) : (mkeys (mdel m a)).Nodup := by
  unfold mkeys mdel
  exact (List.filter_sublist.map _).nodup h
theorem mkeys_put {m : List (α × β)} (h : (mkeys m).Nodup) (a : α) (v : β) : (mkeys (mput m a v)).Nodup := by
  unfold mput
  simp only [mkeys, List.map_cons, List.nodup_cons]
  refine ⟨?_, mkeys_del h a⟩
  intro hm
  obtain ⟨p, hp, e⟩ := List.mem_map.1 hm
  have := (List.mem_filter.1 hp).2
  simp at this
  exact this e
theorem mget_perm {m m' : List (α × β)} (h : (mkeys m).Nodup) (hp : m.Perm m') (a : α) : mget m a = mget m' a := by
  cases e : mget m a with
  | none =>
    rw [mget_none] at e
    exact (mget_none.2 fun p hp' => e p (hp.mem_iff.2 hp')).symm
  | some v => exact (mget_of_mem ((hp.map _).nodup_iff.1 h) (hp.mem_iff.1 (mget_mem e))).symm
end

section
variable {α β : Type} [DecidableEq α]
/-- How keys and values stand in memory: the key's kind d, which key from which. -/
structure Enc (d : TypeDesc) (ek : α → Value) : Prop where
  key : ∀ a, IsKey d (ek a)
  inj : ∀ a b, ek a = ek b → a = b
theorem encStr : Enc .string Value.string := ⟨fun _ => trivial, fun a b h => by cases h; rfl⟩
theorem encInt (q : IntKind) : Enc (.int q) (Value.int q) := ⟨fun _ => rfl, fun a b h => by cases h; rfl⟩

/-- Block b is a map that holds m. -/
def MapAt (ek : α → Value) (ev : β → Value) (w : World) (b : Nat) (m : List (α × β)) : Prop :=
  ∃ es clock, w.heap[b]? = some (.map es clock) ∧ Stamped es clock ∧ (es.toList.map fun e => (e.key, e.val)).Perm (m.map fun p => (ek p.1, ev p.2))

variable {P : Program} {d : TypeDesc} {ek : α → Value} {ev : β → Value} {w : World} {b : Nat} {m : List (α × β)}
theorem MapAt.lt (h : MapAt ek ev w b m) : b < w.heap.size := by
  obtain ⟨es, clock, hb, _⟩ := h
  exact blk_lt hb
theorem MapAt.kept {F : Nat → Prop} {w' : World} (h : MapAt ek ev w b m) (k : Kept F w w') (hF : ¬ F b) : MapAt ek ev w' b m := by
  obtain ⟨es, clock, hb, r⟩ := h
  exact ⟨es, clock, k.blk hb hF, r⟩
theorem MapAt.kept0 {w' : World} (h : MapAt ek ev w b m) (k : Kept noF w w') : MapAt ek ev w' b m := h.kept k (fun h => h)
theorem MapAt.perm {m' : List (α × β)} (h : MapAt ek ev w b m) (hp : m.Perm m') : MapAt ek ev w b m' := by
  obtain ⟨es, clock, hb, hs, hm⟩ := h
  exact ⟨es, clock, hb, hs, hm.trans (hp.map _)⟩
theorem MapAt.nodup (h : MapAt ek ev w b m) : (mkeys m).Nodup := by
  obtain ⟨es, clock, hb, hs, hm⟩ := h
  have h3 := hs.2.2
  have e : es.toList.map (·.key) = (es.toList.map fun e => (e.key, e.val)).map (·.1) := by simp
  rw [e] at h3
  have h4 := (hm.map Prod.fst).nodup_iff.1 h3
  simp only [List.map_map] at h4
  unfold mkeys
  have e2 : (m.map (Prod.fst ∘ fun p : α × β => (ek p.1, ev p.2))) = (m.map (·.1)).map ek := by simp [Function.comp_def]
  rw [e2] at h4
  have h5 := (List.pairwise_map.1 h4)
  exact h5.imp (fun hne e => hne (by rw [e]))
theorem MapAt.made (w : World) : MapAt ek ev (w.alloc (.map #[] 0)) w.heap.size ([] : List (α × β)) :=
  ⟨#[], 0, blk_new _ _, stamped_empty 0, by simp⟩
theorem MapAt.size (h : MapAt ek ev w b m) : ∃ es clock, w.heap[b]? = some (.map es clock) ∧ es.size = m.length := by
  obtain ⟨es, clock, hb, hs, hm⟩ := h
  refine ⟨es, clock, hb, ?_⟩
  have := hm.length_eq
  simpa using this
theorem MapAt.len (h : MapAt ek ev w b m) {t k e : TypeId} (ht : P.underlying t = some (.map k e)) (ty : TypeId) : (Builtin.len_ #[t] ty #[.map (some b)]).run P w = .ok (.int .i64 m.length) w := by
  obtain ⟨es, clock, hb, hs⟩ := h.size
  simp [Builtin.len_, run_underlying ht, MapKept.run_getObj_map hb, goInt, hs]

/-- The search for a key. -/
theorem MapAt.find (h : MapAt ek ev w b m) (E : Enc d ek) (a : α) : ∃ es clock, w.heap[b]? = some (.map es clock) ∧ Stamped es clock ∧
    (es.toList.map fun e => (e.key, e.val)).Perm (m.map fun p => (ek p.1, ev p.2)) ∧
    ((Instr.findNow d (ek a) es.toList 0 = some none ∧ mget m a = none ∧ ∀ x ∈ es.toList, x.key ≠ ek a) ∨
     ∃ j e v, Instr.findNow d (ek a) es.toList 0 = some (some (j, e.val)) ∧ es.toList[j]? = some e ∧ e.key = ek a ∧ mget m a = some v ∧ e.val = ev v) := by
  have hnd := h.nodup
  obtain ⟨es, clock, hb, hs, hm⟩ := h
  refine ⟨es, clock, hb, hs, hm, ?_⟩
  have hk : ∀ x ∈ es.toList, ∃ p ∈ m, x.key = ek p.1 ∧ x.val = ev p.2 := fun x hx => by
    have := hm.mem_iff.1 (List.mem_map.2 ⟨x, hx, rfl⟩)
    obtain ⟨p, hp, e⟩ := List.mem_map.1 this
    simp only [Prod.mk.injEq] at e
    exact ⟨p, hp, e.1.symm, e.2.symm⟩
  rcases findNow_spec (E.key a) es.toList 0 (fun x hx => by obtain ⟨p, _, e, _⟩ := hk x hx; rw [e]; exact E.key _) with ⟨h1, h2⟩ | ⟨j, e, h1, h2, h3⟩
  · refine .inl ⟨h1, mget_none.2 fun p hp e => ?_, h2⟩
    have := hm.mem_iff.2 (List.mem_map.2 ⟨p, hp, rfl⟩)
    obtain ⟨x, hx, e2⟩ := List.mem_map.1 this
    simp only [Prod.mk.injEq] at e2
    exact h2 x hx (by rw [e2.1, e])
  · have hmem : e ∈ es.toList := List.mem_of_getElem? h2
    obtain ⟨p, hp, e1, e2⟩ := hk e hmem
    have : p.1 = a := E.inj _ _ (by rw [← e1, h3])
    subst this
    refine .inr ⟨j, e, p.2, by simpa using h1, h2, h3, mget_of_mem hnd hp, e2⟩

theorem MapAt.look (h : MapAt ek ev w b m) (E : Enc d ek) {t k e : TypeId} (ht : P.underlying t = some (.map k e)) (hk : P.underlying k = some d) {z : Value} (hz : (zeroValue e).run P w = .ok z w) (a : α) (ok : Bool) :
    (Instr.lookup t (.map (some b)) (ek a) ok).run P w = .ok (if ok then .tuple #[((mget m a).map ev).getD z, .bool (mget m a).isSome] else ((mget m a).map ev).getD z) w := by
  obtain ⟨es, clock, hb, hs, hm, hf⟩ := h.find E a
  rcases hf with ⟨h1, h2, _⟩ | ⟨j, e0, v, h1, h2, h3, h4, h5⟩
  · cases ok <;> simp [Instr.lookup, run_underlying ht, MapKept.run_getObj_map hb, run_checkKey hk (E.key a), run_findKey hk h1, Result.andThen, hz, h2]
  · cases ok <;> simp [Instr.lookup, run_underlying ht, MapKept.run_getObj_map hb, run_checkKey hk (E.key a), run_findKey hk h1, Result.andThen, h4, h5]

theorem kept_setBlock {w : World} {b : Nat} {o o' : Obj} (hb : w.heap[b]? = some o) : Kept (oneF b) w (ChangeMaps.setBlock w b o') :=
  ⟨rfl, rfl, rfl, by simp [ChangeMaps.setBlock], fun k _ hk => (heap_set hb).2 k hk⟩

theorem run_keyStays {v : Value} (hk : IsKey d v) {w : World} : (Instr.keyThatStays v v).run P w = .ok v w := run_keyThatStays hk

theorem cons_erase_perm {γ : Type} {l : List γ} {j : Nat} (hj : j < l.length) : (l[j] :: l.eraseIdx j).Perm l := by
  have h := ChangeMaps.set_perm l j hj l[j]
  rw [List.set_getElem_self] at h
  exact h.symm

theorem erase_born {L : List MapEntry} (hn : (L.map (·.born)).Nodup) {e : MapEntry} (he : e ∈ L) : L.Perm (e :: L.filter fun x => !(x.born == e.born)) := by
  obtain ⟨s, t, rfl⟩ := List.append_of_mem he
  have h2 : (((e :: (s ++ t))).map (·.born)).Nodup := ((List.perm_middle.map _).nodup_iff).1 hn
  simp only [List.map_cons] at h2
  have h3 := (List.nodup_cons.1 h2).1
  have hf : (s ++ e :: t).filter (fun x => !(x.born == e.born)) = s ++ t := by
    rw [List.filter_append, List.filter_cons_of_neg (by simp), ← List.filter_append, List.filter_eq_self]
    intro p hp
    have : p.born ≠ e.born := fun h => h3 (List.mem_map.2 ⟨p, hp, h⟩)
    simpa using this
  rw [hf]
  exact List.perm_middle

theorem perm_mput {m : List (α × β)} (hn : (mkeys m).Nodup) {a : α} {v v' : β} (h : (a, v') ∈ m) : ∃ r, m.Perm ((a, v') :: r) ∧ (mput m a v).Perm ((a, v) :: r) ∧ (mdel m a).Perm r := by
  obtain ⟨s, t, rfl⟩ := List.append_of_mem h
  have hnd : ∀ p ∈ s ++ t, p.1 ≠ a := by
    have h2 : (mkeys ((a, v') :: (s ++ t))).Nodup := ((List.perm_middle.map Prod.fst).nodup_iff).1 hn
    simp only [mkeys, List.map_cons] at h2
    have h3 := (List.nodup_cons.1 h2).1
    intro p hp e
    apply h3
    exact List.mem_map.2 ⟨p, hp, e⟩
  have hdel : mdel (s ++ (a, v') :: t) a = s ++ t := by
    unfold mdel
    rw [List.filter_append, List.filter_cons_of_neg (by simp), ← List.filter_append, List.filter_eq_self]
    intro p hp
    simpa using hnd p hp
  refine ⟨s ++ t, List.perm_middle, ?_, ?_⟩
  · unfold mput; rw [hdel]
  · rw [hdel]

theorem MapAt.put (h : MapAt ek ev w b m) (E : Enc d ek) {t k e : TypeId} (ht : P.underlying t = some (.map k e)) (hk : P.underlying k = some d) (a : α) (v : β) :
    ∃ w', (Instr.mapUpdate t (.map (some b)) (ek a) (ev v)).run P w = .ok () w' ∧ MapAt ek ev w' b (mput m a v) ∧ Kept (oneF b) w w' ∧ w'.heap.size = w.heap.size := by
  have hnd := h.nodup
  obtain ⟨es, clock, hb, hs, hm, hf⟩ := h.find E a
  rcases hf with ⟨h1, h2, h3⟩ | ⟨j, e0, v0, h1, h2, h3, h4, h5⟩
  · refine ⟨ChangeMaps.setBlock w b (.map (es.push { key := ek a, val := ev v, born := clock }) (clock + 1)), ?_, ⟨_, _, (heap_set hb).1, stamped_push hs h3, ?_⟩, kept_setBlock hb, by simp [ChangeMaps.setBlock]⟩
    · simp [Instr.mapUpdate, run_underlying ht, MapKept.run_getObj_map hb, run_checkKey hk (E.key a), run_findKey hk h1, MapKept.run_setObj_map _ hb, Result.andThen, ChangeMaps.setBlock]
    · have hdel : mdel m a = m := by
        unfold mdel
        rw [List.filter_eq_self]
        intro p hp
        simpa using (mget_none.1 h2) p hp
      simp only [Array.toList_push, List.map_append, List.map_cons, List.map_nil, mput, hdel]
      exact List.perm_append_comm.trans (hm.cons (ek a, ev v))
  · have hj : es[j]? = some e0 := by rw [← Array.getElem?_toList]; exact h2
    have hlt : j < es.size := (Array.getElem?_eq_some_iff.1 hj).1
    refine ⟨ChangeMaps.setBlock w b (.map (es.modify j fun e => { e with key := ek a, val := ev v }) clock), ?_, ⟨_, _, (heap_set hb).1, stamped_modify hs _ _ (fun _ _ => rfl) (fun e' _ he' => by rw [hj] at he'; cases he'; exact h3.symm), ?_⟩, kept_setBlock hb, by simp [ChangeMaps.setBlock]⟩
    · simp [Instr.mapUpdate, run_underlying ht, MapKept.run_getObj_map hb, run_checkKey hk (E.key a), run_findKey hk h1, hj, h3, run_keyThatStays (E.key a), MapKept.run_setObj_map _ hb, Result.andThen, ChangeMaps.setBlock]
    · obtain ⟨r, p1, p2, _⟩ := perm_mput (v := v) hnd (mget_mem h4)
      have e1 : (es.modify j fun e => { e with key := ek a, val := ev v }).toList = es.toList.set j { e0 with key := ek a, val := ev v } := by
        rw [Array.toList_modify, ChangeMaps.modify_eq_set _ _ _ _ h2]
      have hl : (es.toList.map fun e => (e.key, e.val))[j]? = some (ek a, ev v0) := by simp [h2, h3, h5]
      have hjl : j < (es.toList.map fun e => (e.key, e.val)).length := by simpa using hlt
      rw [e1, List.map_set]
      refine (ChangeMaps.set_perm _ j hjl _).trans (.trans ?_ (p2.map _).symm)
      simp only [List.map_cons]
      refine List.Perm.cons _ (List.Perm.cons_inv (a := (ek a, ev v0)) ?_)
      have h6 : (es.toList.map fun e => (e.key, e.val))[j] = (ek a, ev v0) := by
        rw [List.getElem?_eq_getElem hjl] at hl
        exact Option.some.inj hl
      have h7 := cons_erase_perm hjl
      rw [h6] at h7
      exact h7.trans (hm.trans (p1.map _))

theorem MapAt.del (h : MapAt ek ev w b m) (E : Enc d ek) {t k e : TypeId} (ht : P.underlying t = some (.map k e)) (hk : P.underlying k = some d) (a : α) (ty : TypeId) :
    ∃ w', (Builtin.delete_ #[t, k] ty #[.map (some b), ek a]).run P w = .ok (.tuple #[]) w' ∧ MapAt ek ev w' b (mdel m a) ∧ Kept (oneF b) w w' ∧ w'.heap.size = w.heap.size := by
  have hnd := h.nodup
  obtain ⟨es, clock, hb, hs, hm, hf⟩ := h.find E a
  rcases hf with ⟨h1, h2, h3⟩ | ⟨j, e0, v0, h1, h2, h3, h4, h5⟩
  · refine ⟨ChangeMaps.setBlock w b (.map es clock), ?_, ⟨_, _, (heap_set hb).1, hs, ?_⟩, kept_setBlock hb, by simp [ChangeMaps.setBlock]⟩
    · simp [Builtin.delete_, run_underlying ht, MapKept.run_getObj_map hb, run_checkKey hk (E.key a), run_findKey hk h1, MapKept.run_setObj_map _ hb, Result.andThen, ChangeMaps.setBlock]
    · have hdel : mdel m a = m := by
        unfold mdel
        rw [List.filter_eq_self]
        intro p hp
        simpa using (mget_none.1 h2) p hp
      rw [hdel]; exact hm
  · have hj : es[j]? = some e0 := by rw [← Array.getElem?_toList]; exact h2
    have hlt : j < es.size := (Array.getElem?_eq_some_iff.1 hj).1
    refine ⟨ChangeMaps.setBlock w b (.map (es.eraseIdxIfInBounds j) clock), ?_, ⟨_, _, (heap_set hb).1, stamped_erase hs _, ?_⟩, kept_setBlock hb, by simp [ChangeMaps.setBlock]⟩
    · simp [Builtin.delete_, run_underlying ht, MapKept.run_getObj_map hb, run_checkKey hk (E.key a), run_findKey hk h1, MapKept.run_setObj_map _ hb, Result.andThen, ChangeMaps.setBlock]
    · obtain ⟨r, p1, _, p3⟩ := perm_mput (v := v0) hnd (mget_mem h4)
      have hl : (es.toList.map fun e => (e.key, e.val))[j]? = some (ek a, ev v0) := by simp [h2, h3, h5]
      have hjl : j < (es.toList.map fun e => (e.key, e.val)).length := by simpa using hlt
      have e1 : (es.eraseIdxIfInBounds j).toList = es.toList.eraseIdx j := by simp [Array.eraseIdxIfInBounds, hlt]
      rw [e1, ChangeMaps.map_eraseIdx]
      refine List.Perm.trans ?_ (p3.map _).symm
      refine List.Perm.cons_inv (a := (ek a, ev v0)) ?_
      have h6 : (es.toList.map fun e => (e.key, e.val))[j] = (ek a, ev v0) := by
        rw [List.getElem?_eq_getElem hjl] at hl
        exact Option.some.inj hl
      have h7 := cons_erase_perm hjl
      rw [h6] at h7
      exact h7.trans (hm.trans (p1.map _))

/-- A range over map b stands at iterator r: what is to come is 'todo', in whatever order. -/
def RangeAt (ek : α → Value) (ev : β → Value) (w : World) (b r : Nat) (todo : List (α × β)) : Prop :=
  ∃ es clock since seen c0, w.heap[b]? = some (.map es clock) ∧ Stamped es clock ∧ w.heap[r]? = some (.mapIter (some b) since seen c0) ∧ (∀ x ∈ es.toList, x.born < since) ∧ since ≤ c0 ∧ since ≤ clock ∧
    (((leftOf es seen).toList).map fun e => (e.key, e.val)).Perm (todo.map fun p => (ek p.1, ev p.2))

theorem RangeAt.kept {F : Nat → Prop} {w' : World} {r : Nat} {todo : List (α × β)} (h : RangeAt ek ev w b r todo) (k : Kept F w w') (hb : ¬ F b) (hr : ¬ F r) : RangeAt ek ev w' b r todo := by
  obtain ⟨es, clock, since, seen, c0, h1, h2, h3, h4⟩ := h
  exact ⟨es, clock, since, seen, c0, k.blk h1 hb, h2, k.blk h3 hr, h4⟩

theorem MapAt.range (h : MapAt ek ev w b m) {t k e : TypeId} (ht : P.underlying t = some (.map k e)) :
    ∃ w', (Instr.range t (.map (some b))).run P w = .ok (.pointer (some ⟨w.heap.size, 0, none⟩)) w' ∧ RangeAt ek ev w' b w.heap.size m ∧ Kept noF w w' ∧ w'.heap.size = w.heap.size + 1 := by
  have hlt := h.lt
  obtain ⟨es, clock, hb, hs, hm⟩ := h
  refine ⟨_, run_range_map w t k e b es clock ht hb, ⟨es, clock, clock, #[], clock, blk_alloc hb _, hs, blk_new _ _, hs.1, Nat.le_refl _, Nat.le_refl _, ?_⟩, (Kept.refl _ _).alloc _, by simp⟩
  have : (leftOf es #[]) = es := by simp [leftOf]
  rw [this]; exact hm

theorem RangeAt.next {r : Nat} {todo : List (α × β)} (h : RangeAt ek ev w b r todo) (ty : TypeId) :
    (todo = [] ∧ (Instr.next (.pointer (some ⟨r, 0, none⟩)) false ty).run P w = .ok (.tuple #[.bool false]) w) ∨
    ∃ p todo' w', todo.Perm (p :: todo') ∧ (Instr.next (.pointer (some ⟨r, 0, none⟩)) false ty).run P w = .ok (.tuple #[.bool true, ek p.1, ev p.2]) w' ∧ RangeAt ek ev w' b r todo' ∧
      Kept (oneF r) w w' ∧ w'.heap.size = w.heap.size ∧ (Instr.entry (.pointer (some ⟨r, 0, none⟩))).run P w' = .ok (.tuple #[ek p.1, ev p.2]) w' := by
  obtain ⟨es, clock, since, seen, c0, hb, hs, hr, hold, hsc, hsk, hl⟩ := h
  have hne : r ≠ b := by rintro rfl; rw [hb] at hr; cases hr
  rcases run_next_at (P := P) w ty r b since c0 seen es clock hr hb hold hsc with ⟨h0, hrun⟩ | ⟨e, he, w1, hal, hrun⟩
  · left
    have : (leftOf es seen).toList = [] := by
      have := Array.eq_empty_of_size_eq_zero h0
      rw [this]
    rw [this] at hl
    refine ⟨?_, hrun⟩
    have := hl.symm.eq_nil
    simpa using this
  · right
    obtain ⟨hem, hes⟩ := mem_left he
    have hr1 : w1.heap[r]? = some (.mapIter (some b) since seen c0) := by rcases hal with rfl | rfl <;> exact hr
    have hb1 : w1.heap[b]? = some (.map es clock) := by rcases hal with rfl | rfl <;> exact hb
    have hset := heap_set (o' := .mapIter (some b) since (seen.push e.born) clock) hr1
    have hb' : (ChangeMaps.setBlock w1 r (.mapIter (some b) since (seen.push e.born) clock)).heap[b]? = some (.map es clock) := (hset.2 b (fun e1 => hne e1.symm)).trans hb1
    have hin : (e.key, e.val) ∈ todo.map fun p => (ek p.1, ev p.2) := hl.mem_iff.1 (List.mem_map.2 ⟨e, he, rfl⟩)
    obtain ⟨p, hp, ep⟩ := List.mem_map.1 hin
    simp only [Prod.mk.injEq] at ep
    obtain ⟨s, t', rfl⟩ := List.append_of_mem hp
    refine ⟨p, s ++ t', _, List.perm_middle, by rw [ep.1, ep.2]; exact hrun, ⟨es, clock, since, seen.push e.born, clock, hb', hs, hset.1, hold, hsk, hsk, ?_⟩, ?_, ?_, ?_⟩
    · have hsub : ((leftOf es seen).toList.map (·.born)).Nodup := by
        unfold leftOf
        rw [Array.toList_filter]
        exact (List.filter_sublist.map _).nodup hs.2.1
      have e1 : (leftOf es (seen.push e.born)).toList = (leftOf es seen).toList.filter fun x => !(x.born == e.born) := by
        unfold leftOf
        rw [Array.toList_filter, Array.toList_filter, List.filter_filter]
        congr 1
        funext x
        rw [contains_push]
        cases seen.contains x.born <;> cases (x.born == e.born) <;> rfl
      rw [e1]
      have h7 := (erase_born hsub he).map fun e => (e.key, e.val)
      simp only [List.map_cons] at h7
      refine List.Perm.cons_inv (a := (e.key, e.val)) (h7.symm.trans (hl.trans ?_))
      rw [← ep.1, ← ep.2]
      exact List.perm_middle.map _
    · rcases hal with rfl | rfl <;> exact ⟨rfl, rfl, rfl, by simp [ChangeMaps.setBlock], fun k _ hk => hset.2 k hk⟩
    · rcases hal with rfl | rfl <;> simp [ChangeMaps.setBlock]
    · rw [ep.1, ep.2]
      exact run_entry_at _ r b since seen es clock e hset.1 hb' hem hs.2.1
end
end Go.Proofs.YtflnekjmcpmbbaaGreatDoor
