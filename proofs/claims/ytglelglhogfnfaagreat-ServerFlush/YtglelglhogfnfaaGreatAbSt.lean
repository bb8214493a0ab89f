/- The store against the heap: how the relation is kept by a write, a new block, a block that grows. -/
import Derived.Test.YtglelglhogfnfaaGreatAbTr
namespace Go.Ab

/-- The entries of a map. -/
def EntRel [Syms] (φ : Phi) (es : List (Value × Value)) (es' : List MapEntry) : Prop :=
  es'.length = es.length ∧ ∀ (k : Nat) (p : Value × Value), es[k]? = some p → ∃ e', es'[k]? = some e' ∧ e'.key = den p.1 ∧ keyed p.1 = true ∧ Vrel φ p.2 e'.val

/-- A block of the store against an object of the heap. -/
def BRel [Syms] (φ : Phi) (x : Ext) : Blk → Obj → Prop
  | .cells l esz, o => ∃ c t fr, o = .cells c t fr ∧ c.size = x.base + x.tot ∧ l.length = x.n ∧ x.n ≤ x.tot ∧ (esz = x.esz ∧ (x.esz = 0 → x.base = 0)) ∧
      (fr.1 = fr.2 ∨ c.size ≤ fr.1) ∧ VrelL φ l ((c.toList.drop x.base).take x.n)
  | .map es bs cl, o => ∃ es', o = .map es' cl ∧ x.base = 0 ∧ EntRel φ es es'.toList ∧ es'.toList.map (·.born) = bs
  | .chan cap buf, o => ∃ buf' s r, o = .chan cap buf' false s r false ∧ x.base = 0 ∧ VrelL φ buf buf'.toList
  | .iter m since seen last, o => ∃ m', o = .mapIter m' since seen.toArray last ∧ x.base = 0 ∧ Vrel φ (.map m) (.map m')
  | .loop L, o => ∃ L', o = .loop L' ∧ x.base = 0 ∧ L'.state = L.st ∧ L'.pending = L.pend ∧ L'.params = L.params.toArray ∧ L'.assign = L.assign ∧ L'.body = L.body ∧ L'.tmps.size = L.n ∧
      (∀ t, Vrel φ ((L.tmps.get t).getD undef) (L'.tmps.getD t undef)) ∧ codeOk L.assign = true ∧ codeOk L.body = true
  | .dfr t, o => o = .deferred (if t then none else some []) ∧ x.base = 0

theorem frOk [Syms] {fr : Nat × Nat} {n : Nat} (h : fr.1 = fr.2 ∨ n ≤ fr.1) : ∀ k, k < n → ¬ (fr.1 ≤ k ∧ k < fr.2) := fun k hk hh => by omega

structure Rel [Syms] (φ : Phi) (σ : St) (h : Array Obj) : Prop where
  blocks : ∀ i b, σ.get i = some b → ∃ x o, φ i = .live x ∧ h[x.blk]? = some o ∧ BRel φ x b o
  inj : ∀ i j x y, φ i = .live x → φ j = .live y → x.blk = y.blk → i = j
  bound : ∀ i x, φ i = .live x → x.blk < h.size
  ids : ∀ i b, σ.get i = some b → i < σ.next

theorem EntRel.mono [Syms] {φ φ' : Phi} (h : PLe φ φ') {es : List (Value × Value)} {es' : List MapEntry} (r : EntRel φ es es') : EntRel φ' es es' :=
  ⟨r.1, fun k p hk => let ⟨e', a, b, c, d⟩ := r.2 k p hk; ⟨e', a, b, c, d.mono h⟩⟩

theorem BRel.mono [Syms] {φ φ' : Phi} (h : PLe φ φ') {x : Ext} {b : Blk} {o : Obj} (r : BRel φ x b o) : BRel φ' x b o := by
  cases b with
  | cells l e =>
    obtain ⟨c, t, fr, h1, h2, h3, h4, h5, h6, h7⟩ := r
    exact ⟨c, t, fr, h1, h2, h3, h4, h5, h6, h7.mono h⟩
  | map es bs cl =>
    obtain ⟨es', h1, h2, h3, h4⟩ := r
    exact ⟨es', h1, h2, h3.mono h, h4⟩
  | chan cap buf =>
    obtain ⟨b', s, q, h1, h2, h3⟩ := r
    exact ⟨b', s, q, h1, h2, h3.mono h⟩
  | iter m since seen last =>
    obtain ⟨m', h1, h2, h3⟩ := r
    exact ⟨m', h1, h2, h3.mono h⟩
  | loop L =>
    obtain ⟨L', h1, h2, h3, h4, h5, h6, h7, h8, h9, h10⟩ := r
    exact ⟨L', h1, h2, h3, h4, h5, h6, h7, h8, fun t => (h9 t).mono h, h10⟩
  | dfr t => exact r

/-- What a run of the abstract machine does to the places, beside what it does to the heap. -/
structure Trans [Syms] (φ : Phi) (σ : St) (w : World) (φ' : Phi) (σ' : St) (w' : World) : Prop where
  next : σ.next ≤ σ'.next
  le : PLe φ φ'
  keep : ∀ i x, i < σ.next → φ' i = .live x → φ i = .live x
  out : ∀ i, σ'.next ≤ i → φ' i = φ i
  frame : ∀ b, b < w.heap.size → (∀ i x, i < σ.next → φ i = .live x → x.blk ≠ b) → w'.heap[b]? = w.heap[b]?
  fresh : ∀ i x, σ.next ≤ i → i < σ'.next → φ' i = .live x → w.heap.size ≤ x.blk ∨ ∃ j y, j < σ.next ∧ φ j = .live y ∧ y.blk = x.blk
  size : w.heap.size ≤ w'.heap.size
  tape : w'.tape = w.tape
  os : w'.os = w.os
  output : w'.output = w.output
  quiet : ∀ i, i < σ.next → φ i = .unborn → φ' i = .unborn

/-- The numbers that the run will use are not used yet. -/
def Fresh [Syms] (φ : Phi) (a b : Nat) : Prop := ∀ i, a ≤ i → i < b → φ i = .unborn

theorem Fresh.sub [Syms] {φ : Phi} {a b a' b' : Nat} (h : Fresh φ a b) (ha : a ≤ a') (hb : b' ≤ b) : Fresh φ a' b' := fun i h1 h2 => h i (by omega) (by omega)

theorem Trans.refl [Syms] (φ : Phi) (σ : St) (w : World) : Trans φ σ w φ σ w :=
  ⟨Nat.le_refl _, PLe.refl _, fun _ _ _ h => h, fun _ _ => rfl, fun _ _ _ => rfl, fun _ _ h1 h2 _ => absurd h1 (by omega), Nat.le_refl _, rfl, rfl, rfl, fun _ _ h => h⟩

/-- A draw. -/
theorem Trans.drew [Syms] {φ φ' : Phi} {σ σ' : St} {w w' : World} (h : Trans φ σ w φ' σ' w') (n : Nat) : Trans φ σ w φ' σ' { w' with drawn := n } :=
  ⟨h.next, h.le, h.keep, h.out, h.frame, h.fresh, h.size, h.tape, h.os, h.output, h.quiet⟩

theorem Trans.trans [Syms] {φ φ' φ'' : Phi} {σ σ' σ'' : St} {w w' w'' : World} (h : Trans φ σ w φ' σ' w') (k : Trans φ' σ' w' φ'' σ'' w'') : Trans φ σ w φ'' σ'' w'' := by
  refine ⟨Nat.le_trans h.next k.next, h.le.trans k.le, fun i x hi hx => h.keep i x hi (k.keep i x (Nat.lt_of_lt_of_le hi h.next) hx),
    fun i hi => (k.out i hi).trans (h.out i (Nat.le_trans k.next hi)), ?_, ?_, Nat.le_trans h.size k.size, k.tape.trans h.tape, k.os.trans h.os, k.output.trans h.output,
    fun i hi hu => k.quiet i (Nat.lt_of_lt_of_le hi h.next) (h.quiet i hi hu)⟩
  · intro b hb hn
    rw [k.frame b (Nat.lt_of_lt_of_le hb h.size) ?_, h.frame b hb hn]
    intro i x hi hx
    rcases Nat.lt_or_ge i σ.next with hlt | hge
    · exact hn i x hlt (h.keep i x hlt hx)
    · rcases h.fresh i x hge hi hx with hf | ⟨j, y, hj, hy, he⟩
      · omega
      · exact fun e => hn j y hj hy (he.trans e)
  · intro i x h1 h2 hx
    rcases Nat.lt_or_ge i σ'.next with hlt | hge
    · exact h.fresh i x h1 hlt (k.keep i x hlt hx)
    · rcases k.fresh i x hge h2 hx with hf | ⟨j, y, hj, hy, he⟩
      · exact .inl (Nat.le_trans h.size hf)
      · rcases Nat.lt_or_ge j σ.next with hjl | hjg
        · exact .inr ⟨j, y, hjl, h.keep j y hjl hy, he⟩
        · rcases h.fresh j y hjg hj hy with hf | ⟨m, z, hm, hz, he'⟩
          · exact .inl (he ▸ hf)
          · exact .inr ⟨m, z, hm, hz, he'.trans he⟩

/-! ## A write into a block -/

theorem Rel.live [Syms] {φ : Phi} {σ : St} {h : Array Obj} (r : Rel φ σ h) {i : Nat} {b : Blk} (hi : σ.get i = some b) : ∃ x o, φ i = .live x ∧ h[x.blk]? = some o ∧ BRel φ x b o := r.blocks i b hi

theorem Rel.put [Syms] {φ : Phi} {σ : St} {h h' : Array Obj} (r : Rel φ σ h) {i : Nat} {b b' : Blk} {x : Ext} {o' : Obj} (hi : σ.get i = some b) (hx : φ i = .live x)
    (hs : h'.size = h.size) (ho : h'[x.blk]? = some o') (hb : BRel φ x b' o') (hk : ∀ k, k ≠ x.blk → h'[k]? = h[k]?) : Rel φ (σ.put i b') h' := by
  refine ⟨fun j c hj => ?_, r.inj, fun j y hy => by rw [hs]; exact r.bound j y hy, fun j c hj => ?_⟩
  · rw [St.get_put] at hj
    split at hj
    · rename_i he
      subst he
      simp only [Option.some.injEq] at hj
      subst hj
      exact ⟨x, o', hx, ho, hb⟩
    · rename_i hne
      obtain ⟨y, o, hy, hoy, hby⟩ := r.blocks j c hj
      exact ⟨y, o, hy, by rw [hk _ fun e => hne (r.inj j i y x hy hx e)]; exact hoy, hby⟩
  · rw [St.get_put] at hj
    split at hj
    · rename_i he; exact he ▸ r.ids i b hi
    · exact r.ids j c hj

theorem Trans.put [Syms] {φ : Phi} {σ : St} {w w' : World} (r : Rel φ σ w.heap) {i : Nat} {b b' : Blk} {x : Ext} (hi : σ.get i = some b) (hx : φ i = .live x)
    (hs : w'.heap.size = w.heap.size) (hk : ∀ k, k ≠ x.blk → w'.heap[k]? = w.heap[k]?) (ht : w'.tape = w.tape) (hos : w'.os = w.os) (hout : w'.output = w.output) :
    Trans φ σ w φ (σ.put i b') w' :=
  ⟨Nat.le_refl _, PLe.refl _, fun _ _ _ h => h, fun _ _ => rfl, fun k _ hn => hk k fun e => hn i x (r.ids i b hi) hx e.symm, fun _ _ h1 h2 _ => absurd h1 (by simpa using h2), by omega, ht, hos, hout, fun _ _ h => h⟩

/-- A block's object is turned, and stays a picture of the block. -/
theorem Rel.touch [Syms] {φ : Phi} {σ : St} {w w' : World} (r : Rel φ σ w.heap) {i : Nat} {b : Blk} {x : Ext} {o' : Obj} (hi : σ.get i = some b) (hx : φ i = .live x)
    (hs : w'.heap.size = w.heap.size) (ho : w'.heap[x.blk]? = some o') (hb : BRel φ x b o') (hk : ∀ k, k ≠ x.blk → w'.heap[k]? = w.heap[k]?) (ht : w'.tape = w.tape) (hos : w'.os = w.os) (hout : w'.output = w.output) :
    Rel φ σ w'.heap ∧ Trans φ σ w φ σ w' := by
  have h1 := r.put hi hx hs ho hb hk
  have hg : ∀ j, (σ.put i b).get j = σ.get j := fun j => by
    rw [St.get_put]
    split
    · rename_i he; rw [he, hi]
    · rfl
  refine ⟨⟨fun j c hj => h1.blocks j c (by rw [hg]; exact hj), h1.inj, h1.bound, fun j c hj => h1.ids j c (by rw [hg]; exact hj)⟩, ?_⟩
  exact ⟨Nat.le_refl _, PLe.refl _, fun _ _ _ h => h, fun _ _ => rfl, fun k _ hn => hk k fun e => hn i x (r.ids i b hi) hx e.symm, fun _ _ h1 h2 _ => absurd h1 (by simpa using h2), by omega, ht, hos, hout, fun _ _ h => h⟩

/-! ## A new block -/

def Phi.upd [Syms] (φ : Phi) (i : Nat) (e : Ent) : Phi := fun j => if j = i then e else φ j

@[simp] theorem Phi.upd_same [Syms] (φ : Phi) (i : Nat) (e : Ent) : (φ.upd i e) i = e := by simp [Phi.upd]
theorem Phi.upd_other [Syms] (φ : Phi) {i j : Nat} (e : Ent) (h : j ≠ i) : (φ.upd i e) j = φ j := by simp [Phi.upd, h]

theorem PLe.upd_unborn [Syms] {φ : Phi} {i : Nat} {e : Ent} (h : φ i = .unborn) : PLe φ (φ.upd i e) := fun j => by
  by_cases hj : j = i
  · subst hj; rw [h]; exact trivial
  · rw [Phi.upd_other _ _ hj]; exact Ent.le_refl _

theorem Rel.new [Syms] {φ : Phi} {σ : St} {h : Array Obj} (r : Rel φ σ h) {b : Blk} {x : Ext} {o : Obj} (hf : φ σ.next = .unborn) (hx : x.blk = h.size)
    (hb : BRel (φ.upd σ.next (.live x)) x b o) : Rel (φ.upd σ.next (.live x)) (σ.new b) (h.push o) := by
  have hle : PLe φ (φ.upd σ.next (.live x)) := PLe.upd_unborn hf
  refine ⟨fun j c hj => ?_, fun i j y z hy hz he => ?_, fun j y hy => ?_, fun j c hj => ?_⟩
  · rw [St.get_new] at hj
    split at hj
    · rename_i he
      subst he
      simp only [Option.some.injEq] at hj
      subst hj
      exact ⟨x, o, by simp, by simp [hx], hb⟩
    · rename_i hne
      obtain ⟨y, oy, hy, hoy, hby⟩ := r.blocks j c hj
      refine ⟨y, oy, by rw [Phi.upd_other _ _ hne]; exact hy, ?_, hby.mono hle⟩
      rw [Array.getElem?_push, if_neg (by have := r.bound j y hy; omega)]
      exact hoy
  · by_cases hi : i = σ.next
    · by_cases hj : j = σ.next
      · omega
      · subst hi
        rw [Phi.upd_same] at hy
        rw [Phi.upd_other _ _ hj] at hz
        have := r.bound j z hz
        cases hy
        omega
    · by_cases hj : j = σ.next
      · subst hj
        rw [Phi.upd_same] at hz
        rw [Phi.upd_other _ _ hi] at hy
        have := r.bound i y hy
        cases hz
        omega
      · rw [Phi.upd_other _ _ hi] at hy
        rw [Phi.upd_other _ _ hj] at hz
        exact r.inj i j y z hy hz he
  · by_cases hj : j = σ.next
    · subst hj
      rw [Phi.upd_same] at hy
      cases hy
      simp [hx]
    · rw [Phi.upd_other _ _ hj] at hy
      have := r.bound j y hy
      simp; omega
  · rw [St.get_new] at hj
    split at hj
    · rename_i he; simp [he]
    · have := r.ids j c hj; simp; omega

theorem Trans.new [Syms] {φ : Phi} {σ : St} {w w' : World} {x : Ext} {o : Obj} {b : Blk} (hf : φ σ.next = .unborn) (hx : x.blk = w.heap.size) (hh : w'.heap = w.heap.push o)
    (ht : w'.tape = w.tape) (hos : w'.os = w.os) (hout : w'.output = w.output) : Trans φ σ w (φ.upd σ.next (.live x)) (σ.new b) w' := by
  refine ⟨by simp, PLe.upd_unborn hf, fun i y hi hy => ?_, fun i hi => ?_, fun k hk _ => ?_, fun i y h1 h2 hy => ?_, by simp [hh], ht, hos, hout, fun i hi hu => by rw [Phi.upd_other _ _ (by omega)]; exact hu⟩
  · rwa [Phi.upd_other _ _ (by omega)] at hy
  · exact Phi.upd_other _ _ (by simp at hi; omega)
  · rw [hh, Array.getElem?_push, if_neg (by omega)]
  · obtain rfl : i = σ.next := by simp at h2; omega
    rw [Phi.upd_same] at hy
    cases hy
    exact .inl (by omega)

/-! ## A block dies, and one that lies where it lay, or in new memory, is born -/

theorem PLe.kill [Syms] {φ : Phi} {i : Nat} {x : Ext} (h : φ i = .live x) : PLe φ (φ.upd i .dead) := fun j => by
  by_cases hj : j = i
  · subst hj; rw [h]; simp [Ent.le]
  · rw [Phi.upd_other _ _ hj]; exact Ent.le_refl _

theorem Rel.kill [Syms] {φ : Phi} {σ : St} {h : Array Obj} (r : Rel φ σ h) {i : Nat} {x : Ext} (hx : φ i = .live x) : Rel (φ.upd i .dead) (σ.kill i) h := by
  refine ⟨fun j c hj => ?_, fun i' j y z hy hz he => ?_, fun j y hy => ?_, fun j c hj => ?_⟩
  · rw [St.get_kill] at hj
    split at hj
    · cases hj
    · rename_i hne
      obtain ⟨y, oy, hy, hoy, hby⟩ := r.blocks j c hj
      exact ⟨y, oy, by rw [Phi.upd_other _ _ hne]; exact hy, hoy, hby.mono (PLe.kill hx)⟩
  · by_cases h1 : i' = i
    · subst h1; rw [Phi.upd_same] at hy; cases hy
    · by_cases h2 : j = i
      · subst h2; rw [Phi.upd_same] at hz; cases hz
      · rw [Phi.upd_other _ _ h1] at hy
        rw [Phi.upd_other _ _ h2] at hz
        exact r.inj i' j y z hy hz he
  · by_cases h1 : j = i
    · subst h1; rw [Phi.upd_same] at hy; cases hy
    · rw [Phi.upd_other _ _ h1] at hy; exact r.bound j y hy
  · rw [St.get_kill] at hj
    split at hj
    · cases hj
    · exact r.ids j c hj

theorem Trans.kill [Syms] {φ : Phi} {σ : St} {w : World} {i : Nat} {x : Ext} (hx : φ i = .live x) (hi : i < σ.next) : Trans φ σ w (φ.upd i .dead) (σ.kill i) w := by
  refine ⟨Nat.le_refl _, PLe.kill hx, fun j y _ hy => ?_, fun j hj => ?_, fun _ _ _ => rfl, fun _ _ h1 h2 _ => absurd h1 (by simpa using h2), Nat.le_refl _, rfl, rfl, rfl, fun j _ hu => ?_⟩
  · by_cases h1 : j = i
    · subst h1; rw [Phi.upd_same] at hy; cases hy
    · rwa [Phi.upd_other _ _ h1] at hy
  · exact Phi.upd_other _ _ (by simp at hj; omega)
  · by_cases h1 : j = i
    · subst h1; rw [hx] at hu; cases hu
    · rw [Phi.upd_other _ _ h1]; exact hu

theorem St.get_kill_new [Syms] (σ : St) (i j : Nat) (b : Blk) : ((σ.kill i).new b).get j = if j = σ.next then some b else if j = i then none else σ.get j := by
  have h1 : ((σ.kill i).new b).get j = if j = σ.next then some b else (σ.kill i).get j := by rw [St.get_new, St.next_kill]
  rw [h1, St.get_kill]

/-- A block that grew in place: the old number is dead, a new number lies at the old one's block. -/
theorem Rel.regrow [Syms] {φ : Phi} {σ : St} {h h' : Array Obj} (r : Rel φ σ h) {i : Nat} {x y : Ext} {b : Blk} {o : Obj} (hx : φ i = .live x) (hi : i < σ.next) (hf : φ σ.next = .unborn) (hy : y.blk = x.blk)
    (hs : h'.size = h.size) (ho : h'[x.blk]? = some o) (hk : ∀ k, k ≠ x.blk → h'[k]? = h[k]?) (hb : BRel ((φ.upd i .dead).upd σ.next (.live y)) y b o) :
    Rel ((φ.upd i .dead).upd σ.next (.live y)) ((σ.kill i).new b) h' := by
  have hne : σ.next ≠ i := by omega
  have hf' : (φ.upd i .dead) σ.next = .unborn := by rw [Phi.upd_other _ _ hne]; exact hf
  have hle : PLe φ ((φ.upd i .dead).upd σ.next (.live y)) := (PLe.kill hx).trans (PLe.upd_unborn hf')
  have back : ∀ j z, ((φ.upd i .dead).upd σ.next (.live y)) j = .live z → (j = σ.next ∧ z = y) ∨ (j ≠ σ.next ∧ j ≠ i ∧ φ j = .live z) := by
    intro j z hz
    by_cases h1 : j = σ.next
    · subst h1; rw [Phi.upd_same] at hz; cases hz; exact .inl ⟨rfl, rfl⟩
    · rw [Phi.upd_other _ _ h1] at hz
      by_cases h2 : j = i
      · subst h2; rw [Phi.upd_same] at hz; cases hz
      · rw [Phi.upd_other _ _ h2] at hz; exact .inr ⟨h1, h2, hz⟩
  refine ⟨fun j c hj => ?_, fun i' j z u hz hu he => ?_, fun j z hz => ?_, fun j c hj => ?_⟩
  · rw [St.get_kill_new] at hj
    by_cases hjn : j = σ.next
    · rw [if_pos hjn] at hj
      have he := hjn
      subst he
      simp only [Option.some.injEq] at hj
      subst hj
      exact ⟨y, o, by simp, by rw [hy]; exact ho, hb⟩
    · have hne' := hjn
      rw [if_neg hjn] at hj
      by_cases hji : j = i
      · rw [if_pos hji] at hj; cases hj
      · rw [if_neg hji] at hj
        obtain ⟨z, oz, hz, hoz, hbz⟩ := r.blocks j c hj
        exact ⟨z, oz, by rw [Phi.upd_other _ _ hne', Phi.upd_other _ _ hji]; exact hz, by rw [hk _ fun e => hji (r.inj j i z x hz hx e)]; exact hoz, hbz.mono hle⟩
  · rcases back i' z hz with ⟨rfl, rfl⟩ | ⟨h1, h2, hz'⟩ <;> rcases back j u hu with ⟨rfl, rfl⟩ | ⟨h3, h4, hu'⟩
    · rfl
    · exact absurd (r.inj j i u x hu' hx (he.symm.trans hy)) h4
    · exact absurd (r.inj i' i z x hz' hx (he.trans hy)) h2
    · exact r.inj i' j z u hz' hu' he
  · rw [hs]
    rcases back j z hz with ⟨rfl, rfl⟩ | ⟨_, _, hz'⟩
    · rw [hy]; exact r.bound i x hx
    · exact r.bound j z hz'
  · rw [St.get_kill_new] at hj
    by_cases hjn : j = σ.next
    · simp [hjn]
    · rw [if_neg hjn] at hj
      by_cases hji : j = i
      · rw [if_pos hji] at hj; cases hj
      · rw [if_neg hji] at hj
        have := r.ids j c hj; simp; omega

theorem Trans.regrow [Syms] {φ : Phi} {σ : St} {w w' : World} {i : Nat} {x y : Ext} {b : Blk} (hx : φ i = .live x) (hi : i < σ.next) (hf : φ σ.next = .unborn) (hy : y.blk = x.blk)
    (hs : w'.heap.size = w.heap.size) (hk : ∀ k, k ≠ x.blk → w'.heap[k]? = w.heap[k]?) (ht : w'.tape = w.tape) (hos : w'.os = w.os) (hout : w'.output = w.output) :
    Trans φ σ w ((φ.upd i .dead).upd σ.next (.live y)) ((σ.kill i).new b) w' := by
  have hne : σ.next ≠ i := by omega
  have hf' : (φ.upd i .dead) σ.next = .unborn := by rw [Phi.upd_other _ _ hne]; exact hf
  refine ⟨by simp, (PLe.kill hx).trans (PLe.upd_unborn hf'), fun j z hj hz => ?_, fun j hj => ?_, fun k _ hn => hk k fun e => hn i x hi hx e.symm, fun j z h1 h2 hz => ?_, by omega, ht, hos, hout, fun j hj hu => ?_⟩
  · rw [Phi.upd_other _ _ (by omega)] at hz
    by_cases h2 : j = i
    · subst h2; rw [Phi.upd_same] at hz; cases hz
    · rwa [Phi.upd_other _ _ h2] at hz
  · simp only [St.next_new, St.next_kill] at hj
    rw [Phi.upd_other _ _ (by omega), Phi.upd_other _ _ (by omega)]
  · obtain rfl : j = σ.next := by simp at h2; omega
    rw [Phi.upd_same] at hz
    cases hz
    exact .inr ⟨i, x, hi, hx, hy.symm⟩
  · rw [Phi.upd_other _ _ (by omega)]
    by_cases h1 : j = i
    · subst h1; rw [hx] at hu; cases hu
    · rw [Phi.upd_other _ _ h1]; exact hu

end Go.Ab
