/- A communication of which just one case can go on: what the machine does. -/
import Derived.Test.YtglelglhogfnfaaGreatAbMach
namespace Go.Ab

variable {P : Program} {E : Env}

/-- The goroutines beside the one that runs. -/
def fin0 : Array Goroutine := #[{ (default : Goroutine) with status := .finished }]

theorem partners_fin0 [Syms] (r : Nat) (s : Bool) : partners fin0 r s = [] := by
  simp [partners, fin0]

theorem step_lone_comm {fr fr' : Frame} {cs cs' : List Frame} {w w1 w' : World} {cases : Array CommCase} {bl : Bool} {sh : CommShape} {g' : Goroutine}
    (h : (stepG P true { frame := fr, callers := cs, status := .running, dying := none } w).bare = .comm { frame := fr', callers := cs', status := .running, dying := none } cases bl sh w1)
    (hc : ∀ rest, (communicate P rest fin0 0 { frame := fr', callers := cs', status := .running, dying := none } cases bl sh w1).1 = .next { world := w', gs := fin0.setIfInBounds 0 { frame := g'.frame, callers := g'.callers, status := .running, dying := none }, rest }) :
    step P (lone fr cs w) = .next (lone g'.frame g'.callers w') := by
  generalize hs : stepG P true { frame := fr, callers := cs, status := .running, dying := none } w = s at h
  cases s <;> simp at h
  obtain ⟨rfl, rfl, rfl, rfl, rfl⟩ := h
  rw [step, stepT, move_lone]
  have := hc { timers := #[], alone := none, slice := none }
  simp [runT, lone, Array.swapAt!, hs]
  simpa [fin0] using this

/-- A channel's block against the heap. -/
theorem Rel.chan [Syms] {φ : Phi} {σ : St} {h : Array Obj} (r : Rel φ σ h) {i i' cap : Nat} {buf : List Value} (hi : σ.get i = some (.chan cap buf)) (ho : ORel φ i i') :
    ∃ x buf' s rc, φ i = .live x ∧ x.blk = i' ∧ x.base = 0 ∧ h[i']? = some (.chan cap buf' false s rc false) ∧ VrelL φ buf buf'.toList := by
  obtain ⟨x, o, hx, hox, hb⟩ := r.blocks i _ hi
  unfold ORel at ho
  rw [hx] at ho
  obtain ⟨h1, h2⟩ := ho
  obtain ⟨buf', s, rc, rfl, _, hv⟩ := hb
  exact ⟨x, buf', s, rc, hx, h1, h2, by rw [← h1]; exact hox, hv⟩

theorem commReady_cons [Syms] (σ : St) (c : CommCase) (cs : List CommCase) (k : Nat) : commReady σ (c :: cs) k = (caseReady σ c).bind fun b => (commReady σ cs (k + 1)).map fun l => bif b then k :: l else l := rfl

theorem ways_rel [Syms] {φ : Phi} {σ : St} {w : World} (r : Rel φ σ w.heap) {c c' : CommCase} (hc : CRel φ c c') {b : Bool} (h : caseReady σ c = some b) :
    ways w fin0 c' = (if b then [.buffer] else []) ∧ (match c'.chan with | .chan none => true | .chan (some r) => (w.heap[r]? matches some (.chan ..)) | _ => false) = true := by
  obtain ⟨h1, h2, h3⟩ := hc
  unfold caseReady at h
  split at h
  · rename_i i hi
    rw [hi] at h1
    simp only [Vrel] at h1
    obtain ⟨i', he, ho⟩ := h1
    split at h
    · rename_i cap buf hg
      obtain ⟨x, buf', s, rc, hx, hb, h0, hh, hv⟩ := r.chan hg ho
      have hl := hv.length
      simp only [Array.length_toList] at hl
      simp only [Option.some.injEq] at h
      unfold ways
      simp only [he, hh]
      cases hs : c.send with
      | none =>
        rw [hs] at h3 h
        cases hs' : c'.send with
        | some v => rw [hs'] at h3; exact h3.elim
        | none =>
          refine ⟨?_, by first | rfl | simp⟩
          simp only [partners_fin0, hl]
          have hb' : Nat.blt 0 buf.length = b := h
          cases b with
          | true => have := of_bltT hb'; simp [this]
          | false =>
            have : ¬ 0 < buf.length := fun hlt => by rw [show Nat.blt 0 buf.length = true from Nat.ble_eq_true_of_le hlt] at hb'; cases hb'
            simp only [if_neg this, Bool.false_eq_true, if_false]
      | some v =>
        rw [hs] at h3 h
        cases hs' : c'.send with
        | none => rw [hs'] at h3; exact h3.elim
        | some v' =>
          refine ⟨?_, by first | rfl | simp⟩
          simp only [partners_fin0, hl]
          have hb' : Nat.blt buf.length cap = b := h
          cases b with
          | true => have := of_bltT hb'; simp [this]
          | false =>
            have : ¬ buf.length < cap := fun hlt => by rw [show Nat.blt buf.length cap = true from Nat.ble_eq_true_of_le hlt] at hb'; cases hb'
            simp only [if_neg this, Bool.false_eq_true, if_false]
    · cases h
  · rename_i hi
    rw [hi] at h1
    simp only [Vrel] at h1
    simp only [Option.some.injEq] at h
    subst h
    unfold ways
    simp [h1]
  · cases h

/-- The cases of two sides. -/
def CsList [Syms] (φ : Phi) : List CommCase → List CommCase → Prop
  | [], l => l = []
  | c :: cs, l => ∃ c' cs', l = c' :: cs' ∧ CRel φ c c' ∧ CsList φ cs cs'

theorem CsList.of_get [Syms] {φ : Phi} : ∀ {l l' : List CommCase}, l'.length = l.length → (∀ (k : Nat) (c : CommCase), l[k]? = some c → ∃ c' : CommCase, l'[k]? = some c' ∧ CRel φ c c') → CsList φ l l'
  | [], l', hl, _ => List.eq_nil_of_length_eq_zero (by simpa using hl)
  | c :: l, [], hl, _ => by simp at hl
  | c :: l, c' :: l', hl, h => by
    refine ⟨c', l', rfl, ?_, CsList.of_get (by simpa using hl) fun k d hk => by simpa using h (k + 1) d (by simpa using hk)⟩
    obtain ⟨d, h1, h2⟩ := h 0 c rfl
    simp only [List.getElem?_cons_zero, Option.some.injEq] at h1
    exact h1 ▸ h2

/-- Which can go on. -/
theorem ready_rel [Syms] {φ : Phi} {σ : St} {w : World} (r : Rel φ σ w.heap) : ∀ {l l' : List CommCase} {n : Nat} {ks : List Nat}, CsList φ l l' → commReady σ l n = some ks →
    (((l'.zipIdx n).map fun (c, k) => (k, c, ways w fin0 c)).filter fun (_, _, ws) => !ws.isEmpty) = ks.map (fun k => (k, (l'[k - n]?).getD default, [Way.buffer])) ∧
    (∀ k ∈ ks, n ≤ k ∧ k - n < l'.length) ∧ (∀ c ∈ l', (match c.chan with | .chan none => true | .chan (some r) => (w.heap[r]? matches some (.chan ..)) | _ => false) = true)
  | [], l', n, ks, h, hk => by
    simp only [CsList] at h
    subst h
    simp only [commReady, Option.some.injEq] at hk
    subst hk
    exact ⟨rfl, by simp, by simp⟩
  | c :: cs, _, n, ks, h, hk => by
    obtain ⟨c', cs', rfl, hc, hcs⟩ := h
    rw [commReady_cons] at hk
    cases hb : caseReady σ c with
    | none => rw [hb] at hk; cases hk
    | some b =>
      rw [hb] at hk
      simp only [Option.bind_some] at hk
      cases hr : commReady σ cs (n + 1) with
      | none => rw [hr] at hk; cases hk
      | some ks1 =>
        rw [hr] at hk
        simp only [Option.map_some, Option.some.injEq] at hk
        obtain ⟨w1, w2⟩ := ways_rel r hc hb
        obtain ⟨q1, q2, q3⟩ := ready_rel r hcs hr
        have hmap : ks1.map (fun k => (k, (cs'[k - (n + 1)]?).getD default, [Way.buffer])) = ks1.map (fun k => (k, ((c' :: cs')[k - n]?).getD default, [Way.buffer])) := by
          refine List.map_congr_left fun k hk => ?_
          obtain ⟨h1, h2⟩ := q2 k hk
          rw [show k - n = (k - (n + 1)) + 1 by omega, List.getElem?_cons_succ]
        rw [List.zipIdx_cons, List.map_cons]
        refine ⟨?_, ?_, ?_⟩
        · simp only [List.filter_cons, w1, q1, hmap]
          cases b with
          | true => simp only [cond_true] at hk; subst hk; simp
          | false => simp only [cond_false] at hk; subst hk; simp
        · intro k hkm
          cases b with
          | true =>
            simp only [cond_true] at hk; subst hk
            rcases List.mem_cons.1 hkm with rfl | hm
            · simp
            · obtain ⟨h1, h2⟩ := q2 k hm; simp only [List.length_cons]; omega
          | false =>
            simp only [cond_false] at hk; subst hk
            obtain ⟨h1, h2⟩ := q2 k hkm; simp only [List.length_cons]; omega
        · intro d hd
          rcases List.mem_cons.1 hd with rfl | hd
          · exact w2
          · exact q3 d hd

theorem commResult_rel [Syms] {φ : Phi} {l l' : List CommCase} (h : CsList φ l l') (sh : CommShape) (k : Int) {v v' : Value} (hv : Vrel φ v v') (ok : Bool) : Vrel φ (commResult l.toArray sh k v ok) (commResult l'.toArray sh k v' ok) := by
  cases sh with
  | send => exact undef_rel φ
  | recv b =>
    cases b with
    | false => exact hv
    | true =>
      simp only [commResult, Vrel]
      exact ⟨#[v', .bool ok], rfl, by simp only [VrelA, VrelL, Vrel]; exact ⟨v', [.bool ok], rfl, hv, .bool ok, [], rfl, rfl, rfl⟩⟩
  | select =>
    have key : ∀ {l l' : List CommCase} (n : Nat), CsList φ l l' → VrelL φ (((l.zipIdx n).filter (·.1.send.isNone)).map fun (c, j) => if (j : Int) = k then v else c.zero) (((l'.zipIdx n).filter (·.1.send.isNone)).map fun (c, j) => if (j : Int) = k then v' else c.zero) := by
      intro l
      induction l with
      | nil => intro l' n h; simp only [CsList] at h; subst h; exact VrelL.nil
      | cons c cs ih =>
        intro l' n h
        obtain ⟨c', cs', rfl, ⟨h1, h2, h3⟩, hcs⟩ := h
        have := ih (n + 1) hcs
        simp only [List.zipIdx_cons, List.filter_cons]
        cases hs : c.send with
        | none =>
          cases hs' : c'.send with
          | none =>
            simp only [Option.isNone_none, if_true, List.map_cons]
            refine VrelL.cons ?_ this
            split
            · exact hv
            · exact h2
          | some u => rw [hs, hs'] at h3; exact h3.elim
        | some u =>
          cases hs' : c'.send with
          | none => rw [hs, hs'] at h3; exact h3.elim
          | some u' => simpa using this
    have := key 0 h
    simp only [commResult, Vrel]
    refine ⟨_, rfl, ?_⟩
    rw [VrelA.iff]
    have h2 : VrelL φ (goInt k :: .bool ok :: _) (goInt k :: .bool ok :: _) := VrelL.cons (v := goInt k) (by simp [Vrel, goInt]) (VrelL.cons (v := .bool ok) (by simp [Vrel]) this)
    simpa using h2

/-- The step at a communication of which at most one case can go on. -/
theorem comm_sound [Syms] {φ : Phi} {σ σ' : St} {w : World} (r : Rel φ σ w.heap) {l : List CommCase} {l' : Array CommCase} (hl : CsList φ l l'.toList) {bl : Bool} {sh : CommShape} {v : Value} (h : aComm σ l bl sh = .val v σ') :
    ∃ v' w', Vrel φ v v' ∧ Rel φ σ' w'.heap ∧ Trans φ σ w φ σ' w' ∧ ∀ (g : Goroutine) (rest : Rest), (communicate P rest fin0 0 g l' bl sh w).1 = .next { world := w', gs := fin0.setIfInBounds 0 { g with frame := g.frame.finish v', status := .running, offers := none }, rest } := by
  unfold aComm at h
  cases hr : commReady σ l 0 with
  | none => rw [hr] at h; cases h
  | some ks =>
    obtain ⟨q1, q2, q3⟩ := ready_rel r hl hr
    have hill : ¬ (l'.any (fun c => match c.chan with | .chan none => false | .chan (some r) => !(w.heap[r]? matches some (.chan ..)) | _ => true) = true) := by
      rw [← Array.any_toList]
      intro ha
      obtain ⟨c, hc, hp⟩ := List.any_eq_true.1 ha
      have := q3 c hc
      split at this
      · rename_i hcn; simp [hcn] at hp
      · rename_i r' hcn
        simp only [hcn] at hp
        revert this hp
        cases w.heap[r']? with
        | none => intro this; cases this
        | some o => intro this; cases o <;> first | (intro hp; simp at hp; done) | cases this
      · cases this
    have hready : ((l'.zipIdx.toList.map fun (c, k) => (k, c, ways w fin0 c)).filter fun (_, _, ws) => !ws.isEmpty) = ks.map (fun k => (k, (l'.toList[k]?).getD default, [Way.buffer])) := by
      rw [Array.toList_zipIdx]
      simpa using q1
    simp only [hr] at h
    cases ks with
    | nil =>
      cases bl with
      | true => simp only [cond_true] at h; cases h
      | false =>
        simp only [cond_false, OR.val.injEq] at h
        obtain ⟨rfl, rfl⟩ := h
        refine ⟨_, w, commResult_rel hl sh (-1) (undef_rel φ) false, r, Trans.refl _ _ _, fun g rest => ?_⟩
        unfold communicate
        simp only []
        refine Eq.trans (congrArg Prod.fst (if_neg hill)) ?_
        generalize hR : List.filter _ _ = R
        have hR' : R = _ := hR.symm.trans hready
        subst hR'
        rfl
    | cons k ks => cases ks with
      | cons k2 ks => simp only at h; cases h
      | nil =>
        simp only at h
        obtain ⟨_, hk⟩ := q2 k (by simp)
        simp only [Nat.sub_zero] at hk
        cases hc : l[k]? with
        | none => rw [hc] at h; cases h
        | some c =>
          rw [hc] at h
          simp only at h
          have hget : ∀ {l l' : List CommCase} {k : Nat} {c : CommCase}, CsList φ l l' → l[k]? = some c → ∃ c', l'[k]? = some c' ∧ CRel φ c c' := by
            intro l
            induction l with
            | nil => intro l' k c _ hc; simp at hc
            | cons d ds ih =>
              intro l' k c hl hc
              obtain ⟨d', ds', rfl, h1, h2⟩ := hl
              cases k with
              | zero => simp only [List.getElem?_cons_zero, Option.some.injEq] at hc; subst hc; exact ⟨d', by simp, h1⟩
              | succ k => simpa using ih h2 (by simpa using hc)
          obtain ⟨c', hc', h1, h2, h3⟩ := hget hl hc
          rw [List.map_cons, List.map_nil, hc', Option.getD_some] at hready
          split at h
          · rename_i r0 u hch hsd
            rw [hch] at h1
            simp only [Vrel] at h1
            obtain ⟨r', he, hor⟩ := h1
            rw [hsd] at h3
            cases hs' : c'.send with
            | none => rw [hs'] at h3; exact h3.elim
            | some u' =>
              rw [hs'] at h3
              split at h
              · rename_i cap buf hg
                cases hkn : known u with
                | false => rw [hkn] at h; simp only [cond_false] at h; cases h
                | true =>
                  rw [hkn] at h
                  simp only [cond_true, OR.val.injEq] at h
                  obtain ⟨rfl, rfl⟩ := h
                  obtain ⟨x, buf', s, rc, hx, hb, h0, hh, hv⟩ := r.chan hg hor
                  have hlt : r' < w.heap.size := by
                    have := r.bound _ _ hx; rw [hb] at this; exact this
                  refine ⟨commResult l' sh k undef false, { w with heap := w.heap.setIfInBounds r' (.chan cap (buf'.push u') false (s + 1) rc false) }, commResult_rel hl sh k (undef_rel φ) false, ?_, ?_, fun g rest => ?_⟩
                  · refine r.put hg hx (by simp) (o' := .chan cap (buf'.push u') false (s + 1) rc false) (by rw [hb]; simp [hlt]) ⟨_, _, _, rfl, h0, by simpa using hv.append (VrelL.cons h3 VrelL.nil)⟩ fun j hj => ?_
                    rw [Array.getElem?_setIfInBounds_ne (by rw [← hb]; exact fun e => hj e.symm)]
                  · refine Trans.put r hg hx (by simp) (fun j hj => ?_) rfl rfl rfl
                    show (w.heap.setIfInBounds r' _)[j]? = _
                    rw [Array.getElem?_setIfInBounds_ne (by rw [← hb]; exact fun e => hj e.symm)]
                  · unfold communicate
                    simp only []
                    refine Eq.trans (congrArg Prod.fst (if_neg hill)) ?_
                    generalize hR : List.filter _ _ = R
                    have hR' : R = _ := hR.symm.trans hready
                    subst hR'
                    simp only [List.map_cons, List.map_nil, List.isEmpty_cons, Bool.false_eq_true, if_false, List.length_cons, List.length_nil]
                    simp [choose, Sem.run, Question.forced, he, hs', hh, Goroutine.finishComm]
              · cases h
          · rename_i r0 hch hsd
            rw [hch] at h1
            simp only [Vrel] at h1
            obtain ⟨r', he, hor⟩ := h1
            rw [hsd] at h3
            cases hs' : c'.send with
            | some u' => rw [hs'] at h3; exact h3.elim
            | none =>
              split at h
              · rename_i cap u buf hg
                simp only [OR.val.injEq] at h
                obtain ⟨rfl, rfl⟩ := h
                obtain ⟨x, buf', s, rc, hx, hb, h0, hh, hv⟩ := r.chan hg hor
                have hlt : r' < w.heap.size := by
                  have := r.bound _ _ hx; rw [hb] at this; exact this
                simp only [VrelL] at hv
                obtain ⟨u', bs', hbl, hu, hbs⟩ := hv
                have hd : buf'.getD 0 undef = u' := by rw [Array.getD_eq_getD_getElem?, ← Array.getElem?_toList, hbl]; rfl
                have hex : (buf'.extract 1 buf'.size).toList = bs' := by
                  have hsz : buf'.size = bs'.length + 1 := by rw [← Array.length_toList, hbl]; rfl
                  simp [List.extract_eq_take_drop, hbl, hsz]
                refine ⟨commResult l' sh k u' true, { w with heap := w.heap.setIfInBounds r' (.chan cap (buf'.extract 1 buf'.size) false s (rc + 1) false) }, commResult_rel hl sh k hu true, ?_, ?_, fun g rest => ?_⟩
                · refine r.put hg hx (by simp) (o' := .chan cap (buf'.extract 1 buf'.size) false s (rc + 1) false) (by rw [hb]; simp [hlt]) ⟨_, _, _, rfl, h0, by rw [hex]; exact hbs⟩ fun j hj => ?_
                  rw [Array.getElem?_setIfInBounds_ne (by rw [← hb]; exact fun e => hj e.symm)]
                · refine Trans.put r hg hx (by simp) (fun j hj => ?_) rfl rfl rfl
                  show (w.heap.setIfInBounds r' _)[j]? = _
                  rw [Array.getElem?_setIfInBounds_ne (by rw [← hb]; exact fun e => hj e.symm)]
                · unfold communicate
                  simp only []
                  refine Eq.trans (congrArg Prod.fst (if_neg hill)) ?_
                  generalize hR : List.filter _ _ = R
                  have hR' : R = _ := hR.symm.trans hready
                  subst hR'
                  simp only [List.map_cons, List.map_nil, List.isEmpty_cons, Bool.false_eq_true, if_false, List.length_cons, List.length_nil]
                  have hp := partners_fin0 r' true
                  simp [choose, Sem.run, Question.forced, he, hs', hh, Goroutine.finishComm, hp]
                  simp [← hd]
              · cases h
          · cases h

/-- The machine's step. -/
theorem op_comm [Syms] {b : Frame} {a : Act} {k : List Item} {cs : List Frame} {w w' : World} {ops : Array Oper} {i : Nat} {rest : List Nat} {o : Oper} (ho : ops[i]? = some o) (hw : Region.wanted o (yielded ops a.tmps) = true) (hs : ∀ ρ, o.semAt b.roundOf ρ = execOp ρ o)
    {cases : Array CommCase} {bl : Bool} {sh : CommShape} {v : Value} (hr : (execOp a.eval o).run P w = .ok (.comm cases bl sh) w)
    (hc : ∀ (g : Goroutine) (rest : Rest), (communicate P rest fin0 0 g cases bl sh w).1 = .next { world := w', gs := fin0.setIfInBounds 0 { g with frame := g.frame.finish v, status := .running, offers := none }, rest }) :
    step P (lone (b.atR a (.inRegion ops (i :: rest) :: k)) cs w) = .next (lone (b.atR (a.put o.dst v) (.inRegion ops rest :: k)) cs w') := by
  have hg := stepG_op' (P := P) (b := b) (k := k) (cs := cs) (w := w) (rest := rest) ho hw hs
  rw [← fin_at ho]
  exact step_lone_comm (fr' := b.atR a (.inRegion ops (i :: rest) :: k)) (cs' := cs) (cases := cases) (bl := bl) (sh := sh) (w1 := w)
    (g' := { frame := (b.atR a (.inRegion ops (i :: rest) :: k)).finish v, callers := cs, status := .running, dying := none })
    (by rw [hg]; simp [stepG.apply, hr]) (fun rest => hc _ rest)

end Go.Ab
