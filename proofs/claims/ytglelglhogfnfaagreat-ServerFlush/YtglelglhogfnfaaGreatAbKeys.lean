/- slices.Sorted(maps.Keys(m)), the keys ints: what a call of it comes to. -/
import Derived.Test.YtglelglhogfnfaaGreatAbLay
import Derived.Shelf.SlIterI.Nil
namespace Go.Ab
open Go.RowKit Go.Maps Go.ChangeMaps Go.MapKept
open Go.WideElems (Fit rd rg)

def intKey : Value → Option Int
  | .int .i64 n => bif decide (-9223372036854775808 ≤ n) && decide (n ≤ 9223372036854775807) then some n else none
  | _ => none
def intsOf : List (Value × Value) → Option (List Int)
  | [] => some []
  | p :: es => match intKey p.1, intsOf es with
    | some k, some l => some (k :: l)
    | _, _ => none
def insI (x : Int) : List Int → List Int
  | [] => [x]
  | y :: l => bif decide (x ≤ y) then x :: y :: l else y :: insI x l
def sortI : List Int → List Int
  | [] => []
  | x :: l => insI x (sortI l)
def freshAll (cl : Nat) : List Nat → Bool
  | [] => true
  | b :: bs => Nat.blt b cl && (!(bs.any (Nat.beq b)) && freshAll cl bs)
def nodupI : List Int → Bool
  | [] => true
  | x :: l => !(l.any (fun y => decide (x = y))) && nodupI l

noncomputable def rowOf (σ : St) : List Int → Value × St
  | [] => (.slice none 0 0, σ)
  | x :: l => (.slice (some ⟨σ.next, 0, none⟩) (Nat.succ l.length) openCap, σ.new (.cells ((x :: l).map (Value.int .i64)) 1))

/-- What a call comes to at what maps.Keys (its iterator: it) handed back. -/
noncomputable def sumKeys (it : Nat) (args : List Value) (σ : St) : Option (Value × St) :=
  match args with
  | [.func (.func g) a b] =>
    match Nat.beq g it, a.toList, b.toList with
    | true, [], [.pointer (some ⟨i, 0, none⟩)] =>
      match σ.get i with
      | some (.cells [.map (some r)] 0) =>
        match σ.get r with
        | some (.map es bs cl) =>
          match intsOf es with
          | some ks => bif nodupI ks && (freshAll cl bs && Nat.ble ks.length 1000) then some (rowOf σ (sortI ks)) else none
          | none => none
        | _ => none
      | _ => none
    | _, _, _ => none
  | _ => none

/-! ## Sorting -/

theorem insI_perm (x : Int) : ∀ l, (insI x l).Perm (x :: l)
  | [] => List.Perm.refl _
  | y :: l => by
    unfold insI
    cases h : decide (x ≤ y) with
    | true => exact List.Perm.refl _
    | false => exact ((insI_perm x l).cons y).trans (List.Perm.swap x y l)
theorem sortI_perm : ∀ l, (sortI l).Perm l
  | [] => List.Perm.refl _
  | x :: l => (insI_perm x (sortI l)).trans ((sortI_perm l).cons x)
theorem insI_sorted (x : Int) : ∀ {l : List Int}, l.Pairwise (· ≤ ·) → (insI x l).Pairwise (· ≤ ·)
  | [], _ => List.pairwise_singleton _ _
  | y :: l, h => by
    unfold insI
    cases hxy : decide (x ≤ y) with
    | true =>
      simp only [decide_eq_true_eq] at hxy
      refine List.Pairwise.cons (fun z hz => ?_) h
      rcases List.mem_cons.1 hz with rfl | hz
      · exact hxy
      · exact Int.le_trans hxy ((List.pairwise_cons.1 h).1 z hz)
    | false =>
      simp only [decide_eq_false_iff_not] at hxy
      refine List.Pairwise.cons (fun z hz => ?_) (insI_sorted x (List.pairwise_cons.1 h).2)
      rcases List.mem_cons.1 ((insI_perm x l).mem_iff.1 hz) with rfl | hz
      · omega
      · exact (List.pairwise_cons.1 h).1 z hz
theorem sortI_sorted : ∀ l, (sortI l).Pairwise (· ≤ ·)
  | [] => List.Pairwise.nil
  | x :: l => insI_sorted x (sortI_sorted l)

theorem mergeSort_eq_sortI {ss ks : List Int} (h : ss.Perm ks) : ss.mergeSort leI = sortI ks := by
  have tr : ∀ a b c : Int, leI a b = true → leI b c = true → leI a c = true := fun a b c h1 h2 => by simp only [leI, decide_eq_true_eq] at *; omega
  have to : ∀ a b : Int, (leI a b || leI b a) = true := fun a b => by simp only [leI, Bool.or_eq_true, decide_eq_true_eq]; omega
  refine List.Perm.eq_of_pairwise (le := fun a b => leI a b = true) (fun a b _ _ h1 h2 => ?_) (List.pairwise_mergeSort tr to ss) ((sortI_sorted ks).imp fun {a b} hab => by simpa [leI] using hab) (((List.mergeSort_perm ss leI).trans h).trans (sortI_perm ks).symm)
  simp only [leI, decide_eq_true_eq] at h1 h2
  omega

/-! ## The map as the library's contract wants it -/

theorem insert_perm {H : Type} (x : Lit × DataW H) : ∀ l, (DataW.insert x l).Perm (x :: l)
  | [] => List.Perm.refl _
  | y :: l => by
    unfold DataW.insert
    split
    · exact List.Perm.refl _
    · exact ((insert_perm x l).cons y).trans (List.Perm.swap x y l)
theorem foldr_insert_perm {H : Type} : ∀ l : List (Lit × DataW H), (l.foldr DataW.insert []).Perm l
  | [] => List.Perm.refl _
  | x :: l => (insert_perm x _).trans ((foldr_insert_perm l).cons x)

theorem nodupI_spec : ∀ {l : List Int}, nodupI l = true → l.Nodup
  | [], _ => List.nodup_nil
  | x :: l, h => by
    simp only [nodupI, Bool.and_eq_true, Bool.not_eq_true', List.any_eq_false, decide_eq_true_eq] at h
    exact List.nodup_cons.2 ⟨fun hm => h.1 x hm rfl, nodupI_spec h.2⟩
theorem freshAll_spec [Syms] {cl : Nat} : ∀ {l : List Nat}, freshAll cl l = true → l.Nodup ∧ ∀ b ∈ l, b < cl
  | [], _ => ⟨List.nodup_nil, fun _ h => by cases h⟩
  | b :: l, h => by
    simp only [freshAll, Bool.and_eq_true, Bool.not_eq_true', List.any_eq_false] at h
    obtain ⟨h1, h2, h3⟩ := h
    obtain ⟨k1, k2⟩ := freshAll_spec h3
    refine ⟨List.nodup_cons.2 ⟨fun hm => h2 b hm (Nat.beq_refl b), k1⟩, fun c hc => ?_⟩
    rcases List.mem_cons.1 hc with rfl | hc
    · exact of_bltT h1
    · exact k2 c hc

theorem intKey_spec {v : Value} {n : Int} (h : intKey v = some n) : v = .int .i64 n ∧ (Lit.int .i64 n).wf = true := by
  unfold intKey at h
  split at h
  · rename_i m
    cases hb : (decide (-9223372036854775808 ≤ m) && decide (m ≤ 9223372036854775807)) with
    | false => rw [hb] at h; cases h
    | true =>
      rw [hb] at h
      simp only [cond_true, Option.some.injEq] at h
      subst h
      refine ⟨rfl, ?_⟩
      simpa [Lit.wf, IntKind.min, IntKind.max, IntKind.bits, IntKind.signed] using hb
  · cases h

/-- Nothing is read of a value. -/
abbrev noVal : Value → Option (DataW Unit × List MemPlace) := fun _ => some (.nil, [])

theorem intsOf_rel [Syms] {P : Program} {kt : Nat} (hkt : P.underlying kt = some (.int .i64)) {φ : Phi} : ∀ {es : List (Value × Value)} {es' : List MapEntry} {ks : List Int}, EntRel φ es es'.toArray.toList → intsOf es = some ks →
    es'.map (·.key) = ks.map (Value.int .i64) ∧ (∀ x ∈ es', ∃ n, x.key = .int .i64 n ∧ rd P kt noVal x = some (.int .i64 n, .nil)) ∧ es'.map (fun x => rg P kt noVal x) = ks.map fun n => (Lit.int .i64 n, DataW.nil)
  | [], es', ks, h, hk => by
    have : es' = [] := by have := h.1; simpa using this
    subst this
    simp only [intsOf, Option.some.injEq] at hk
    subst hk
    exact ⟨rfl, fun x hx => (by cases hx), rfl⟩
  | p :: es, es', ks, h, hk => by
    obtain ⟨e', fs, rfl, e1, e2, e3, e4⟩ := h.cons
    unfold intsOf at hk
    split at hk
    · rename_i k l hk1 hk2
      simp only [Option.some.injEq] at hk
      subst hk
      obtain ⟨q1, q2⟩ := intKey_spec hk1
      obtain ⟨g1, g2, g3⟩ := intsOf_rel hkt (es' := fs) e4 hk2
      have hkey : e'.key = .int .i64 k := by rw [e1, q1]; rfl
      have hrd : rd P kt noVal e' = some (.int .i64 k, .nil) := by
        simp [WideElems.rd, keyOf, hkey, hkt, mapKey, q2, noVal]
      refine ⟨by simp [hkey, g1], fun x hx => ?_, by rw [List.map_cons, List.map_cons, g3, WideElems.rg, hrd]; rfl⟩
      rcases List.mem_cons.1 hx with rfl | hx
      · exact ⟨k, hkey, hrd⟩
      · exact g2 x hx
    · cases hk

/-! ## A block that the call has made -/

theorem Rel.newAt [Syms] {φ : Phi} {σ : St} {w w' : World} (r : Rel φ σ w.heap) {b : Blk} {x : Ext} {o : Obj} (hf : φ σ.next = .unborn) (hB : Below w.heap.size w w') (hx : w.heap.size ≤ x.blk) (ho : w'.heap[x.blk]? = some o)
    (hb : BRel (φ.upd σ.next (.live x)) x b o) : Rel (φ.upd σ.next (.live x)) (σ.new b) w'.heap ∧ Trans φ σ w (φ.upd σ.next (.live x)) (σ.new b) w' := by
  have hle : PLe φ (φ.upd σ.next (.live x)) := PLe.upd_unborn hf
  refine ⟨⟨fun j c hj => ?_, fun i j y z hy hz he => ?_, fun j y hy => ?_, fun j c hj => ?_⟩, ?_⟩
  · rw [St.get_new] at hj
    split at hj
    · rename_i he
      subst he
      simp only [Option.some.injEq] at hj
      subst hj
      exact ⟨x, o, by simp, ho, hb⟩
    · rename_i hne
      obtain ⟨y, oy, hy, hoy, hby⟩ := r.blocks j c hj
      exact ⟨y, oy, by rw [Phi.upd_other _ _ hne]; exact hy, by rw [hB.block _ (r.bound j y hy)]; exact hoy, hby.mono hle⟩
  · by_cases hi : i = σ.next
    · by_cases hj : j = σ.next
      · omega
      · subst hi
        rw [Phi.upd_same] at hy
        rw [Phi.upd_other _ _ hj] at hz
        have := r.bound j z hz
        cases hy
        omega
    · by_cases hj : j = σ.next
      · subst hj
        rw [Phi.upd_same] at hz
        rw [Phi.upd_other _ _ hi] at hy
        have := r.bound i y hy
        cases hz
        omega
      · rw [Phi.upd_other _ _ hi] at hy
        rw [Phi.upd_other _ _ hj] at hz
        exact r.inj i j y z hy hz he
  · by_cases hj : j = σ.next
    · subst hj
      rw [Phi.upd_same] at hy
      cases hy
      exact (Array.getElem?_eq_some_iff.1 ho).1
    · rw [Phi.upd_other _ _ hj] at hy
      exact Nat.lt_of_lt_of_le (r.bound j y hy) hB.size
  · rw [St.get_new] at hj
    split at hj
    · rename_i he; simp [he]
    · have := r.ids j c hj; simp; omega
  · refine ⟨by simp, hle, fun i y hi hy => ?_, fun i hi => ?_, fun k hk _ => hB.block k hk, fun i y h1 h2 hy => ?_, hB.size, hB.tape, hB.os, hB.output, fun i hi hu => by rw [Phi.upd_other _ _ (by omega)]; exact hu⟩
    · rwa [Phi.upd_other _ _ (by omega)] at hy
    · exact Phi.upd_other _ _ (by simp at hi; omega)
    · obtain rfl : i = σ.next := by simp at h2; omega
      rw [Phi.upd_same] at hy
      cases hy
      exact .inl hx

theorem sumKeys_sound [Syms] {P : Program} {fS it kt : Nat} (hkt : P.underlying kt = some (.int .i64))
    (hC : ∀ (w : World) (Bm b nn : Nat) (D0 : DataW Unit) (R : Value → Option (DataW Unit × List MemPlace)), Bm < w.heap.size → w.cell? ⟨Bm, 0, none⟩ = some (.map (some b)) → w.ownsMap P kt R b nn D0 → Maps.size D0 ≤ maxLen → Maps.size D0 * 8 ≤ 140737488355328 →
      Calls P fS #[.func (.func it) #[] #[.pointer (some ⟨Bm, 0, none⟩)]] w fun e w' => ∃ (v : Value) (ss : List Int), e = .returned v ∧ ss.Perm (intKeys D0) ∧ w'.ownsRow w.heap.size kt 1 v ss.length ((ss.mergeSort leI).map encZ) ∧ (v = .slice none 0 0 ↔ ss = []) ∧ Below w.heap.size w w')
    {args : List Value} {σ σ' : St} {v : Value} (h : sumKeys it args σ = some (v, σ')) (φ : Phi) (w : World) (args' : Array Value) (r : Rel φ σ w.heap) (ha : VrelL φ args args'.toList) (hf : Fresh φ σ.next σ'.next) :
    Calls P fS args' w fun e w' => ∃ φ' v', e = .returned v' ∧ Vrel φ' v v' ∧ Rel φ' σ' w'.heap ∧ Trans φ σ w φ' σ' w' := by
  unfold sumKeys at h
  split at h
  · rename_i g a b
    split at h
    · rename_i i hg hal hbl
      obtain rfl := of_beqT hg
      split at h
      · rename_i m hgi
        split at h
        · rename_i es bs cl hgm
          split at h
          · rename_i ks hks
            cases hc : (nodupI ks && (freshAll cl bs && Nat.ble ks.length 1000)) with
            | false => rw [hc] at h; cases h
            | true =>
              rw [hc] at h
              simp only [cond_true, Option.some.injEq] at h
              simp only [Bool.and_eq_true] at hc
              obtain ⟨hnd, hfr, hle⟩ := hc
              have hle := of_bleT hle
              obtain ⟨fb1, fb2⟩ := freshAll_spec hfr
              -- the arguments
              have ea : a = #[] := by apply Array.ext'; exact hal
              have eb : b = #[.pointer (some ⟨i, 0, none⟩)] := by apply Array.ext'; exact hbl
              subst ea eb
              simp only [VrelL, Vrel, VrelA] at ha
              obtain ⟨v1, l1, hargs, ⟨fi, ca, rfl, hfi, hca⟩, rfl⟩ := ha
              have efi : fi = #[] := by
                apply Array.ext'
                simpa using hfi
              obtain ⟨v2, l2, hca1, ⟨a', rfl, har⟩, rfl⟩ := hca
              have eca : ca = #[.pointer (some a')] := by apply Array.ext'; exact hca1
              have eargs : args' = #[.func (.func g) fi ca] := by apply Array.ext'; exact hargs
              subst efi eca eargs
              -- the map
              obtain ⟨x, c, t, fr, hx, ho, hbr⟩ := r.cells hgi
              obtain ⟨_, _, _, heq, k2, k3, k4, k5, k6, k7⟩ := id hbr
              cases heq
              have hb0 : x.base = 0 := k5.2 k5.1.symm
              obtain ⟨_, ha'⟩ := har.live hx
              simp only [hb0, Nat.zero_add, Nat.add_zero] at ha'
              subst ha'
              obtain ⟨v', hv1, hv2⟩ := k7.get (i := 0) (v := .map (some m)) rfl
              simp only [Vrel] at hv2
              obtain ⟨m', rfl, hm⟩ := hv2
              have hcell : w.cell? ⟨x.blk, 0, none⟩ = some (.map (some m')) := by
                simp only [World.cell?, ho]
                rw [List.getElem?_take] at hv1
                split at hv1
                · rw [List.getElem?_drop, hb0] at hv1
                  simpa using hv1
                · cases hv1
              obtain ⟨y, oy, hy, hoy, es', rfl, hyb, hent, hbs⟩ := r.blocks _ _ hgm
              unfold ORel at hm
              rw [hy] at hm
              obtain ⟨rfl, _⟩ := hm
              obtain ⟨q1, q2, q3⟩ := intsOf_rel hkt (es' := es'.toList) (by simpa using hent) hks
              have hlen : es'.size = ks.length := by have := congrArg List.length q1; simpa using this
              have hFit : Fit P kt noVal es' cl := by
                refine ⟨by rw [hlen]; exact Nat.le_trans hle (by decide), ⟨fun z hz => fb2 _ (by rw [← hbs]; exact List.mem_map.2 ⟨z, hz, rfl⟩), by rw [hbs]; exact fb1, ?_⟩, fun z hz => ?_⟩
                · rw [q1]
                  exact List.Pairwise.map _ (fun a b hab e => hab (by simpa using e)) (nodupI_spec hnd)
                · obtain ⟨n, _, h2⟩ := q2 z hz
                  exact ⟨_, h2⟩
              have hown : w.ownsMap P kt noVal y.blk es'.size (.map ((es'.toList.map (rg P kt noVal)).foldr DataW.insert [])) := ⟨es', cl, hoy, hFit, Nat.le_refl _, rfl⟩
              have hperm : (intKeys (DataW.map ((es'.toList.map (rg P kt noVal)).foldr DataW.insert []))).Perm ks := by
                show (((es'.toList.map (rg P kt noVal)).foldr DataW.insert []).map fun p => intOf p.1).Perm ks
                refine ((foldr_insert_perm _).map _).trans ?_
                rw [show es'.toList.map (rg P kt noVal) = ks.map fun n => (Lit.int .i64 n, DataW.nil) from q3, List.map_map]
                have : (ks.map ((fun p : Lit × DataW Unit => intOf p.1) ∘ fun n => (Lit.int .i64 n, DataW.nil))) = ks := by
                  conv => rhs; rw [← List.map_id ks]
                  rfl
                rw [this]
              have hsize : Maps.size (DataW.map ((es'.toList.map (rg P kt noVal)).foldr DataW.insert [])) = ks.length := by
                have := hperm.length_eq
                simpa [intKeys, Maps.size] using this
              refine (hC w x.blk y.blk es'.size _ noVal (r.bound _ _ hx) hcell hown (by rw [hsize]; exact Nat.le_trans hle (by decide)) (by rw [hsize]; omega)).mono fun e w' ⟨v0, ss, he, hss, hrow, hnil, hB⟩ => ?_
              have hsk : ss.Perm ks := hss.trans hperm
              rw [mergeSort_eq_sortI hsk] at hrow
              cases hso : sortI ks with
              | nil =>
                rw [hso] at h
                simp only [rowOf, Prod.mk.injEq] at h
                obtain ⟨rfl, rfl⟩ := h
                have hk0 : ks = [] := by have := sortI_perm ks; rw [hso] at this; exact List.nil_perm.1 this
                have hs0 : ss = [] := by rw [hk0] at hsk; exact List.perm_nil.1 hsk
                have hv0 := hnil.2 hs0
                subst hv0
                refine ⟨φ, _, he, by simp [Vrel], ⟨fun i b hb' => ?_, r.inj, fun i x hx => Nat.lt_of_lt_of_le (r.bound i x hx) hB.size, r.ids⟩,
                  ⟨Nat.le_refl _, PLe.refl _, fun _ _ _ h => h, fun _ _ => rfl, fun b hb' _ => hB.block b hb', fun _ _ h1 h2 _ => absurd h1 (Nat.not_le.2 h2), hB.size, hB.tape, hB.os, hB.output, fun _ _ h => h⟩⟩
                obtain ⟨x, o, h1, h2, h3⟩ := r.blocks i b hb'
                exact ⟨x, o, h1, by rw [hB.block _ (r.bound i x h1)]; exact h2, h3⟩
              | cons z l =>
                rw [hso] at h hrow
                simp only [rowOf, Prod.mk.injEq] at h
                obtain ⟨rfl, rfl⟩ := h
                have hsl : ss.length = l.length + 1 := by
                  have h1 := hsk.length_eq
                  have h2 := (sortI_perm ks).length_eq
                  rw [hso] at h2
                  simp at h2
                  omega
                have hne : ss ≠ [] := fun e => by rw [e] at hsl; simp at hsl
                obtain ⟨hl1, hr⟩ := hrow
                rcases hr with ⟨hv0, _⟩ | ⟨gb, cap, cur, hv0, hbase, hgb, hnc, hcm, hcs, htk⟩
                · exact absurd (hnil.1 hv0) hne
                · have hun := hf σ.next (Nat.le_refl _) (by simp)
                  have hnew := Rel.newAt (b := .cells ((z :: l).map (Value.int .i64)) 1) (x := ⟨gb, 0, cur.size, l.length + 1, 1⟩) (o := .cells cur kt (0, 0)) r hun hB hbase hgb
                    ⟨cur, kt, (0, 0), rfl, by simp, by simp, by simp only; omega, ⟨rfl, fun h => by cases h⟩, .inl rfl, by
                      simp only [List.drop_zero]
                      rw [hsl] at htk
                      simp only [Nat.mul_one] at htk
                      rw [htk]
                      exact VrelL.map_of (z :: l) fun k _ => by simp [Vrel]⟩
                  refine ⟨_, _, he, ?_, hnew.1, hnew.2⟩
                  subst hv0
                  rw [hsl]
                  simp only [Vrel]
                  refine ⟨_, _, rfl, ?_⟩
                  unfold SRel
                  simp only [Phi.upd_same, Nat.le_refl, if_true]
                  have hml : maxLen < openCap := by decide
                  exact ⟨by omega, trivial, Nat.one_pos, by omega, by omega, by omega, .inr (ARel.new φ σ.next _ rfl)⟩
          · cases h
        · cases h
      · cases h
    · cases h
  · cases h

end Go.Ab
