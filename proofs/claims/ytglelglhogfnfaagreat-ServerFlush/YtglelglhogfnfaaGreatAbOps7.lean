/- Conversions, assertions, maps. -/
import Derived.Test.YtglelglhogfnfaaGreatAbOps6
namespace Go.Ab

variable {P : Program} {E : Env}

theorem push_modify [Syms] (h : Array Obj) (o : Obj) (f : Obj → Obj) : (h.push o).modify h.size f = h.push (f o) := by
  apply Array.ext_getElem?
  intro i
  rw [Array.getElem?_modify, Array.getElem?_push, Array.getElem?_push]
  by_cases hi : i = h.size
  · subst hi; simp
  · rw [if_neg (by omega), if_neg hi, if_neg hi]

theorem run_bytesToString [Syms] {w : World} {a : Option Addr} {len cap : Nat} {vs : List Value} {bs : List UInt8} (h : (Builtin.firstCells 1 len (.slice a len cap)).run P w = .ok vs.toArray w) (hb : bytesOf? vs = some bs) :
    (Conv.bytesToString (.slice a len cap)).run P w = .ok (.string ⟨bs.toArray⟩) w := by
  cases a with
  | none =>
    simp only [Builtin.firstCells, Sem.run_pure, Result.ok.injEq, and_true] at h
    have : vs = [] := by have := congrArg Array.toList h; simpa using this.symm
    subst this
    simp only [bytesOf?, Option.some.injEq] at hb
    subst hb
    rfl
  | some a =>
    simp only [Builtin.firstCells, Nat.mul_one] at h
    simp only [Conv.bytesToString, Sem.run_bind, h, Result.andThen_ok]
    rw [← Array.forIn_toList]
    rw [show vs.toArray.toList = vs from rfl]
    rw [run_bytes_loop (fun n s w => rfl) w vs bs hb ByteArray.empty]
    simp only [Result.andThen_ok, Sem.run_pure]
    congr 3
    apply Array.ext'
    simp

/-- A string's bytes in a new row. -/
theorem stringToBytes_sound [Syms] (hE : EnvOk P E) {φ : Phi} {σ : St} {w : World} (r : Rel φ σ w.heap) {src dst e : Nat} {s : ByteArray} {l : List Value} (hl : ∀ φ, VrelL φ l (ofBytes s.data.toList))
    (hu1 : E.under src = some .string) (hu2 : E.under dst = some (.slice e)) (hu3 : E.under e = some (.int .u8)) (hq : Nat.ble l.length 70368744177664 = true) (hf : Fresh φ σ.next (σ.new (.cells l 1)).next) :
    OpOk φ σ w (.val (.slice (some ⟨σ.next, 0, none⟩) l.length openCap) (σ.new (.cells l 1))) ((do pure (.value (← Go.convert src dst (.string s))) : Sem Next).run P w) := by
  have hq := of_bleT hq
  have hsz : s.size = s.data.toList.length := by simp
  have hol : l.length = s.size := by rw [← (hl φ).length]; simp [ofBytes]
  let cap := Question.cut (.appendCap s.size 0 e) (w.tape w.drawn (.appendCap s.size 0 e))
  have hcap : s.size ≤ cap ∧ cap < openCap := by
    have hlt := Nat.mod_lt (w.tape w.drawn (.appendCap s.size 0 e)) (show 0 < 2 ^ 63 - s.size by omega)
    simp only [cap, Question.cut]
    unfold openCap
    omega
  let c : Array Value := (s.data.map fun b => Value.int .u8 b.toNat) ++ Array.replicate (cap - s.size) (.int .u8 0)
  have hcs : c.size = cap := by
    have : s.data.size = s.size := rfl
    simp only [c, Array.size_append, Array.size_map, Array.size_replicate, this]; omega
  let w1 : World := { w with heap := w.heap.push (.cells c e (c.size, c.size + 1)), drawn := w.drawn + 1 }
  have htake : c.toList.take l.length = ofBytes s.data.toList := by
    have h0 : l.length = (ofBytes s.data.toList).length := by rw [hol]; simp [ofBytes]
    rw [h0]
    simp only [c, Array.toList_append, Array.toList_map, ofBytes]
    exact List.take_left
  obtain ⟨φ', p1, p2, p3⟩ := newRow_sound (w' := w1) r hf (l := l) (c := c) (by rw [htake]; exact hl _) (by rw [hol, hcs]; exact hcap.1) 1 e (c.size, c.size + 1) (.inr (Nat.le_refl _)) rfl rfl rfl rfl
  refine ⟨φ', w1, .slice (some ⟨w.heap.size, 0, none⟩) s.size cap, .inl ?_, ?_, p2, p3⟩
  · have hrun : (Conv.stringToBytes e s).run P w = .ok (.slice (some ⟨w.heap.size, 0, none⟩) s.size cap) w1 := by
      have hch : (choose (.appendCap s.size 0 e)).run P w = .ok cap { w with drawn := w.drawn + 1 } := rfl
      simp only [Conv.stringToBytes, Sem.run_bind, hch, Result.andThen_ok, run_newRow, markStringish, run_shape, World.shape?]
      have hget : (w.heap.push (.cells c e (0, 0)))[w.heap.size]? = some (.cells c e (0, 0)) := by simp
      have hget' : (w.heap.push (.cells ((s.data.map fun b => Value.int .u8 b.toNat) ++ Array.replicate (cap - s.size) (.int .u8 0)) e (0, 0)))[w.heap.size]? = some (.cells c e (0, 0)) := by simp [c]
      simp only [hget', run_freeze, Result.andThen_ok, Sem.run_pure, World.freeze, Nat.one_ne_zero, if_false]
      simp only [w1, push_modify]
      rfl
    simp only [Go.convert, Sem.run_bind, run_under hE hu1, run_under hE hu2, Result.andThen_ok, run_under hE hu3, hrun, Sem.run_pure]
  · subst p1
    simp only [Vrel]
    rw [hol]
    refine ⟨_, _, rfl, ?_⟩
    unfold SRel
    simp only [Phi.upd_same, Nat.le_refl, if_true]
    exact ⟨hcap.1, trivial, Nat.one_pos, by omega, by rw [hcs]; omega, hcap.2, .inr (ARel.new φ σ.next _ rfl)⟩

theorem run_bytesToString' [Syms] {w : World} {a : Option Addr} {len cap : Nat} {bs : List UInt8} (h : (Builtin.firstCells 1 len (.slice a len cap)).run P w = .ok (ofBytes bs).toArray w) :
    (Conv.bytesToString (.slice a len cap)).run P w = .ok (.string ⟨bs.toArray⟩) w := by
  refine run_bytesToString h ?_
  induction bs with
  | nil => rfl
  | cons b bs ih =>
    have ih' : bytesOf? (ofBytes bs) = some bs := by
      clear h ih
      induction bs with
      | nil => rfl
      | cons c cs ih =>
        have : ofBytes (c :: cs) = .int .u8 c.toNat :: ofBytes cs := rfl
        rw [this, bytesOf?, ih]
        simp [byteOf?]
    have : ofBytes (b :: bs) = .int .u8 b.toNat :: ofBytes bs := rfl
    rw [this, bytesOf?, ih']
    simp [byteOf?]

theorem aConv_sound [Syms] (hE : EnvOk P E) {φ : Phi} {σ : St} {w : World} (r : Rel φ σ w.heap) {src dst : Nat} {x x' : Value} (hx : Vrel φ x x') (hf : ∀ v σ', aConv E σ src dst x = .val v σ' → Fresh φ σ.next σ'.next) :
    OpOk φ σ w (aConv E σ src dst x) ((do pure (.value (← Go.convert src dst x')) : Sem Next).run P w) := by
  unfold aConv at hf ⊢
  split
  · rename_i ds k k' n hu1 hu2
    simp only [Vrel] at hx; subst hx
    refine .pure (v' := .int k (k.wrap n)) r ?_ (by simp [Vrel])
    simp only [Go.convert, Sem.run_bind, run_under hE hu1, run_under hE hu2, Result.andThen_ok, Conv.intToInt, Sem.run_pure]
  · rename_i ds s hu1 hu2
    simp only [Vrel] at hx; subst hx
    refine .pure (v' := .string s) r ?_ (by simp [Vrel])
    simp only [Go.convert, Sem.run_bind, run_under hE hu1, run_under hE hu2, Result.andThen_ok, Sem.run_pure]
  · rename_i e s hu1 hu2
    simp only [hu1, hu2] at hf
    simp only [Vrel] at hx; subst hx
    split
    · rename_i hu3
      simp only [hu3] at hf
      cases hq : Nat.ble s.data.toList.length 70368744177664 with
      | false => simp only [cond_false]; exact trivial
      | true =>
        simp only [hq, cond_true] at hf ⊢
        have hlen : (ofBytes s.data.toList).length = s.data.toList.length := by simp [ofBytes]
        have := stringToBytes_sound (P := P) hE r (l := ofBytes s.data.toList) (fun φ => ofBytes_closed _) hu1 hu2 hu3 (by rw [hlen]; exact hq) (hf _ _ rfl)
        rw [hlen] at this
        exact this
    · exact trivial
  · rename_i e a len cap hu1 hu2
    split
    · rename_i hu3
      cases a with
      | none =>
        simp only [Vrel] at hx; subst hx
        refine .pure (v' := .string .empty) r ?_ (by simp [Vrel])
        simp only [Go.convert, Sem.run_bind, run_under hE hu1, run_under hE hu2, Result.andThen_ok, run_under hE hu3, Conv.bytesToString, Sem.run_pure]
      | some a =>
        simp only
        split
        · rename_i vs hl
          have hsv := hx
          simp only [Vrel] at hx
          obtain ⟨a', cap', rfl, hsr⟩ := hx
          obtain ⟨vs', v1, v2⟩ := firstN_sound (P := P) (w := w) (size := 1) (n := len) (vs := vs) r (by simp only [firstN, Nat.mul_one]; exact hl) hsv rfl (Nat.le_refl _)
          split
          · rename_i bs hb
            have := bytesOf_sound vs bs hb v2
            subst this
            refine .pure (v' := .string ⟨bs.toArray⟩) r ?_ (by simp [Vrel])
            simp only [Go.convert, Sem.run_bind, run_under hE hu1, run_under hE hu2, Result.andThen_ok, run_under hE hu3, run_bytesToString (v1 w rfl) hb, Sem.run_pure]
          · cases hs : E.str vs with
            | none => exact trivial
            | some v =>
              obtain ⟨s, h1, h2⟩ := hE.str vs v hs
              have h2 := h2 φ vs' v2
              subst h2
              refine .pure (v' := .string s) r ?_ (h1 φ)
              have hs' : (⟨s.data.toList.toArray⟩ : ByteArray) = s := rfl
              have := run_bytesToString' (v1 w rfl)
              rw [hs'] at this
              simp only [Go.convert, Sem.run_bind, run_under hE hu1, run_under hE hu2, Result.andThen_ok, run_under hE hu3, this, Sem.run_pure]
        · exact trivial
    · exact trivial
  · rename_i e i hu1 hu2
    simp only [hu1, hu2] at hf
    split
    · rename_i hu3
      simp only [hu3] at hf
      split
      · rename_i l hl
        simp only [hl] at hf
        obtain ⟨s, h1, h2⟩ := hE.lay i l hl
        simp only [Vrel, if_true] at hx
        cases hq : Nat.ble l.length 70368744177664 with
        | false => simp only [cond_false]; exact trivial
        | true =>
          simp only [hq, cond_true] at hf ⊢
          have hx' : x' = .string s := by simpa [h1] using hx
          subst hx'
          exact stringToBytes_sound (P := P) hE r h2 hu1 hu2 hu3 hq (hf _ _ rfl)
      · exact trivial
    · exact trivial
  · rename_i e a len cap hu1 hu2
    split
    · rename_i l0 e0 hsd hu3 hg
      cases hl : Nat.blt 0 len with
      | false => exact trivial
      | true =>
        have hl := of_bltT hl
        simp only [cond_true]
        have hsv := hx
        simp only [Vrel] at hx
        obtain ⟨a', cap', rfl, hsr⟩ := hx
        obtain ⟨x, o, hlx, ho, hb⟩ := r.blocks _ _ hg
        have har : ARel φ a a' := by
          unfold SRel at hsr
          rw [hlx] at hsr
          simp only at hsr
          obtain ⟨h1, h2⟩ := hsr
          split at h2
          · obtain ⟨_, _, _, _, _, h | h⟩ := h2
            · omega
            · exact h
          · obtain ⟨hc, h | h⟩ := h2
            · omega
            · exact h
        obtain ⟨_, he'⟩ := har.live hlx
        have hblk : a'.block = x.blk := by rw [he']
        obtain ⟨c, t, fr, rfl, g2, g3, g4, g5, g6, g7⟩ := id hb
        have hlt : x.blk < w.heap.size := (Array.getElem?_eq_some_iff.1 ho).1
        let w' : World := w.freeze { block := x.blk, off := c.size } 1
        have hmark : (markStringish a').run P w = .ok () w' := by
          simp only [markStringish, Sem.run_bind, run_shape, World.shape?, hblk, ho, Result.andThen_ok, run_freeze]
          rfl
        have htouch := Rel.touch (w' := w') r hg hlx (o' := .cells c t (if fr.1 == fr.2 then (c.size, c.size + 1) else (min fr.1 c.size, max fr.2 (c.size + 1)))) (by simp [w', World.freeze]) (by
          simp only [w', World.freeze, Nat.one_ne_zero, if_false]
          rw [Array.getElem?_modify, if_pos rfl, ho]
          rfl) ⟨c, t, _, rfl, g2, g3, g4, g5, by
            split
            · exact .inr (Nat.le_refl _)
            · rename_i hne
              rcases g6 with h | h
              · exact absurd (by simpa using h) hne
              · exact .inr (by show c.size ≤ min fr.1 c.size; omega), g7⟩ (fun k hk => by
          simp only [w', World.freeze, Nat.one_ne_zero, if_false]
          rw [Array.getElem?_modify, if_neg (fun e => hk e.symm)]) rfl rfl rfl
        refine ⟨φ, w', _, .inl ?_, hsv, htouch.1, htouch.2⟩
        have hsd := of_beqT hsd
        subst hsd
        simp only [Go.convert, Sem.run_bind, run_under hE hu2, Result.andThen_ok, run_under hE hu3, beq_self_eq_true, hmark, Sem.run_pure]
    · exact trivial
  · exact trivial

/-! ## Assertions -/

theorem aTypeAssert_sound [Syms] (hE : EnvOk P E) {φ : Phi} {x x' v : Value} {xt asserted : Nat} {ok : Bool} (h : aTypeAssert E x asserted ok = some v) (hx : Vrel φ x x') (w : World) :
    ∃ v', (Instr.typeAssert x' xt asserted ok).run P w = .ok v' w ∧ Vrel φ v v' := by
  have holds : ∀ {y y' : Value}, Vrel φ y y' → (some (if ok = true then Value.tuple #[y, .bool true] else y) : Option Value) = some v →
      ∃ v', (if ok = true then Value.tuple #[y', .bool true] else y') = v' ∧ Vrel φ v v' := by
    intro y y' hy he
    simp only [Option.some.injEq] at he
    subst he
    refine ⟨_, rfl, ?_⟩
    split
    · simp only [Vrel, VrelA, VrelL]; exact ⟨_, rfl, _, _, rfl, hy, _, _, rfl, rfl, rfl⟩
    · exact hy
  have fails : (if ok = true then (E.zero asserted).map fun z => Value.tuple #[z, .bool false] else none) = some v → ∀ (a b : Option TypeId) (s : String),
      ∃ v', (if ok = true then (do pure (.tuple #[← zeroValue asserted, .bool false]) : Sem Value) else runtimePanic (.typeAssertion a b asserted s)).run P w = .ok v' w ∧ Vrel φ v v' := by
    intro he a b s
    cases ok with
    | false => simp at he
    | true =>
      simp only [if_true] at he ⊢
      cases hz : E.zero asserted with
      | none => simp [hz] at he
      | some z =>
        simp only [hz, Option.map_some, Option.some.injEq] at he
        subst he
        refine ⟨.tuple #[z, .bool false], by simp [run_zero hE hz], ?_⟩
        simp only [Vrel, VrelA, VrelL]
        exact ⟨_, rfl, _, _, rfl, Vrel.closed_refl φ z (hE.zclosed _ _ hz), _, _, rfl, rfl, rfl⟩
  unfold aTypeAssert at h
  simp only at h
  split at h
  · rename_i ms hu
    simp only [Vrel] at hx; subst hx
    simpa [Instr.typeAssert, run_under hE hu] using fails h none none ""
  · rename_i want t y hu
    simp only [Vrel] at hx
    obtain ⟨y', rfl, hy⟩ := hx
    split at h
    · rename_i i hi
      split at h
      · rename_i hm
        obtain ⟨v', e1, e2⟩ := holds (y := .iface t y) (y' := .iface t y') (by simp only [Vrel]; exact ⟨_, rfl, hy⟩) h
        exact ⟨v', by simp [Instr.typeAssert, run_under hE hu, run_info hE hi, hm, e1], e2⟩
      · rename_i m hm
        obtain ⟨v', e1, e2⟩ := fails h none (some t) m
        exact ⟨v', by simpa [Instr.typeAssert, run_under hE hu, run_info hE hi, hm] using e1, e2⟩
    · cases h
  · rename_i d hne hu
    simp only [Vrel] at hx; subst hx
    obtain ⟨v', e1, e2⟩ := fails h (some xt) none ""
    refine ⟨v', ?_, e2⟩
    simp only [Instr.typeAssert, Sem.run_bind, run_under hE hu, Result.andThen_ok]
    cases d <;> first | exact e1 | exact absurd rfl (hne _)
  · rename_i d t y hne hu
    simp only [Vrel] at hx
    obtain ⟨y', rfl, hy⟩ := hx
    split at h
    · rename_i he
      subst he
      obtain ⟨v', e1, e2⟩ := holds hy h
      refine ⟨v', ?_, e2⟩
      simp only [Instr.typeAssert, Sem.run_bind, run_under hE hu, Result.andThen_ok]
      cases d <;> first | (simp [e1]; done) | exact absurd rfl (hne _)
    · rename_i he
      obtain ⟨v', e1, e2⟩ := fails h (some xt) (some t) ""
      refine ⟨v', ?_, e2⟩
      simp only [Instr.typeAssert, Sem.run_bind, run_under hE hu, Result.andThen_ok]
      cases d <;> first | (simp only [he, if_false]; exact e1) | exact absurd rfl (hne _)
  · cases h

end Go.Ab
