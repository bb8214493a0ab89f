/- append, copy, clear as builtins; conversions; len, cap; maps; assertions. -/
import Derived.Test.YtglelglhogfnfaaGreatAbOps5
namespace Go.Ab

variable {P : Program} {E : Env}

theorem EnvOk.infoAll [Syms] (hE : EnvOk P E) {t size bytes : Nat} {z : Value} (h1 : E.size t = some size) (h2 : E.bytes t = some bytes) (h3 : E.zero t = some z) : ∃ i, P.info? t = some i ∧ i.size = size ∧ i.bytes = bytes ∧ i.zero = some z := by
  unfold Env.size at h1
  unfold Env.bytes at h2
  unfold Env.zero at h3
  cases hi : E.info t with
  | none => simp [hi] at h1
  | some i =>
    simp only [hi, Option.map_some, Option.some.injEq, Option.bind_some] at h1 h2 h3
    exact ⟨i, hE.info t i hi, h1, h2, h3⟩

theorem aAppend_sound [Syms] (hE : EnvOk P E) {φ : Phi} {σ : St} {w : World} (r : Rel φ σ w.heap) {argTypes : Array TypeId} {ty : TypeId} {s s' x x' : Value} (hs : Vrel φ s s') (hx : Vrel φ x x')
    (hf : ∀ v σ', aAppend E σ argTypes s x = .val v σ' → Fresh φ σ.next σ'.next) : OpOk φ σ w (aAppend E σ argTypes s x) ((do pure (.value (← Builtin.append_ argTypes ty #[s', x'])) : Sem Next).run P w) := by
  unfold aAppend at hf ⊢
  split
  · rename_i st xt base sLen sCap h0 h1
    simp only [h0, h1] at hf
    split
    · rename_i e xd hu1 hu2
      simp only [hu1, hu2] at hf
      split
      · rename_i size bytes z k1 k2 k3
        simp only [k1, k2, k3] at hf
        obtain ⟨i, i1, i2, i3, i4⟩ := hE.infoAll k1 k2 k3
        subst i2
        subst i3
        split
        · exact trivial
        · rename_i n new hadd
          simp only [hadd] at hf
          cases hq : (Nat.ble ((sLen + n) * i.bytes) 70368744177664 && Nat.ble (sLen + n) 70368744177664 && Nat.beq new.length (n * i.size) && Nat.beq z.cells.size i.size && cellsAll new) with
          | false => simp only [cond_false]; exact trivial
          | true =>
            simp only [hq, cond_true] at hf ⊢
            simp only [Bool.and_eq_true] at hq
            obtain ⟨⟨⟨⟨q1, q2⟩, q3⟩, q4⟩, q5⟩ := hq
            have q1 := of_bleT q1
            have q2 := of_bleT q2
            have q3 := of_beqT q3
            have q4 := of_beqT q4
            obtain ⟨new', a1, a2⟩ := addArg_sound (P := P) r (hE.zclosed e z k3) hadd hx
            cases hoc : Nat.ble openCap sCap with
            | true =>
              simp only [hoc, cond_true] at hf ⊢
              cases base with
              | none => exact trivial
              | some a =>
                simp only at hf ⊢
                exact appendOpen_sound r h0 h1 (hE.under hu1) (hE.under hu2) i1 i4 q4 hs a1 a2 q1 q2 q3 q5 (of_bleT hoc) hf
            | false =>
              simp only [hoc, cond_false] at hf ⊢
              exact appendExact_sound r h0 h1 (hE.under hu1) (hE.under hu2) i1 i4 q4 hs a1 a2 q1 q2 q3 q5 (by have := of_bleF hoc; omega) hf
      · exact trivial
    · exact trivial
  · exact trivial

theorem firstN_length [Syms] {σ : St} {size n m : Nat} {x : Value} {vs : List Value} (h : firstN σ size n x = some vs) : True := trivial

theorem aCopy_sound [Syms] (hE : EnvOk P E) {φ : Phi} {σ : St} {w : World} (r : Rel φ σ w.heap) {argTypes : Array TypeId} {ty : TypeId} {d d' x x' : Value} (hd : Vrel φ d d') (hx : Vrel φ x x') :
    OpOk φ σ w (aCopy E σ argTypes d x) ((do pure (.value (← Builtin.copy_ argTypes ty #[d', x'])) : Sem Next).run P w) := by
  unfold aCopy
  split
  · rename_i dt base dLen dCap sl h0 hl
    split
    · rename_i e hu
      split
      · rename_i size hs
        simp only
        split
        · exact trivial
        · rename_i cells hfn
          have hlen := lenOf_sound (P := P) hl hx w
          obtain ⟨cells', c1, c2⟩ := firstN_sound (P := P) r hfn hx hl (Nat.min_le_left _ _)
          have c1 := c1 w rfl
          cases base with
          | none =>
            simp only [Vrel] at hd
            subst hd
            cases hn : Nat.beq (sl.min dLen) 0 with
            | false => simp only [cond_false]; exact trivial
            | true =>
              simp only [cond_true]
              refine .pure (v' := goInt (sl.min dLen)) r ?_ (by simp [goInt, Vrel])
              simp only [Builtin.copy_, h0, Sem.run_bind, run_under hE hu, Result.andThen_ok, hlen, run_size hE hs, c1, Sem.run_pure, List.getElem?_toArray, List.getElem?_cons_zero, List.getElem?_cons_succ]
          | some a =>
            simp only [Vrel] at hd
            obtain ⟨a', cap', rfl, hsr⟩ := hd
            simp only
            split
            · rename_i σ' hst
              have hor : cells = [] ∨ ARel φ a a' := by
                by_cases h0 : dLen = 0
                · left
                  subst h0
                  have : sl.min 0 = 0 := Nat.min_zero _
                  rw [this] at hfn
                  unfold firstN at hfn
                  split at hfn
                  · rw [Nat.zero_mul] at hfn; exact (loadN_zero P (a' := a') hfn).2
                  · simpa using hfn.symm
                  · simp [ofBytes] at hfn; exact hfn
                  · cases hfn
                · exact .inr (hsr.addr h0)
              obtain ⟨w', q1, q2, q3⟩ := storeN_sound' P r hst hor c2
              refine ⟨φ, w', goInt (sl.min dLen), .inl ?_, by simp [goInt, Vrel], q2, q3⟩
              simp only [Builtin.copy_, h0, Sem.run_bind, run_under hE hu, Result.andThen_ok, hlen, run_size hE hs, c1, Sem.run_pure, List.getElem?_toArray, List.getElem?_cons_zero, List.getElem?_cons_succ, q1]
            · exact trivial
      · exact trivial
    · exact trivial
  · exact trivial

theorem aLen_sound [Syms] (hE : EnvOk P E) {φ : Phi} {σ : St} {w : World} (r : Rel φ σ w.heap) {argTypes : Array TypeId} {ty : TypeId} {x x' v : Value} (h : aLen E σ argTypes x = some v) (hx : Vrel φ x x') :
    (Builtin.len_ argTypes ty #[x']).run P w = .ok v w ∧ closed v = true := by
  unfold aLen at h
  cases ht : argTypes[0]? with
  | none => simp [ht] at h
  | some t =>
    simp only [ht, Option.bind_some] at h
    have hg0 : (#[x'] : Array Value)[0]? = some x' := rfl
    split at h
    · rename_i s hu
      simp only [Option.some.injEq] at h; subst h
      simp only [Vrel] at hx; subst hx
      exact ⟨by simp [Builtin.len_, ht, run_under hE hu], rfl⟩
    · rename_i n e hu
      simp only [Option.some.injEq] at h; subst h
      exact ⟨by simp [Builtin.len_, ht, run_under hE hu], rfl⟩
    · rename_i e a n c hu
      simp only [Option.some.injEq] at h; subst h
      cases a with
      | none => simp only [Vrel] at hx; subst hx; exact ⟨by simp [Builtin.len_, ht, run_under hE hu], rfl⟩
      | some a => simp only [Vrel] at hx; obtain ⟨_, _, rfl, _⟩ := hx; exact ⟨by simp [Builtin.len_, ht, run_under hE hu], rfl⟩
    · rename_i k e hu
      simp only [Option.some.injEq] at h; subst h
      simp only [Vrel] at hx; subst hx
      exact ⟨by simp [Builtin.len_, ht, run_under hE hu], rfl⟩
    · rename_i k e m hu
      simp only [Vrel] at hx
      obtain ⟨m', rfl, hm⟩ := hx
      split at h
      · rename_i es bs cl hg
        simp only [Option.some.injEq] at h; subst h
        obtain ⟨y, o, hy, ho, es', rfl, hb0, hent, _⟩ := r.blocks _ _ hg
        unfold ORel at hm
        rw [hy] at hm
        obtain ⟨rfl, _⟩ := hm
        refine ⟨?_, rfl⟩
        have hlen : es'.size = es.length := by have := hent.1; simpa using this
        simp [Builtin.len_, ht, run_under hE hu, getObj, Sem.run, ho, hlen]
      · cases h
    · rename_i d e m hu
      simp only [Vrel] at hx
      obtain ⟨m', rfl, hm⟩ := hx
      split at h
      · rename_i cap buf hg
        simp only [Option.some.injEq] at h; subst h
        obtain ⟨y, o, hy, ho, buf', s, q, rfl, hb0, hent⟩ := r.blocks _ _ hg
        unfold ORel at hm
        rw [hy] at hm
        obtain ⟨rfl, _⟩ := hm
        refine ⟨?_, rfl⟩
        have hlen : buf'.size = buf.length := by have := hent.length; simpa using this
        simp [Builtin.len_, ht, run_under hE hu, getObj, Sem.run, ho, hlen]
      · cases h
    · cases h

theorem aCap_sound [Syms] (hE : EnvOk P E) {φ : Phi} {w : World} {argTypes : Array TypeId} {ty : TypeId} {x x' v : Value} (h : aCap E argTypes x = some v) (hx : Vrel φ x x') :
    (Builtin.cap_ argTypes ty #[x']).run P w = .ok v w ∧ closed v = true := by
  unfold aCap at h
  cases ht : argTypes[0]? with
  | none => simp [ht] at h
  | some t =>
    simp only [ht, Option.bind_some] at h
    split at h
    · rename_i e a l n hu
      cases hb : Nat.ble openCap n with
      | true => simp only [hb, cond_true] at h; cases h
      | false =>
        simp only [hb, cond_false, Option.some.injEq] at h
        subst h
        have hoc : ¬ openCap ≤ n := by have := of_bleF hb; omega
        cases a with
        | none => simp only [Vrel] at hx; subst hx; exact ⟨by simp [Builtin.cap_, ht, run_under hE hu], rfl⟩
        | some a =>
          simp only [Vrel] at hx
          obtain ⟨_, _, rfl, hsr⟩ := hx
          obtain ⟨rfl, _⟩ := hsr.exactCap hoc
          exact ⟨by simp [Builtin.cap_, ht, run_under hE hu], rfl⟩
    · cases h

theorem run_setObj_map [Syms] {w : World} {b : Nat} {o o' : Obj} (h : w.heap[b]? = some o) (hnc : ∀ c t f, o ≠ .cells c t f) : (setObj b o').run P w = .ok () { w with heap := w.heap.setIfInBounds b o' } := by
  unfold setObj
  cases o <;> first | (simp only [Sem.run, h]; done) | (exact absurd rfl (hnc _ _ _)) | (simp [Sem.run, h])

theorem run_getObj [Syms] {w : World} {b : Nat} {o : Obj} (h : w.heap[b]? = some o) (hnc : ∀ c t f, o ≠ .cells c t f) : (getObj b).run P w = .ok o w := by
  unfold getObj
  cases o <;> first | (simp only [Sem.run, h]; done) | (exact absurd rfl (hnc _ _ _)) | (simp [Sem.run, h])

/-- A map's or a channel's block is written anew. -/
theorem putObj_sound [Syms] {φ : Phi} {σ : St} {w : World} (r : Rel φ σ w.heap) {i : Nat} {b b' : Blk} {x : Ext} {o o' : Obj} (hi : σ.get i = some b) (hx : φ i = .live x) (ho : w.heap[x.blk]? = some o) (hb : BRel φ x b' o') :
    Rel φ (σ.put i b') (w.heap.setIfInBounds x.blk o') ∧ Trans φ σ w φ (σ.put i b') { w with heap := w.heap.setIfInBounds x.blk o' } := by
  have hlt : x.blk < w.heap.size := r.bound i x hx
  have hk : ∀ k, k ≠ x.blk → (w.heap.setIfInBounds x.blk o')[k]? = w.heap[k]? := fun k hk => by
    rw [Array.getElem?_setIfInBounds_ne (by omega)]
  exact ⟨r.put hi hx (by simp) (by simp [hlt]) hb hk, Trans.put r hi hx (by simp) hk rfl rfl rfl⟩

theorem slice_shape [Syms] {φ : Phi} {a : Option Addr} {l c : Nat} {x' : Value} (h : Vrel φ (.slice a l c) x') : ∃ a' c', x' = .slice a' l c' := by
  cases a with
  | none => simp only [Vrel] at h; exact ⟨_, _, h⟩
  | some a => simp only [Vrel] at h; obtain ⟨_, _, rfl, _⟩ := h; exact ⟨_, _, rfl⟩

theorem aClear_sound [Syms] (hE : EnvOk P E) {φ : Phi} {σ : St} {w : World} (r : Rel φ σ w.heap) {argTypes : Array TypeId} {ty : TypeId} {x x' : Value} (hx : Vrel φ x x') :
    OpOk φ σ w (aClear E σ argTypes x) ((do pure (.value (← Builtin.clear_ argTypes ty #[x'])) : Sem Next).run P w) := by
  unfold aClear
  cases ht : argTypes[0]? with
  | none => exact trivial
  | some t =>
    simp only [Option.bind_some]
    have hclosed : Vrel φ (.tuple #[]) (.tuple #[]) := by simp [Vrel, VrelA, VrelL]
    split
    · rename_i d hu
      simp only [Vrel] at hx; subst hx
      exact .pure r (by simp [Builtin.clear_, ht, run_under hE hu]) hclosed
    · rename_i d l c hu
      simp only [Vrel] at hx; subst hx
      exact .pure r (by simp [Builtin.clear_, ht, run_under hE hu]) hclosed
    · rename_i hu
      obtain ⟨a', c', rfl⟩ := slice_shape hx
      exact .pure r (by cases a' <;> simp [Builtin.clear_, ht, run_under hE hu]) hclosed
    · rename_i k e m hu
      simp only [Vrel] at hx
      obtain ⟨m', rfl, hm⟩ := hx
      split
      · rename_i es bs cl hg
        obtain ⟨y, o, hy, ho, es', rfl, hb0, hent, hbs⟩ := r.blocks _ _ hg
        unfold ORel at hm
        rw [hy] at hm
        obtain ⟨rfl, _⟩ := hm
        obtain ⟨q1, q2⟩ := putObj_sound (b' := .map [] [] cl) (o' := .map #[] cl) r hg hy ho ⟨#[], rfl, hb0, ⟨by simp, fun k p hk => by simp at hk⟩, rfl⟩
        refine ⟨φ, _, .tuple #[], .inl ?_, hclosed, q1, q2⟩
        simp [Builtin.clear_, ht, run_under hE hu, run_getObj ho (by intro c t f e; cases e), run_setObj_map ho (by intro c t f e; cases e)]
      · exact trivial
    · rename_i e a n c hne hu
      simp only [Vrel] at hx
      obtain ⟨a', cap', rfl, hsr⟩ := hx
      split
      · rename_i size z hs hz
        cases hq : Nat.beq z.cells.size size with
        | false => simp only [cond_false]; exact trivial
        | true =>
          simp only [cond_true]
          split
          · rename_i σ' hst
            have hn0 : n ≠ 0 := fun e0 => by subst e0; exact hne rfl
            obtain ⟨w', q1, q2, q3⟩ := storeN_sound P r hst (hsr.addr hn0) (zeros_closed (hE.zclosed e z hz) n)
            refine ⟨φ, w', .tuple #[], .inl ?_, hclosed, q2, q3⟩
            have hm : ∃ m, n = m + 1 := ⟨n - 1, by omega⟩
            obtain ⟨m, rfl⟩ := hm
            simp [Builtin.clear_, ht, run_under hE hu, run_zero hE hz, zeroCells_eq, q1]
          · exact trivial
      · exact trivial
    · exact trivial

/-! ## Conversions -/

theorem bytesOf_sound [Syms] : ∀ (vs : List Value) (bs : List UInt8), bytesOf? vs = some bs → ∀ {φ : Phi} {vs' : List Value}, VrelL φ vs vs' → vs' = vs
  | [], bs, h, φ, vs', hv => by simpa [VrelL] using hv
  | v :: vs, bs, h, φ, vs', hv => by
    unfold bytesOf? at h
    split at h
    · rename_i b bs' h1 h2
      simp only [VrelL] at hv
      obtain ⟨v', ws, rfl, q, s⟩ := hv
      rw [bytesOf_sound vs bs' h2 s]
      unfold byteOf? at h1
      split at h1
      · simp only [Vrel] at q; rw [q]
      · cases h1
    · cases h

theorem run_bytes_loop [Syms] {f : Value → ByteArray → Sem (ForInStep ByteArray)} (hf : ∀ (n : Int) (s : ByteArray) (w : World), (f (.int .u8 n) s).run P w = .ok (.yield (s.push (UInt8.ofNat n.toNat))) w) (w : World) :
    ∀ (vs : List Value) (bs : List UInt8), bytesOf? vs = some bs → ∀ (s : ByteArray), (forIn vs s f).run P w = .ok ⟨s.data ++ bs.toArray⟩ w
  | [], bs, h, s => by simp only [bytesOf?, Option.some.injEq] at h; subst h; simp
  | v :: vs, bs, h, s => by
    unfold bytesOf? at h
    split at h
    · rename_i b bs' h1 h2
      simp only [Option.some.injEq] at h
      subst h
      unfold byteOf? at h1
      split at h1
      · rename_i n
        simp only [Option.some.injEq] at h1
        subst h1
        simp only [List.forIn_cons, Sem.run_bind, hf, Result.andThen_ok]
        rw [run_bytes_loop hf w vs bs' h2]
        congr 2
        apply Array.ext'
        simp [ByteArray.push]
      · cases h1
    · cases h

end Go.Ab
