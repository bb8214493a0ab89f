/- Operations on the shape of values: fields, indexes, slices, assertions, literals. -/
import Derived.Test.YtglelglhogfnfaaGreatAbOps1
namespace Go.Ab

variable {P : Program} {E : Env}

theorem VrelL.extract [Syms] {φ : Phi} {a a' : List Value} (h : VrelL φ a a') (i j : Nat) : VrelL φ (a.extract i j) (a'.extract i j) := by
  simp only [List.extract_eq_take_drop]
  exact (h.drop i).take (j - i)

theorem VrelA.extract [Syms] {φ : Phi} {a a' : Array Value} (h : VrelA φ a a') (i j : Nat) : VrelA φ (a.extract i j) (a'.extract i j) := by
  rw [VrelA.iff] at h ⊢
  simpa using h.extract i j

theorem part_sound [Syms] (hE : EnvOk P E) {φ : Phi} {t off : Nat} {cs cs' : Array Value} {v : Value} (h : part E t cs off = some v) (hc : VrelA φ cs cs') (w : World) : ∃ v', (Go.part t cs' off).run P w = .ok v' w ∧ Vrel φ v v' := by
  unfold part at h
  unfold Go.part
  split at h
  · rename_i n hsh
    obtain ⟨hag, hs⟩ := hE.shape _ _ _ hsh
    simp only [Option.some.injEq] at h
    refine ⟨.agg (cs'.extract off (off + n)), by simp [run_agg hE hag, run_size hE hs], ?_⟩
    subst h
    simp only [Vrel]
    refine ⟨_, rfl, ?_⟩
    rw [VrelA.iff] at hc ⊢
    have := (hc.drop off).take n
    simpa [List.extract_eq_take_drop] using this
  · rename_i hsh
    obtain ⟨hag, hs⟩ := hE.shape _ _ _ hsh
    obtain ⟨v', h1, h2⟩ := (VrelA.iff.1 hc).get h
    have h1' : cs'[off]? = some v' := by simpa using h1
    exact ⟨v', by simp [run_agg hE hag, h1'], h2⟩
  · cases h

theorem aField_sound [Syms] (hE : EnvOk P E) {φ : Phi} {t f : Nat} {x x' v : Value} (h : aField E t x f = some v) (hx : Vrel φ x x') (w : World) : ∃ v', (Instr.field t x' f).run P w = .ok v' w ∧ Vrel φ v v' := by
  unfold aField at h
  split at h
  · rename_i fs cs hu
    simp only [Vrel] at hx
    obtain ⟨cs', rfl, hc⟩ := hx
    cases hf : fs[f]? with
    | none => simp [hf] at h
    | some fd =>
      simp only [hf, Option.bind_some] at h
      obtain ⟨v', h1, h2⟩ := part_sound hE h hc w
      exact ⟨v', by simp [Instr.field, run_under hE hu, hf, asAgg, h1], h2⟩
  · cases h

theorem aFieldAddr_sound [Syms] (hE : EnvOk P E) {φ : Phi} {s f : Nat} {x x' v : Value} (h : aFieldAddr E s x f = some v) (hx : Vrel φ x x') (w : World) : ∃ v', (Instr.fieldAt s x' f).run P w = .ok v' w ∧ Vrel φ v v' := by
  unfold aFieldAddr at h
  split at h
  · rename_i fs a hu
    simp only [Vrel] at hx
    obtain ⟨a', rfl, ha⟩ := hx
    cases hf : fs[f]? with
    | none => simp [hf] at h
    | some fd =>
      simp only [hf, Option.bind_some] at h
      cases hz : E.size fd.type with
      | none => simp [hz] at h
      | some z =>
        simp only [hz, Option.bind_some] at h
        cases hb : Nat.beq z 0 with
        | true => simp only [hb, cond_true] at h; cases h
        | false =>
          simp only [hb, cond_false, Option.some.injEq] at h
          subst h
          have hz0 : z ≠ 0 := fun e => by rw [e] at hb; cases hb
          refine ⟨.pointer (some (a'.add fd.offset)), by simp [Instr.fieldAt, run_under hE hu, hf, Instr.sureAddr, fieldPlace, run_size hE hz, hz0], ?_⟩
          simp only [Vrel]
          exact ⟨_, rfl, ha.add _⟩
  · cases h

theorem andT [Syms] {a b : Bool} (h : (a && b) = true) : a = true ∧ b = true := by simpa using h

theorem SRel.addr [Syms] {φ : Phi} {a a' : Addr} {l c c' : Nat} (h : SRel φ a l c a' c') (hl : l ≠ 0) : ARel φ a a' := by
  unfold SRel at h
  cases hx : φ a.block with
  | unborn => simp [hx] at h
  | dead => simp [ARel, hx]
  | live x =>
    simp only [hx] at h
    obtain ⟨h0, h⟩ := h
    split at h
    · obtain ⟨_, _, _, _, _, h7⟩ := h
      rcases h7 with h7 | h7
      · omega
      · exact h7
    · rcases h.2 with h7 | h7
      · omega
      · exact h7

theorem add_block [Syms] (a : Addr) (n : Nat) : (a.add n).block = a.block := by unfold Addr.add; split <;> rfl
theorem add_off [Syms] (a : Addr) (n : Nat) : (a.add n).off = a.off + n := by unfold Addr.add; split <;> simp_all
theorem add_spot [Syms] (a : Addr) (n : Nat) (h : a.spot = none) : (a.add n).spot = none := by unfold Addr.add; split <;> simp_all

theorem aIndexAddr_sound [Syms] (hE : EnvOk P E) {φ : Phi} {t : Nat} {x x' i i' v : Value} (h : aIndexAddr E t x i = some v) (hx : Vrel φ x x') (hi : Vrel φ i i') (w : World) : ∃ v', (Instr.indexAt t x' i').run P w = .ok v' w ∧ Vrel φ v v' := by
  unfold aIndexAddr at h
  split at h
  · rename_i k n
    simp only [Vrel] at hi
    subst hi
    split at h
    · rename_i len e a hu
      simp only [Vrel] at hx
      obtain ⟨a', rfl, ha⟩ := hx
      cases hb : (decide (0 ≤ n) && decide (n < (len : Int))) with
      | false => simp only [hb, cond_false] at h; cases h
      | true =>
        simp only [hb, cond_true] at h
        have hb := andT hb
        simp only [decide_eq_true_eq] at hb
        cases hs : E.size e with
        | none => simp [hs] at h
        | some s =>
          simp only [hs, Option.map_some, Option.some.injEq] at h
          subst h
          refine ⟨.pointer (some (a'.add (n.toNat * s))), ?_, by simp only [Vrel]; exact ⟨_, rfl, ha.add _⟩⟩
          simp [Instr.indexAt, asIntOf, run_under hE hu, Instr.sureAddr, hb.1, hb.2, run_size hE hs]
    · rename_i e a len cap hu
      simp only [Vrel] at hx
      obtain ⟨a', c', rfl, ha⟩ := hx
      cases hb : (decide (0 ≤ n) && decide (n < (len : Int))) with
      | false => simp only [hb, cond_false] at h; cases h
      | true =>
        simp only [hb, cond_true] at h
        have hb := andT hb
        simp only [decide_eq_true_eq] at hb
        cases hs : E.size e with
        | none => simp [hs] at h
        | some s =>
          simp only [hs, Option.map_some, Option.some.injEq] at h
          subst h
          refine ⟨.pointer (some (a'.add (n.toNat * s))), ?_, by simp only [Vrel]; exact ⟨_, rfl, (ha.addr (by omega)).add _⟩⟩
          simp [Instr.indexAt, asIntOf, run_under hE hu, Instr.sureAddr, hb.1, hb.2, run_size hE hs]
    · cases h
  · cases h

theorem aIndex_sound [Syms] (hE : EnvOk P E) {φ : Phi} {t : Nat} {x x' i i' v : Value} (h : aIndex E t x i = some v) (hx : Vrel φ x x') (hi : Vrel φ i i') (w : World) : ∃ v', (Instr.index t x' i').run P w = .ok v' w ∧ Vrel φ v v' := by
  unfold aIndex at h
  split at h
  · rename_i k n
    simp only [Vrel] at hi
    subst hi
    split at h
    · rename_i len e cs hu
      simp only [Vrel] at hx
      obtain ⟨cs', rfl, ha⟩ := hx
      cases hb : (decide (0 ≤ n) && decide (n < (len : Int))) with
      | false => simp only [hb, cond_false] at h; cases h
      | true =>
        simp only [hb, cond_true] at h
        have hb := andT hb
        simp only [decide_eq_true_eq] at hb
        cases hs : E.size e with
        | none => simp [hs] at h
        | some s =>
          simp only [hs, Option.bind_some] at h
          obtain ⟨v', h1, h2⟩ := part_sound hE h ha w
          refine ⟨v', ?_, h2⟩
          simp [Instr.index, asIntOf, run_under hE hu, hb.1, hb.2, run_size hE hs, h1]
    · rename_i s hu
      simp only [Vrel] at hx
      subst hx
      cases hb : decide (0 ≤ n) with
      | false => simp only [hb, cond_false] at h; cases h
      | true =>
        simp only [hb, cond_true] at h
        simp only [decide_eq_true_eq] at hb
        cases hs : s.data.toList[n.toNat]? with
        | none => simp [hs] at h
        | some c =>
          simp only [hs, Option.map_some, Option.some.injEq] at h
          subst h
          refine ⟨_, ?_, by simp [Vrel]; rfl⟩
          have hg : s[n.toNat]? = some c := by
            obtain ⟨hl, hv⟩ := List.getElem?_eq_some_iff.1 hs
            have hl' : n.toNat < s.size := by simpa using hl
            rw [getElem?_pos s n.toNat hl']
            congr 1
          simp [Instr.index, asIntOf, run_under hE hu, hb, hg]
    · cases h
  · cases h

/-! ## Slice expressions -/

theorem bnd_sound [Syms] {x : Value} {y n : Nat} (h : bnd x y = some n) : n ≤ y ∧ ∀ (φ : Phi) (x' : Value) (y' : Nat) (code : BoundsCode) (w : World), Vrel φ x x' → y ≤ y' → (Instr.sliceBound x' y' code).run P w = .ok n w := by
  unfold bnd at h
  split at h
  · rename_i k i
    cases hb : (decide (0 ≤ i) && decide (i ≤ (y : Int))) with
    | false => simp only [hb, cond_false] at h; cases h
    | true =>
      simp only [hb, cond_true, Option.some.injEq] at h
      have hb := andT hb
      simp only [decide_eq_true_eq] at hb
      refine ⟨by omega, fun φ x' y' code w hx hy => ?_⟩
      simp only [Vrel] at hx
      subst hx
      have : i ≤ (y' : Int) := by omega
      simp [Instr.sliceBound, asIntOf, hb.1, this, h]
  · cases h

def ORelV [Syms] (φ : Phi) : Option Value → Option Value → Prop
  | none, none => True
  | some v, some v' => Vrel φ v v'
  | _, _ => False

theorem sliceB_sound [Syms] {φ : Phi} {r len : Nat} {lo hi mx lo' hi' mx' : Option Value} {l h : Nat} {m : Option Nat} (e : sliceB r len lo hi mx = some (l, h, m)) (h1 : ORelV φ lo lo') (h2 : ORelV φ hi hi') (h3 : ORelV φ mx mx')
    {cap : Nat} (hr : r ≤ cap) (isS : Bool) (w : World) : (Instr.sliceBounds isS len cap lo' hi' mx').run P w = .ok (l, h, m.getD cap) w ∧ l ≤ h ∧ (∀ k, m = some k → h ≤ k ∧ k ≤ r) ∧ (m = none → h = len ∨ h ≤ r) := by
  have lowB : ∀ {lo lo' : Option Value} {h l : Nat} (code : BoundsCode), ORelV φ lo lo' → bndO lo 0 h = some l → (match lo' with | some v => Instr.sliceBound v h code | none => pure 0).run P w = .ok l w ∧ l ≤ h := by
    intro lo lo' h l code ho he
    cases lo with
    | none => cases lo' with
      | none => simp only [bndO, Option.some.injEq] at he; subst he; exact ⟨rfl, Nat.zero_le _⟩
      | some v => simp [ORelV] at ho
    | some x => cases lo' with
      | none => simp [ORelV] at ho
      | some x' =>
        simp only [bndO] at he
        obtain ⟨b1, b2⟩ := bnd_sound (P := P) he
        exact ⟨b2 φ x' h code w ho (Nat.le_refl _), b1⟩
  unfold sliceB at e
  split at e
  · rename_i mv hv
    cases mx' with
    | none => simp [ORelV] at h3
    | some mv' =>
      cases hi' with
      | none => simp [ORelV] at h2
      | some hv' =>
        cases hm : bnd mv r with
        | none => simp [hm] at e
        | some k =>
          simp only [hm, Option.bind_some] at e
          cases hh : bnd hv k with
          | none => simp [hh] at e
          | some h' =>
            simp only [hh, Option.bind_some] at e
            cases hl : bndO lo 0 h' with
            | none => simp [hl] at e
            | some l' =>
              simp only [hl, Option.map_some, Option.some.injEq, Prod.mk.injEq] at e
              obtain ⟨rfl, rfl, rfl⟩ := e
              obtain ⟨m1, m2⟩ := bnd_sound (P := P) hm
              obtain ⟨b1, b2⟩ := bnd_sound (P := P) hh
              obtain ⟨l1, l2⟩ := lowB .slice3C h1 hl
              refine ⟨?_, l2, (fun k' hk => by cases hk; exact ⟨b1, m1⟩), (fun hn => by cases hn)⟩
              simp only [Instr.sliceBounds, Sem.run_bind, m2 φ mv' cap _ w h3 hr, Result.andThen_ok, b2 φ hv' k _ w h2 (Nat.le_refl _), Option.isSome_some, if_true]
              cases lo' <;> simp_all
  · cases e
  · cases mx' with
    | some _ => simp [ORelV] at h3
    | none =>
      cases hh : bndO hi len r with
      | none => simp [hh] at e
      | some h' =>
        simp only [hh, Option.bind_some] at e
        cases hl : bndO lo 0 h' with
        | none => simp [hl] at e
        | some l' =>
          simp only [hl, Option.map_some, Option.some.injEq, Prod.mk.injEq] at e
          obtain ⟨rfl, rfl, rfl⟩ := e
          obtain ⟨l1, l2⟩ := lowB .sliceB h1 hl
          cases hi with
          | none =>
            cases hi' with
            | some _ => simp [ORelV] at h2
            | none =>
              simp only [bndO, Option.some.injEq] at hh
              subst hh
              refine ⟨?_, l2, (fun k hk => by cases hk), fun _ => .inl rfl⟩
              simp only [Instr.sliceBounds, Sem.run_bind, Sem.run_pure, Result.andThen_ok, Option.isSome_none, Bool.false_eq_true, if_false]
              cases lo' <;> simp_all
          | some hv =>
            cases hi' with
            | none => simp [ORelV] at h2
            | some hv' =>
              simp only [bndO] at hh
              obtain ⟨b1, b2⟩ := bnd_sound (P := P) hh
              refine ⟨?_, l2, (fun k hk => by cases hk), fun _ => .inr b1⟩
              simp only [Instr.sliceBounds, Sem.run_bind, Sem.run_pure, Result.andThen_ok, b2 φ hv' cap _ w h2 hr, Option.isSome_none, Bool.false_eq_true, if_false]
              cases lo' <;> simp_all

theorem run_sliceAt_slice [Syms] {t e : TypeId} (h : P.underlying t = some (.slice e)) (x : Value) (lo hi mx : Option Value) (w : World) : (Instr.sliceAt t x lo hi mx).run P w = (Instr.slice t x lo hi mx).run P w := by
  simp [Instr.sliceAt, underlying, h]
theorem run_sliceAt_string [Syms] {t : TypeId} (h : P.underlying t = some .string) (x : Value) (lo hi mx : Option Value) (w : World) : (Instr.sliceAt t x lo hi mx).run P w = (Instr.slice t x lo hi mx).run P w := by
  simp [Instr.sliceAt, underlying, h]

theorem aSlice_sound [Syms] (hE : EnvOk P E) {φ : Phi} {σ : St} {w : World} (r : Rel φ σ w.heap) {t : Nat} {x x' v : Value} {lo hi mx lo' hi' mx' : Option Value} (e : aSlice E σ t x lo hi mx = some v) (hx : Vrel φ x x') (h1 : ORelV φ lo lo') (h2 : ORelV φ hi hi') (h3 : ORelV φ mx mx') :
    ∃ v', (Instr.sliceAt t x' lo' hi' mx').run P w = .ok v' w ∧ Vrel φ v v' := by
  unfold aSlice at e
  split at e
  · rename_i hu
    rw [run_sliceAt_string (hE.under hu)]
    split at e
    · rename_i s
      cases mx' with
      | some _ => simp [ORelV] at h3
      | none =>
        simp only [Vrel] at hx
        subst hx
        cases hb : sliceB s.size s.size lo hi none with
        | none => simp [hb] at e
        | some q =>
          obtain ⟨l, h, m⟩ := q
          simp only [hb, Option.map_some, Option.some.injEq] at e
          obtain ⟨s1, _⟩ := sliceB_sound (P := P) hb h1 h2 h3 (Nat.le_refl _) false w
          refine ⟨v, ?_, by subst e; simp [Vrel]⟩
          subst e
          have hex : s.extract l h = ⟨((s.data.toList.drop l).take (h - l)).toArray⟩ := by
            apply ByteArray.ext
            rw [ByteArray.data_extract]
            apply Array.ext'
            simp [List.extract_eq_take_drop]
          simp [Instr.slice, run_under hE hu, s1, hex]
    · cases e
  · rename_i el hu
    rw [run_sliceAt_slice (hE.under hu)]
    split at e
    · rename_i len cap sz hs
      simp only [Vrel] at hx
      subst hx
      cases hb : sliceB cap len lo hi mx with
      | none => simp [hb] at e
      | some q =>
        obtain ⟨l, h, m⟩ := q
        simp only [hb, Option.map_some, Option.some.injEq] at e
        obtain ⟨s1, _⟩ := sliceB_sound (P := P) hb h1 h2 h3 (Nat.le_refl _) true w
        refine ⟨v, ?_, by subst e; simp [Vrel]⟩
        subst e
        simp [Instr.slice, run_under hE hu, s1, run_size hE hs]
    · rename_i a len cap sz hs
      simp only [Vrel] at hx
      obtain ⟨a', cap', rfl, hr⟩ := hx
      cases hc : Nat.ble openCap cap with
      | true =>
        simp only [hc, cond_true] at e
        have hoc := of_bleT hc
        cases hre : reach σ a sz len with
        | none => simp [hre] at e
        | some rr =>
          simp only [hre, Option.bind_some] at e
          cases hb : sliceB rr len lo hi mx with
          | none => simp [hb] at e
          | some q =>
            obtain ⟨l, h, m⟩ := q
            simp only [hb, Option.map_some, Option.some.injEq] at e
            unfold reach at hre
            split at hre
            · rename_i cl esz hg
              cases hq : (Nat.beq esz sz && !Nat.beq sz 0) with
              | false => simp only [hq, cond_false] at hre; cases hre
              | true =>
                simp only [hq, cond_true, Option.some.injEq] at hre
                have hq := andT hq
                have hez := of_beqT hq.1
                have hsz0 : sz ≠ 0 := fun e0 => by rw [e0] at hq; exact absurd hq.2 (by simp)
                obtain ⟨x, c, ty, fr, hx, ho, hbr⟩ := r.cells hg
                obtain ⟨_, _, _, heq, k2, k3, k4, k5, _⟩ := id hbr
                have hr0 := hr
                unfold SRel at hr
                simp only [hx, hoc, if_true] at hr
                obtain ⟨g2, g0, g1, g3, g4, g5, g6⟩ := hr
                have hxe : x.esz = sz := by omega
                have hrr : rr ≤ cap' := by
                  rw [← hre]
                  refine Nat.max_le.2 ⟨g2, ?_⟩
                  rw [k3]
                  rw [hxe] at g3
                  have : x.n - a.off ≤ cap' * sz := by omega
                  exact Nat.div_le_of_le_mul (by rw [Nat.mul_comm]; exact this)
                obtain ⟨s1, s2, s3, s4⟩ := sliceB_sound (P := P) hb h1 h2 h3 hrr true w
                refine ⟨.slice (some (if m.getD cap' = l then a' else a'.add (l * sz))) (h - l) (m.getD cap' - l), ?_, ?_⟩
                · simp only [Instr.slice, Sem.run_bind, run_under hE hu, Result.andThen_ok, s1, run_size hE hs, Sem.run_pure]
                  split <;> rfl
                · have hh : h ≤ cap' := by
                    cases m with
                    | none => rcases s4 rfl with s4 | s4 <;> omega
                    | some k => have := s3 k rfl; omega
                  cases m with
                  | some k =>
                    subst e
                    have hk := s3 k rfl
                    simp only [Option.getD_some, Vrel]
                    refine ⟨_, _, rfl, ?_⟩
                    have hlt : ¬ openCap ≤ k - l := by omega
                    have hblk : (if k = l then a else a.add (l * sz)).block = a.block := by split <;> first | rfl | exact add_block _ _
                    have hA : k = 0 ∨ ARel φ (if k = l then a else a.add (l * sz)) (if k = l then a' else a'.add (l * sz)) := by
                      rcases g6 with g6 | g6
                      · left; omega
                      · right
                        split
                        · exact g6
                        · exact g6.add _
                    unfold SRel
                    rw [hblk]
                    simp only [hx, hlt, if_false]
                    exact ⟨by omega, trivial, hA.imp (fun h => by omega) id⟩
                  | none =>
                    subst e
                    simp only [Option.getD_none, Vrel]
                    refine ⟨_, _, rfl, ?_⟩
                    unfold SRel
                    simp only [add_block, hx, hoc, if_true]
                    have hl : l ≤ cap' := by omega
                    have hmul : (cap' - l) * x.esz + l * x.esz = cap' * x.esz := by rw [← Nat.add_mul]; congr 1; omega
                    refine ⟨by omega, add_spot _ _ g0, g1, by rw [add_off, ← hxe]; omega, by rw [add_off, ← hxe]; omega, by omega, ?_⟩
                    rcases g6 with g6 | g6
                    · exact .inl (by omega)
                    · by_cases hcl : cap' = l
                      · exact .inl (by omega)
                      · exact .inr (by rw [if_neg hcl]; exact g6.add _)
            · cases hre
      | false =>
        simp only [hc, cond_false] at e
        have hoc : ¬ openCap ≤ cap := by have := of_bleF hc; omega
        cases hb : sliceB cap len lo hi mx with
        | none => simp [hb] at e
        | some q =>
          obtain ⟨l, h, m⟩ := q
          simp only [hb, Option.map_some, Option.some.injEq] at e
          unfold SRel at hr
          cases hx : φ a.block with
          | unborn => simp [hx] at hr
          | dead =>
            simp only [hx, hoc, false_or] at hr
            obtain ⟨g0, rfl⟩ := hr
            obtain ⟨s1, s2, s3, s4⟩ := sliceB_sound (P := P) hb h1 h2 h3 (Nat.le_refl _) true w
            refine ⟨.slice (some (if m.getD cap' = l then a' else a'.add (l * sz))) (h - l) (m.getD cap' - l), ?_, ?_⟩
            · simp only [Instr.slice, Sem.run_bind, run_under hE hu, Result.andThen_ok, s1, run_size hE hs, Sem.run_pure]
              split <;> rfl
            · subst e
              simp only [Vrel]
              refine ⟨_, _, rfl, ?_⟩
              have hm : h ≤ m.getD cap' := by
                cases m with
                | none => rcases s4 rfl with s4 | s4 <;> (simp only [Option.getD_none]; omega)
                | some k => have := s3 k rfl; simp only [Option.getD_some]; omega
              have hblk : (if m.getD cap' = l then a else a.add (l * sz)).block = a.block := by split <;> first | rfl | exact add_block _ _
              unfold SRel
              rw [hblk]
              simp only [hx]
              exact ⟨by omega, .inr trivial⟩
          | live x =>
            simp only [hx, hoc, if_false] at hr
            obtain ⟨g0, rfl, g1⟩ := hr
            obtain ⟨s1, s2, s3, s4⟩ := sliceB_sound (P := P) hb h1 h2 h3 (Nat.le_refl _) true w
            refine ⟨.slice (some (if m.getD cap' = l then a' else a'.add (l * sz))) (h - l) (m.getD cap' - l), ?_, ?_⟩
            · simp only [Instr.slice, Sem.run_bind, run_under hE hu, Result.andThen_ok, s1, run_size hE hs, Sem.run_pure]
              split <;> rfl
            · subst e
              simp only [Vrel]
              refine ⟨_, _, rfl, ?_⟩
              have hm : m.getD cap' ≤ cap' ∧ h ≤ m.getD cap' := by
                cases m with
                | none => rcases s4 rfl with s4 | s4 <;> (simp only [Option.getD_none]; omega)
                | some k => have := s3 k rfl; simp only [Option.getD_some]; omega
              have hlt : ¬ openCap ≤ m.getD cap' - l := by omega
              have hblk : (if m.getD cap' = l then a else a.add (l * sz)).block = a.block := by split <;> first | rfl | exact add_block _ _
              unfold SRel
              rw [hblk]
              simp only [hx, hlt, if_false]
              refine ⟨by omega, trivial, ?_⟩
              rcases g1 with g1 | g1
              · left; omega
              · right
                split
                · exact g1
                · exact g1.add _
    · cases e
  · cases e

end Go.Ab
