/- Drawn regions: each operation keeps what holds. -/
import Derived.Test.YtglelglhogfnfaaGreatAbDraw2
namespace Go.Ab

variable {P : Program} {E : Env}

section
variable {n nn N : Nat} {ops : Array Oper} {rs : List Rec} {c0 : Cu} {φ0 : Phi} {w0 : World} {kind : KR} {cs0 : List Frame}
  {S : Nat → Bool} {φ : Phi} {w : World} {a : Act} {cs : List Frame} {p : Nat} {G : Nat → Option Blk}

/-- The store in the order of the text, where all that makes blocks has run. -/
theorem Inv.mat [Syms] (D : Drawn P E n nn N ops rs c0) (I : Inv P E n nn N ops rs c0 φ0 w0 kind cs0 S φ w a cs p G) {j : Nat} (hp : p ≤ j) (hl : j ≤ rs.length) (hn : NoEff rs p j)
    (hS : ∀ (k : Nat) (r : Rec), p ≤ k → k < j → rs[k]? = some r → r.k = .fresh → r.wanted = true → S k = true) :
    ∀ i, (cur c0 rs j).σ.get i = if i < (cur c0 rs j).σ.next then G i else none := by
  have hb := D.betw hp hl hn
  intro i
  by_cases hi : i < (cur c0 rs j).σ.next
  · rw [if_pos hi]
    by_cases ho : i < (cur c0 rs p).σ.next
    · rw [hb.old i ho, I.ga i ho]
    · obtain ⟨k, r, b, k1, k2, k3, k4, k5, k6, k7, k8⟩ := hb.new i (by omega) hi
      subst k6
      rw [k8, I.gb k r b k3 k4 k5 (hS k r k1 k2 k3 k4 k5) (by omega) k7]
  · rw [if_neg hi]
    exact hb.none I.ids i (by omega)

/-- An operation whose place isn't fixed has run. -/
theorem Inv.stay [Syms] (D : Drawn P E n nn N ops rs c0) (I : Inv P E n nn N ops rs c0 φ0 w0 kind cs0 S φ w a cs p G) {j : Nat} {r : Rec} (hj : rs[j]? = some r) (hS : S j = false) (hr : Ready ops S j) (hk : r.k ≠ .eff)
    {φ' : Phi} {w' : World} {a' : Act} {cs' : List Frame} {G' : Nat → Option Blk} (rel : RelF φ' G' w'.heap)
    (ga : ∀ i, i < (cur c0 rs p).σ.next → G' i = (cur c0 rs p).σ.get i)
    (gb : ∀ (k : Nat) (r : Rec) (b : Blk), rs[k]? = some r → r.k = .fresh → r.wanted = true → ins S j k = true → (cur c0 rs p).σ.next ≤ r.σ.next → r.out.get r.σ.next = some b → G' r.σ.next = some b)
    (gc : ∀ i, (cur c0 rs p).σ.next ≤ i → (∀ (k : Nat) (r : Rec), rs[k]? = some r → r.k = .fresh → r.wanted = true → ins S j k = true → r.σ.next ≠ i) → G' i = none ∧ (i < N → φ' i = .unborn))
    (ds : DsRel φ' (cur c0 rs p).ds a'.defers) (par : CsRel φ' kind (cur c0 rs p).par cs0 cs') (slots : Slots rs c0.τ (ins S j) φ' a'.tmps) (size : a'.tmps.size = nn)
    (trans : Trans φ0 c0.σ w0 φ' ⟨N, .leaf, []⟩ w') : Inv P E n nn N ops rs c0 φ0 w0 kind cs0 (ins S j) φ' w' a' cs' p G' := by
  refine ⟨I.closed.ins hr, fun k h => ?_, I.pl, I.plast.imp id fun ⟨e, re, h1, h2, h3, h4⟩ => ⟨e, re, h1, h2, h3, ins_old h4⟩, fun k re h1 h2 => ?_, rel, I.ids, ga, gb, gc, ds, par, slots, size, trans⟩
  · by_cases hkj : k = j
    · subst hkj; exact lt_of_get hj
    · rw [ins_other S hkj] at h; exact I.low k h
  · have hkj : k ≠ j := by intro e; subst e; rw [hj] at h1; cases h1; exact hk h2
    rw [ins_other S hkj]
    exact I.effs k re h1 h2

/-- An operation whose place is fixed has run. -/
theorem Inv.pass [Syms] (D : Drawn P E n nn N ops rs c0) (I : Inv P E n nn N ops rs c0 φ0 w0 kind cs0 S φ w a cs p G) {j : Nat} {r : Rec} (hj : rs[j]? = some r) (hS : S j = false) (hr : Ready ops S j) (hk : r.k = .eff)
    {φ' : Phi} {w' : World} {a' : Act} {cs' : List Frame} {G' : Nat → Option Blk} (rel : RelF φ' G' w'.heap) (ids : ∀ i, r.out.next ≤ i → r.out.get i = none)
    (ga : ∀ i, i < r.out.next → G' i = r.out.get i)
    (hG : ∀ i, r.out.next ≤ i → G' i = G i ∧ φ' i = φ i)
    (ds : DsRel φ' r.ds' a'.defers) (par : CsRel φ' kind r.par' cs0 cs') (slots : Slots rs c0.τ (ins S j) φ' a'.tmps) (size : a'.tmps.size = nn)
    (trans : Trans φ0 c0.σ w0 φ' ⟨N, .leaf, []⟩ w') : Inv P E n nn N ops rs c0 φ0 w0 kind cs0 (ins S j) φ' w' a' cs' (j + 1) G' := by
  have hlt := lt_of_get hj
  have hcur := cur_succ (c0 := c0) hj
  have hσ : (cur c0 rs (j + 1)).σ = r.out := by rw [hcur]; rfl
  have hp := I.p_le D hj hS (.inl hk)
  have hmono : (cur c0 rs p).σ.next ≤ r.out.next := by rw [← hσ]; exact D.mono (by omega) (by omega)
  refine ⟨I.closed.ins hr, fun k h => ?_, by omega, .inr ⟨j, r, rfl, hj, hk, ins_same S j⟩, fun k re h1 h2 => ?_, rel, by rw [hσ]; exact ids, by rw [hσ]; exact ga, fun k re b h1 h2 h3 h4 h5 h6 => ?_, fun i h1 h2 => ?_,
    by rw [hcur]; exact ds, by rw [hcur]; exact par, slots, size, trans⟩
  · by_cases hkj : k = j
    · subst hkj; exact hlt
    · rw [ins_other S hkj] at h; exact I.low k h
  · rcases Nat.lt_trichotomy k j with hl | hl | hl
    · rw [ins_other S (by omega)]
      have := I.before D hj hr h1 hl (clash_eff (by rw [D.kls h1]; exact .inl h2) (by rw [D.kls hj]; exact hk))
      simp [this]; omega
    · subst hl; simp [ins_same]
    · rw [ins_other S (by omega)]
      have := I.behind D hj hS h1 hl (clash_eff (by rw [D.kls hj]; exact .inl hk) (by rw [D.kls h1]; exact h2))
      simp [this]; omega
  · have hkj : k ≠ j := by intro e; subst e; rw [hj] at h1; cases h1; rw [hk] at h2; cases h2
    rw [ins_other S hkj] at h4
    rw [hσ] at h5
    rw [(hG _ h5).1]
    exact I.gb k re b h1 h2 h3 h4 (by omega) h6
  · rw [hσ] at h1
    obtain ⟨g1, g2⟩ := hG i h1
    rw [g1, g2]
    refine I.gc i (by omega) fun k re h3 h4 h5 h6 => h2 k re h3 h4 h5 (ins_old h6)

/-- Places of new blocks are apart. -/
theorem Drawn.apart [Syms] (D : Drawn P E n nn N ops rs c0) {i j : Nat} {r e : Rec} (hj : rs[j]? = some r) (hi : rs[i]? = some e) (hl : i < j) : e.out.next ≤ r.σ.next := by
  rw [D.out hi, D.σ hj]
  exact D.mono (by omega) (Nat.le_of_lt (lt_of_get hj))

theorem Drawn.fits [Syms] (D : Drawn P E n nn N ops rs c0) {j : Nat} {r : Rec} (hj : rs[j]? = some r) : r.out.next ≤ N := by
  rw [D.out hj]
  have hlt := lt_of_get hj
  exact Nat.le_trans (D.mono (by omega) (Nat.le_refl _)) D.top

theorem Inv.step [Syms] (D : Drawn P E n nn N ops rs c0) (I : Inv P E n nn N ops rs c0 φ0 w0 kind cs0 S φ w a cs p G) {j : Nat} {r : Rec} (hj : rs[j]? = some r) (hS : S j = false) (hr : Ready ops S j)
    (hSS : ∀ m, m < n → SS P E m) {b : Frame} (hb : b.kr = kind) (rest : List Nat) (k : List Item) :
    ∃ φ' w' a' cs' p' G', Steps P (lone (b.atR a (.inRegion ops (j :: rest) :: k)) cs w) (lone (b.atR a' (.inRegion ops rest :: k)) cs' w') ∧
      Inv P E n nn N ops rs c0 φ0 w0 kind cs0 (ins S j) φ' w' a' cs' p' G' := by
  have hlt := lt_of_get hj
  have hok := D.tr.ok j r hj
  have hat := D.tr.at' j r hj
  have hrσ := D.σ hj
  have hz := I.zero D
  have hpN : (cur c0 rs p).σ.next ≤ N := Nat.le_trans (D.mono I.pl (Nat.le_refl _)) D.top
  -- what holds at an operation whose place is fixed
  have effFacts : r.k = .eff → p ≤ j ∧ NoEff rs p j ∧ (∀ i, r.σ.get i = if i < r.σ.next then G i else none) ∧ r.ds = (cur c0 rs p).ds ∧ r.par = (cur c0 rs p).par := fun hk => by
    have hp := I.p_le D hj hS (.inl hk)
    have hn : NoEff rs p j := fun i e h1 h2 h3 h4 => by
      have := I.before D hj hr h3 h2 (clash_eff (by rw [D.kls h3]; exact .inl h4) (by rw [D.kls hj]; exact hk))
      have := (I.effs i e h3 h4).1 this
      omega
    have hbt := D.betw hp (by omega) hn
    refine ⟨hp, hn, ?_, ?_, ?_⟩
    · rw [hrσ]
      exact I.mat D hp (by omega) hn fun i e h1 h2 h3 h4 h5 => I.before D hj hr h3 h2 (clash_eff (by rw [D.kls h3]; exact .inr h4) (by rw [D.kls hj]; exact hk))
    · rw [← hbt.ds, ← hat]; rfl
    · rw [← hbt.par, ← hat]; rfl
  cases hw : r.wanted with
  | false =>
    obtain ⟨k1, k2, k3, k4⟩ := hok.skip hw
    have hw' := I.wanted D hj hS hr
    rw [hw] at hw'
    obtain ⟨t1, t2, t3⟩ := I.put D hj hS (PLe.refl φ) (v' := undef) (by rw [k1]; exact undef_rel φ) a.defers
    refine ⟨φ, w, a.put r.o.dst undef, cs, if r.k = .eff then j + 1 else p, G, .one (op_unwanted (D.op hj) hw'), ?_⟩
    by_cases hk : r.k = .eff
    · rw [if_pos hk]
      obtain ⟨e1, e2, e3, e4, e5⟩ := effFacts hk
      refine I.pass D hj hS hr hk I.rel (fun i hi => ?_) (fun i hi => ?_) (fun i _ => ⟨rfl, rfl⟩) ?_ ?_ t1 t2 I.trans
      · rw [k4] at hi ⊢; rw [e3, if_neg (by omega)]
      · rw [k4] at hi ⊢; rw [e3, if_pos hi]
      · rw [k2, e4]; rw [show (a.put r.o.dst undef).defers = a.defers from t3]; exact I.ds
      · rw [k3, e5]; exact I.par
    · rw [if_neg hk]
      refine I.stay D hj hS hr hk I.rel I.ga (fun i e b h1 h2 h3 h4 h5 h6 => ?_) (fun i h1 h2 => ?_) (by rw [show (a.put r.o.dst undef).defers = a.defers from t3]; exact I.ds) I.par t1 t2 I.trans
      · have hij : i ≠ j := by intro e; subst e; rw [hj] at h1; cases h1; rw [hw] at h3; cases h3
        rw [ins_other S hij] at h4
        exact I.gb i e b h1 h2 h3 h4 h5 h6
      · exact I.gc i h1 fun i' e g1 g2 g3 g4 => h2 i' e g1 g2 g3 (ins_old g4)
  | true =>
    obtain ⟨m, hm, hs⟩ := hok.run hw
    have hm0 : ∃ m0, m = m0 + 1 := by
      cases m with
      | zero => unfold stepOp at hs; cases hs
      | succ m0 => exact ⟨m0, rfl⟩
    obtain ⟨m0, rfl⟩ := hm0
    have plain : r.k ≠ .fresh → r.k ≠ .eff → aop P E (evalO r.tmps) r.o (cur c0 rs p).σ = .val r.v (cur c0 rs p).σ → ∃ φ' w' a' cs' p' G', Steps P (lone (b.atR a (.inRegion ops (j :: rest) :: k)) cs w) (lone (b.atR a' (.inRegion ops rest :: k)) cs' w') ∧
        Inv P E n nn N ops rs c0 φ0 w0 kind cs0 (ins S j) φ' w' a' cs' p' G' := by
      intro hk1 hk2 hop
      have hGp : ∀ i, (cur c0 rs p).σ.get i = if i < (cur c0 rs p).σ.next then G i else none := fun i => by
        by_cases hi : i < (cur c0 rs p).σ.next
        · rw [if_pos hi, I.ga i hi]
        · rw [if_neg hi, I.ids i (by omega)]
      obtain ⟨φ', w', a', cs', s, q1, q2, q3, q4, q5, q6, q7, q8⟩ := I.core D hj hS hr hw (hSS _ hm) (stepOp_of_aop hop) hGp hz hpN (fun i h1 h2 => absurd h1 (by exact Nat.not_le.2 h2)) hb rest k
      have hcl : (cur c0 rs p).σ.clean.next = (cur c0 rs p).σ.next := rfl
      refine ⟨φ', w', a', cs', p, _, s, I.stay D hj hS hr hk2 q1 (fun i hi => ?_) (fun i e b h1 h2 h3 h4 h5 h6 => ?_) (fun i h1 h2 => ?_) q7 q8 q5 q6 q3⟩
      · rw [hcl, if_pos hi]; rfl
      · have hij : i ≠ j := by intro e; subst e; rw [hj] at h1; cases h1; exact hk1 h2
        rw [ins_other S hij] at h4
        rw [hcl, if_neg (Nat.not_lt.2 h5)]
        exact I.gb i e b h1 h2 h3 h4 h5 h6
      · rw [hcl, if_neg (Nat.not_lt.2 h1), q4.out i h1]
        exact I.gc i h1 fun i' e g1 g2 g3 g4 => h2 i' e g1 g2 g3 (ins_old g4)
    cases hk : r.k with
    | pure =>
      obtain ⟨σ1, h1, _, _, _⟩ := stepOp_quiet (by rw [D.kls hj, hk]; simp) hs
      exact plain (by rw [hk]; simp) (by rw [hk]; simp) ((aop_pure (by rw [D.kls hj, hk]) h1).2 _)
    | read => exact plain (by rw [hk]; simp) (by rw [hk]; simp) (I.read D hj hS hr hk hw)
    | fresh =>
      obtain ⟨b0, f1, f2, f3⟩ := D.fresh hj hk hw
      have hp := I.p_le D hj hS (.inr hk)
      have hpid : (cur c0 rs p).σ.next ≤ r.σ.next := by rw [hrσ]; exact D.mono hp (by omega)
      have hidN : r.σ.next + 1 ≤ N := by rw [← f1]; exact D.fits hj
      have uniq : ∀ (i : Nat) (e : Rec), rs[i]? = some e → e.k = .fresh → e.wanted = true → i ≠ j → e.σ.next ≠ r.σ.next := fun i e h1 h2 h3 hij => by
        obtain ⟨_, g1, _⟩ := D.fresh h1 h2 h3
        rcases Nat.lt_or_gt_of_ne hij with hl | hl
        · have := D.apart hj h1 hl; omega
        · have := D.apart h1 hj hl; omega
      obtain ⟨σ2, s1, s2⟩ := exists_st G r.σ.next
      have hub : φ r.σ.next = .unborn := (I.gc r.σ.next hpid fun i e h1 h2 h3 h4 => uniq i e h1 h2 h3 (by intro e; subst e; rw [hS] at h4; cases h4)).2 (by omega)
      obtain ⟨φ', w', a', cs', s, q1, q2, q3, q4, q5, q6, q7, q8⟩ := I.core D hj hS hr hw (hSS _ hm) (σ2 := σ2) (σ' := (σ2.new b0).clean) (stepOp_of_aop (f3 σ2 s1)) (by rw [s1]; exact s2) (by omega)
        (by show σ2.next + 1 ≤ N; omega) (fun i h1 h2 => by
          have h2' : i < σ2.next + 1 := h2
          rw [show i = r.σ.next by omega]; exact hub) hb rest k
      have hn' : (σ2.new b0).clean.next = r.σ.next + 1 := by show σ2.next + 1 = _; omega
      have hg' : ∀ i, (σ2.new b0).clean.get i = if i = r.σ.next then some b0 else if i < r.σ.next then G i else none := fun i => by
        show (σ2.new b0).get i = _
        rw [St.get_new, s1, s2]
      refine ⟨φ', w', a', cs', p, _, s, I.stay D hj hS hr (by rw [hk]; simp) q1 (fun i hi => ?_) (fun i e b h1 h2 h3 h4 h5 h6 => ?_) (fun i h1 h2 => ?_) q7 q8 q5 q6 q3⟩
      · rw [hn', hg', if_pos (by omega), if_neg (by omega), if_pos (by omega)]
        exact I.ga i hi
      · rw [hn', hg']
        by_cases hij : i = j
        · subst hij
          rw [hj] at h1
          cases h1
          rw [if_pos (by omega), if_pos rfl]
          rw [f2, if_pos rfl] at h6
          exact h6
        · have hne := uniq i e h1 h2 h3 hij
          rw [ins_other S hij] at h4
          have := I.gb i e b h1 h2 h3 h4 h5 h6
          rw [if_neg hne]
          split
          · rw [if_pos (by omega)]; exact this
          · exact this
      · have hne : i ≠ r.σ.next := fun e => h2 j r hj hk hw (ins_same S j) e.symm
        obtain ⟨g1, g2⟩ := I.gc i h1 fun i' e g1 g2 g3 g4 => h2 i' e g1 g2 g3 (ins_old g4)
        refine ⟨?_, fun hiN => ?_⟩
        · rw [hn', hg', if_neg hne]
          split
          · rw [if_pos (by omega)]; exact g1
          · exact g1
        · by_cases hl : i < r.σ.next
          · exact q4.quiet i (by omega) (g2 hiN)
          · rw [q4.out i (by omega)]; exact g2 hiN
    | eff =>
      obtain ⟨e1, e2, e3, e4, e5⟩ := effFacts hk
      have hnext := D.next hj
      have hfr : Fresh φ r.σ.next r.out.next := fun i h1 h2 => by
        refine (I.gc i ?_ fun i' e g1 g2 g3 g4 => ?_).2 (Nat.lt_of_lt_of_le h2 (D.fits hj))
        · have := D.mono e1 (Nat.le_of_lt hlt); rw [hrσ] at h1; omega
        · obtain ⟨_, g5, _⟩ := D.fresh g1 g2 g3
          have hij : i' ≠ j := by intro e; subst e; rw [hS] at g4; cases g4
          rcases Nat.lt_or_gt_of_ne hij with hl | hl
          · have := D.apart hj g1 hl; omega
          · have := D.apart g1 hj hl; omega
      have hz' : c0.σ.next ≤ r.σ.next := by
        have := D.mono e1 (Nat.le_of_lt hlt); rw [hrσ]; omega
      obtain ⟨φ', w', a', cs', s, q1, q2, q3, q4, q5, q6, q7, q8⟩ := I.core D hj hS hr hw (hSS _ hm) (by rw [← e4, ← e5]; exact hs) e3 hz' (D.fits hj) hfr hb rest k
      refine ⟨φ', w', a', cs', j + 1, _, s, I.pass D hj hS hr hk q1 (fun i hi => ?_) (fun i hi => ?_) (fun i hi => ?_) q7 q8 q5 q6 q3⟩
      · cases hg : r.out.get i with
        | none => rfl
        | some bb => have := q2.ids i bb hg; omega
      · rw [if_pos hi]
      · exact ⟨by rw [if_neg (by omega)], q4.out i hi⟩

end

end Go.Ab
