/- Stores of changes. -/
import Derived.Test.YtlkgjffffeohdaaGreatCache4
set_option linter.unusedVariables false
set_option linter.unusedSimpArgs false
namespace Go.Proofs.YtlkgjffffeohdaaGreat
open Go Go.Eng Go.Proofs

/-- a change that is open -/
structure Chg where
  b : Nat
  at_ : Nat
  data : List UInt8
  after : List Int
  out : Bool

/-- a block with open changes: its bytes without any, and their numbers -/
structure OnS where
  base : List UInt8
  l : List Int

structure St where
  d : Dk
  val : Nat → List UInt8
  last : Nat
  chg : Int → Option Chg
  on : Nat → Option OnS

structure ChgAt (H : HV) (F : Nat → Prop) (v : Value) (id : Int) (c : Chg) : Prop where
  out : ∃ x r n cc ab an ac, v = pV x ∧ F x ∧ H x = some (.cells #[.int .i64 id, .int .i64 c.b, .int .i64 c.at_, slV (some r) n cc, slV ab an ac, .bool c.out] 236 (0, 0)) ∧ F r ∧ BS H (some ⟨r, 0, none⟩) n cc c.data ∧
    (∀ r, ab = some r → F r) ∧ OS H 2 1 ab an ac (intsV c.after)

structure OnAt (H : HV) (F : Nat → Prop) (fo : Int → Option Value) (v : Value) (o : OnS) (lb : Option Nat) : Prop where
  out : ∃ y rb cb cl xs, v = pV y ∧ F y ∧ H y = some (.cells #[slV (some rb) 256 cb, slV lb o.l.length cl] 233 (0, 0)) ∧ F rb ∧ BS H (some ⟨rb, 0, none⟩) 256 cb o.base ∧ (∀ r, lb = some r → F r) ∧
    OS H 234 1 lb o.l.length cl xs ∧ xs.map some = o.l.map fo

structure StOk (st : St) : Prop where
  last : st.last < 4611686018427387904
  ids : ∀ k c, st.chg k = some c → 1 ≤ k ∧ k ≤ st.last ∧ c.b < st.d.n ∧ 1 ≤ c.data.length ∧ c.at_ + c.data.length ≤ 256 ∧ ∃ o, st.on c.b = some o ∧ k ∈ o.l
  on : ∀ b o, st.on b = some o → b < st.d.n ∧ o.base.length = 256 ∧ o.l ≠ [] ∧ o.l.Pairwise (· < ·) ∧ ∀ k ∈ o.l, ∃ c, st.chg k = some c ∧ c.b = b

structure SIn (H : HV) (Fc Fo : Nat → Prop) (p cp dp mo mm : Nat) (fo fm : Int → Option Value) (lb : Nat → Option Nat) (st : St) : Prop where
  ok : StOk st
  cache : CacheAt H Fc cp dp st.d st.val
  dom : ∀ i, Fo i → ∃ o, H i = some o
  sep : ∀ i, Fc i → Fo i → False
  fp : Fo p
  fmo : Fo mo
  fmm : Fo mm
  ne : mo ≠ mm
  cell : H p = some (.cells #[pV cp, .int .i64 st.d.n, .int .i64 st.last, .map (some mo), .map (some mm)] 227 (0, 0))
  mo : MO H mo fo
  mm : MO H mm fm
  o1 : ∀ k v, fo k = some v → ∃ c, st.chg k = some c ∧ ChgAt H Fo v k c
  o0 : ∀ k, fo k = none → st.chg k = none
  m1 : ∀ k v, fm k = some v → ∃ (b : Nat) (o : OnS), k = b ∧ st.on b = some o ∧ OnAt H Fo fo v o (lb b)
  m0 : ∀ b : Nat, fm b = none → st.on b = none
  oi : ∀ k k' v, fo k = some v → fo k' = some v → k = k'
  mi : ∀ k k' v, fm k = some v → fm k' = some v → k = k'
  li : ∀ b b' r, st.on b ≠ none → st.on b' ≠ none → lb b = some r → lb b' = some r → b = b'

def StoreAt (H : HV) (F : Nat → Prop) (p dp : Nat) (st : St) : Prop :=
  ∃ Fc Fo cp mo mm fo fm lb, SIn H Fc Fo p cp dp mo mm fo fm lb st ∧ ∀ i, F i ↔ Fc i ∨ Fo i

theorem StoreAt.dom {H : HV} {F : Nat → Prop} {p dp : Nat} {st : St} (h : StoreAt H F p dp st) : ∀ i, F i → ∃ o, H i = some o := by
  obtain ⟨Fc, Fo, cp, mo, mm, fo, fm, lb, hi, hF⟩ := h
  intro i hi'
  rcases (hF i).1 hi' with h | h
  · exact hi.cache.dom i h
  · exact hi.dom i h

theorem BS.on {H H' : HV} {r n c : Nat} {bs : List UInt8} (h : BS H (some ⟨r, 0, none⟩) n c bs) (hk : ∀ o, H r = some o → H' r = some o) : BS H' (some ⟨r, 0, none⟩) n c bs := by
  obtain ⟨arr, ty, fr, g1, g2, g3⟩ := h.rd
  exact ⟨h.len, h.le, arr, ty, fr, hk _ g1, g2, g3⟩

theorem ChgAt.mono {H H' : HV} {F F' : Nat → Prop} {v : Value} {id : Int} {c : Chg} (h : ChgAt H F v id c) (hk : ∀ i o, F i → H i = some o → H' i = some o) (hF : ∀ i, F i → F' i) : ChgAt H' F' v id c := by
  obtain ⟨x, r, n, cc, ab, an, ac, e1, e2, e3, e4, e5, e6, e7⟩ := h.out
  exact ⟨x, r, n, cc, ab, an, ac, e1, hF _ e2, hk _ _ e2 e3, hF _ e4, BS.on e5 (fun o => hk _ o e4), fun r hr => hF _ (e6 r hr), e7.mono (fun r o hr ho => hk _ _ (e6 r hr) ho)⟩

theorem OnAt.mono {H H' : HV} {F F' : Nat → Prop} {fo : Int → Option Value} {v : Value} {o : OnS} {lb : Option Nat} (h : OnAt H F fo v o lb) (hk : ∀ i o, F i → H i = some o → H' i = some o) (hF : ∀ i, F i → F' i) : OnAt H' F' fo v o lb := by
  obtain ⟨y, rb, cb, cl, xs, e1, e2, e3, e4, e5, e6, e7, e8⟩ := h.out
  exact ⟨y, rb, cb, cl, xs, e1, hF _ e2, hk _ _ e2 e3, hF _ e4, BS.on e5 (fun o => hk _ o e4), fun r hr => hF _ (e6 r hr), e7.mono (fun r o hr ho => hk _ _ (e6 r hr) ho), e8⟩

theorem SIn.mono {H H' : HV} {Fc Fo : Nat → Prop} {p cp dp mo mm : Nat} {fo fm : Int → Option Value} {lb : Nat → Option Nat} {st : St} (h : SIn H Fc Fo p cp dp mo mm fo fm lb st) (hc : On Fc H H') (ho : On Fo H H') : SIn H' Fc Fo p cp dp mo mm fo fm lb st :=
  ⟨h.ok, h.cache.mono hc, fun i hi => by obtain ⟨o, hh⟩ := h.dom i hi; exact ⟨o, ho _ _ hi hh⟩, h.sep, h.fp, h.fmo, h.fmm, h.ne, ho _ _ h.fp h.cell, h.mo.mono (fun o => ho _ o h.fmo), h.mm.mono (fun o => ho _ o h.fmm),
    fun k v hk => by obtain ⟨c, e1, e2⟩ := h.o1 k v hk; exact ⟨c, e1, e2.mono (fun i o => ho i o) (fun i hi => hi)⟩, h.o0,
    fun k v hk => by obtain ⟨b, o, e1, e2, e3⟩ := h.m1 k v hk; exact ⟨b, o, e1, e2, e3.mono (fun i o => ho i o) (fun i hi => hi)⟩, h.m0, h.oi, h.mi, h.li⟩

theorem StoreAt.mono {H H' : HV} {F : Nat → Prop} {p dp : Nat} {st : St} (h : StoreAt H F p dp st) (hs : On F H H') : StoreAt H' F p dp st := by
  obtain ⟨Fc, Fo, cp, mo, mm, fo, fm, lb, hi, hF⟩ := h
  exact ⟨Fc, Fo, cp, mo, mm, fo, fm, lb, hi.mono (hs.sub (fun i h => (hF i).2 (.inl h))) (hs.sub (fun i h => (hF i).2 (.inr h))), hF⟩

def St.new (d : Dk) : St := ⟨d, d.last, 0, fun _ => none, fun _ => none⟩

theorem popen_ok {H : HV} {Fd : Nat → Prop} {dp : Nat} {d : Dk} (most : Nat) (w : World) (hs : ∀ i o, H i = some o → w.heap[i]? = some o) (hd : DiskAt H Fd dp d) (h1 : 1 ≤ most) (h2 : d.n ≤ most) (h3 : most ≤ 4096) :
    Calls Tryz.prog 104 #[pV dp, iV most] w (Ret H (fun _ => False) (fun v H1 => Is (∃ p F, v = .tuple #[pV p, iV 0] ∧ StoreAt H1 F p dp (St.new d) ∧ Grow H Fd F)) w) := by
  refine fn_ret (args := [pV dp, iV most]) tabH Tryz.func104 rfl (by kernel_rfl)  hs ?_
  (conv => whnf); repeat first | (refine drw (by decide +kernel) ?_; conv => whnf) | (refine fun (_ : Nat) (_ : _ ≤ _) (_ : _ = none) => ?_; conv => whnf)
  (refine VCall.ret (by kernel_rfl) (fun w hs => cnew_ok most w hs hd h1 h2 h3) ?_ ?_)
  · rintro i ⟨⟩
  rintro v H1 hk1 hd1 ⟨cp, Fc, rfl, hc, hg⟩
  have hS1 : Sub H H1 := fun i o ho => hk1 i o ho (fun h => h)
  (conv => whnf); repeat first | (refine drw (by decide +kernel) ?_; conv => whnf) | (refine fun (_ : Nat) (_ : _ ≤ _) (_ : _ = none) => ?_; conv => whnf)
  (refine VCall.pure_ (by kernel_rfl) (fun w hs => dlen_ok w hs (hd.mono (hS1.on Fd))) ?_); (conv => whnf); repeat first | (refine drw (by decide +kernel) ?_; conv => whnf) | (refine fun (_ : Nat) (_ : _ ≤ _) (_ : _ = none) => ?_; conv => whnf)
  intro mo H2 hB2 hN2 hE2
  (conv => whnf); repeat first | (refine drw (by decide +kernel) ?_; conv => whnf) | (refine fun (_ : Nat) (_ : _ ≤ _) (_ : _ = none) => ?_; conv => whnf)
  intro mm H3 hB3 hN3 hE3
  conv => whnf
  intro p hBp hNp
  conv => whnf
  intro H4 hE4
  conv => whnf
  have up : ∀ i o, H1 i = some o → H4 i = some o := fun i o ho => hE4.old _ _ (hE3.old _ _ (hE2.old _ _ ho))
  have hmo : H4 mo = some (.map #[] 0) := hE4.old _ _ (hE3.old _ _ hE2.new)
  have hmm : H4 mm = some (.map #[] 0) := hE4.old _ _ hE3.new
  have hpn : H1 p = none := hE2.none (hE3.none hNp)
  refine ⟨p, fun i => Fc i ∨ (i = p ∨ i = mo ∨ i = mm), rfl, ⟨Fc, fun i => i = p ∨ i = mo ∨ i = mm, cp, mo, mm, fun _ => none, fun _ => none, fun _ => none, ⟨⟨(by show 0 < _; decide), (fun k c hk => by cases hk), (fun b o hb => by cases hb)⟩, hc.mono (fun i o _ ho => up i o ho), ?_, ?_, .inl rfl, .inr (.inl rfl), .inr (.inr rfl), (fun e => by rw [← e, hE2.new] at hN3; cases hN3), hE4.new, MO.new hmo, MO.new hmm, (fun k v hk => by cases hk), fun _ _ => rfl, (fun k v hk => by cases hk), fun _ _ => rfl, (fun k k' v hk => by cases hk), (fun k k' v hk => by cases hk), fun b b' r h => (h rfl).elim⟩, fun i => Iff.rfl⟩, ?_⟩
  · rintro i (rfl | rfl | rfl)
    · exact ⟨_, hE4.new⟩
    · exact ⟨_, hmo⟩
    · exact ⟨_, hmm⟩
  · rintro i hi h
    obtain ⟨o, ho⟩ := hc.dom i hi
    rcases h with rfl | rfl | rfl
    · rw [hpn] at ho; cases ho
    · rw [hN2] at ho; cases ho
    · rw [hE2.none hN3] at ho; cases ho
  · refine ⟨?_, fun i h => .inl (hg.inn i h)⟩
    rintro i (hi | rfl | rfl | rfl)
    · exact hg.out i hi
    · exact .inr (hS1.none hpn)
    · exact .inr (hS1.none hN2)
    · exact .inr (hS1.none (hE2.none hN3))

theorem SIn.c0 {H : HV} {Fc Fo : Nat → Prop} {p cp dp mo mm : Nat} {fo fm : Int → Option Value} {lb : Nat → Option Nat} {st : St} (h : SIn H Fc Fo p cp dp mo mm fo fm lb st) :
    RdC H p 0 (pV cp) ∧ RdC H p 1 (iV st.d.n) ∧ RdC H p 2 (iV st.last) ∧ RdC H p 3 (.map (some mo)) ∧ RdC H p 4 (.map (some mm)) :=
  ⟨⟨_, _, _, h.cell, rfl⟩, ⟨_, _, _, h.cell, rfl⟩, ⟨_, _, _, h.cell, rfl⟩, ⟨_, _, _, h.cell, rfl⟩, ⟨_, _, _, h.cell, rfl⟩⟩

theorem SIn.recache {H H' : HV} {Fc Fo Fc' : Nat → Prop} {p cp dp mo mm : Nat} {fo fm : Int → Option Value} {lb : Nat → Option Nat} {st : St} (h : SIn H Fc Fo p cp dp mo mm fo fm lb st) (hk : ∀ i o, H i = some o → ¬ Fc i → H' i = some o) (hc : CacheAt H' Fc' cp dp st.d st.val) (hg : Grow H Fc Fc') :
    SIn H' Fc' Fo p cp dp mo mm fo fm lb st := by
  have ho : On Fo H H' := fun i o hi hh => hk i o hh (fun hf => h.sep i hf hi)
  exact ⟨h.ok, hc, fun i hi => by obtain ⟨o, hh⟩ := h.dom i hi; exact ⟨o, ho _ _ hi hh⟩, (fun i hi hi2 => by
      rcases hg.out i hi with h1 | h1
      · exact h.sep i h1 hi2
      · obtain ⟨o, hh⟩ := h.dom i hi2
        rw [h1] at hh; cases hh), h.fp, h.fmo, h.fmm, h.ne, ho _ _ h.fp h.cell, h.mo.mono (fun o => ho _ o h.fmo), h.mm.mono (fun o => ho _ o h.fmm),
    fun k v hk => by obtain ⟨c, e1, e2⟩ := h.o1 k v hk; exact ⟨c, e1, e2.mono (fun i o => ho i o) (fun i hi => hi)⟩, h.o0,
    fun k v hk => by obtain ⟨b, o, e1, e2, e3⟩ := h.m1 k v hk; exact ⟨b, o, e1, e2, e3.mono (fun i o => ho i o) (fun i hi => hi)⟩, h.m0, h.oi, h.mi, h.li⟩

theorem StoreAt.recache {H H' : HV} {F Fc Fo Fc' : Nat → Prop} {p cp dp mo mm : Nat} {fo fm : Int → Option Value} {lb : Nat → Option Nat} {st : St} (h : SIn H Fc Fo p cp dp mo mm fo fm lb st) (hF : ∀ i, F i ↔ Fc i ∨ Fo i) (hk : ∀ i o, H i = some o → ¬ Fc i → H' i = some o) (hc : CacheAt H' Fc' cp dp st.d st.val) (hg : Grow H Fc Fc') :
    StoreAt H' (fun i => F i ∨ Fc' i) p dp st ∧ Grow H F (fun i => F i ∨ Fc' i) := by
  refine ⟨⟨Fc', Fo, cp, mo, mm, fo, fm, lb, h.recache hk hc hg, fun i => ?_⟩, fun i hi => ?_, fun i hi => .inl hi⟩
  · show (F i ∨ Fc' i) ↔ (Fc' i ∨ Fo i)
    rw [hF i]
    constructor
    · rintro ((h | h) | h)
      · exact .inl (hg.inn i h)
      · exact .inr h
      · exact .inl h
    · rintro (h | h)
      · exact .inr h
      · exact .inl (.inr h)
  · rcases hi with h | h
    · exact .inl h
    · rcases hg.out i h with h | h
      · exact .inl ((hF i).2 (.inl h))
      · exact .inr h

theorem sread_ok {H : HV} {F : Nat → Prop} {p dp : Nat} {st : St} {b : Nat} (w : World) (hs : ∀ i o, H i = some o → w.heap[i]? = some o) (hc : StoreAt H F p dp st) (hb : b < st.d.n) :
    Calls Tryz.prog 80 #[pV p, iV b] w (Ret H F (fun v H1 => Is (∃ r c F', v = .tuple #[slV (some r) 256 c, iV 0] ∧ H r = none ∧ OS H1 5 1 (some r) 256 c (bytesV (st.val b)) ∧ StoreAt H1 F' p dp st ∧ Grow H F F' ∧ ¬ F' r)) w) := by
  refine fn_ret (args := [pV p, iV b]) tabH Tryz.func80 rfl (by kernel_rfl)  hs ?_
  obtain ⟨Fc, Fo, cp, mo, mm, fo, fm, lb, hi, hF⟩ := hc
  obtain ⟨c0, c1, c2, c3, c4⟩ := hi.c0
  (conv => whnf); repeat first | (refine drw (by decide +kernel) ?_; conv => whnf) | (refine fun (_ : Nat) (_ : _ ≤ _) (_ : _ = none) => ?_; conv => whnf)
  refine ⟨_, c0, ?_⟩
  (conv => whnf); repeat first | (refine drw (by decide +kernel) ?_; conv => whnf) | (refine fun (_ : Nat) (_ : _ ≤ _) (_ : _ = none) => ?_; conv => whnf)
  (refine VCall.ret (by kernel_rfl) (fun w hs => cread_ok w hs hi.cache hb) ?_ ?_)
  · rintro i hi'; exact ⟨hi.cache.dom i hi', .inl ((hF i).2 (.inl hi'))⟩
  rintro v H1 hk1 hd1 ⟨r, c, Fc', rfl, hN, ho, hc', hg, hnr⟩
  (conv => whnf); repeat first | (refine drw (by decide +kernel) ?_; conv => whnf) | (refine fun (_ : Nat) (_ : _ ≤ _) (_ : _ = none) => ?_; conv => whnf)
  obtain ⟨g1, g2⟩ := StoreAt.recache hi hF hk1 hc' hg
  refine ⟨r, c, _, rfl, hN, ho, g1, g2, ?_⟩
  rintro (h | h)
  · rcases (hF r).1 h with h | h
    · obtain ⟨o, hh⟩ := hi.cache.dom r h; rw [hN] at hh; cases hh
    · obtain ⟨o, hh⟩ := hi.dom r h; rw [hN] at hh; cases hh
  · exact hnr h
end Go.Proofs.YtlkgjffffeohdaaGreat
