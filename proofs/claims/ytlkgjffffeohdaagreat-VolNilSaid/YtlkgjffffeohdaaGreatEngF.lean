/- The engine, part fifteen: loops whose own blocks stay, and new ones are let go. -/
import Derived.Test.YtlkgjffffeohdaaGreatEngE
set_option linter.unusedVariables false
namespace Go.Eng
open Go

def inH (n : Nat) : SV → Bool
  | .v _ => true
  | .p k _ _ => Nat.blt k n

def lbIn (n : Nat) : LB → Bool
  | .mk _ _ cs => cs.all (inH n)
  | .dead => true

def envIn (n : Nat) : Env → Bool
  | [] => true
  | (_, s) :: l => inH n s && envIn n l

section
variable {P : Program} {T : Tab} {n : Nat} {w0 : World} {H0 : HV} {M : Nat → Prop} {l : Env} {h : List LB} {H : HV} {a : Act} {w : World}

theorem nth_app {ex : List LB} {k : Nat} (hk : k < h.length) : nth (h ++ ex) k = nth h k := by
  rw [nth_eq, nth_eq, List.getElem?_append_left hk]

theorem okSV_drop {ex : List LB} {s : SV} (hs : okSV (h ++ ex) s) (hi : inH h.length s = true) : okSV h s := by
  cases s with
  | v x => trivial
  | p k r off =>
    simp only [inH, Nat.blt_eq] at hi
    simp only [okSV, nth_app hi] at hs
    exact hs

theorem Desc.letgo {ex : List LB} (d : Desc w0 H0 M (h ++ ex) H w) (hc : h.all (lbIn h.length) = true) : Desc w0 H0 M h H w := by
  have up : ∀ k r ty cs, nth h k = some (.mk r ty cs) → nth (h ++ ex) k = some (.mk r ty cs) := by
    intro k r ty cs hk
    have hlt : k < h.length := by
      rw [nth_eq] at hk
      exact (List.getElem?_eq_some_iff.1 hk).1
    rw [nth_app hlt]; exact hk
  refine ⟨d.kp, d.sub0, d.sub, d.dom, d.keep, fun k r ty cs hk => d.loc k r ty cs (up _ _ _ _ hk), fun k k' r ty cs ty' cs' hk hk' => d.inj k k' r ty cs ty' cs' (up _ _ _ _ hk) (up _ _ _ _ hk'), fun k r ty cs hk s hs => ?_⟩
  have hm : LB.mk r ty cs ∈ h := by rw [nth_eq] at hk; exact List.mem_of_getElem? hk
  have := List.all_eq_true.1 hc _ hm
  exact okSV_drop (d.okc k r ty cs (up _ _ _ _ hk) s hs) (List.all_eq_true.1 this s hs)

theorem envIn_look {m : Nat} : ∀ {l : Env}, envIn m l = true → ∀ t s, look l t = some s → inH m s = true
  | [], _, t, s, hs => by cases hs
  | (k, s') :: l, hl, t, s, hs => by
    simp only [envIn, Bool.and_eq_true] at hl
    simp only [look] at hs
    cases hb : Nat.beq k t with
    | true => rw [hb] at hs; simp at hs; subst hs; exact hl.1
    | false => rw [hb] at hs; exact envIn_look hl.2 t s hs

theorem VLoop.ok {X : Type} (l_ : X → Env) (H_ : X → HV) (I : X → Prop) (μ : X → Nat) {c : Code} {K : KK} (hT : tabOk P T = true) (hc : codeOk n c = true) (hin : (h.all (lbIn h.length)) = true) (hine : ∀ x, envIn h.length (l_ x) = true) (x0 : X) (hI : I x0)
    (hl : leL (l_ x0) l) (hH : H = H_ x0)
    (round : ∀ x, I x → vc P T n w0.heap.size M (Desc w0 H0 M) c (thenK (fun l' h' H' => ∃ x', I x' ∧ μ x' < μ x ∧ leL (l_ x') l' ∧ (∃ ex, h' = h ++ ex) ∧ H' = H_ x') K) (l_ x) h (H_ x)) :
    VLoop P n (Desc w0 H0 M) c l h H K := by
  constructor
  intro a w hs
  subst hH
  refine wp_loop_ghost (fun m a w => ∃ x, μ x = m ∧ I x ∧ Sat n (Desc w0 H0 M) (l_ x) h (H_ x) a w) (μ x0) ⟨x0, rfl, hI, hs.weaken hl⟩ ?_
  rintro m a w ⟨x, rfl, hI, hs⟩
  refine wp_mono (vc_sound (P := P) hT c _ _ _ _ a w hc hs (round x hI)) ?_
  rintro e a' w' ⟨l', h', H', hs', hk'⟩
  cases e with
  | normal =>
    obtain ⟨x', hI', hlt, hl', ⟨ex, rfl⟩, rfl⟩ := hk'
    have h1 := hs'.weaken hl'
    exact ⟨μ x', hlt, x', rfl, hI', ⟨⟨h1.fr.d, h1.fr.sz, fun t s ht => ⟨(h1.fr.kn t s ht).1, okSV_drop (h1.fr.kn t s ht).2 (envIn_look (hine x') t s ht)⟩⟩, h1.ds.letgo hin⟩⟩
  | _ => exact ⟨l', h', H', hs', hk'⟩

/-- behind a region only some is kept: one tail for all its orders -/
theorem VDraw.cut {X : Type} (l_ : X → Env) (h0 : List LB) (H_ : X → HV) (I : X → Prop) {ops : Array Oper} {K : Env → List LB → HV → Prop} (hin : (h0.all (lbIn h0.length)) = true) (hine : ∀ x, envIn h0.length (l_ x) = true)
    (hmid : VDraw P n (Desc w0 H0 M) ops l h H (fun l' h' H' => ∃ x, I x ∧ leL (l_ x) l' ∧ (∃ ex, h' = h0 ++ ex) ∧ H' = H_ x)) (htail : ∀ x, I x → K (l_ x) h0 (H_ x)) : VDraw P n (Desc w0 H0 M) ops l h H K := by
  constructor
  intro a w id hs
  refine wp_mono (hmid.out a w id hs) ?_
  rintro e a' w' ⟨rfl, l', h', H', hs', x, hI, hl, ⟨ex, rfl⟩, rfl⟩
  have h1 := hs'.weaken hl
  exact ⟨rfl, l_ x, h0, H_ x, ⟨⟨h1.fr.d, h1.fr.sz, fun t s ht => ⟨(h1.fr.kn t s ht).1, okSV_drop (h1.fr.kn t s ht).2 (envIn_look (hine x) t s ht)⟩⟩, h1.ds.letgo hin⟩, htail x hI⟩

/-- the same, where the own blocks turn too -/
theorem VLoop.okh {X : Type} (l_ : X → Env) (h_ : X → List LB) (H_ : X → HV) (I : X → Prop) (μ : X → Nat) {c : Code} {K : KK} (hT : tabOk P T = true) (hc : codeOk n c = true) (hin : ∀ x, ((h_ x).all (lbIn (h_ x).length)) = true) (hine : ∀ x, envIn (h_ x).length (l_ x) = true) (x0 : X) (hI : I x0)
    (hl : leL (l_ x0) l) (hh : h = h_ x0) (hH : H = H_ x0)
    (round : ∀ x, I x → vc P T n w0.heap.size M (Desc w0 H0 M) c (thenK (fun l' h' H' => ∃ x', I x' ∧ μ x' < μ x ∧ leL (l_ x') l' ∧ (∃ ex, h' = h_ x' ++ ex) ∧ H' = H_ x') K) (l_ x) (h_ x) (H_ x)) :
    VLoop P n (Desc w0 H0 M) c l h H K := by
  constructor
  intro a w hs
  subst hH; subst hh
  refine wp_loop_ghost (fun m a w => ∃ x, μ x = m ∧ I x ∧ Sat n (Desc w0 H0 M) (l_ x) (h_ x) (H_ x) a w) (μ x0) ⟨x0, rfl, hI, hs.weaken hl⟩ ?_
  rintro m a w ⟨x, rfl, hI, hs⟩
  refine wp_mono (vc_sound (P := P) hT c _ _ _ _ a w hc hs (round x hI)) ?_
  rintro e a' w' ⟨l', h', H', hs', hk'⟩
  cases e with
  | normal =>
    obtain ⟨x', hI', hlt, hl', ⟨ex, rfl⟩, rfl⟩ := hk'
    have h1 := hs'.weaken hl'
    exact ⟨μ x', hlt, x', rfl, hI', ⟨⟨h1.fr.d, h1.fr.sz, fun t s ht => ⟨(h1.fr.kn t s ht).1, okSV_drop (h1.fr.kn t s ht).2 (envIn_look (hine x') t s ht)⟩⟩, h1.ds.letgo (hin x')⟩⟩
  | _ => exact ⟨l', h', H', hs', hk'⟩
end
end Go.Eng
