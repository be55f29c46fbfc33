/- The engine, part thirteen: regions in an order of one's own: held loads, a floating operation. -/
import Derived.Test.YtlkgjffffeohdaaGreatEngC
set_option linter.unusedVariables false
set_option linter.unusedSimpArgs false
namespace Go.Eng
open Go

/-- some cells of the memory that hold all through a region -/
abbrev HCell := Nat × Nat × List Value

def CellsAt (w : World) (p : HCell) : Prop := ∃ arr ty fr, w.heap[p.1]? = some (.cells arr ty fr) ∧ p.2.1 + p.2.2.length ≤ arr.size ∧ (arr.extract p.2.1 (p.2.1 + p.2.2.length)).toList = p.2.2

def JL (L : List HCell) (w : World) : Prop := ∀ p ∈ L, CellsAt w p

def KnownC (h : List LB) (H : HV) (p : HCell) : Prop :=
  (∃ arr ty fr, H p.1 = some (.cells arr ty fr) ∧ p.2.1 + p.2.2.length ≤ arr.size ∧ (arr.extract p.2.1 (p.2.1 + p.2.2.length)).toList = p.2.2) ∨
  (∃ k ty cs, nth h k = some (.mk p.1 ty cs) ∧ Nat.ble 1 p.2.2.length = true ∧ takeV p.2.1 p.2.2.length (cs.map SV.val) = some p.2.2)

def HCall : List HCell → List LB → HV → Prop
  | [], _, _ => True
  | p :: L, h, H => KnownC h H p ∧ HCall L h H

def heldK (T : Tab) (L : List HCell) (l : Env) (o : Op) : Prop :=
  match o with
  | .load t x => match ev l x with
    | some s => match s.val with
      | .pointer (some ⟨b, off, none⟩) => match lookT T t with
        | some ti => ∃ i o d vs ws, nth L i = some (b, o, vs) ∧ off = o + d ∧ takeV d (match ti.k.agg with | true => ti.sz | false => 1) vs = some ws ∧ Nat.ble 1 ti.sz = true
        | none => False
      | _ => False
    | none => False
  | _ => False

def memN : Nat → List Nat → Bool
  | _, [] => false
  | i, k :: r => match Nat.beq i k with
    | true => true
    | false => memN i r

def exOpR (P : Program) (T : Tab) (B : Nat) (M : Nat → Prop) (D : List LB → HV → World → Prop) (L : List HCell) (hl : List Nat) (i : Nat) (o : Oper) (l : Env) (h : List LB) (H : HV) (K : Env → List LB → HV → Prop) : Prop :=
  match memN i hl with
  | true => heldK T L l o.op ∧ exOp P T B M D o l h H K
  | false => match isMainC (clsT T o.op) with
    | true => exOp P T B M D o l h H (fun l h H => HCall L h H ∧ K l h H)
    | false => exOp P T B M D o l h H K

def exOpsR (P : Program) (T : Tab) (B : Nat) (M : Nat → Prop) (D : List LB → HV → World → Prop) (L : List HCell) (hl : List Nat) (ops : Array Oper) (K : Env → List LB → HV → Prop) : List Nat → Env → List LB → HV → Prop
  | [], l, h, H => K l h H
  | i :: r, l, h, H => match nth ops.toList i with
    | none => False
    | some o => match o.guard with
      | none => exOpR P T B M D L hl i o l h H (exOpsR P T B M D L hl ops K r)
      | some (g, want) => match guardOf ops l g with
        | some (d, b) => match want with
          | true => vif b (exOpR P T B M D L hl i o ((d, .v (.bool true)) :: l) h H (exOpsR P T B M D L hl ops K r)) (putK ((d, .v (.bool false)) :: l) o.dst (.v undef) (fun l => exOpsR P T B M D L hl ops K r l h H))
          | false => vif b (putK ((d, .v (.bool true)) :: l) o.dst (.v undef) (fun l => exOpsR P T B M D L hl ops K r l h H)) (exOpR P T B M D L hl i o ((d, .v (.bool false)) :: l) h H (exOpsR P T B M D L hl ops K r))
        | none => False

def fkI (T : Tab) (bits : Nat) (hl : List Nat) (ops : Array Oper) (i : Nat) : Bool := match nth ops.toList i with
  | some o => match memN i hl with
    | true => false
    | false => isMainC (clsT T o.op) && !bits.testBit i
  | none => false

/-- the same with one that floats; fs: ahead of which operations it may come -/
def exOpsF (P : Program) (T : Tab) (B : Nat) (M : Nat → Prop) (D : List LB → HV → World → Prop) (L : List HCell) (hl : List Nat) (ops : Array Oper) (K : Env → List LB → HV → Prop) (A : Nat) (post fs : List Nat) : List Nat → Env → List LB → HV → Prop
  | [], l, h, H => exOpsR P T B M D L hl ops K (A :: post) l h H
  | i :: r, l, h, H => match nth ops.toList i with
    | none => False
    | some o => (match memN i fs with | true => exOpsR P T B M D L hl ops K (A :: i :: (r ++ post)) l h H | false => True) ∧ match o.guard with
      | none => exOpR P T B M D L hl i o l h H (exOpsF P T B M D L hl ops K A post fs r)
      | some (g, want) => match guardOf ops l g with
        | some (d, b) => match want with
          | true => vif b (exOpR P T B M D L hl i o ((d, .v (.bool true)) :: l) h H (exOpsF P T B M D L hl ops K A post fs r)) (putK ((d, .v (.bool false)) :: l) o.dst (.v undef) (fun l => exOpsF P T B M D L hl ops K A post fs r l h H))
          | false => vif b (putK ((d, .v (.bool true)) :: l) o.dst (.v undef) (fun l => exOpsF P T B M D L hl ops K A post fs r l h H)) (exOpR P T B M D L hl i o ((d, .v (.bool false)) :: l) h H (exOpsF P T B M D L hl ops K A post fs r))
        | none => False

/-- i among hl: it floats; i + 1000 among hl: a read that is held to be more than that -/
def clsR (T : Tab) (hl : List Nat) (ops : Array Oper) : Nat → Cls := fun i => match memN i hl with
  | true => .free
  | false => match memN (i + 1000) hl with
    | true => .main
    | false => clsO T ops i

theorem Out.force {P : Program} {ops : Array Oper} {J : World → Prop} {c : Cls} {o : Oper} {a : Act} {w : World} {K : Act → World → Prop} (hJ : J w) (h : Out P ops J c o a w K) : Out P ops J .main o a w K := by
  unfold Out at *
  split
  · rename_i hw
    rw [if_pos hw] at h
    cases c with
    | free =>
      obtain ⟨v, hv, hK⟩ := h
      show o.wp P a w _ _
      unfold Oper.wp
      rw [hv w hJ]
      exact ⟨hJ, hK⟩
    | read =>
      obtain ⟨v, hv, hK⟩ := h
      show o.wp P a w _ _
      unfold Oper.wp
      rw [hv]
      exact ⟨hJ, hK⟩
    | main => exact h
  · rename_i hw
    rw [if_neg hw] at h
    exact h

section
variable {P : Program} {T : Tab} {n : Nat} {w0 : World} {H0 : HV} {M : Nat → Prop} {l : Env} {h : List LB} {H : HV} {a : Act} {w : World} {L : List HCell} {hl : List Nat} {ops : Array Oper} {KL : Env → List LB → HV → Prop}

theorem takeV_extract : ∀ (vs : List Value) (o n : Nat) (r : List Value), takeV o n vs = some r → 1 ≤ n → o + n ≤ vs.length ∧ r = (vs.drop o).take n
  | vs, o, 0, r, hr, hn => by omega
  | [], o, n + 1, r, hr, _ => by cases o <;> simp [takeV] at hr
  | v :: vs, 0, 1, r, hr, _ => by simp [takeV] at hr; subst hr; simp
  | v :: vs, 0, n + 2, r, hr, _ => by
    unfold takeV at hr
    cases ht : takeV 0 (n + 1) vs with
    | none => rw [ht] at hr; cases hr
    | some q =>
      rw [ht] at hr; cases hr
      obtain ⟨h1, h2⟩ := takeV_extract vs 0 (n + 1) q ht (by omega)
      refine ⟨by simp at h1 ⊢; omega, by simp [h2]⟩
  | v :: vs, o + 1, n + 1, r, hr, _ => by
    simp only [takeV] at hr
    obtain ⟨h1, h2⟩ := takeV_extract vs o (n + 1) r hr (by omega)
    refine ⟨by simp at h1 ⊢; omega, by simp [h2]⟩

theorem KnownC.at {p : HCell} (d : Desc w0 H0 M h H w) (hk : KnownC h H p) : CellsAt w p := by
  rcases hk with ⟨arr, ty, fr, hb, hl, he⟩ | ⟨k, ty, cs, hn, hn1, ht⟩
  · exact ⟨arr, ty, fr, d.sub _ _ hb, hl, he⟩
  · obtain ⟨hb, _, _⟩ := d.loc _ _ _ _ hn
    obtain ⟨h1, h2⟩ := takeV_extract _ _ _ _ ht (Nat.le_of_ble_eq_true hn1)
    refine ⟨_, ty, (0, 0), hb, by simpa using h1, ?_⟩
    rw [Array.toList_extract]
    simp only [List.extract_eq_take_drop, Nat.add_sub_cancel_left]
    exact h2.symm

theorem HCall.J : ∀ {L : List HCell}, Desc w0 H0 M h H w → HCall L h H → JL L w
  | [], _, _, p, hp => by cases hp
  | q :: L, d, hc, p, hp => by
    rcases List.mem_cons.1 hp with rfl | hp
    · exact hc.1.at d
    · exact HCall.J d hc.2 p hp

theorem held_run (hT : tabOk P T = true) {o : Oper} (hf : Fr n l h a) (hk : heldK T L l o.op) : ∃ v, ∀ w', JL L w' → (execOp a.eval o).run P w' = .ok (.value v) w' := by
  unfold heldK at hk
  split at hk <;> first | (exact hk.elim) | skip
  rename_i t x hop
  cases hx : ev l x with
  | none => rw [hx] at hk; exact hk.elim
  | some s =>
    rw [hx] at hk; simp only at hk
    split at hk <;> first | (exact hk.elim) | skip
    rename_i b off hs
    cases ht : lookT T t with
    | none => rw [ht] at hk; exact hk.elim
    | some ti =>
      rw [ht] at hk; simp only at hk
      obtain ⟨i, o', d, vs, ws, hi, hoff, htk, hsz⟩ := hk
      have hty := tabOk_look hT ht
      obtain ⟨ex, _⟩ := ev_sound hf hx
      rw [hs] at ex
      have hmem : (b, o', vs) ∈ L := by rw [nth_eq] at hi; exact List.mem_of_getElem? hi
      have hsz' := Nat.le_of_ble_eq_true hsz
      cases ha : ti.k.agg with
      | true =>
        rw [ha] at htk; simp only at htk
        obtain ⟨hl1, hws⟩ := takeV_extract _ _ _ _ htk hsz'
        refine ⟨.agg ⟨ws⟩, fun w' hJ => ?_⟩
        obtain ⟨arr, ty, fr, hb, hl, he⟩ := hJ _ hmem
        simp only at hb hl he
        have h1 := (run_loadVar hty hb (off := off)).2 ha (by omega)
        refine exec_load hop ex ?_
        have e2 : arr.extract off (off + ti.sz) = ⟨ws⟩ := by
          refine Array.toList_inj.mp ?_
          rw [hws, ← he, hoff]
          simp only [Array.toList_extract, List.extract_eq_take_drop, Nat.add_sub_cancel_left]
          rw [List.drop_take, List.drop_drop, List.take_take]
          congr 1
          omega
        rw [h1, e2]
      | false =>
        rw [ha] at htk; simp only at htk
        obtain ⟨hl1, hws⟩ := takeV_extract _ _ _ _ htk (Nat.le_refl 1)
        refine ⟨vs[d], fun w' hJ => ?_⟩
        obtain ⟨arr, ty, fr, hb, hl, he⟩ := hJ _ hmem
        simp only at hb hl he
        have hv : arr[off]? = some vs[d] := by
          have h2 : (arr.extract o' (o' + vs.length)).toList[d]? = some vs[d] := by rw [he]; exact List.getElem?_eq_getElem (by omega)
          rw [Array.getElem?_toList, Array.getElem?_extract] at h2
          rw [if_pos (by omega)] at h2
          rw [hoff]; exact h2
        exact exec_load hop ex ((run_loadVar hty hb (off := off)).1 ha _ hv)

/-- one operation of the order -/
theorem exOpR_out (hT : tabOk P T = true) {i : Nat} {o : Oper} (ho : ops[i]? = some o) (hd : ∀ d, o.dst = some d → d < n) {R : Env → List LB → HV → Prop} {G : Act → World → Prop} (hs : Sat n (Desc w0 H0 M) l h H a w) (hJ : JL L w)
    (hw : Region.wanted o (yielded ops a.tmps) = true) (hk : exOpR P T w0.heap.size M (Desc w0 H0 M) L hl i o l h H R) (hG : ∀ a w, JL L w → AfterL n w0 H0 M a w R → G a w) : Out P ops (JL L) (clsR T hl ops i) o a w G := by
  unfold exOpR at hk
  unfold clsR clsO
  cases hm : memN i hl with
  | true =>
    rw [hm] at hk; simp only at hk
    obtain ⟨hh, hk⟩ := hk
    obtain ⟨v, hv⟩ := held_run hT hs.fr hh
    have h1 := exOp_sound hT hd hs hk (fun _ _ => trivial)
    have hcl : clsT T o.op = .read := by
      unfold heldK at hh
      split at hh <;> first | (exact hh.elim) | skip
      rename_i t x hop
      rw [hop]; rfl
    rw [hcl] at h1
    obtain ⟨v', hv', hA⟩ := h1
    have := (hv w hJ).symm.trans hv'
    simp only [Result.ok.injEq, Next.value.injEq, and_true] at this
    subst this
    unfold Out
    rw [if_pos hw]
    exact ⟨v, hv, hG _ _ hJ hA⟩
  | false =>
    rw [hm] at hk; simp only at hk
    have key : Out P ops (JL L) (clsT T o.op) o a w G := ?key
    case key =>
      unfold Out
      rw [if_pos hw]
      cases hc : clsT T o.op with
      | main =>
        rw [hc] at hk
        have h1 := exOp_sound hT hd hs hk (fun _ _ => trivial)
        rw [hc] at h1
        refine Oper.wp_mono ?_ h1
        rintro a' w' ⟨l', h', H', hs', hJ', hR⟩
        have := hJ'.J hs'.ds
        exact ⟨this, hG _ _ this ⟨l', h', H', hs', hR⟩⟩
      | free =>
        rw [hc] at hk
        have h1 := exOp_sound hT hd hs hk (fun _ _ => trivial)
        rw [hc] at h1
        obtain ⟨v, hv, hA⟩ := h1
        exact ⟨v, fun w' _ => hv w', hG _ _ hJ hA⟩
      | read =>
        rw [hc] at hk
        have h1 := exOp_sound hT hd hs hk (fun _ _ => trivial)
        rw [hc] at h1
        obtain ⟨v, hv, hA⟩ := h1
        exact ⟨v, hv, hG _ _ hJ hA⟩
    cases hf : memN (i + 1000) hl with
    | true => exact key.force hJ
    | false => simp only [ho]; exact key

theorem exGuard_out (hT : tabOk P T = true) {i : Nat} {o : Oper} (ho : ops[i]? = some o) (hd : ∀ d, o.dst = some d → d < n) {R : Env → List LB → HV → Prop} {G : Act → World → Prop} (hs : Sat n (Desc w0 H0 M) l h H a w) (hJ : JL L w)
    (hk : match o.guard with
      | none => exOpR P T w0.heap.size M (Desc w0 H0 M) L hl i o l h H R
      | some (g, want) => match guardOf ops l g with
        | some (d, b) => match want with
          | true => vif b (exOpR P T w0.heap.size M (Desc w0 H0 M) L hl i o ((d, .v (.bool true)) :: l) h H R) (putK ((d, .v (.bool false)) :: l) o.dst (.v undef) (fun l => R l h H))
          | false => vif b (putK ((d, .v (.bool true)) :: l) o.dst (.v undef) (fun l => R l h H)) (exOpR P T w0.heap.size M (Desc w0 H0 M) L hl i o ((d, .v (.bool false)) :: l) h H R)
        | none => False) (hG : ∀ a w, JL L w → AfterL n w0 H0 M a w R → G a w) : Out P ops (JL L) (clsR T hl ops i) o a w G := by
  have skip : ∀ l, Sat n (Desc w0 H0 M) l h H a w → ¬ Region.wanted o (yielded ops a.tmps) = true → putK l o.dst (.v undef) (fun l => R l h H) → Out P ops (JL L) (clsR T hl ops i) o a w G := by
    intro l hs hw hk
    unfold Out
    rw [if_neg hw]
    exact hG _ _ hJ ⟨_, h, H, ⟨skip_fr hs.fr hd, hs.ds⟩, putK_eq hk⟩
  split at hk
  · rename_i hg
    exact exOpR_out hT ho hd hs hJ (by simp [Region.wanted, hg]) hk hG
  · rename_i g want hg
    split at hk <;> first | (exact hk.elim) | skip
    rename_i d b hgo
    obtain ⟨hy, hf'⟩ := guard_sound hs.fr hgo
    have hw : Region.wanted o (yielded ops a.tmps) = (b == want) := by simp [Region.wanted, hg, hy]
    cases want with
    | true =>
      rcases vif_cases hk with ⟨rfl, hk⟩ | ⟨rfl, hk⟩
      · exact exOpR_out hT ho hd ⟨hf', hs.ds⟩ hJ (by rw [hw]; rfl) hk hG
      · exact skip _ ⟨hf', hs.ds⟩ (by rw [hw]; simp) hk
    | false =>
      rcases vif_cases hk with ⟨rfl, hk⟩ | ⟨rfl, hk⟩
      · exact skip _ ⟨hf', hs.ds⟩ (by rw [hw]; simp) hk
      · exact exOpR_out hT ho hd ⟨hf', hs.ds⟩ hJ (by rw [hw]; rfl) hk hG

theorem dst_at (hd : dstOk n ops.toList = true) {i : Nat} {o : Oper} (ho : ops[i]? = some o) : ∀ d, o.dst = some d → d < n :=
  dstOk_mem hd (by rw [← Array.getElem?_toList] at ho; exact List.mem_of_getElem? ho)

theorem exOpsR_sound (hT : tabOk P T = true) (hd : dstOk n ops.toList = true) : ∀ (r : List Nat) (l : Env) (h : List LB) (H : HV) (a : Act) (w : World), Sat n (Desc w0 H0 M) l h H a w → JL L w →
    exOpsR P T w0.heap.size M (Desc w0 H0 M) L hl ops KL r l h H → CP P ops (JL L) (clsR T hl ops) (fun a w => AfterL n w0 H0 M a w KL) r a w
  | [], l, h, H, a, w, hs, _, hk => ⟨l, h, H, hs, hk⟩
  | i :: r, l, h, H, a, w, hs, hJ, hk => by
    simp only [exOpsR, nth_eq, Array.getElem?_toList] at hk
    simp only [CP]
    cases ho : ops[i]? with
    | none => rw [ho] at hk; exact hk.elim
    | some o =>
      rw [ho] at hk
      exact exGuard_out hT ho (dst_at hd ho) hs hJ hk (fun a w hJ ⟨l', h', H', hs', hR⟩ => exOpsR_sound hT hd r l' h' H' a w hs' hJ hR)

theorem exOpsF_sound (hT : tabOk P T = true) (hd : dstOk n ops.toList = true) {A : Nat} {post fs : List Nat} : ∀ (r : List Nat) (l : Env) (h : List LB) (H : HV) (a : Act) (w : World), (∀ i ∈ r, fk ops (clsR T hl ops) A i = true → memN i fs = true) →
    Sat n (Desc w0 H0 M) l h H a w → JL L w → exOpsF P T w0.heap.size M (Desc w0 H0 M) L hl ops KL A post fs r l h H → CPF P ops (JL L) (clsR T hl ops) (fun a w => AfterL n w0 H0 M a w KL) A post r a w
  | [], l, h, H, a, w, hfs, hs, hJ, hk => exOpsR_sound hT hd _ l h H a w hs hJ hk
  | i :: r, l, h, H, a, w, hfs, hs, hJ, hk => by
    simp only [exOpsF, nth_eq, Array.getElem?_toList] at hk
    simp only [CPF]
    cases ho : ops[i]? with
    | none => rw [ho] at hk; exact hk.elim
    | some o =>
      rw [ho] at hk
      obtain ⟨h1, hk⟩ := hk
      have ih : ∀ a w, JL L w → AfterL n w0 H0 M a w (exOpsF P T w0.heap.size M (Desc w0 H0 M) L hl ops KL A post fs r) → CPF P ops (JL L) (clsR T hl ops) (fun a w => AfterL n w0 H0 M a w KL) A post r a w := by
        intro a w hJ hA
        obtain ⟨l', h', H', hs', hR⟩ := hA
        exact exOpsF_sound hT hd r l' h' H' a w (fun k hk => hfs k (List.mem_cons_of_mem _ hk)) hs' hJ hR
      have h2 := exGuard_out hT ho (dst_at hd ho) hs hJ hk ih
      cases hf : fk ops (clsR T hl ops) A i with
      | false => exact h2
      | true =>
        rw [hfs i (List.mem_cons_self ..) hf] at h1
        exact ⟨exOpsR_sound hT hd _ l h H a w hs hJ h1, h2⟩

def listOk (n : Nat) (T : Tab) (ops : Array Oper) (hl ord : List Nat) : Bool := linOk ops (clsR T hl ops) ord && dstOk n ops.toList
def floatOk (n : Nat) (T : Tab) (ops : Array Oper) (hl : List Nat) (A : Nat) (pre post fs : List Nat) : Bool :=
  floOk ops (clsR T hl ops) A pre post && dstOk n ops.toList && pre.all (fun i => !fk ops (clsR T hl ops) A i || memN i fs)

theorem VDraw.list {K : Env → List LB → HV → Prop} (L : List HCell) (hl ord : List Nat) (hT : tabOk P T = true) (hm : P.follows .mixedOrders = true) (hok : listOk n T ops hl ord = true) (hc : HCall L h H)
    (hk : exOpsR P T w0.heap.size M (Desc w0 H0 M) L hl ops K ord l h H) : VDraw P n (Desc w0 H0 M) ops l h H K := by
  simp only [listOk, Bool.and_eq_true] at hok
  constructor
  intro a w id hs
  have hs' : Sat n (Desc w0 H0 M) l h H a w.drew := ⟨hs.fr, hs.ds.drew⟩
  have hJ := hc.J hs'.ds
  have h1 := exOpsR_sound hT hok.2 ord l h H a w.drew hs' hJ hk
  exact region_list hm hok.1 hJ (CPF_nil_end (fun a w hA => ⟨rfl, hA⟩) _ _ _ hJ h1)

theorem VDraw.float {K : Env → List LB → HV → Prop} (L : List HCell) (hl : List Nat) (A : Nat) (pre post fs : List Nat) (hT : tabOk P T = true) (hm : P.follows .mixedOrders = true) (hok : floatOk n T ops hl A pre post fs = true) (hc : HCall L h H)
    (hk : exOpsF P T w0.heap.size M (Desc w0 H0 M) L hl ops K A post fs pre l h H) : VDraw P n (Desc w0 H0 M) ops l h H K := by
  simp only [floatOk, Bool.and_eq_true] at hok
  constructor
  intro a w id hs
  have hs' : Sat n (Desc w0 H0 M) l h H a w.drew := ⟨hs.fr, hs.ds.drew⟩
  have hJ := hc.J hs'.ds
  have h1 := exOpsF_sound hT hok.1.2 (fs := fs) pre l h H a w.drew (fun i hi hf => by
    have := List.all_eq_true.1 hok.2 i hi
    rw [hf] at this; simpa using this) hs' hJ hk
  exact region_float hm hok.1.1 hJ (CPF_end (fun a w hA => ⟨rfl, hA⟩) _ _ _ hJ h1)

def ownL : List Nat → List LB → List HCell
  | [], _ => []
  | k :: ks, h => match nth h k with
    | some (.mk r _ cs) => (r, 0, cs.map SV.val) :: ownL ks h
    | _ => ownL ks h

theorem VDraw.held {K : Env → List LB → HV → Prop} (ks : List Nat) (hl : List Nat) (hT : tabOk P T = true) (hm : P.follows .mixedOrders = true) (hok : listOk n T ops hl (List.range ops.size) = true) (hc : HCall (ownL ks h) h H)
    (hk : exOpsR P T w0.heap.size M (Desc w0 H0 M) (ownL ks h) hl ops K (List.range ops.size) l h H) : VDraw P n (Desc w0 H0 M) ops l h H K :=
  VDraw.list (ownL ks h) hl _ hT hm hok hc hk
end
end Go.Eng
