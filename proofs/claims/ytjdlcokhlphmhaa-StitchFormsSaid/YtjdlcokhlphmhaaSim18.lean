/-
  A region whose order is open: whatever order the model draws, it comes to what the text's order comes to.
-/
import Derived.Test.YtjdlcokhlphmhaaSim15
import Derived.Test.YtjdlcokhlphmhaaSim17
namespace Go.Sim

/-! ### What an operation looks at -/

theorem ev_congr {f f' : Nat → Value} : ∀ {l : List Operand}, (∀ t ∈ tmpsOf l, f t = f' t) → ∀ x ∈ l, ev f x = ev f' x
  | [], _, x, hx => by simp at hx
  | y :: l, h, x, hx => by
    have h' : ∀ t ∈ tmpsOf l, f t = f' t := by
      intro t ht
      apply h
      cases y <;> simp [tmpsOf, ht]
    rcases List.mem_cons.1 hx with rfl | hx
    · cases x with
      | tmp t => exact h t (by simp [tmpsOf])
      | _ => rfl
    · exact ev_congr h' x hx

theorem map_congr_opds {g g' : Operand → Value} {xs : List Operand} (h : ∀ x ∈ xs, g x = g' x) : xs.map g = xs.map g' := List.map_congr_left h

theorem opt_congr {g g' : Operand → Value} {x : Option Operand} (h : ∀ y ∈ x.toList, g y = g' y) : x.map g = x.map g' := by
  cases x with
  | none => rfl
  | some y => simp [h y (by simp)]

theorem parts_congr {g g' : Operand → Value} {ps : List (Nat × Nat × Operand)} (h : ∀ x ∈ ps.map (·.2.2), g x = g' x) : (ps.map fun (o, s, x) => (o, s, g x)) = ps.map fun (o, s, x) => (o, s, g' x) := by
  apply List.map_congr_left
  rintro ⟨o, s, x⟩ hx
  simp [h x (by simp; exact ⟨o, s, hx⟩)]

theorem ipure_congr {o : POp} {g g' : Operand → Value} (h : ∀ x ∈ o.opds, g x = g' x) : ipure o g = ipure o g' := by
  cases o with
  | minmax mx xs =>
    simp only [ipure]
    rw [map_congr_opds (xs := xs) h]
  | slS x lo hi =>
    simp only [ipure, POp.opds] at *
    rw [h x (by simp), opt_congr (x := lo) (fun y hy => h y (by simp at hy ⊢; exact .inr (.inl hy))), opt_congr (x := hi) (fun y hy => h y (by simp at hy ⊢; exact .inr (.inr hy)))]
  | slSl e s x lo hi =>
    simp only [ipure, POp.opds] at *
    rw [h x (by simp), opt_congr (x := lo) (fun y hy => h y (by simp at hy ⊢; exact .inr (.inl hy))), opt_congr (x := hi) (fun y hy => h y (by simp at hy ⊢; exact .inr (.inr hy)))]
  | fn f first captured =>
    simp only [ipure, POp.opds] at *
    rw [map_congr_opds (xs := first) (fun x hx => h x (by simp [hx])), map_congr_opds (xs := captured) (fun x hx => h x (by simp [hx]))]
  | build zero parts =>
    simp only [ipure]
    rw [parts_congr (ps := parts) h]
  | _ => simp [POp.opds] at h; simp [ipure, h]

theorem iload_congr {o : LOp} {g g' : Operand → Value} (h : ∀ x ∈ o.opds, g x = g' x) (H : Heap) : iload o g H = iload o g' H := by
  cases o <;> simp [LOp.opds] at h <;> simp [iload, h]

theorem ieff_congr {o : EOp} {g g' : Operand → Value} (h : ∀ x ∈ o.opds, g x = g' x) (H : Heap) : ieff o g H = ieff o g' H := by
  cases o with
  | mkSl e n zs ps =>
    simp only [ieff]
    rw [parts_congr (ps := ps) h]
  | _ => simp [EOp.opds] at h; simp [ieff, h]

theorem stepK_congr {P : Program} {io : IOp} {f f' : Nat → Value} {h : Heap} {K : Value → Heap → Prop} (hf : ∀ t ∈ tmpsOf io.opds, f t = f' t) : stepK P io f h K ↔ stepK P io f' h K := by
  have he := ev_congr hf
  cases io with
  | p o => simp only [stepK]; rw [ipure_congr he]
  | l o => simp only [stepK]; rw [iload_congr he]
  | e o => simp only [stepK]; rw [ieff_congr he]
  | call g args =>
    simp only [stepK]
    rw [map_congr_opds (xs := args) he]
  | callv x args => simp only [stepK]; rw [he x (by simp [IOp.opds]), map_congr_opds (xs := args) (fun y hy => he y (by simp [IOp.opds, hy]))]

/-! ### The trace -/

/-- What every step of the region comes to, in the text's order. -/
structure Trace (P : Program) (l : List DOper) (j0 : Nat) (F : Nat → Nat → Value) (H : Nat → Heap) (V : Nat → Value) : Prop where
  upd : ∀ k o, l[k]? = some o → F (j0 + k + 1) = updO (F (j0 + k)) o.op.dst (V (j0 + k))
  gok : ∀ k o, l[k]? = some o → gOk o.op.guard (F (j0 + k))
  yes : ∀ k o, l[k]? = some o → wantB o.op.guard (F (j0 + k)) = true → stepK P o.op.op (F (j0 + k)) (H (j0 + k)) fun v h' => v = V (j0 + k) ∧ h' = H (j0 + k + 1)
  no : ∀ k o, l[k]? = some o → wantB o.op.guard (F (j0 + k)) = false → V (j0 + k) = undef ∧ H (j0 + k + 1) = H (j0 + k)
  past : ∀ e oe k ok lo, l[e]? = some oe → oe.op.op.isE = true → l[k]? = some ok → ok.op.op = .l lo → wantB ok.op.guard (F (j0 + k)) = true → e < k → ok.pre.testBit (j0 + e) = false →
    iload lo (ev (F (j0 + k))) (H (j0 + e)) = some (V (j0 + k))
  fut : ∀ k ok lo e oe, l[k]? = some ok → ok.op.op = .l lo → wantB ok.op.guard (F (j0 + k)) = true → l[e]? = some oe → oe.op.op.isE = true → k < e → oe.pre.testBit (j0 + k) = false →
    iload lo (ev (F (j0 + k))) (H (j0 + e + 1)) = some (V (j0 + k))

theorem chkPast_mem {pre : Nat} {lo : LOp} {f : Nat → Value} {v : Value} : ∀ {hs : List (Nat × Heap)}, chkPast pre lo f v hs → ∀ e H, (e, H) ∈ hs → pre.testBit e = false → iload lo (ev f) H = some v
  | [], _, e, H, hm, _ => by simp at hm
  | (e', H') :: r, h, e, H, hm, hp => by
    simp only [chkPast] at h
    rcases List.mem_cons.1 hm with hq | hm
    · cases hq
      rw [if_neg (by rw [hp]; simp)] at h
      exact h.1
    · split at h
      · exact chkPast_mem h e H hm hp
      · exact chkPast_mem h.2 e H hm hp

theorem chkFut_mem {pre : Nat} {H : Heap} : ∀ {ls : Loads}, chkFut pre H ls → ∀ j lo f v, (j, lo, f, v) ∈ ls → pre.testBit j = false → iload lo (ev f) H = some v
  | [], _, j, lo, f, v, hm, _ => by simp at hm
  | (j', lo', f', v') :: r, h, j, lo, f, v, hm, hp => by
    simp only [chkFut] at h
    rcases List.mem_cons.1 hm with hq | hm
    · cases hq
      rw [if_neg (by rw [hp]; simp)] at h
      exact h.1
    · split at h
      · exact chkFut_mem h j lo f v hm hp
      · exact chkFut_mem h.2 j lo f v hm hp

theorem at_succ (j k : Nat) : j + 1 + k = j + (k + 1) := by omega

def TrExt (P : Program) (l : List DOper) (j : Nat) (heaps : List (Nat × Heap)) (loads : Loads) (K : (Nat → Value) → Heap → Prop) (f : Nat → Value) (h : Heap) : Prop :=
  ∃ F H V, F j = f ∧ H j = h ∧ K (F (j + l.length)) (H (j + l.length)) ∧ Trace P l j F H V ∧
    (∀ e Hh, (e, Hh) ∈ heaps → ∀ k ok lo, l[k]? = some ok → ok.op.op = .l lo → wantB ok.op.guard (F (j + k)) = true → ok.pre.testBit e = false → iload lo (ev (F (j + k))) Hh = some (V (j + k))) ∧
    (∀ i lo ff v, (i, lo, ff, v) ∈ loads → ∀ e oe, l[e]? = some oe → oe.op.op.isE = true → oe.pre.testBit i = false → iload lo (ev ff) (H (j + e + 1)) = some v)

theorem idops_trace {P : Program} : ∀ {l : List DOper} {j : Nat} {heaps : List (Nat × Heap)} {loads : Loads} {K : (Nat → Value) → Heap → Prop} {f : Nat → Value} {h : Heap}, idops P l j heaps loads K f h → TrExt P l j heaps loads K f h
  | [], j, heaps, loads, K, f, h, hi =>
    ⟨fun _ => f, fun _ => h, fun _ => undef, rfl, rfl, hi, ⟨fun k o hk => by simp at hk, fun k o hk => by simp at hk, fun k o hk => by simp at hk, fun k o hk => by simp at hk, fun e oe k ok lo hk => by simp at hk, fun k ok lo e oe hk => by simp at hk⟩,
      fun e Hh hm k ok lo hk => by simp at hk, fun i lo ff v hm e oe hk => by simp at hk⟩
  | o :: os, j, heaps, loads, K, f, h, hi => by
    -- the rest, and how the first step is laid ahead of it
    have key : ∀ (v : Value) (h' : Heap) (heaps' : List (Nat × Heap)) (loads' : Loads), gOk o.op.guard f → idops P os (j + 1) heaps' loads' K (updO f o.op.dst v) h' →
        (∀ p ∈ heaps, p ∈ heaps') → (∀ p ∈ loads, p ∈ loads') → (o.op.op.isE = true → (j, h) ∈ heaps') → (∀ lo, o.op.op = .l lo → wantB o.op.guard f = true → (j, lo, f, v) ∈ loads') →
        (wantB o.op.guard f = true → stepK P o.op.op f h fun u g => u = v ∧ g = h') → (wantB o.op.guard f = false → v = undef ∧ h' = h) →
        (∀ lo, o.op.op = .l lo → wantB o.op.guard f = true → ∀ e Hh, (e, Hh) ∈ heaps → o.pre.testBit e = false → iload lo (ev f) Hh = some v) →
        (o.op.op.isE = true → ∀ i lo ff u, (i, lo, ff, u) ∈ loads → o.pre.testBit i = false → iload lo (ev ff) h' = some u) →
        TrExt P (o :: os) j heaps loads K f h := by
      intro v h' heaps' loads' hgk hrest hh hl hE hL hy hn hp hf
      obtain ⟨F, H, V, f1, f2, f3, T, fp, ff⟩ := idops_trace hrest
      have over : ∀ {α : Type} (x : α) (G : Nat → α), ∃ G2 : Nat → α, G2 j = x ∧ (∀ k, G2 (j + k + 1) = G (j + 1 + k)) ∧ ∀ k, G2 (j + (k + 1)) = G (j + 1 + k) := by
        intro α x G
        refine ⟨fun k => if k = j then x else G k, by simp, fun k => ?_, fun k => ?_⟩
        · show (if j + k + 1 = j then x else G (j + k + 1)) = _
          rw [if_neg (by omega)]
          congr 1
          omega
        · show (if j + (k + 1) = j then x else G (j + (k + 1))) = _
          rw [if_neg (by omega)]
          congr 1
          omega
      obtain ⟨F2, eF0, eF1, eF⟩ := over f F
      obtain ⟨H2, eH0, eH1, eH⟩ := over h H
      obtain ⟨V2, eV0, eV1, eV⟩ := over v V
      have eF10 : F2 (j + 1) = F (j + 1) := eF1 0
      have eH10 : H2 (j + 1) = H (j + 1) := eH1 0
      refine ⟨F2, H2, V2, eF0, eH0, ?_, ?_, ?_, ?_⟩
      · rw [List.length_cons, eF, eH]
        exact f3
      · constructor
        · intro k ok hk
          cases k with
          | zero =>
            simp at hk; subst hk
            simp only [Nat.add_zero]
            rw [eF10, eF0, eV0]
            exact f1
          | succ k =>
            have := T.upd k ok (by simpa using hk)
            rw [eF1, eF, eV, show j + 1 + (k + 1) = j + 1 + k + 1 by omega]
            exact this
        · intro k ok hk
          cases k with
          | zero =>
            simp at hk; subst hk
            simp only [Nat.add_zero]
            rw [eF0]
            exact hgk
          | succ k =>
            rw [eF]
            exact T.gok k ok (by simpa using hk)
        · intro k ok hk hw
          cases k with
          | zero =>
            simp at hk; subst hk
            simp only [Nat.add_zero] at hw ⊢
            rw [eF0] at hw
            rw [eH10, eF0, eH0, eV0, f2]
            exact hy hw
          | succ k =>
            rw [eF] at hw
            rw [eH1, eF, eH, eV, show j + 1 + (k + 1) = j + 1 + k + 1 by omega]
            exact T.yes k ok (by simpa using hk) hw
        · intro k ok hk hw
          cases k with
          | zero =>
            simp at hk; subst hk
            simp only [Nat.add_zero] at hw ⊢
            rw [eF0] at hw
            rw [eH10, eH0, eV0, f2]
            exact hn hw
          | succ k =>
            rw [eF] at hw
            rw [eH1, eH, eV, show j + 1 + (k + 1) = j + 1 + k + 1 by omega]
            exact T.no k ok (by simpa using hk) hw
        · intro e oe k ok lo he hE' hk hlo hw hlt hpre
          cases k with
          | zero => omega
          | succ k =>
            rw [eF] at hw ⊢
            rw [eV]
            cases e with
            | zero =>
              simp at he; subst he
              simp only [Nat.add_zero] at hpre ⊢
              rw [eH0]
              exact fp j h (hE hE') k ok lo (by simpa using hk) hlo hw hpre
            | succ e =>
              rw [eH]
              rw [show j + (e + 1) = j + 1 + e by omega] at hpre
              exact T.past e oe k ok lo (by simpa using he) hE' (by simpa using hk) hlo hw (by omega) hpre
        · intro k ok lo e oe hk hlo hw he hE' hlt hpre
          cases e with
          | zero => omega
          | succ e =>
            rw [eH1, show j + 1 + (e + 1) = j + 1 + e + 1 by omega]
            cases k with
            | zero =>
              simp at hk; subst hk
              simp only [Nat.add_zero] at hw hpre ⊢
              rw [eF0] at hw ⊢
              rw [eV0]
              exact ff j lo f v (hL lo hlo hw) e oe (by simpa using he) hE' hpre
            | succ k =>
              rw [eF] at hw ⊢
              rw [eV]
              rw [show j + (k + 1) = j + 1 + k by omega] at hpre
              exact T.fut k ok lo e oe (by simpa using hk) hlo hw (by simpa using he) hE' (by omega) hpre
      · intro e Hh hm k ok lo hk hlo hw hpre
        cases k with
        | zero =>
          simp at hk; subst hk
          simp only [Nat.add_zero] at hw ⊢
          rw [eF0] at hw ⊢
          rw [eV0]
          exact hp lo hlo hw e Hh hm hpre
        | succ k =>
          rw [eF] at hw ⊢
          rw [eV]
          exact fp e Hh (hh _ hm) k ok lo (by simpa using hk) hlo hw hpre
      · intro i lo ff' u hm e oe he hE' hpre
        cases e with
        | zero =>
          simp at he; subst he
          simp only [Nat.add_zero]
          rw [eH10, f2]
          exact hf hE' i lo ff' u hm hpre
        | succ e =>
          rw [eH1, show j + 1 + (e + 1) = j + 1 + e + 1 by omega]
          exact ff i lo ff' u (hl _ hm) e oe (by simpa using he) hE' hpre
    have go : gOk o.op.guard f → wantB o.op.guard f = true → dwant P o.op.op o.pre j heaps loads f h (fun heaps loads v h' => idops P os (j + 1) heaps loads K (updO f o.op.dst v) h') → TrExt P (o :: os) j heaps loads K f h := fun hgk hw hd => by
      have eff : o.op.op.isE = true → stepK P o.op.op f h (fun v h' => chkFut o.pre h' loads ∧ idops P os (j + 1) (heaps ++ [(j, h)]) loads K (updO f o.op.dst v) h') → TrExt P (o :: os) j heaps loads K f h := fun hE hs => by
        have hnl : ∀ lo, o.op.op ≠ .l lo := by intro lo e; rw [e] at hE; cases hE
        have ex : ∃ v h', stepK P o.op.op f h (fun u g => u = v ∧ g = h') ∧ chkFut o.pre h' loads ∧ idops P os (j + 1) (heaps ++ [(j, h)]) loads K (updO f o.op.dst v) h' := by
          generalize o.op.op = io at hs ⊢
          cases io with
          | p po =>
            simp only [stepK, oletP] at hs ⊢
            split at hs
            · exact ⟨_, _, ⟨rfl, rfl⟩, hs⟩
            · exact hs.elim
          | l lo =>
            simp only [stepK, oletP] at hs ⊢
            split at hs
            · exact ⟨_, _, ⟨rfl, rfl⟩, hs⟩
            · exact hs.elim
          | e eo =>
            simp only [stepK, oletH] at hs ⊢
            split at hs
            · exact ⟨_, _, ⟨rfl, rfl⟩, hs⟩
            · exact hs.elim
          | call g args =>
            obtain ⟨v, h', hc, hk⟩ := hs
            exact ⟨v, h', ⟨v, h', hc, rfl, rfl⟩, hk⟩
          | callv x args =>
            simp only [stepK, callV] at hs ⊢
            split at hs
            · obtain ⟨hco, v, h', hc, hk⟩ := hs
              exact ⟨v, h', ⟨hco, v, h', hc, rfl, rfl⟩, hk⟩
            · obtain ⟨hco, v, h', hc, hk⟩ := hs
              exact ⟨v, h', ⟨hco, v, h', hc, rfl, rfl⟩, hk⟩
            · exact hs.elim
        obtain ⟨v, h', s1, s2, s3⟩ := ex
        exact key v h' _ _ hgk s3 (fun p hp => by simp [hp]) (fun p hp => hp) (fun _ => by simp) (fun lo e => absurd e (hnl lo)) (fun _ => s1) (fun hf => by rw [hw] at hf; cases hf) (fun lo e => absurd e (hnl lo))
          (fun _ i lo ff u hm hpre => chkFut_mem s2 i lo ff u hm hpre)
      cases hop : o.op.op with
      | p po =>
        rw [hop] at hd
        simp only [dwant, oletP] at hd
        split at hd
        · rename_i v hv
          exact key v h _ _ hgk hd (fun p hp => hp) (fun p hp => hp) (fun hE => by rw [hop] at hE; cases hE) (fun lo e => by rw [hop] at e; cases e) (fun _ => by rw [hop]; simp [stepK, oletP, hv]) (fun hf => by rw [hw] at hf; cases hf)
            (fun lo e => by rw [hop] at e; cases e) (fun hE => by rw [hop] at hE; cases hE)
        · exact hd.elim
      | l lo =>
        rw [hop] at hd
        simp only [dwant, oletP] at hd
        split at hd
        · rename_i v hv
          exact key v h _ _ hgk hd.2 (fun p hp => hp) (fun p hp => by simp [hp]) (fun hE => by rw [hop] at hE; cases hE) (fun lo' e _ => by rw [hop] at e; cases e; simp) (fun _ => by rw [hop]; simp [stepK, oletP, hv]) (fun hf => by rw [hw] at hf; cases hf)
            (fun lo' e _ e' Hh hm hpre => by rw [hop] at e; cases e; exact chkPast_mem hd.1 e' Hh hm hpre) (fun hE => by rw [hop] at hE; cases hE)
        · exact hd.elim
      | e eo => exact eff (by rw [hop]; rfl) (by rw [hop] at hd ⊢; exact hd)
      | call g args => exact eff (by rw [hop]; rfl) (by rw [hop] at hd ⊢; exact hd)
      | callv x args => exact eff (by rw [hop]; rfl) (by rw [hop] at hd ⊢; exact hd)
    have skip : gOk o.op.guard f → wantB o.op.guard f = false → dskip o.op.op o.pre j heaps loads h (fun heaps loads v h' => idops P os (j + 1) heaps loads K (updO f o.op.dst v) h') → TrExt P (o :: os) j heaps loads K f h := fun hgk hw hd => by
      unfold dskip at hd
      split at hd
      · rename_i hE
        exact key undef h _ _ hgk hd (fun p hp => hp) (fun p hp => hp) (fun hE' => by rw [hE] at hE'; cases hE') (fun lo _ hf => by rw [hw] at hf; cases hf) (fun hf => by rw [hw] at hf; cases hf) (fun _ => ⟨rfl, rfl⟩)
          (fun lo _ hf => by rw [hw] at hf; cases hf) (fun hE' => by rw [hE] at hE'; cases hE')
      · rename_i hE
        exact key undef h _ _ hgk hd.2 (fun p hp => by simp [hp]) (fun p hp => hp) (fun _ => by simp) (fun lo _ hf => by rw [hw] at hf; cases hf) (fun hf => by rw [hw] at hf; cases hf) (fun _ => ⟨rfl, rfl⟩)
          (fun lo _ hf => by rw [hw] at hf; cases hf) (fun _ i lo ff u hm hpre => chkFut_mem hd.1 i lo ff u hm hpre)
    simp only [idops] at hi
    split at hi
    · rename_i hgu
      exact go (by rw [hgu]; trivial) (by rw [hgu]; rfl) hi
    · rename_i s b hgu
      obtain ⟨e1, e2⟩ := guardK_cases hi
      rcases e2 with ⟨e2, e3⟩ | ⟨e2, e3⟩
      · exact go (by rw [hgu]; exact e1) (by rw [hgu]; exact e2) e3
      · exact skip (by rw [hgu]; exact e1) (by rw [hgu]; exact e2) e3

/-! ### In groups -/

def dflat1 (g : Option (Nat × Bool)) (l : List GDOper) : List DOper := l.map fun o => ⟨⟨o.dst, o.op, g⟩, o.pre⟩

def dflatG : List (Option (Nat × Bool) × List GDOper) → List DOper
  | [] => []
  | (g, l) :: gs => dflat1 g l ++ dflatG gs

theorem dflatG_groupsOf : ∀ os : List DOper, dflatG (dgroupsOf os) = os
  | [] => rfl
  | o :: os => by
    have ih := dflatG_groupsOf os
    simp only [dgroupsOf]
    cases hg : dgroupsOf os with
    | nil =>
      rw [hg] at ih
      simp only [dflatG] at ih
      subst ih
      simp [dflatG, dflat1]
    | cons a gs =>
      obtain ⟨g, l⟩ := a
      rw [hg] at ih
      simp only
      split
      · rename_i he
        simp only [dflatG, dflat1, List.map_cons, List.cons_append] at ih ⊢
        rw [ih, ← he]
      · simp only [dflatG, dflat1, List.map_cons, List.map_nil, List.cons_append, List.nil_append] at ih ⊢
        rw [ih]

theorem dleaves_of {l : List DOper} (h : l.all (fun o => leaves o.op.guard o.op.dst) = true) : ∀ g m, (g, m) ∈ dgroupsOf l → ∀ o ∈ m, leaves g o.dst = true := by
  intro g m hm o ho
  have hmem : (⟨⟨o.dst, o.op, g⟩, o.pre⟩ : DOper) ∈ dflatG (dgroupsOf l) := by
    generalize dgroupsOf l = gs at hm
    induction gs with
    | nil => simp at hm
    | cons a gs ih =>
      obtain ⟨g', m'⟩ := a
      simp only [dflatG, List.mem_append]
      rcases List.mem_cons.1 hm with he | hm
      · cases he
        left
        simp only [dflat1, List.mem_map]
        exact ⟨o, ho, rfl⟩
      · exact .inr (ih hm)
  rw [dflatG_groupsOf] at hmem
  rw [List.all_eq_true] at h
  exact h _ hmem

theorem dwant_mono {P : Program} {io : IOp} {pre j : Nat} {heaps : List (Nat × Heap)} {loads : Loads} {f : Nat → Value} {h : Heap} {K K' : List (Nat × Heap) → Loads → Value → Heap → Prop} (hm : ∀ a b v h, K a b v h → K' a b v h)
    (hs : dwant P io pre j heaps loads f h K) : dwant P io pre j heaps loads f h K' := by
  cases io with
  | p po => simp only [dwant, oletP] at hs ⊢; split at hs <;> first | exact hm _ _ _ _ hs | exact hs.elim
  | l lo => simp only [dwant, oletP] at hs ⊢; split at hs <;> first | exact ⟨hs.1, hm _ _ _ _ hs.2⟩ | exact hs.elim
  | e eo => simp only [dwant, oletH] at hs ⊢; split at hs <;> first | exact ⟨hs.1, hm _ _ _ _ hs.2⟩ | exact hs.elim
  | call g args => exact icall.mono hs fun v h hk => ⟨hk.1, hm _ _ _ _ hk.2⟩
  | callv x args => simp only [dwant, callV] at hs ⊢; split at hs <;> first | exact ⟨hs.1, hs.2.mono fun v h hk => ⟨hk.1, hm _ _ _ _ hk.2⟩⟩ | exact hs.elim

theorem dskip_mono {io : IOp} {pre j : Nat} {heaps : List (Nat × Heap)} {loads : Loads} {h : Heap} {K K' : List (Nat × Heap) → Loads → Value → Heap → Prop} (hm : ∀ a b v h, K a b v h → K' a b v h)
    (hs : dskip io pre j heaps loads h K) : dskip io pre j heaps loads h K' := by
  unfold dskip at hs ⊢
  split at hs
  · exact hm _ _ _ _ hs
  · exact ⟨hs.1, hm _ _ _ _ hs.2⟩

theorem updO_ne {f : Nat → Value} {d : Option Nat} {s : Nat} (hd : d ≠ some s) (v : Value) : updO f d v s = f s := by
  cases ho : d with
  | none => rfl
  | some x =>
    have : s ≠ x := by rintro rfl; exact hd ho
    simp [updO, upd_eq, this]

theorem gdrun_idops {P : Program} {g : Option (Nat × Bool)} {r : List DOper} {K : (Nat → Value) → Heap → Prop} : ∀ {l : List GDOper} {j : Nat} {heaps : List (Nat × Heap)} {loads : Loads} {f : Nat → Value} {h : Heap}, (∀ o ∈ l, leaves g o.dst = true) →
    (∀ s b, g = some (s, b) → isBot (f s) = false ∧ isB (f s) b = true) →
    gdrun P l j heaps loads (fun heaps loads f h => idops P r (j + l.length) heaps loads K f h) f h → idops P (dflat1 g l ++ r) j heaps loads K f h := by
  intro l
  induction l with
  | nil => intro j heaps loads f h _ _ hk; exact hk
  | cons o l ih =>
    intro j heaps loads f h hl hg hk
    simp only [gdrun] at hk
    simp only [dflat1, List.map_cons, List.cons_append, idops]
    have step : dwant P o.op o.pre j heaps loads f h fun heaps loads v h' => idops P (dflat1 g l ++ r) (j + 1) heaps loads K (updO f o.dst v) h' := by
      refine dwant_mono (fun a b v h' hk' => ?_) hk
      refine ih (fun o' ho' => hl o' (by simp [ho'])) ?_ ?_
      · intro s bb hs
        have hd : o.dst ≠ some s := by have := hl o (by simp); rw [hs] at this; simpa [leaves] using this
        rw [updO_ne hd]
        exact hg s bb hs
      · rw [List.length_cons] at hk'
        rw [show j + 1 + l.length = j + (l.length + 1) by omega]
        exact hk'
    cases hgu : g with
    | none => rw [hgu] at step; exact step
    | some sb =>
      obtain ⟨s, b⟩ := sb
      obtain ⟨e1, e2⟩ := hg s b hgu
      rw [hgu] at step
      exact guardK_mk e1 (fun _ => step) (fun h => by rw [e2] at h; cases h)

theorem gdskip_idops {P : Program} {s : Nat} {b : Bool} {r : List DOper} {K : (Nat → Value) → Heap → Prop} : ∀ {l : List GDOper} {j : Nat} {heaps : List (Nat × Heap)} {loads : Loads} {f : Nat → Value} {h : Heap}, (∀ o ∈ l, leaves (some (s, b)) o.dst = true) →
    isBot (f s) = false → isB (f s) b = false →
    gdskip l j heaps loads (fun heaps loads f h => idops P r (j + l.length) heaps loads K f h) f h → idops P (dflat1 (some (s, b)) l ++ r) j heaps loads K f h := by
  intro l
  induction l with
  | nil => intro j heaps loads f h _ _ _ hk; exact hk
  | cons o l ih =>
    intro j heaps loads f h hl e1 e2 hk
    simp only [gdskip] at hk
    simp only [dflat1, List.map_cons, List.cons_append, idops]
    refine guardK_mk e1 (fun h => by rw [e2] at h; cases h) (fun _ => ?_)
    refine dskip_mono (fun a c v h' hk' => ?_) hk
    have hd : o.dst ≠ some s := by have := hl o (by simp); simpa [leaves] using this
    refine ih (fun o' ho' => hl o' (by simp [ho'])) (by rw [updO_ne hd]; exact e1) (by rw [updO_ne hd]; exact e2) ?_
    rw [List.length_cons] at hk'
    rw [show j + 1 + l.length = j + (l.length + 1) by omega]
    exact hk'

theorem gdrun_mono {P : Program} {K K' : List (Nat × Heap) → Loads → (Nat → Value) → Heap → Prop} (hm : ∀ a b f h, K a b f h → K' a b f h) : ∀ {l : List GDOper} {j : Nat} {heaps : List (Nat × Heap)} {loads : Loads} {f : Nat → Value} {h : Heap},
    gdrun P l j heaps loads K f h → gdrun P l j heaps loads K' f h
  | [], _, _, _, _, _, hk => hm _ _ _ _ hk
  | _ :: _, _, _, _, _, _, hk => dwant_mono (fun _ _ _ _ hk' => gdrun_mono hm hk') hk

theorem gdskip_mono {K K' : List (Nat × Heap) → Loads → (Nat → Value) → Heap → Prop} (hm : ∀ a b f h, K a b f h → K' a b f h) : ∀ {l : List GDOper} {j : Nat} {heaps : List (Nat × Heap)} {loads : Loads} {f : Nat → Value} {h : Heap},
    gdskip l j heaps loads K f h → gdskip l j heaps loads K' f h
  | [], _, _, _, _, _, hk => hm _ _ _ _ hk
  | _ :: _, _, _, _, _, _, hk => dskip_mono (fun _ _ _ _ hk' => gdskip_mono hm hk') hk

theorem gdops_idops {P : Program} {K : (Nat → Value) → Heap → Prop} : ∀ {gs : List (Option (Nat × Bool) × List GDOper)} {j : Nat} {heaps : List (Nat × Heap)} {loads : Loads} {f : Nat → Value} {h : Heap}, (∀ g l, (g, l) ∈ gs → ∀ o ∈ l, leaves g o.dst = true) →
    gdops P gs j heaps loads K f h → idops P (dflatG gs) j heaps loads K f h := by
  intro gs
  induction gs with
  | nil => intro j heaps loads f h _ hk; exact hk
  | cons a gs ih =>
    obtain ⟨g, l⟩ := a
    intro j heaps loads f h hl hk
    have hl' : ∀ g' l', (g', l') ∈ gs → ∀ o ∈ l', leaves g' o.dst = true := fun g' l' hm => hl g' l' (by simp [hm])
    simp only [dflatG]
    cases g with
    | none =>
      simp only [gdops] at hk
      exact gdrun_idops (hl none l (by simp)) (fun s b hs => by cases hs) (gdrun_mono (fun a b f h hk' => ih hl' hk') hk)
    | some sb =>
      obtain ⟨s, b⟩ := sb
      simp only [gdops] at hk
      obtain ⟨e1, e2⟩ := guardK_cases hk
      rcases e2 with ⟨e2, e3⟩ | ⟨e2, e3⟩
      · exact gdrun_idops (hl _ l (by simp)) (fun s' b' hs => by cases hs; exact ⟨e1, e2⟩) (gdrun_mono (fun a b f h hk' => ih hl' hk') e3)
      · exact gdskip_idops (hl _ l (by simp)) e1 e2 (gdskip_mono (fun a b f h hk' => ih hl' hk') e3)

end Go.Sim
