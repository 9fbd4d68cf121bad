/- Contracts and lemmas for the proof of DeedRuns; each theorem states its own conditions. -/
import Derived.Test.YtomgeolmfpijoaaDoorQDeedRunsbt
import Derived.Test.YtomgeolmfpijoaaDoorQDeedRunsbk
set_option linter.unusedVariables false
set_option linter.unusedSimpArgs false
/- Contracts and lemmas for the proofs of this seat; each theorem states its own conditions. -/
namespace Go.Proofs.YtomgeolmfpijoaaDoor
open Go.RowKit Go.Maps
/-! the document's Serial -/
/-- whether each may be done -/
def serO (v : Vls) : List Ops → List Bool
  | [] => []
  | d :: ds => okV v d :: serO (stepV v d) ds
theorem serV_app (v : Vls) (a b : List Ops) : serV v (a ++ b) = serV (serV v a) b ∧ serO v (a ++ b) = serO v a ++ serO (serV v a) b := by
  induction a generalizing v with
  | nil => exact ⟨rfl, rfl⟩
  | cons d a ih => simp only [List.cons_append, serV, serO, (ih _).1, (ih _).2]; simp
theorem serV_take {v : Vls} {D : List Ops} {k : Nat} (hk : k < D.length) : serV v (D.take (k + 1)) = stepV (serV v (D.take k)) D[k] ∧ serO v (D.take (k + 1)) = serO v (D.take k) ++ [okV (serV v (D.take k)) D[k]] := by
  rw [List.take_succ_eq_append_getElem hk]
  obtain ⟨a, b⟩ := serV_app v (D.take k) [D[k]]
  exact ⟨by rw [a]; rfl, by rw [b]; rfl⟩
theorem serO_len (v : Vls) (D : List Ops) : (serO v D).length = D.length := by
  induction D generalizing v with
  | nil => rfl
  | cons d D ih => simp [serO, ih]
/-- the same of stores -/
theorem serv_val {D : List Ops} (hd : ∀ d ∈ D, DeedOk d) : ∀ {l : Prs}, StoreOk l → valP (serS l D) = serV (valP l) D ∧ serB l D = serO (valP l) D := by
  induction D with
  | nil => intro l h; exact ⟨rfl, rfl⟩
  | cons d D ih =>
    intro l h
    obtain ⟨a, b, c⟩ := run_val h (hd d (by simp)).ops
    obtain ⟨e, g⟩ := ih (fun q hq => hd q (by simp [hq])) a
    exact ⟨by rw [serS, serV, e, b], by rw [serB, serO, g, b, c]⟩
/-- a map's block is no row's -/
theorem map_row_ne {P : Program} {k : TypeId} {R : Value → Option (DU × List MemPlace)} {w : World} {b n : Nat} {D : DU} (h : w.ownsMap P k R b n D) {B e sz n' : Nat} {v : Value} {xs : List Value} (h' : w.ownsRow B e sz v n' xs) : some b ≠ v.ownBlock := by
  obtain ⟨es, clock, hb, _⟩ := h
  rcases h'.2 with ⟨rfl, _⟩ | ⟨g, cap, cur, rfl, _, hg, _⟩
  · simp [Value.ownBlock]
  · intro q
    simp [Value.ownBlock] at q
    subst q
    rw [hb] at hg
    cases hg
set_option maxRecDepth 10000 in
set_option maxHeartbeats 2000000 in
theorem rserial_any (b n : Nat) (D : DU) (f : ByteArray → Option Int) (vd : Value) (ds : List Ops) (w : World) (hown : w.ownsMap Tryd.prog 9 (plainElem Tryd.prog 3) b n D) (hF : MapF kS okS dI D f) (hfv : FV f)
    (hvd : SegDs w vd ds) (hd : ∀ d ∈ ds, DeedOk d) (hl : ds.length ≤ 60) (hn : n ≤ 900000) :
    Calls Tryd.prog 71 #[.map (some b), vd] w fun e w' => ∃ b' n' D' f' vo, e = .returned (.tuple #[.map (some b'), vo]) ∧ w'.ownsMap Tryd.prog 9 (plainElem Tryd.prog 3) b' n' D' ∧ MapF kS okS dI D' f' ∧ atF f' = serV (atF f) ds ∧ FV f' ∧ n' ≤ n + 16 * ds.length ∧
      w'.ownsRow w.heap.size 4 1 vo (serO (atF f) ds).length (cB (serO (atF f) ds)) ∧ Ext w w' := by
  obtain ⟨a, cp, rfl, m1, m2, hc⟩ := hvd.form
  have HC := hid hc
  unfold maxLen at m2
  clear hc hvd
  go_enter Tryd.func71, Tryd.ntmps71
  go_wp2
  go_loopw [0, 6, 8, 9, 12] (fun vm vo _ _ iv wr => ∃ (k : Nat) (b2 n2 : Nat) (D2 : DU) (g : ByteArray → Option Int), k ≤ ds.length ∧ iv = .int .i64 k ∧ vm = .map (some b2) ∧ wr.ownsMap Tryd.prog 9 (plainElem Tryd.prog 3) b2 n2 D2 ∧ MapF kS okS dI D2 g ∧ atF g = serV (atF f) (ds.take k) ∧ FV g ∧ n2 ≤ n + 16 * k ∧
      wr.ownsRow w.heap.size 4 1 vo (serO (atF f) (ds.take k)).length (cB (serO (atF f) (ds.take k))) ∧ Ext w wr) (fun _ _ _ _ iv _ => ds.length - (intOf iv).toNat)
  case atStart => exact ⟨0, b, n, D, f, Nat.zero_le _, rfl, rfl, hown, hF, rfl, hfv, by omega, by simpa [serO, cB] using World.ownsRow_nil _ _ _ _, Ext.refl _⟩
  case round =>
    obtain ⟨wo, rfl⟩ : ∃ wo : World, wo = wr := ⟨_, rfl⟩
    obtain ⟨k, b2, n2, D2, g, hk, rfl, rfl, hog, hG, hag, hgv, hn2, hq, E⟩ := hrel
    by_cases hlt : k < ds.length
    · obtain ⟨bd, off, rfl, hc⟩ := HC.out (by omega)
      obtain ⟨au, cu, hcell, hs⟩ := hc k ds[k] (List.getElem?_eq_getElem hlt)
      have c0 := E.cell hcell
      have hs := hs.ext E
      have dk := hd _ (List.getElem_mem hlt)
      obtain ⟨st1, st2⟩ := serV_take (v := atF f) hlt
      have hol : (serO (atF f) (ds.take k)).length ≤ 60 := by rw [serO_len, List.length_take]; omega
      rw [← hag] at st1 st2
      have ST := hid (And.intro st1 st2)
      clear hc hcell st1 st2 hag
      generalize serO (atF f) (ds.take k) = O at hq hol ST
      generalize ds[k] = d at c0 hs dk ST
      have hd8 := dk.hi
      have EA := (Ext.refl wo).alloc (.cells #[.slice au d.length cu] 46)
      have xb := heap_alloc_new wo (.cells #[.slice au d.length cu] 46)
      have y0 := cell_of_one xb
      have RN := hid (rrun_any b2 n2 D2 g (.slice au d.length cu) d _ (ownsMap_ext hog EA) hG hgv (hs.ext EA) dk (by omega))
      obtain ⟨aq, cq, rfl⟩ := own_form hq
      have hqA := own_ext hq EA
      replace EA := E.trans EA
      clear hs xb hog hG hgv hq E
      go_wp2_with fail
      refine (RN.out).mono ?_
      clear RN
      rintro e w3 ⟨b3, n3, D3, g3, rfl, ho3, hG3, hag3, hgv3, hn3, E3⟩
      have hq3 := own_ext hqA E3
      have E4 := EA.trans E3
      have ST2 := hid ST.out
      clear ST hqA EA E3 y0
      generalize okV (atF g) d = rb at ST2 ⊢
      have p1 : Seg (w3.alloc (.cells #[.bool rb] 4)) (.slice (some ⟨w3.heap.size, 0, none⟩) 1 1) 1 1 [.bool rb] := seg_one (heap_alloc_new w3 _)
      have p2 := hq3.alloc (.cells #[.bool rb] 4)
      have p3 : w.heap.size ≤ (w3.alloc (.cells #[.bool rb] 4)).heap.size := by have := E4.size'; simp; omega
      have hag4 := hid hag3
      clear hag3
      go_wp2_with (first | (at_builtin; refine (wpList_app rfl _ _ 72 rfl w.heap.size 4 (.bool false) 1 1 Tryd.underlying72 infoBl rfl (by decide) _ O.length (cB O) rfl p2 _ 1 [.bool rb] rfl p1 (one_bool _) (by omega) (by unfold maxLen; omega) p3 ?_); intro v' w9 ho' hg))
      go_roundw
      case rel =>
        have hoA := ho3.alloc (.cells #[.bool rb] 4)
        refine ⟨k + 1, b3, n3, D3, g3, by omega, by go_num, rfl, hoA.kept hg (map_row_ne hoA p2), hG3, by rw [ST2.out.1, hag4.out], hgv3, by omega, ?_, (E4.alloc _).grown hg (fun k hk => own_ge p2 k hk)⟩
        rw [ST2.out.2, List.length_append, cB_app]; exact ho'
      case measure => simp [intOf] <;> omega
    · obtain rfl : k = ds.length := by omega
      rw [List.take_length] at hag hq
      have HA := hid hag
      clear hag
      go_wp2
      go_ret2
      exact ⟨b2, n2, D2, g, _, rfl, hog, hG, HA.out, hgv, hn2, hq, E⟩
end Go.Proofs.YtomgeolmfpijoaaDoor
