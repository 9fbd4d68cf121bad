/- Contracts and lemmas for the proof of TextLines; each theorem states its own conditions. -/
import Derived.Test.YtnepdfpooobmcaaGreatDoorQTextLinesaz
import Derived.Test.YtnepdfpooobmcaaGreatDoorQTextLinesae
import Derived.Test.YtnepdfpooobmcaaGreatDoorQTextLinesbi
import Derived.Laws.IdiomStrings
set_option linter.unusedVariables false
set_option linter.unusedSimpArgs false
/- Contracts and lemmas for the proofs of this seat; each theorem states its own conditions. -/
namespace Go.Proofs.YtnepdfpooobmcaaGreatDoor
open Go.RowKit
/-! roref.Num -/
theorem bytes_of (d : List UInt8) (w : World) : ∃ (wb : World) (b cap : Nat), (convert 9 204 (.string (bA d))).run Tryz.prog w = .ok (.slice (some ⟨b, 0, none⟩) (bA d).size cap) wb ∧ Ext w wb ∧ ∀ j (h : j < d.length), wb.cell? ⟨b, j, none⟩ = some (.int .u8 (d[j].toNat : Int)) := by
  refine ⟨_, _, _, run_bytes_of_string w 9 204 5 (bA d) Tryz.underlying9 Tryz.underlying204 Tryz.underlying5, (Ext.refl w).drew.alloc _, fun j h => ?_⟩
  have := World.cell?_alloc_mark w.drew (bytesRow (bA d) (grownCap w (bA d).size 0 5)) 5 ((bytesRow (bA d) (grownCap w (bA d).size 0 5)).size, (bytesRow (bA d) (grownCap w (bA d).size 0 5)).size + 1) j
  exact this.trans ((bytesRow_at (bA d) _ j (by simpa [bA] using h)).trans (by simp [bA]))
theorem noSign_trim (l : List UInt8) : Lib.trimPrefix l [45] = (noSign l).2 ∧ Lib.hasPrefix l [45] = (noSign l).1 := by
  unfold Lib.trimPrefix Lib.hasPrefix
  cases l with
  | nil => exact ⟨rfl, rfl⟩
  | cons c r =>
    by_cases h : c = 45
    · subst h; exact ⟨by simp [List.isPrefixOf, noSign_minus], by simp [List.isPrefixOf, noSign_minus]⟩
    · have e : noSign (c :: r) = (false, c :: r) := noSign_else (by simpa using h)
      have hb : (45 == c) = false := by simp; exact fun q => h q.symm
      rw [e]
      simp [List.isPrefixOf, hb]
theorem noSign_len (l : List UInt8) : (noSign l).2.length ≤ l.length := by
  unfold noSign
  split <;> simp
theorem noSign_short {l : List UInt8} (h : (noSign l).2 = []) : l.length ≤ 11 := by
  unfold noSign at h
  split at h
  · simp only at h; subst h; simp
  · simp only at h; subst h; simp
theorem digV_snoc (d : List UInt8) {k : Nat} (h : k < d.length) : digV 0 (d.take (k + 1)) = digF (digV 0 (d.take k)) d[k] := by
  rw [← List.take_append_getElem h, digV_app, digV_cons, digV_nil]
theorem digV_le (d : List UInt8) (h : ∀ c ∈ d, digB c = true) (hl : d.length ≤ 11) : digV 0 d ≤ 99999999999 := by have := digV_big h hl; omega
/-- what Num answers -/
def NumR (l : List UInt8) (w : World) (e : Ending) (w' : World) : Prop := ∃ v ok, e = .returned (.tuple #[.int .i64 v, .bool ok]) ∧ Ext w w' ∧ (∀ z, numL l = some z → v = z ∧ ok = true) ∧ (numL l = none → ok = false)
set_option maxRecDepth 100000 in
set_option maxHeartbeats 2000000 in
theorem rnum_any (s : ByteArray) (w : World) (hs : s.size ≤ 4000000000) :
    Calls Tryz.prog 111 #[.string s, .int .i64 11] w fun e w' => NumR s.data.toList w e w' := by
  have CP : Calls Tryz.prog 113 #[.string s, .string ⟨#[45]⟩] w fun e w' => e = .returned (.tuple #[.string (bA (noSign s.data.toList).2), .bool (noSign s.data.toList).1]) ∧ w' = w := by
    have h := Any.strings_CutPrefix lays103 s ⟨#[45]⟩ w
    have e : (⟨#[45]⟩ : ByteArray).data.toList = [45] := rfl
    rw [e, (noSign_trim s.data.toList).1, (noSign_trim s.data.toList).2] at h
    exact h
  have hl := toL_len s
  have hsl : s = bA s.data.toList := (bA_data s).symm
  obtain ⟨l, hll⟩ : ∃ l, s.data.toList = l := ⟨_, rfl⟩
  rw [hll] at hl hsl CP ⊢
  have hn := noSign_len l
  have hsh := fun h => noSign_short (l := l) h
  have hbad := fun (c : UInt8) h1 h2 => numL_bad (l := l) (c := c) h1 h2
  have hdec := fun h1 h2 => numL_dec (l := l) h1 h2
  obtain ⟨m, hm⟩ : ∃ m, (noSign l).1 = m := ⟨_, rfl⟩
  obtain ⟨d, hd⟩ : ∃ d, (noSign l).2 = d := ⟨_, rfl⟩
  rw [hd] at hn hsh hbad
  rw [hd, hm] at hdec CP
  have CP := hid CP
  have HSH := hid hsh
  have HBAD := hid hbad
  have HDEC := hid hdec
  have HSL := hid hsl
  have hds : (bA d).size = d.length := bA_size d
  obtain ⟨wb, b, cap, hcv, E, hc⟩ := bytes_of d w
  rw [hds] at hcv
  have HC := hid hc
  have HE := hid E
  clear hsh hbad hdec hsl hds hc E hll hm hd
  go_enter Tryz.func111, Tryz.ntmps111
  go_wp2_with fail
  refine (CP.out).mono ?_
  clear CP
  rintro r w1 ⟨rfl, rfl⟩
  go_wp2_with fail
  go_loopw [8, 10, 19] (fun nv _ iv wr => ∃ k : Nat, k ≤ d.length ∧ iv = .int .i64 k ∧ nv = .int .i64 ((digV 0 (d.take k) : Nat) : Int) ∧ Hid (∀ c ∈ d.take k, digB c = true) ∧ (k = 0 ∨ s.size ≤ 11) ∧ Ext wb wr) (fun _ _ iv _ => d.length - (intOf iv).toNat)
  case atStart => exact ⟨0, Nat.zero_le _, rfl, by rw [List.take_zero, digV_nil]; rfl, hid (by simp), .inl rfl, Ext.refl _⟩
  case round =>
    obtain ⟨wq, rfl⟩ : ∃ wq : World, wq = wr := ⟨_, rfl⟩
    obtain ⟨k, hk, rfl, rfl, hdg, hk11, E⟩ := hrel
    by_cases hkl : k < d.length
    · have x0 := E.cell (HC.out k hkl)
      have hst := digV_snoc d hkl
      have hcm : d[k] ∈ d := List.getElem_mem hkl
      have hbd := HBAD.out d[k] hcm
      have hmem : ∀ c ∈ d.take (k + 1), c ∈ d.take k ∨ c = d[k] := fun c hc => by
        rw [← List.take_append_getElem hkl] at hc
        rcases List.mem_append.1 hc with h | h
        · exact .inl h
        · exact .inr (by simpa using h)
      have HMEM := hid hmem
      generalize d[k] = c at *
      have hc256 := c.toNat_lt
      have HE9 := hid (HE.out.trans E)
      by_cases h1 : (c.toNat : Int) < 48
      · have hN := hid (hbd (.inl (by simp [digB]; omega)))
        clear hbd hst HMEM hmem hcm
        go_wp2
        all_goals exact bodyPost_ret (v := .tuple #[.int .i64 0, .bool false]) (by simp [results, Tryz.results111, go_sem]) rfl ⟨_, _, rfl, HE9.out, fun z hz => (by rw [hN.out] at hz; cases hz), fun _ => rfl⟩
      · by_cases h2 : 57 < (c.toNat : Int)
        · have hN := hid (hbd (.inl (by simp [digB]; omega)))
          clear hbd hst HMEM hmem hcm
          go_wp2
          all_goals exact bodyPost_ret (v := .tuple #[.int .i64 0, .bool false]) (by simp [results, Tryz.results111, go_sem]) rfl ⟨_, _, rfl, HE9.out, fun z hz => (by rw [hN.out] at hz; cases hz), fun _ => rfl⟩
        · by_cases h3 : 11 < (s.size : Int)
          · have hN := hid (hbd (.inr (by omega)))
            clear hbd hst HMEM hmem hcm
            go_wp2
            all_goals exact bodyPost_ret (v := .tuple #[.int .i64 0, .bool false]) (by simp [results, Tryz.results111, go_sem]) rfl ⟨_, _, rfl, HE9.out, fun z hz => (by rw [hN.out] at hz; cases hz), fun _ => rfl⟩
          · have hle : digV 0 (d.take k) ≤ 99999999999 := digV_le _ hdg.out (by rw [List.length_take]; omega)
            have HST := hid hst
            have hdig : digB c = true := by simp [digB]; omega
            have HD2 := hid (show ∀ c' ∈ d.take (k + 1), digB c' = true from fun c' hc' => by
              rcases HMEM.out c' hc' with h | h
              · exact hdg.out c' h
              · rw [h]; exact hdig)
            generalize digV 0 (d.take k) = N at *
            have q8 : IntKind.u8.wrap ((c.toNat : Int) - 48) = (c.toNat : Int) - 48 := by rw [IntKind.wrap_u8]; omega
            clear hbd hst HMEM hmem hcm hdg hdig
            go_wp2
            go_roundw
            case rel => exact ⟨k + 1, by omega, by go_num, rIn (by rw [HST.out]; unfold digF; omega), HD2, .inr (by omega), HE9.out |> fun _ => E⟩
            case measure => simp [intOf] <;> omega
    · obtain rfl : k = d.length := by omega
      have hdg2 := hdg.out
      rw [List.take_length] at hdg2
      rw [List.take_length]
      have hl11 : l.length ≤ 11 := by
        rcases hk11 with h | h
        · exact HSH.out (List.eq_nil_of_length_eq_zero h)
        · omega
      have hnum := HDEC.out hdg2 hl11
      have hle : digV 0 d ≤ 99999999999 := digV_le d hdg2 (by omega)
      have HNUM := hid hnum
      generalize digV 0 d = N at *
      have HE9 := hid (HE.out.trans E)
      have DC := hid (fun w' => dec_any (signV m N) w' (by unfold signV; split <;> omega) (by unfold signV; split <;> omega))
      clear hnum hdg hdg2 hk11
      by_cases heq : Lib.itoa (signV m N) = l
      · have HR := hid (show numL l = some (signV m N) by rw [HNUM.out, if_pos heq])
        rw [heq, ← HSL.out] at DC
        have qe : (s.toList == s.toList) = true := by simp
        cases m with
        | true =>
          have es : signV true N = -(N : Int) := rfl
          rw [es] at DC HR
          clear HNUM heq es
          go_wp2_with fail
          refine (DC.out _).mono ?_
          clear DC
          rintro r w7 ⟨rfl, rfl⟩
          go_wp2
          go_ret2
          exact ⟨_, _, rfl, HE9.out, fun z hz => (by rw [HR.out] at hz; injection hz with hz; exact ⟨hz, by first | rfl | simp⟩), fun hz => (by rw [HR.out] at hz; cases hz)⟩
        | false =>
          have es : signV false N = (N : Int) := rfl
          rw [es] at DC HR
          clear HNUM heq es
          go_wp2_with fail
          refine (DC.out _).mono ?_
          clear DC
          rintro r w7 ⟨rfl, rfl⟩
          go_wp2
          go_ret2
          exact ⟨_, _, rfl, HE9.out, fun z hz => (by rw [HR.out] at hz; injection hz with hz; exact ⟨hz, by first | rfl | simp⟩), fun hz => (by rw [HR.out] at hz; cases hz)⟩
      · have HR := hid (show numL l = none by rw [HNUM.out, if_neg heq])
        have hne : ¬ (bA (Lib.itoa (signV m N))).toList = s.toList := fun e => heq (by
          have := toList_inj e
          rw [HSL.out] at this
          have h2 := congrArg (fun a : ByteArray => a.data.toList) this
          simpa [bA_toL] using h2)
        generalize bA (Lib.itoa (signV m N)) = ds at *
        have qe : (ds.toList == s.toList) = false := by simp [hne]
        cases m with
        | true =>
          have es : signV true N = -(N : Int) := rfl
          rw [es] at DC
          clear HNUM heq es hne
          go_wp2_with fail
          refine (DC.out _).mono ?_
          clear DC
          rintro r w7 ⟨rfl, rfl⟩
          go_wp2
          go_ret2
          exact ⟨_, _, rfl, HE9.out, fun z hz => (by rw [HR.out] at hz; cases hz), fun _ => by first | rfl | simp [qe] | exact qe⟩
        | false =>
          have es : signV false N = (N : Int) := rfl
          rw [es] at DC
          clear HNUM heq es hne
          go_wp2_with fail
          refine (DC.out _).mono ?_
          clear DC
          rintro r w7 ⟨rfl, rfl⟩
          go_wp2
          go_ret2
          exact ⟨_, _, rfl, HE9.out, fun z hz => (by rw [HR.out] at hz; cases hz), fun _ => by first | rfl | simp [qe] | exact qe⟩
end Go.Proofs.YtnepdfpooobmcaaGreatDoor
