/- The document's bytes of a frame; what is said comes back. -/
import Derived.Test.YtaneamfnjhiigaaFrameDecE
namespace Go.Proofs.Ytaneamfnjhiigaa.E
open Go
set_option linter.unusedSimpArgs false
set_option linter.unusedVariables false
set_option maxRecDepth 100000
set_option maxHeartbeats 4000000

def bytG : List AV → Option (Bool × AV × St) := ad1 adFr fun f => some (f.may, .s 0 1 0 10, [tabl eY f.bytes])
theorem rbytes_ok : CtrOk Try.prog 29 (freshCtr bytG) :=
  freshCtr_ok XQ1_ok Try.func29 (by decide) rfl fun args u σn h => by
    obtain ⟨f, hf, _, hv⟩ := ad1_some h
    simp only [Option.some.injEq, Prod.mk.injEq] at hv
    obtain ⟨hm, rfl, rfl⟩ := hv
    refine ⟨fun B hB => .inl ?_, _, hf, ?_⟩
    · obtain rfl := List.mem_singleton.1 hB
      exact ⟨_, _, _, rfl, fun k hk u hu => ⟨_, List.mem_singleton.1 hu⟩⟩
    clear h hf
    have hb := Fr.may_bd hm
    have w : ∀ n : Int, 0 ≤ n → n ≤ 255 → IntKind.u8.wrap n = n := fun n h0 h1 => by rw [u8_wrap]; omega
    have d : ∀ n : Int, 0 ≤ n → n < 65536 → IntKind.u8.wrap (IntKind.i64.wrap (n.tdiv 256)) = n / 256 := fun n h0 h1 => by
      rw [Int.tdiv_eq_ediv_of_nonneg h0, wf64 _ (by omega) (by omega), w _ (by omega) (by omega)]
    have m : ∀ n : Int, 0 ≤ n → n < 65536 → IntKind.u8.wrap (n.tmod 256) = n % 256 := fun n h0 h1 => by
      rw [Int.tmod_eq_emod_of_nonneg h0, w _ (by omega) (by omega)]
    have hcb := crc_bd f.body
    have hby : bytesOk f.body = true := by
      simp only [bytesOk, Fr.body, List.all_cons, List.all_nil, Bool.and_eq_true, decide_eq_true_eq, and_true]
      omega
    have hbody : [165, IntKind.u8.wrap f.ki, IntKind.u8.wrap f.ca, IntKind.u8.wrap (IntKind.i64.wrap (f.sq.tdiv 256)), IntKind.u8.wrap (f.sq.tmod 256), IntKind.u8.wrap f.a, IntKind.u8.wrap f.b, IntKind.u8.wrap f.c] = f.body := by
      rw [d _ (by omega) (by omega), m _ (by omega) (by omega), w f.ki (by omega) (by omega), w f.ca (by omega) (by omega), w f.a (by omega) (by omega), w f.b (by omega) (by omega), w f.c (by omega) (by omega)]; rfl
    have hby' : bytesOk [165, IntKind.u8.wrap f.ki, IntKind.u8.wrap f.ca, IntKind.u8.wrap (IntKind.i64.wrap (f.sq.tdiv 256)), IntKind.u8.wrap (f.sq.tmod 256), IntKind.u8.wrap f.a, IntKind.u8.wrap f.b, IntKind.u8.wrap f.c] = true := by rw [hbody]; exact hby
    unfold runF
    (conv => arg 1; whnf); (repeat' (first | (refine brt (by assumption) ?_; (conv => arg 1; whnf)) | (refine brf (by assumption) ?_; (conv => arg 1; whnf)) | fail))
    (refine brt ?_ ?_; (focus (exact and2 rfl (and2 hby' rfl); done)); (conv => arg 1; whnf))
    (conv => arg 1; whnf); (repeat' (first | (refine brt (by assumption) ?_; (conv => arg 1; whnf)) | (refine brf (by assumption) ?_; (conv => arg 1; whnf)) | fail))
    have h8 : ∀ l, l = f.body → crc f.body / 256 = IntKind.u8.wrap (IntKind.i64.wrap ((crc l).tdiv 256)) := fun l hl => by rw [hl, d _ (by omega) (by omega)]
    have h9 : ∀ l, l = f.body → crc f.body % 256 = IntKind.u8.wrap ((crc l).tmod 256) := fun l hl => by rw [hl, m _ (by omega) (by omega)]
    refine finS [3] (by decide) (.s rfl) ⟨⟨_, rfl, .tab fun k hk => ?_⟩, trivial⟩ rfl
    have hk : k < 10 := hk
    match k, hk with
    | 0, _ => rfl
    | 1, _ => exact congrArg (fun z => [u8 z]) (w f.ki (by omega) (by omega)).symm
    | 2, _ => exact congrArg (fun z => [u8 z]) (w f.ca (by omega) (by omega)).symm
    | 3, _ => exact congrArg (fun z => [u8 z]) (d f.sq (by omega) (by omega)).symm
    | 4, _ => exact congrArg (fun z => [u8 z]) (m f.sq (by omega) (by omega)).symm
    | 5, _ => exact congrArg (fun z => [u8 z]) (w f.a (by omega) (by omega)).symm
    | 6, _ => exact congrArg (fun z => [u8 z]) (w f.b (by omega) (by omega)).symm
    | 7, _ => exact congrArg (fun z => [u8 z]) (w f.c (by omega) (by omega)).symm
    | 8, _ => exact congrArg (fun z => [u8 z]) (h8 _ hbody)
    | 9, _ => exact congrArg (fun z => [u8 z]) (h9 _ hbody)
/-! ### What is said comes back -/
theorem dec_bytes {f : Fr} (h : f.may = true) : decL f.bytes = (f, 0) := by
  have hb := Fr.may_bd h
  have hcb := crc_bd f.body
  have hp := pairL_eq (crc f.body) (by omega) (by omega)
  have e1 : f.bytes.length = 10 := rfl
  have e2 : [f.bytes.getD 8 0, f.bytes.getD 9 0] = pairL (crc (f.bytes.take 8)) := hp.symm
  have e3 : f.sq / 256 * 256 + f.sq % 256 = f.sq := by omega
  unfold decL
  rw [if_neg (by rw [e1]; simp [Fr.bytes]), if_neg (fun h => h e2), if_neg (by show ¬ (f.ki < 1 ∨ 3 < f.ki); omega)]
  show (Fr.mk f.ki f.ca (f.sq / 256 * 256 + f.sq % 256) f.a f.b f.c, (0 : Int)) = _
  rw [e3]
theorem bytesOk_bytes {f : Fr} (h : f.may = true) : bytesOk f.bytes = true := by
  have hb := Fr.may_bd h
  have hcb := crc_bd f.body
  simp only [bytesOk, Fr.bytes, List.all_cons, List.all_nil, Bool.and_eq_true, decide_eq_true_eq, and_true]
  omega
end Go.Proofs.Ytaneamfnjhiigaa.E
