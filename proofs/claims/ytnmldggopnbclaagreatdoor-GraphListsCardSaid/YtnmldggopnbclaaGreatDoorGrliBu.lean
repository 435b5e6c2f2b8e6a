/- A part of the proof: plain forms of functions and laws about them. -/
import Derived.Test.YtnmldggopnbclaaGreatDoorGrliBt
namespace Go.Proofs.YtnmldggopnbclaaGreatDoor
open Go Go.V Go.Proofs
/-! manystrand/manystrandlaw05.awake -/
def eann5 : Ann := (.two .nil (.two .nil (.two .nil (.two .nil .nil))))
noncomputable def ecode5 : Code := match Tryz.f5.body with | some c => c | none => .skip
/-! manystrand/graph.Parse -/
def eann12 : Ann := (.two .nil (.two .nil (.two .nil (.two (.two .nil (.two (.two .nil .nil) .nil)) (.two .nil (.two .nil (.two (.two (.anyD 20 (.take 0 (.take 1 (.take 2 (.take 3 (.take 4 (.take 5 (.take 6 (.take 7 (.take 8 (.take 9 (.take 10 (.take 11 (.take 13 (.take 14 (.take 15 (.take 16 (.one 12 (.one 17 (.take 18 (.take 19 .done))))))))))))))))))))) (.two (.two .nil .nil) .nil)) (.two .nil (.two (.two .nil (.two (.two .nil .nil) .nil)) (.two .nil .nil))))))))))
noncomputable def ecode12 : Code := match Tryz.f12.body with | some c => c | none => .skip
/-! manystrand/graph.Text -/
def eann13 : Ann := (.two .nil (.two .nil (.two (.two .nil (.two (.two .nil .nil) .nil)) (.two (.anyD 12 (.take 0 (.take 1 (.take 2 (.take 3 (.take 5 (.take 6 (.take 7 (.both 4 (.one 8 (.take 9 (.one 10 (.take 11 .done)))) (.one 8 (.one 4 (.take 9 (.one 10 (.take 11 .done)))))))))))))) (.two (.anyD 10 (.take 0 (.take 1 (.take 2 (.take 3 (.take 4 (.take 5 (.take 6 (.take 7 (.take 8 (.take 9 .done))))))))))) (.two (.two .nil (.one (.one (.two .nil (.two (.two .nil .nil) (.two (.one (.two .nil (.two .nil (.one (.one (.two .nil (.two (.two .nil .nil) (.two (.one (.two .nil .nil)) .nil)))))))) .nil)))))) (.two .nil .nil)))))))
noncomputable def ecode13 : Code := match Tryz.f13.body with | some c => c | none => .skip
/-! manystrand/graph.Cyclic -/
def eann14 : Ann := (.two .nil (.two .nil (.two (.two .nil (.two (.two .nil .nil) .nil)) (.two .nil (.two .nil .nil)))))
noncomputable def ecode14 : Code := match Tryz.f14.body with | some c => c | none => .skip
/-! manystrand/graph.Valid -/
def eann15 : Ann := (.two .nil (.two .nil (.two (.two .nil (.two (.two .nil .nil) .nil)) (.two (.two .nil (.one (.one (.two .nil (.two (.two .nil .nil) (.two (.one (.two .nil (.two .nil (.two (.two .nil .nil) .nil)))) .nil)))))) (.two .nil .nil)))))
noncomputable def ecode15 : Code := match Tryz.f15.body with | some c => c | none => .skip
/-! manystrand/graph.least -/
def eann16 : Ann := (.two .nil (.two .nil (.two .nil (.two .nil (.two .nil (.two .nil (.two .nil (.two .nil .nil))))))))
noncomputable def ecode16 : Code := match Tryz.f16.body with | some c => c | none => .skip
/-! manystrand/graph.pair -/
def eann18 : Ann := (.two .nil (.two .nil .nil))
noncomputable def ecode18 : Code := match Tryz.f18.body with | some c => c | none => .skip
/-! manystrand/graph.chain -/
def eann24 : Ann := (.two .nil (.two .nil (.two .nil (.two (.one (.one (.two (.two .nil (.two .nil .nil)) (.one (.two .nil (.two .nil .nil)))))) (.two .nil .nil)))))
noncomputable def ecode24 : Code := match Tryz.f24.body with | some c => c | none => .skip
/-! manystrand/graph.Parse$1 -/
def eann27 : Ann := (.two .nil (.two .nil (.two (.two (.two .nil (.two .nil (.two .nil .nil))) .nil) .nil)))
noncomputable def ecode27 : Code := match Tryz.f27.body with | some c => c | none => .skip
/-! manystrand/token.Tokens -/
def eann28 : Ann := (.two .nil (.two (.two .nil (.two (.two .nil .nil) .nil)) (.two .nil (.two (.two .nil (.two (.two .nil .nil) .nil)) (.two .nil .nil)))))
noncomputable def ecode28 : Code := match Tryz.f28.body with | some c => c | none => .skip
/-! (*manystrand/graph.reader).term -/
def eann29 : Ann := (.two .nil (.two .nil (.two (.two .nil (.one (.two .nil (.two (.two .nil .nil) (.two .nil (.two (.two (.two .nil (.two .nil .nil)) (.two .nil (.two (.two .nil (.two (.two .nil .nil) .nil)) (.two .nil (.two (.two (.anyD 7 (.take 0 (.take 1 (.take 2 (.take 3 (.take 4 (.take 5 (.one 6 .done)))))))) (.two .nil .nil)) (.two (.anyD 6 (.take 0 (.take 1 (.take 2 (.take 3 (.take 4 (.take 5 .done))))))) (.two .nil (.two (.two .nil (.two .nil .nil)) (.two (.anyD 7 (.take 0 (.take 1 (.take 2 (.take 3 (.take 4 (.take 5 (.take 6 .done)))))))) (.two .nil .nil)))))))))) (.two .nil (.two (.two (.two .nil (.two (.two .nil .nil) .nil)) (.two .nil (.two (.two .nil (.two (.two .nil (.two .nil .nil)) (.two (.anyD 6 (.take 0 (.take 1 (.take 2 (.both 3 (.take 4 (.one 5 .done)) (.one 5 (.one 3 (.take 4 .done)))))))) (.two .nil (.two .nil .nil))))) .nil))) .nil)))))))) (.two .nil .nil))))
noncomputable def ecode29 : Code := match Tryz.f29.body with | some c => c | none => .skip
/-! manystrand/graph.Least -/
def eann30 : Ann := (.two .nil (.two (.two .nil (.two (.two .nil .nil) .nil)) (.two .nil .nil)))
noncomputable def ecode30 : Code := match Tryz.f30.body with | some c => c | none => .skip
/-! (*manystrand/graph.writer).node -/
def eann31 : Ann := (.two .nil (.two .nil (.two (.two .nil (.one (.two .nil (.two (.two .nil .nil) (.two .nil (.two (.two .nil .nil) (.two .nil (.two (.two (.anyD 10 (.take 0 (.take 1 (.take 2 (.take 3 (.take 4 (.take 5 (.one 6 (.take 7 (.take 8 (.take 9 .done))))))))))) .nil) .nil)))))))) (.two (.two .nil (.two (.two .nil .nil) .nil)) (.two (.two .nil (.two (.two .nil .nil) .nil)) (.two .nil (.two (.two .nil (.two (.two .nil (.two (.anyD 12 (.take 0 (.take 1 (.take 2 (.take 3 (.take 4 (.take 5 (.take 6 (.take 7 (.take 8 (.one 9 (.take 10 (.take 11 .done))))))))))))) .nil)) .nil)) (.two .nil .nil))))))))
noncomputable def ecode31 : Code := match Tryz.f31.body with | some c => c | none => .skip
/-! manystrand/graph.order -/
def eann32 : Ann := (.two .nil (.two .nil (.two .nil (.two .nil (.two (.two .nil (.one (.one (.two .nil (.two (.two .nil .nil) (.two (.one (.two .nil (.two .nil (.two .nil (.one (.one (.two .nil (.two (.two .nil .nil) (.two (.one (.two .nil .nil)) .nil))))))))) .nil)))))) (.two (.two .nil (.one (.one (.two .nil (.two (.two .nil .nil) (.two (.one (.two .nil (.two .nil (.two .nil .nil)))) .nil)))))) (.two (.two .nil (.one (.one (.two (.two .nil (.two .nil .nil)) (.two (.one (.two .nil (.two .nil (.one (.one (.two .nil (.two (.two .nil .nil) (.two (.one (.two .nil (.two .nil (.two .nil (.two .nil .nil))))) .nil)))))))) .nil))))) (.two .nil .nil))))))))
noncomputable def ecode32 : Code := match Tryz.f32.body with | some c => c | none => .skip
/-! slices.Contains[[]bool,bool] -/
def eann33 : Ann := (.two .nil (.two .nil .nil))
noncomputable def ecode33 : Code := match Tryz.f33.body with | some c => c | none => .skip
/-! manystrand/graph.fine -/
def eann34 : Ann := (.two .nil (.two .nil (.two (.two .nil (.one (.two .nil (.two (.two .nil .nil) (.two .nil (.two (.two .nil .nil) (.two .nil (.two (.two .nil .nil) (.two .nil (.two (.two (.two .nil (.two (.two .nil .nil) .nil)) (.two (.two .nil (.one (.one (.two .nil (.two (.two .nil .nil) (.two (.one (.two .nil (.two (.anyD 14 (.take 0 (.one 1 (.take 2 (.take 3 (.take 4 (.take 5 (.take 6 (.take 7 (.take 9 (.take 10 (.both 8 (.take 11 (.both 12 (.one 13 .done) (.one 13 (.one 12 .done)))) (.one 13 (.one 8 (.take 11 (.one 12 .done)))))))))))))))) (.two (.two .nil .nil) .nil)))) .nil)))))) (.two (.two .nil (.one (.one (.two .nil (.two (.two .nil .nil) (.two (.one (.two .nil (.two .nil (.two (.two .nil .nil) .nil)))) .nil)))))) (.two .nil .nil)))) .nil)))))))))) (.two .nil .nil))))
noncomputable def ecode34 : Code := match Tryz.f34.body with | some c => c | none => .skip
/-! manystrand/graph.classes -/
def eann35 : Ann := (.two .nil (.two .nil (.two .nil (.two (.two .nil (.one (.one (.two .nil (.two (.two .nil .nil) (.two (.one (.two .nil .nil)) .nil)))))) (.two .nil (.two .nil (.two .nil (.two (.two .nil (.one (.one (.two .nil (.two (.two .nil .nil) (.two (.one (.two .nil (.anyD 17 (.take 0 (.take 1 (.take 2 (.take 3 (.take 4 (.take 5 (.take 6 (.take 7 (.take 8 (.take 9 (.take 10 (.take 11 (.take 12 (.one 13 (.take 14 (.one 15 (.take 16 .done)))))))))))))))))))) .nil)))))) (.two .nil (.two .nil (.two (.two .nil (.one (.one (.two .nil (.two (.two .nil .nil) (.two (.one (.two .nil (.two .nil (.two .nil .nil)))) .nil)))))) (.two .nil (.one (.one (.one (.two .nil (.two .nil (.two (.two .nil (.one (.one (.two .nil (.two (.two .nil .nil) (.two (.one (.two .nil (.two .nil (.two (.two .nil (.two .nil .nil)) (.two .nil (.two (.two .nil (.two (.two .nil .nil) .nil)) .nil)))))) .nil)))))) (.two (.two .nil (.one (.one (.two .nil (.two (.two .nil .nil) (.two (.one (.two .nil .nil)) .nil)))))) (.two (.two .nil (.two (.two .nil .nil) .nil)) .nil))))))))))))))))))))
noncomputable def ecode35 : Code := match Tryz.f35.body with | some c => c | none => .skip
/-! manystrand/graph.least$1 -/
def eann36 : Ann := (.two .nil (.two (.two (.anyD 11 (.take 0 (.take 1 (.take 2 (.take 3 (.take 4 (.one 5 (.take 6 (.take 7 (.take 8 (.take 9 (.take 10 .done)))))))))))) (.two .nil (.two (.two .nil .nil) .nil))) (.two .nil (.two (.anyD 6 (.take 0 (.take 1 (.take 2 (.take 3 (.take 4 (.take 5 .done))))))) (.two .nil (.two .nil (.two .nil (.two .nil (.two (.two .nil (.one (.one (.two .nil (.two (.two .nil .nil) (.two (.one (.two .nil (.anyD 7 (.take 0 (.take 1 (.take 2 (.take 3 (.take 4 (.one 5 (.take 6 .done)))))))))) .nil)))))) (.two .nil .nil))))))))))
noncomputable def ecode36 : Code := match Tryz.f36.body with | some c => c | none => .skip
/-! slices.Clone[[]manystrand/api.Feat,manystrand/api.Feat] -/
def eann37 : Ann := (.two .nil (.two (.two .nil (.two (.two .nil .nil) .nil)) (.two .nil .nil)))
noncomputable def ecode37 : Code := match Tryz.f37.body with | some c => c | none => .skip
/-! manystrand/graph.isCons -/
def eann41 : Ann := (.two .nil (.two (.anyD 12 (.take 0 (.take 1 (.take 2 (.take 3 (.take 4 (.take 5 (.take 6 (.take 7 (.take 8 (.take 9 (.take 10 (.one 11 .done))))))))))))) .nil))
noncomputable def ecode41 : Code := match Tryz.f41.body with | some c => c | none => .skip
/-! manystrand/graph.isNil -/
def eann42 : Ann := (.two .nil (.two .nil .nil))
noncomputable def ecode42 : Code := match Tryz.f42.body with | some c => c | none => .skip
/-! manystrand/token.read -/
def eann43 : Ann := (.two .nil (.two .nil (.two .nil (.one (.one (.one (.two .nil (.two (.two .nil (.two (.two .nil .nil) .nil)) (.two (.two .nil (.two (.two .nil .nil) .nil)) (.two .nil (.two (.two .nil (.two (.two .nil .nil) .nil)) (.two .nil .nil))))))))))))
noncomputable def ecode43 : Code := match Tryz.f43.body with | some c => c | none => .skip
/-! (*manystrand/graph.reader).take -/
def eann44 : Ann := (.two .nil (.two (.two (.anyD 10 (.take 0 (.take 1 (.take 2 (.take 3 (.take 4 (.take 5 (.take 6 (.take 7 (.take 8 (.take 9 .done))))))))))) (.two .nil .nil)) (.two .nil (.two (.anyD 11 (.take 0 (.take 1 (.take 2 (.take 3 (.take 4 (.take 5 (.take 6 (.take 7 (.take 8 (.take 9 (.take 10 .done)))))))))))) .nil))))
noncomputable def ecode44 : Code := match Tryz.f44.body with | some c => c | none => .skip
/-! (*manystrand/graph.reader).put -/
def eann45 : Ann := (.two .nil (.two (.anyD 11 (.take 0 (.take 1 (.take 2 (.take 3 (.take 4 (.take 5 (.one 6 (.one 7 (.take 8 (.take 9 (.one 10 .done)))))))))))) (.two .nil .nil)))
noncomputable def ecode45 : Code := match Tryz.f45.body with | some c => c | none => .skip
/-! manystrand/graph.number -/
def eann46 : Ann := (.two .nil (.two .nil (.two .nil .nil)))
noncomputable def ecode46 : Code := match Tryz.f46.body with | some c => c | none => .skip
/-! manystrand/graph.isCycle -/
def eann47 : Ann := (.two .nil (.two (.two .nil (.two (.two .nil .nil) .nil)) (.two (.two .nil (.one (.one (.two (.two .nil (.two .nil .nil)) (.two (.one (.two .nil (.two (.two .nil .nil) .nil))) .nil))))) (.two .nil .nil))))
noncomputable def ecode47 : Code := match Tryz.f47.body with | some c => c | none => .skip
/-! (*manystrand/graph.reader).cycle -/
def eann48 : Ann := (.two .nil (.two .nil (.two (.two .nil (.two (.two .nil .nil) .nil)) (.two .nil .nil))))
noncomputable def ecode48 : Code := match Tryz.f48.body with | some c => c | none => .skip
/-! (*manystrand/graph.reader).is -/
def eann49 : Ann := (.two .nil (.two (.anyD 40 (.take 0 (.take 1 (.take 2 (.take 3 (.take 4 (.take 5 (.take 6 (.take 7 (.take 8 (.take 9 (.take 10 (.take 11 (.take 12 (.take 13 (.take 14 (.take 15 (.take 16 (.take 17 (.take 18 (.take 19 (.take 20 (.take 21 (.take 22 (.take 23 (.take 24 (.take 25 (.take 26 (.take 27 (.take 28 (.take 29 (.take 30 (.take 31 (.take 32 (.take 33 (.take 34 (.take 35 (.take 36 (.take 37 (.take 38 (.take 39 .done))))))))))))))))))))))))))))))))))))))))) .nil))
noncomputable def ecode49 : Code := match Tryz.f49.body with | some c => c | none => .skip
/-! (*manystrand/graph.reader).record -/
def eann50 : Ann := (.two .nil (.two (.one (.two .nil (.two (.two .nil .nil) (.two .nil (.two (.two .nil (.two (.one (.one (.two (.two .nil (.two .nil .nil)) (.one .nil)))) (.two .nil (.two (.two .nil (.two .nil .nil)) (.two .nil (.two (.two .nil (.one (.one (.two (.two .nil (.two .nil .nil)) (.two (.one (.anyD 9 (.take 0 (.take 2 (.take 3 (.take 4 (.take 5 (.take 6 (.both 1 (.one 7 (.take 8 .done)) (.one 7 (.one 1 (.take 8 .done)))))))))))) .nil))))) (.two (.anyD 7 (.take 1 (.take 2 (.take 3 (.take 4 (.both 0 (.one 5 (.take 6 .done)) (.one 5 (.one 0 (.take 6 .done))))))))) .nil))))))) (.two .nil (.two (.two .nil .nil) .nil))))))) .nil))
noncomputable def ecode50 : Code := match Tryz.f50.body with | some c => c | none => .skip
/-! (*manystrand/graph.reader).positive -/
def eann51 : Ann := (.two .nil (.two .nil (.two (.two .nil (.two .nil .nil)) (.two .nil .nil))))
noncomputable def ecode51 : Code := match Tryz.f51.body with | some c => c | none => .skip
/-! manystrand/graph.isSort -/
def eann52 : Ann := (.two .nil (.two (.two .nil (.one (.two (.two .nil (.two .nil (.two .nil (.two .nil (.two .nil (.two .nil (.two .nil (.two .nil (.two .nil (.two .nil (.two .nil (.two .nil (.two .nil (.two .nil (.two .nil (.two .nil (.two .nil (.two .nil .nil)))))))))))))))))) (.two (.two .nil .nil) .nil)))) (.two .nil .nil)))
noncomputable def ecode52 : Code := match Tryz.f52.body with | some c => c | none => .skip
/-! (*manystrand/graph.reader).want -/
def eann53 : Ann := (.two (.two .nil (.two .nil .nil)) .nil)
noncomputable def ecode53 : Code := match Tryz.f53.body with | some c => c | none => .skip
/-! strings.Replace -/
def eann54 : Ann := (.two .nil (.two (.two .nil (.two (.two .nil .nil) .nil)) (.two (.two .nil (.two .nil (.two (.two .nil .nil) (.two .nil (.two .nil .nil))))) (.two .nil (.two .nil (.two .nil (.two (.two .nil (.two (.two .nil (.one (.one (.two .nil (.two (.two .nil .nil) (.two (.one (.two .nil (.two .nil (.two .nil .nil)))) .nil)))))) (.two .nil (.two .nil (.one (.one (.two .nil (.two (.two .nil .nil) (.two (.one (.two .nil (.two .nil (.two .nil (.two .nil .nil))))) .nil))))))))) (.two .nil (.two .nil .nil)))))))))
noncomputable def ecode54 : Code := match Tryz.f54.body with | some c => c | none => .skip
/-! strconv.Itoa -/
def eann55 : Ann := (.two .nil (.two .nil .nil))
noncomputable def ecode55 : Code := match Tryz.f55.body with | some c => c | none => .skip
/-! manystrand/graph.quoted -/
def eann56 : Ann := (.two .nil (.two .nil (.two .nil .nil)))
noncomputable def ecode56 : Code := match Tryz.f56.body with | some c => c | none => .skip
/-! (*manystrand/graph.writer).shared -/
def eann57 : Ann := (.two .nil (.two .nil .nil))
noncomputable def ecode57 : Code := match Tryz.f57.body with | some c => c | none => .skip
/-! (*manystrand/graph.writer).record -/
def eann58 : Ann := (.two .nil (.two .nil (.two (.two .nil (.two (.two .nil (.two (.two .nil (.one (.one (.two .nil (.two (.two .nil .nil) (.two (.one (.two .nil .nil)) .nil)))))) (.two (.two .nil (.two (.two (.anyD 17 (.take 0 (.take 1 (.take 2 (.take 3 (.take 4 (.take 8 (.take 9 (.take 10 (.take 11 (.take 12 (.one 5 (.take 6 (.take 7 (.one 13 (.take 14 (.take 15 (.take 16 .done)))))))))))))))))) .nil) .nil)) (.two .nil (.two (.two .nil (.one (.one (.two .nil (.two (.two .nil .nil) (.two (.one (.two .nil .nil)) .nil)))))) (.two .nil .nil)))))) .nil)) (.two .nil (.two .nil (.two (.two .nil (.one (.one (.two .nil (.two (.two .nil .nil) (.two (.one (.two .nil (.two .nil (.two (.two .nil (.two .nil .nil)) .nil)))) .nil)))))) (.two (.two .nil (.two (.two .nil .nil) .nil)) (.two .nil .nil))))))))
noncomputable def ecode58 : Code := match Tryz.f58.body with | some c => c | none => .skip
/-! slices.Index[[]bool,bool] -/
def eann59 : Ann := (.two .nil (.two (.two .nil (.one (.one (.two .nil (.two (.two .nil .nil) (.two (.one (.two .nil (.two .nil (.two (.two .nil .nil) .nil)))) .nil)))))) (.two .nil .nil)))
noncomputable def ecode59 : Code := match Tryz.f59.body with | some c => c | none => .skip
/-! manystrand/token.Valid -/
def eann60 : Ann := (.two .nil (.two .nil (.two (.two .nil (.one (.two .nil (.two (.two .nil .nil) (.two (.two .nil (.two .nil .nil)) (.two (.two .nil (.two (.two .nil (.two .nil .nil)) (.two .nil .nil))) (.two .nil (.two (.two (.two .nil (.two (.two .nil .nil) .nil)) (.two .nil (.two .nil .nil))) (.two .nil (.two (.two .nil .nil) (.two .nil (.two (.two .nil .nil) (.two .nil (.two (.two .nil .nil) .nil)))))))))))))) (.two .nil .nil))))
noncomputable def ecode60 : Code := match Tryz.f60.body with | some c => c | none => .skip
/-! manystrand/tree.IsFeat -/
def eann61 : Ann := (.two .nil (.two (.two .nil (.two (.two .nil .nil) .nil)) (.two .nil .nil)))
noncomputable def ecode61 : Code := match Tryz.f61.body with | some c => c | none => .skip
/-! manystrand/tree.Less -/
def eann62 : Ann := (.two .nil (.two (.one (.two .nil (.two (.two .nil .nil) (.two .nil (.two (.two .nil .nil) .nil))))) (.two .nil .nil)))
noncomputable def ecode62 : Code := match Tryz.f62.body with | some c => c | none => .skip
/-! manystrand/graph.head -/
def eann63 : Ann := (.two .nil (.two (.anyD 13 (.take 0 (.take 1 (.take 2 (.take 3 (.take 4 (.take 8 (.take 9 (.one 5 (.take 6 (.take 7 (.one 10 (.take 11 (.take 12 .done)))))))))))))) (.two (.two .nil (.one (.one (.two .nil (.two (.two .nil .nil) (.two (.one (.two .nil (.anyD 11 (.take 0 (.take 1 (.take 2 (.take 5 (.take 6 (.one 3 (.take 4 (.one 7 (.take 8 (.take 9 (.take 10 .done)))))))))))))) .nil)))))) (.two .nil .nil))))
noncomputable def ecode63 : Code := match Tryz.f63.body with | some c => c | none => .skip
/-! manystrand/graph.classes$1 -/
def eann64 : Ann := (.two .nil (.two .nil (.two (.two .nil (.two (.two .nil .nil) .nil)) (.two .nil .nil))))
noncomputable def ecode64 : Code := match Tryz.f64.body with | some c => c | none => .skip
/-! manystrand/graph.key -/
def eann65 : Ann := (.two .nil (.two .nil (.two (.two .nil (.one (.one (.two .nil (.two (.two .nil .nil) (.two (.one (.two .nil (.anyD 9 (.take 0 (.take 3 (.take 4 (.take 5 (.take 6 (.one 1 (.one 2 (.one 7 (.take 8 .done)))))))))))) .nil)))))) (.two .nil .nil))))
noncomputable def ecode65 : Code := match Tryz.f65.body with | some c => c | none => .skip
/-! slices.Equal[[]manystrand/api.Feat,manystrand/api.Feat] -/
def eann69 : Ann := (.two .nil (.two (.two .nil (.two (.two .nil .nil) .nil)) (.two (.two .nil (.one (.one (.two .nil (.two (.two .nil .nil) (.two (.one (.two .nil (.two (.anyD 9 (.take 0 (.take 1 (.take 2 (.take 3 (.take 4 (.take 5 (.take 6 (.take 7 (.take 8 .done)))))))))) (.two (.two .nil .nil) .nil)))) .nil)))))) (.two .nil .nil))))
noncomputable def ecode69 : Code := match Tryz.f69.body with | some c => c | none => .skip
/-! manystrand/token.skip -/
def eann70 : Ann := (.two .nil (.two (.one (.one (.two (.two .nil (.two .nil .nil)) (.one (.one (.two .nil (.two .nil (.two .nil (.two (.two .nil (.two (.two .nil (.two (.two .nil .nil) .nil)) .nil)) (.two .nil .nil)))))))))) (.two .nil .nil)))
noncomputable def ecode70 : Code := match Tryz.f70.body with | some c => c | none => .skip
/-! manystrand/token.next -/
def eann71 : Ann := (.two .nil (.two .nil (.two .nil (.two (.one (.two .nil (.two (.two .nil (.two (.one (.one (.two (.two .nil (.two .nil .nil)) (.one .nil)))) (.two .nil (.two .nil (.two (.two .nil (.two .nil (.two .nil (.two .nil .nil)))) (.two .nil .nil)))))) (.two .nil (.two (.two .nil (.two .nil (.two (.two .nil (.two (.two .nil .nil) .nil)) (.two .nil (.two .nil (.two .nil .nil)))))) (.two .nil (.two (.two .nil (.two .nil (.two .nil .nil))) (.two .nil (.two (.two .nil (.two (.two .nil (.two (.two .nil (.two .nil .nil)) .nil)) (.two (.anyD 8 (.take 0 (.take 1 (.take 2 (.take 3 (.take 4 (.one 5 (.take 6 (.one 7 .done))))))))) (.two .nil .nil)))) .nil))))))))) (.two .nil (.two .nil (.two (.anyD 12 (.take 0 (.take 1 (.take 2 (.take 3 (.take 4 (.take 5 (.take 6 (.take 7 (.take 8 (.one 9 (.take 10 (.take 11 .done))))))))))))) .nil)))))))
noncomputable def ecode71 : Code := match Tryz.f71.body with | some c => c | none => .skip
/-! strconv.Atoi -/
def eann72 : Ann := (.two .nil (.two .nil (.two (.two .nil (.two (.two .nil .nil) .nil)) (.two .nil .nil))))
noncomputable def ecode72 : Code := match Tryz.f72.body with | some c => c | none => .skip
/-! (*manystrand/graph.reader).labelled -/
def eann73 : Ann := (.two .nil (.two .nil (.two (.two .nil (.two (.two .nil .nil) .nil)) (.two .nil (.two .nil (.two (.one (.one (.two (.two .nil (.two .nil .nil)) (.one (.two .nil (.two .nil (.two (.two .nil (.two .nil (.two .nil .nil))) (.two (.anyD 4 (.take 0 (.take 1 (.take 2 (.one 3 .done))))) .nil)))))))) (.two .nil (.two (.two .nil (.two .nil .nil)) (.two .nil (.two (.two .nil (.one (.one (.two .nil (.two (.two .nil .nil) (.two (.one (.two .nil (.anyD 6 (.take 0 (.take 1 (.take 2 (.take 3 (.one 4 (.one 5 .done))))))))) .nil)))))) (.two .nil .nil)))))))))))
noncomputable def ecode73 : Code := match Tryz.f73.body with | some c => c | none => .skip
/-! (*manystrand/graph.reader).bracket -/
def eann74 : Ann := (.two .nil (.two .nil (.two (.two .nil (.two (.two .nil (.two .nil (.two .nil (.two .nil .nil)))) .nil)) (.two .nil (.two (.one (.one (.two (.two .nil (.two .nil .nil)) (.one (.two .nil (.two (.anyD 5 (.take 0 (.take 1 (.take 2 (.one 3 (.one 4 .done)))))) .nil)))))) (.two .nil (.two (.two .nil (.two .nil .nil)) (.two .nil .nil))))))))
noncomputable def ecode74 : Code := match Tryz.f74.body with | some c => c | none => .skip
/-! strings.Count -/
def eann75 : Ann := (.two .nil (.two (.two .nil (.two (.two .nil .nil) .nil)) (.two (.two .nil (.two (.two .nil .nil) .nil)) (.two .nil (.one (.one (.one (.two .nil (.two (.two .nil (.two (.two .nil .nil) .nil)) (.two .nil .nil))))))))))
noncomputable def ecode75 : Code := match Tryz.f75.body with | some c => c | none => .skip
/-! (*strings.Builder).Grow -/
def eann76 : Ann := (.two .nil (.two (.two .nil (.two .nil .nil)) (.two (.anyD 13 (.take 0 (.take 1 (.take 2 (.take 3 (.take 4 (.take 5 (.take 6 (.take 7 (.take 8 (.take 9 (.take 10 (.take 11 (.take 12 .done)))))))))))))) (.two .nil .nil))))
noncomputable def ecode76 : Code := match Tryz.f76.body with | some c => c | none => .skip
/-! strings.Index -/
def eann77 : Ann := (.two .nil (.two .nil .nil))
noncomputable def ecode77 : Code := match Tryz.f77.body with | some c => c | none => .skip
/-! (*strings.Builder).WriteString -/
def eann78 : Ann := (.two .nil (.two .nil (.two .nil (.two .nil .nil))))
noncomputable def ecode78 : Code := match Tryz.f78.body with | some c => c | none => .skip
/-! unicode/utf8.DecodeRuneInString -/
def eann79 : Ann := (.two .nil (.two (.two .nil (.two (.two .nil .nil) .nil)) .nil))
noncomputable def ecode79 : Code := match Tryz.f79.body with | some c => c | none => .skip
/-! (*strings.Builder).String -/
def eann80 : Ann := (.two .nil (.two (.anyD 12 (.take 0 (.take 1 (.take 2 (.take 3 (.take 5 (.take 6 (.take 7 (.take 8 (.take 9 (.one 4 (.one 10 (.take 11 .done))))))))))))) .nil))
noncomputable def ecode80 : Code := match Tryz.f80.body with | some c => c | none => .skip
/-! internal/strconv.Itoa -/
def eann81 : Ann := (.two .nil (.two .nil .nil))
noncomputable def ecode81 : Code := match Tryz.f81.body with | some c => c | none => .skip
/-! manystrand/token.Quote -/
def eann82 : Ann := (.two .nil (.two .nil .nil))
noncomputable def ecode82 : Code := match Tryz.f82.body with | some c => c | none => .skip
/-! strings.Join -/
def eann83 : Ann := (.two .nil (.two (.two .nil (.one (.two .nil (.two (.two .nil .nil) (.two .nil (.two (.two .nil .nil) .nil)))))) (.two .nil (.two (.two .nil (.two (.two (.two .nil (.two .nil .nil)) .nil) .nil)) (.two (.two .nil (.one (.one (.two .nil (.two (.two .nil .nil) (.two (.one (.two .nil (.two (.two .nil (.two .nil .nil)) .nil))) .nil)))))) (.two .nil (.two .nil (.two .nil (.two (.two .nil (.one (.one (.two .nil (.two (.two .nil .nil) (.two (.one (.two .nil (.two .nil .nil))) .nil)))))) (.two .nil .nil))))))))))
noncomputable def ecode83 : Code := match Tryz.f83.body with | some c => c | none => .skip
/-! manystrand/graph.isTuple -/
def eann84 : Ann := (.two .nil (.two (.two .nil (.two (.two .nil .nil) .nil)) (.two (.two .nil (.one (.one (.two .nil (.two (.two .nil .nil) (.two (.one (.two .nil (.two .nil (.two (.two .nil .nil) .nil)))) .nil)))))) (.two .nil .nil))))
noncomputable def ecode84 : Code := match Tryz.f84.body with | some c => c | none => .skip
/-! manystrand/graph.feature -/
def eann85 : Ann := (.two .nil (.two (.two .nil (.two (.two .nil .nil) .nil)) (.two .nil .nil)))
noncomputable def ecode85 : Code := match Tryz.f85.body with | some c => c | none => .skip
/-! manystrand/token.IsVar -/
def eann86 : Ann := (.two .nil (.two (.two .nil (.two (.two .nil .nil) .nil)) (.two .nil .nil)))
noncomputable def ecode86 : Code := match Tryz.f86.body with | some c => c | none => .skip
/-! manystrand/token.printed -/
def eann87 : Ann := (.two .nil (.two (.two .nil (.one (.one (.two .nil (.two (.two .nil .nil) (.two (.one (.two .nil (.two .nil (.two (.two .nil .nil) .nil)))) .nil)))))) (.two .nil .nil)))
noncomputable def ecode87 : Code := match Tryz.f87.body with | some c => c | none => .skip
/-! manystrand/token.digit -/
def eann88 : Ann := (.two .nil (.two .nil .nil))
noncomputable def ecode88 : Code := match Tryz.f88.body with | some c => c | none => .skip
/-! manystrand/token.number -/
def eann89 : Ann := (.two .nil (.two .nil (.two (.two .nil (.two .nil .nil)) (.two .nil (.two (.one (.one (.two (.two .nil (.two .nil .nil)) (.one .nil)))) (.two .nil (.two .nil .nil)))))))
noncomputable def ecode89 : Code := match Tryz.f89.body with | some c => c | none => .skip
/-! manystrand/token.isKey -/
def eann90 : Ann := (.two .nil (.two (.two .nil (.one (.two (.two .nil (.two .nil (.two .nil (.two .nil (.two .nil (.two .nil (.two .nil (.two .nil (.two .nil (.two .nil (.two .nil (.two .nil (.two .nil (.two .nil (.two .nil (.two .nil (.two .nil (.two .nil (.two .nil (.two .nil (.two .nil (.two .nil (.two .nil (.two .nil (.two .nil (.two .nil (.two .nil (.two .nil (.two .nil (.two .nil (.two .nil (.two .nil (.two .nil (.two .nil (.two .nil (.two .nil (.two .nil (.two .nil (.two .nil (.two .nil (.two .nil (.two .nil (.two .nil (.two .nil (.two .nil (.two .nil (.two .nil (.two .nil (.two .nil (.two .nil (.two .nil (.two .nil .nil)))))))))))))))))))))))))))))))))))))))))))))))))))) (.two (.two .nil .nil) .nil)))) (.two .nil .nil)))
noncomputable def ecode90 : Code := match Tryz.f90.body with | some c => c | none => .skip
/-! manystrand/token.signAt -/
def eann91 : Ann := (.two .nil (.two (.two .nil (.one (.one (.two (.two .nil (.two .nil .nil)) (.two (.one (.two .nil (.one (.two (.two .nil (.two .nil (.two .nil (.two .nil (.two .nil (.two .nil (.two .nil (.two .nil (.two .nil (.two .nil (.two .nil (.two .nil (.two .nil (.two .nil (.two .nil (.two .nil (.two .nil (.two .nil (.two .nil (.two .nil (.two .nil (.two .nil (.two .nil (.two .nil (.two .nil (.two .nil (.two .nil (.two .nil (.two .nil (.two .nil (.two .nil (.two .nil (.two .nil (.two .nil (.two .nil (.two .nil (.two .nil (.two .nil (.two .nil (.two .nil (.two .nil (.two .nil (.two .nil (.two .nil (.two .nil (.two .nil (.two .nil (.two .nil (.two .nil (.two .nil (.two .nil (.two .nil (.two .nil (.two .nil .nil)))))))))))))))))))))))))))))))))))))))))))))))))))))) (.two (.two .nil .nil) .nil))))) .nil))))) (.two .nil .nil)))
noncomputable def ecode91 : Code := match Tryz.f91.body with | some c => c | none => .skip
/-! manystrand/tree.isAtom -/
def eann92 : Ann := (.two .nil (.two .nil (.two .nil .nil)))
noncomputable def ecode92 : Code := match Tryz.f92.body with | some c => c | none => .skip
/-! strconv.Quote -/
def eann93 : Ann := (.two .nil (.two .nil .nil))
noncomputable def ecode93 : Code := match Tryz.f93.body with | some c => c | none => .skip
/-! strconv.AppendInt -/
def eann94 : Ann := (.two .nil (.two .nil .nil))
noncomputable def ecode94 : Code := match Tryz.f94.body with | some c => c | none => .skip
/-! strings.HasPrefix -/
def eann100 : Ann := (.two .nil (.two .nil .nil))
noncomputable def ecode100 : Code := match Tryz.f100.body with | some c => c | none => .skip
/-! manystrand/token.remark -/
def eann101 : Ann := (.two .nil (.two (.two .nil (.two (.two (.one (.one (.two (.two .nil (.two .nil .nil)) (.one .nil)))) (.two .nil .nil)) .nil)) (.two .nil (.two (.one (.one (.two (.two .nil (.two .nil .nil)) (.one (.two (.one (.two .nil (.two (.two .nil .nil) (.two .nil (.two (.two .nil .nil) .nil))))) (.two .nil (.two (.two .nil .nil) .nil))))))) (.two .nil .nil)))))
noncomputable def ecode101 : Code := match Tryz.f101.body with | some c => c | none => .skip
/-! manystrand/token.upper -/
def eann102 : Ann := (.two .nil (.two .nil .nil))
noncomputable def ecode102 : Code := match Tryz.f102.body with | some c => c | none => .skip
/-! manystrand/token.lower -/
def eann103 : Ann := (.two .nil (.two .nil .nil))
noncomputable def ecode103 : Code := match Tryz.f103.body with | some c => c | none => .skip
/-! manystrand/token.word -/
def eann104 : Ann := (.two .nil (.two .nil .nil))
noncomputable def ecode104 : Code := match Tryz.f104.body with | some c => c | none => .skip
/-! manystrand/token.quoted -/
def eann105 : Ann := (.two .nil (.two .nil (.two .nil (.two (.two .nil (.one (.one (.two (.two .nil (.two .nil .nil)) (.two (.one (.two .nil (.one (.two .nil (.two (.two .nil .nil) (.two .nil (.two (.two .nil (.two (.two .nil (.two (.two .nil .nil) .nil)) (.two .nil (.one (.two (.two .nil (.two .nil .nil)) (.two .nil (.two .nil (.two .nil (.two .nil .nil))))))))) (.two .nil (.two (.two .nil .nil) .nil))))))))) .nil))))) (.two .nil .nil)))))
noncomputable def ecode105 : Code := match Tryz.f105.body with | some c => c | none => .skip
/-! manystrand/token.char -/
def eann106 : Ann := (.two .nil (.two (.two .nil (.two (.two .nil .nil) .nil)) (.two .nil (.two (.two .nil (.two (.two .nil .nil) .nil)) (.two (.two .nil (.two (.two .nil .nil) .nil)) (.two (.two .nil (.one (.two .nil (.two (.two .nil .nil) (.two .nil (.two (.two .nil .nil) (.two .nil (.two (.two .nil .nil) .nil)))))))) (.two .nil .nil)))))))
noncomputable def ecode106 : Code := match Tryz.f106.body with | some c => c | none => .skip
/-! internal/strconv.Atoi -/
def eann107 : Ann := (.two .nil (.two .nil (.two (.two .nil (.two (.two .nil (.two (.two .nil (.two (.two .nil (.two .nil (.two (.two .nil .nil) .nil))) .nil)) (.two .nil (.two (.two .nil (.one (.one (.two .nil (.two (.two .nil .nil) (.two (.one (.two .nil (.two .nil (.two (.two .nil (.two (.two .nil .nil) .nil)) .nil)))) .nil)))))) (.two (.two .nil (.two .nil .nil)) (.two .nil .nil)))))) .nil)) (.two .nil (.two .nil .nil)))))
noncomputable def ecode107 : Code := match Tryz.f107.body with | some c => c | none => .skip
/-! strconv.toError -/
def eann108 : Ann := (.two .nil (.two (.two .nil (.one (.two .nil (.two (.two .nil .nil) (.two .nil (.two (.two .nil .nil) (.two .nil (.two (.two .nil .nil) (.two .nil (.two (.two .nil .nil) .nil)))))))))) (.two .nil .nil)))
noncomputable def ecode108 : Code := match Tryz.f108.body with | some c => c | none => .skip
/-! (*manystrand/graph.reader).directly -/
def eann109 : Ann := (.two .nil (.two (.two (.anyD 17 (.take 0 (.one 1 (.take 2 (.take 3 (.take 4 (.take 5 (.take 6 (.take 8 (.take 9 (.take 10 (.both 7 (.one 11 (.take 12 (.take 13 (.one 14 (.take 15 (.take 16 .done)))))) (.one 11 (.one 7 (.take 12 (.take 13 (.one 14 (.take 15 (.take 16 .done))))))))))))))))))) (.two (.two .nil .nil) .nil)) (.two (.anyD 18 (.take 0 (.take 1 (.take 2 (.take 3 (.take 4 (.take 5 (.take 6 (.take 7 (.take 8 (.take 9 (.take 10 (.take 11 (.take 12 (.take 13 (.take 14 (.take 15 (.take 16 (.take 17 .done))))))))))))))))))) (.two .nil .nil))))
noncomputable def ecode109 : Code := match Tryz.f109.body with | some c => c | none => .skip
/-! (*manystrand/graph.reader).feature -/
def eann110 : Ann := (.two .nil (.two .nil (.two (.one (.two .nil (.two (.two .nil .nil) (.two .nil (.two (.two .nil .nil) .nil))))) .nil)))
noncomputable def ecode110 : Code := match Tryz.f110.body with | some c => c | none => .skip
/-! slices.SortFunc[[]manystrand/api.Feat,manystrand/api.Feat] -/
def eann111 : Ann := (.two .nil .nil)
noncomputable def ecode111 : Code := match Tryz.f111.body with | some c => c | none => .skip
/-! (*manystrand/graph.reader).labelled$1 -/
def eann112 : Ann := (.two .nil (.two (.two .nil (.two (.two .nil .nil) .nil)) (.two (.two .nil (.two (.two .nil .nil) .nil)) (.two .nil .nil))))
noncomputable def ecode112 : Code := match Tryz.f112.body with | some c => c | none => .skip
/-! strings.Compare -/
def eann113 : Ann := (.two .nil (.two .nil .nil))
noncomputable def ecode113 : Code := match Tryz.f113.body with | some c => c | none => .skip
/-! unicode/utf8.RuneCountInString -/
def eann114 : Ann := (.two .nil (.two (.two .nil (.one (.one (.two .nil (.two (.two .nil .nil) (.one .nil)))))) (.two .nil .nil)))
noncomputable def ecode114 : Code := match Tryz.f114.body with | some c => c | none => .skip
/-! (*strings.Builder).copyCheck -/
def eann116 : Ann := (.two .nil (.two .nil (.two .nil (.two .nil .nil))))
noncomputable def ecode116 : Code := match Tryz.f116.body with | some c => c | none => .skip
/-! (*strings.Builder).grow -/
def eann117 : Ann := (.two (.anyD 16 (.take 0 (.take 1 (.take 2 (.take 3 (.take 4 (.take 5 (.take 6 (.take 7 (.take 9 (.take 10 (.take 11 (.take 12 (.take 13 (.one 8 (.take 14 (.take 15 .done))))))))))))))))) (.two .nil .nil))
noncomputable def ecode117 : Code := match Tryz.f117.body with | some c => c | none => .skip
/-! internal/stringslite.Index -/
def eann118 : Ann := (.two .nil (.two .nil (.two (.one (.two .nil (.two (.two .nil .nil) (.two .nil (.two (.two .nil .nil) (.two .nil (.two (.two .nil .nil) (.two .nil (.two (.two .nil .nil) .nil))))))))) (.two .nil (.two .nil (.two .nil (.two .nil (.two .nil (.two (.one (.one (.two (.two .nil (.two .nil .nil)) (.one (.two (.two .nil (.two (.two .nil (.two (.two .nil (.two (.two .nil .nil) .nil)) .nil)) .nil)) (.two (.two .nil (.two (.two .nil .nil) .nil)) (.two .nil (.two .nil (.two .nil (.two (.two .nil (.two (.two .nil (.two (.two .nil .nil) .nil)) (.two .nil .nil))) (.two .nil (.two (.two .nil (.two (.two .nil (.two (.two .nil .nil) .nil)) (.two .nil .nil))) .nil)))))))))))) (.two .nil .nil))))))))))
noncomputable def ecode118 : Code := match Tryz.f118.body with | some c => c | none => .skip
/-! unicode/utf8.decodeRuneInStringSlow -/
def eann119 : Ann := (.two .nil (.two .nil (.two (.two .nil (.two (.two .nil .nil) .nil)) (.two .nil (.two .nil (.two (.two .nil (.two (.two .nil (.two .nil .nil)) .nil)) (.two .nil (.two .nil (.two (.two .nil (.two (.two .nil .nil) .nil)) (.two .nil (.two (.two .nil (.two (.two .nil .nil) .nil)) (.two (.two .nil (.two (.two .nil .nil) .nil)) (.two .nil (.two (.two .nil (.two (.two .nil .nil) .nil)) (.two (.two .nil (.two (.two .nil .nil) .nil)) (.two .nil (.two (.two .nil (.two (.two .nil .nil) .nil)) (.two .nil .nil))))))))))))))))))
noncomputable def ecode119 : Code := match Tryz.f119.body with | some c => c | none => .skip
/-! internal/strconv.FormatInt -/
def eann120 : Ann := (.two .nil (.two (.two .nil (.two (.two (.two .nil (.two (.two .nil .nil) .nil)) (.two .nil (.two .nil (.two (.two .nil (.two .nil .nil)) (.two .nil (.two .nil (.two (.two .nil (.two (.two .nil (.two .nil .nil)) .nil)) (.two .nil .nil)))))))) .nil)) (.two .nil (.two .nil .nil))))
noncomputable def ecode120 : Code := match Tryz.f120.body with | some c => c | none => .skip
/-! manystrand/token.Text -/
def eann121 : Ann := (.two .nil (.two (.two .nil (.two (.two .nil .nil) .nil)) (.two (.two .nil (.one (.two .nil (.two (.two (.two .nil (.two (.two .nil .nil) .nil)) (.two .nil .nil)) (.two .nil (.two (.two .nil .nil) (.two .nil (.two (.two (.two .nil (.one (.two .nil (.two (.two .nil .nil) (.two .nil (.two (.two .nil .nil) (.two .nil (.two (.two .nil .nil) .nil)))))))) (.two .nil .nil)) .nil)))))))) (.two .nil .nil))))
noncomputable def ecode121 : Code := match Tryz.f121.body with | some c => c | none => .skip
/-! manystrand/token.words -/
def eann122 : Ann := (.two .nil (.two (.two .nil (.one (.one (.two .nil (.two (.two .nil .nil) (.two (.one (.two .nil (.two .nil (.two (.two .nil .nil) .nil)))) .nil)))))) (.two .nil .nil)))
noncomputable def ecode122 : Code := match Tryz.f122.body with | some c => c | none => .skip
/-! strconv.quoteWith -/
def eann123 : Ann := (.two .nil (.two .nil .nil))
noncomputable def ecode123 : Code := match Tryz.f123.body with | some c => c | none => .skip
/-! internal/strconv.AppendInt -/
def eann124 : Ann := (.two .nil (.two .nil (.two (.two .nil (.two (.two .nil .nil) .nil)) (.two .nil .nil))))
noncomputable def ecode124 : Code := match Tryz.f124.body with | some c => c | none => .skip
/-! internal/stringslite.HasPrefix -/
def eann126 : Ann := (.two .nil (.two .nil .nil))
noncomputable def ecode126 : Code := match Tryz.f126.body with | some c => c | none => .skip
/-! internal/strconv.ParseInt -/
def eann127 : Ann := (.two .nil (.two (.two .nil (.two (.two .nil .nil) .nil)) (.two .nil (.two (.two .nil (.one (.two .nil (.two .nil (.two .nil (.two (.two .nil .nil) .nil)))))) (.two .nil (.two .nil (.two (.two .nil (.two (.two .nil .nil) .nil)) (.two (.two .nil (.two .nil .nil)) (.two .nil (.two (.two .nil (.two (.two .nil .nil) .nil)) (.two (.two .nil (.two (.two .nil .nil) .nil)) (.two .nil (.two (.two .nil (.two .nil .nil)) (.two .nil .nil))))))))))))))
noncomputable def ecode127 : Code := match Tryz.f127.body with | some c => c | none => .skip
/-! strconv.syntaxError -/
def eann128 : Ann := (.two .nil (.two (.anyD 7 (.take 0 (.take 1 (.take 3 (.one 2 (.take 4 (.one 5 (.take 6 .done)))))))) .nil))
noncomputable def ecode128 : Code := match Tryz.f128.body with | some c => c | none => .skip
/-! strconv.rangeError -/
def eann129 : Ann := (.two .nil (.two (.anyD 7 (.take 0 (.take 1 (.take 3 (.one 2 (.take 4 (.one 5 (.take 6 .done)))))))) .nil))
noncomputable def ecode129 : Code := match Tryz.f129.body with | some c => c | none => .skip
/-! strconv.baseError -/
def eann130 : Ann := (.two .nil (.two .nil .nil))
noncomputable def ecode130 : Code := match Tryz.f130.body with | some c => c | none => .skip
/-! strconv.bitSizeError -/
def eann131 : Ann := (.two .nil (.two .nil .nil))
noncomputable def ecode131 : Code := match Tryz.f131.body with | some c => c | none => .skip
/-! slices.pdqsortCmpFunc[manystrand/api.Feat] -/
def eann132 : Ann := (.two .nil (.two .nil (.one (.one (.one (.two .nil (.two (.two .nil (.two (.two .nil .nil) .nil)) (.two (.two .nil (.two (.two .nil .nil) .nil)) (.two (.two .nil (.two (.two .nil .nil) .nil)) (.two .nil (.two (.two .nil (.two (.two .nil (.two .nil .nil)) .nil)) (.two (.two .nil (.two (.two .nil (.two .nil .nil)) .nil)) (.two (.two (.anyD 13 (.take 0 (.take 1 (.take 2 (.take 3 (.take 4 (.take 5 (.take 6 (.take 7 (.take 8 (.take 9 (.take 10 (.take 11 (.take 12 .done)))))))))))))) (.two (.two .nil (.two .nil .nil)) .nil)) (.two .nil (.two .nil (.two .nil (.two .nil (.two .nil (.two (.two .nil (.two .nil .nil)) (.two .nil (.two .nil .nil)))))))))))))))))))))
noncomputable def ecode132 : Code := match Tryz.f132.body with | some c => c | none => .skip
/-! math/bits.Len -/
def eann133 : Ann := (.two .nil (.two (.two (.two .nil .nil) .nil) (.two .nil .nil)))
noncomputable def ecode133 : Code := match Tryz.f133.body with | some c => c | none => .skip
/-! internal/bytealg.CompareString -/
def eann134 : Ann := (.two .nil (.two .nil .nil))
noncomputable def ecode134 : Code := match Tryz.f134.body with | some c => c | none => .skip
/-! internal/stringslite.IndexByte -/
def eann137 : Ann := (.two .nil (.two .nil .nil))
noncomputable def ecode137 : Code := match Tryz.f137.body with | some c => c | none => .skip
/-! internal/bytealg.Cutover -/
def eann139 : Ann := (.two .nil (.two .nil .nil))
noncomputable def ecode139 : Code := match Tryz.f139.body with | some c => c | none => .skip
/-! internal/bytealg.IndexRabinKarp[string] -/
def eann140 : Ann := (.two .nil (.two .nil (.two .nil (.two .nil (.two (.two .nil (.one (.one (.two (.two .nil (.two .nil .nil)) (.two (.one .nil) .nil))))) (.two (.two .nil (.two (.two .nil .nil) .nil)) (.two (.two .nil (.one (.one (.two (.two .nil (.two .nil .nil)) (.one (.two .nil (.two .nil (.two .nil (.two .nil (.two .nil (.two (.two .nil .nil) .nil))))))))))) (.two .nil .nil))))))))
noncomputable def ecode140 : Code := match Tryz.f140.body with | some c => c | none => .skip
/-! internal/strconv.small -/
def eann141 : Ann := (.two .nil (.two (.two .nil (.two (.two .nil .nil) .nil)) (.two .nil .nil)))
noncomputable def ecode141 : Code := match Tryz.f141.body with | some c => c | none => .skip
/-! internal/strconv.numDigits -/
def eann142 : Ann := (.two .nil (.two .nil (.two .nil .nil)))
noncomputable def ecode142 : Code := match Tryz.f142.body with | some c => c | none => .skip
/-! internal/strconv.formatBase10 -/
def eann143 : Ann := (.two .nil (.two (.one (.one (.two (.two .nil (.two .nil .nil)) (.one (.two .nil (.two .nil (.two .nil (.two .nil (.two .nil (.two (.anyD 15 (.take 0 (.take 1 (.take 2 (.take 3 (.take 4 (.take 5 (.take 6 (.take 7 (.take 8 (.take 9 (.take 10 (.take 11 (.one 12 (.take 13 (.one 14 .done)))))))))))))))) (.two (.anyD 15 (.take 0 (.take 1 (.take 2 (.take 3 (.take 4 (.take 5 (.take 6 (.take 7 (.take 8 (.take 9 (.take 10 (.take 11 (.one 12 (.take 13 (.one 14 .done)))))))))))))))) (.two (.anyD 15 (.take 0 (.take 1 (.take 2 (.take 3 (.take 4 (.take 5 (.take 6 (.take 7 (.take 8 (.take 9 (.take 10 (.take 11 (.one 12 (.take 13 (.one 14 .done)))))))))))))))) (.two (.anyD 15 (.take 0 (.take 1 (.take 2 (.take 3 (.take 4 (.take 5 (.take 6 (.take 7 (.take 8 (.take 9 (.take 10 (.take 11 (.one 12 (.take 13 (.one 14 .done)))))))))))))))) .nil))))))))))))) (.two .nil (.two (.two .nil (.two (.two .nil (.two .nil (.two .nil (.two (.anyD 15 (.take 0 (.take 1 (.take 2 (.take 3 (.take 4 (.take 5 (.take 6 (.take 7 (.take 8 (.take 9 (.take 10 (.take 11 (.one 12 (.take 13 (.one 14 .done)))))))))))))))) (.two (.anyD 15 (.take 0 (.take 1 (.take 2 (.take 3 (.take 4 (.take 5 (.take 6 (.take 7 (.take 8 (.take 9 (.take 10 (.take 11 (.one 12 (.take 13 (.one 14 .done)))))))))))))))) .nil))))) .nil)) (.two (.two .nil (.two (.two .nil (.two .nil (.two (.anyD 15 (.take 0 (.take 1 (.take 2 (.take 3 (.take 4 (.take 5 (.take 6 (.take 7 (.take 8 (.take 9 (.take 10 (.take 11 (.one 12 (.take 13 (.one 14 .done)))))))))))))))) .nil))) .nil)) (.two .nil (.two .nil .nil)))))))
noncomputable def ecode143 : Code := match Tryz.f143.body with | some c => c | none => .skip
/-! internal/strconv.formatBits -/
def eann144 : Ann := (.two .nil (.two (.two .nil (.two .nil .nil)) (.two .nil (.two .nil (.two (.two .nil (.two .nil .nil)) (.two (.two .nil (.two (.two .nil (.two .nil (.two .nil (.two (.one (.one (.two (.two .nil (.two .nil .nil)) (.one (.two .nil (.two .nil .nil)))))) (.two .nil .nil))))) (.two .nil (.two (.one (.one (.two (.two .nil (.two .nil .nil)) (.one (.two .nil (.two .nil (.two .nil .nil))))))) (.two .nil .nil))))) (.two (.two .nil (.two (.two .nil .nil) .nil)) (.two (.two .nil (.two (.two .nil .nil) .nil)) (.two .nil .nil)))))))))
noncomputable def ecode144 : Code := match Tryz.f144.body with | some c => c | none => .skip
/-! manystrand/token.IsPlain -/
def eann145 : Ann := (.two .nil (.two .nil .nil))
noncomputable def ecode145 : Code := match Tryz.f145.body with | some c => c | none => .skip
/-! manystrand/token.inQuotes -/
def eann146 : Ann := (.two .nil (.two .nil (.two (.two .nil (.one (.one (.two .nil (.two (.two .nil .nil) (.two (.one (.two .nil (.two .nil (.two .nil (.one (.two (.two .nil (.two .nil .nil)) (.two .nil (.two .nil (.two .nil .nil))))))))) .nil)))))) (.two .nil .nil))))
noncomputable def ecode146 : Code := match Tryz.f146.body with | some c => c | none => .skip
/-! strconv.appendQuotedWith -/
def eann147 : Ann := (.two .nil (.two (.two .nil (.two (.two .nil (.two .nil .nil)) .nil)) (.two .nil (.two (.two .nil (.one (.one (.two (.two .nil (.two .nil .nil)) (.two (.one (.two .nil (.two (.two .nil (.two (.two .nil (.two .nil (.two .nil .nil))) .nil)) .nil))) .nil))))) (.two .nil (.two .nil .nil))))))
noncomputable def ecode147 : Code := match Tryz.f147.body with | some c => c | none => .skip
/-! internal/strconv.AppendUint -/
def eann148 : Ann := (.two .nil (.two (.two .nil (.two (.two (.two .nil (.two (.two .nil .nil) .nil)) (.two .nil (.two .nil (.two .nil (.two .nil .nil))))) .nil)) (.two .nil (.two .nil .nil))))
noncomputable def ecode148 : Code := match Tryz.f148.body with | some c => c | none => .skip
/-! internal/strconv.ParseUint -/
def eann154 : Ann := (.two .nil (.two (.two .nil (.two (.two .nil .nil) .nil)) (.two .nil (.two .nil (.two (.one (.two .nil (.two .nil (.two .nil (.two (.two .nil (.two .nil (.two (.one (.two .nil (.two (.two .nil .nil) (.two .nil (.two (.two .nil .nil) (.two .nil (.two (.two .nil .nil) (.two .nil .nil)))))))) .nil))) (.two .nil .nil)))))) (.two (.two .nil (.two .nil (.two .nil (.two (.two .nil .nil) .nil)))) (.two .nil (.two (.two .nil (.one (.two .nil (.two .nil (.two .nil (.two .nil .nil)))))) (.two .nil (.two .nil (.two .nil (.two (.two .nil (.one (.one (.two .nil (.two (.two .nil .nil) (.two (.one (.two .nil (.two .nil (.two (.one (.two .nil (.two (.two .nil .nil) (.two .nil (.two .nil (.two .nil (.two .nil (.two .nil .nil)))))))) (.two (.two .nil (.two (.two .nil .nil) .nil)) (.two (.two .nil (.two (.two .nil .nil) .nil)) (.two .nil (.two .nil (.two (.two .nil (.two (.two .nil .nil) .nil)) .nil))))))))) .nil)))))) (.two (.two .nil (.two (.two .nil .nil) .nil)) (.two .nil .nil))))))))))))))
noncomputable def ecode154 : Code := match Tryz.f154.body with | some c => c | none => .skip
/-! internal/stringslite.Clone -/
def eann155 : Ann := (.two .nil (.two (.two .nil (.two (.two .nil .nil) .nil)) (.two .nil (.two .nil (.two .nil .nil)))))
noncomputable def ecode155 : Code := match Tryz.f155.body with | some c => c | none => .skip
/-! errors.New -/
def eann156 : Ann := (.two .nil (.two .nil .nil))
noncomputable def ecode156 : Code := match Tryz.f156.body with | some c => c | none => .skip
/-! slices.insertionSortCmpFunc[manystrand/api.Feat] -/
def eann157 : Ann := (.two .nil (.one (.one (.two (.two .nil (.two .nil .nil)) (.two (.one (.two .nil (.one (.one (.two (.two (.anyD 14 (.take 0 (.take 1 (.take 2 (.take 3 (.take 4 (.take 5 (.take 6 (.take 7 (.take 8 (.take 9 (.take 10 (.take 11 (.take 12 (.take 13 .done))))))))))))))) (.two .nil .nil)) (.two (.one (.anyD 18 (.take 0 (.take 1 (.take 2 (.take 3 (.take 4 (.take 5 (.take 6 (.take 7 (.take 8 (.take 9 (.take 10 (.take 11 (.take 12 (.take 13 (.take 14 (.one 15 (.take 16 (.one 17 .done)))))))))))))))))))) .nil)))))) .nil)))))
noncomputable def ecode157 : Code := match Tryz.f157.body with | some c => c | none => .skip
/-! slices.heapSortCmpFunc[manystrand/api.Feat] -/
def eann158 : Ann := (.two .nil (.two .nil (.two .nil (.two (.two .nil (.one (.one (.two (.two .nil (.two .nil .nil)) (.two (.one .nil) .nil))))) (.two .nil (.one (.one (.two (.two .nil (.two .nil .nil)) (.two (.one (.two (.anyD 20 (.take 0 (.take 1 (.take 2 (.take 3 (.take 4 (.take 5 (.take 6 (.take 7 (.take 8 (.take 9 (.take 10 (.take 11 (.take 12 (.take 13 (.take 14 (.take 15 (.take 16 (.one 17 (.take 18 (.one 19 .done))))))))))))))))))))) .nil)) .nil)))))))))
noncomputable def ecode158 : Code := match Tryz.f158.body with | some c => c | none => .skip
/-! slices.breakPatternsCmpFunc[manystrand/api.Feat] -/
def eann159 : Ann := (.two .nil (.two .nil (.two (.two .nil (.two .nil (.two .nil (.one (.one (.two (.two .nil (.two .nil .nil)) (.two (.one (.two .nil (.two (.two .nil (.two .nil .nil)) (.anyD 20 (.take 0 (.take 1 (.take 2 (.take 3 (.take 4 (.take 5 (.take 6 (.take 7 (.take 8 (.take 9 (.take 10 (.take 11 (.take 12 (.take 13 (.take 14 (.take 15 (.take 16 (.one 17 (.take 18 (.one 19 .done)))))))))))))))))))))))) .nil))))))) .nil)))
noncomputable def ecode159 : Code := match Tryz.f159.body with | some c => c | none => .skip
/-! slices.choosePivotCmpFunc[manystrand/api.Feat] -/
def eann160 : Ann := (.two .nil (.two .nil (.two .nil (.two .nil (.two .nil (.two .nil (.two (.two .nil (.two (.two (.two .nil (.two (.two .nil (.two .nil .nil)) .nil)) .nil) .nil)) (.two .nil (.one (.two .nil (.two (.two .nil .nil) (.two .nil (.two (.two .nil .nil) (.two .nil .nil))))))))))))))
noncomputable def ecode160 : Code := match Tryz.f160.body with | some c => c | none => .skip
/-! slices.reverseRangeCmpFunc[manystrand/api.Feat] -/
def eann161 : Ann := (.two .nil (.two .nil (.one (.one (.two (.two .nil (.two .nil .nil)) (.one (.two (.anyD 16 (.take 0 (.take 1 (.take 2 (.take 3 (.take 4 (.take 5 (.take 6 (.take 7 (.take 8 (.take 9 (.take 10 (.take 11 (.take 12 (.one 13 (.take 14 (.one 15 .done))))))))))))))))) (.two .nil .nil))))))))
noncomputable def ecode161 : Code := match Tryz.f161.body with | some c => c | none => .skip
/-! slices.partialInsertionSortCmpFunc[manystrand/api.Feat] -/
def eann162 : Ann := (.two .nil (.two .nil (.two (.two .nil (.one (.one (.two (.two .nil (.two .nil .nil)) (.two (.one (.two (.one (.one (.two (.two (.anyD 14 (.take 0 (.take 1 (.take 2 (.take 3 (.take 4 (.take 5 (.take 6 (.take 7 (.take 8 (.take 9 (.take 10 (.take 11 (.take 12 (.take 13 .done))))))))))))))) (.two .nil .nil)) (.one .nil)))) (.two (.two .nil (.two (.two .nil .nil) .nil)) (.two (.two .nil (.two (.two .nil .nil) .nil)) (.two (.anyD 18 (.take 0 (.take 1 (.take 2 (.take 3 (.take 4 (.take 5 (.take 6 (.take 7 (.take 8 (.take 9 (.take 10 (.take 11 (.take 12 (.take 13 (.take 14 (.one 15 (.take 16 (.one 17 .done))))))))))))))))))) (.two (.two .nil (.two (.two .nil (.one (.one (.two (.two .nil (.two .nil .nil)) (.two (.one (.two (.two (.anyD 10 (.take 0 (.take 1 (.take 2 (.take 3 (.take 4 (.take 5 (.take 6 (.take 7 (.take 8 (.take 9 .done))))))))))) (.two .nil .nil)) (.anyD 18 (.take 0 (.take 1 (.take 2 (.take 3 (.take 4 (.take 5 (.take 6 (.take 7 (.take 8 (.take 9 (.take 10 (.take 11 (.take 12 (.take 13 (.take 14 (.one 15 (.take 16 (.one 17 .done))))))))))))))))))))) .nil))))) .nil)) (.two .nil (.two (.two .nil (.one (.one (.two (.two .nil (.two .nil .nil)) (.two (.one (.two (.two (.anyD 10 (.take 0 (.take 1 (.take 2 (.take 3 (.take 4 (.take 5 (.take 6 (.take 7 (.take 8 (.take 9 .done))))))))))) (.two .nil .nil)) (.anyD 18 (.take 0 (.take 1 (.take 2 (.take 3 (.take 4 (.take 5 (.take 6 (.take 7 (.take 8 (.take 9 (.take 10 (.take 11 (.take 12 (.take 13 (.take 14 (.one 15 (.take 16 (.one 17 .done))))))))))))))))))))) .nil))))) .nil)))))))) .nil))))) (.two .nil .nil))))
noncomputable def ecode162 : Code := match Tryz.f162.body with | some c => c | none => .skip
/-! slices.partitionEqualCmpFunc[manystrand/api.Feat] -/
def eann163 : Ann := (.two .nil (.two (.anyD 16 (.take 0 (.take 1 (.take 2 (.take 3 (.take 4 (.take 5 (.take 6 (.take 7 (.take 8 (.take 9 (.take 10 (.take 11 (.take 12 (.one 13 (.take 14 (.one 15 .done))))))))))))))))) (.two .nil (.two (.one (.one (.one (.two (.one (.one (.two (.two (.anyD 13 (.take 0 (.take 1 (.take 2 (.take 3 (.take 4 (.take 5 (.take 6 (.take 7 (.take 8 (.take 9 (.take 10 (.take 11 (.take 12 .done)))))))))))))) (.two .nil .nil)) (.one .nil)))) (.two (.one (.one (.two (.two (.anyD 13 (.take 0 (.take 1 (.take 2 (.take 3 (.take 4 (.take 5 (.take 6 (.take 7 (.take 8 (.take 9 (.take 10 (.take 11 (.take 12 .done)))))))))))))) (.two .nil .nil)) (.one .nil)))) (.two (.two .nil (.two .nil .nil)) (.two (.anyD 16 (.take 0 (.take 1 (.take 2 (.take 3 (.take 4 (.take 5 (.take 6 (.take 7 (.take 8 (.take 9 (.take 10 (.take 11 (.take 12 (.one 13 (.take 14 (.one 15 .done))))))))))))))))) (.two .nil .nil)))))))) (.two .nil .nil)))))
noncomputable def ecode163 : Code := match Tryz.f163.body with | some c => c | none => .skip
/-! slices.partitionCmpFunc[manystrand/api.Feat] -/
def eann164 : Ann := (.two .nil (.two (.anyD 16 (.take 0 (.take 1 (.take 2 (.take 3 (.take 4 (.take 5 (.take 6 (.take 7 (.take 8 (.take 9 (.take 10 (.take 11 (.take 12 (.one 13 (.take 14 (.one 15 .done))))))))))))))))) (.two .nil (.two (.one (.one (.two (.two (.anyD 13 (.take 0 (.take 1 (.take 2 (.take 3 (.take 4 (.take 5 (.take 6 (.take 7 (.take 8 (.take 9 (.take 10 (.take 11 (.take 12 .done)))))))))))))) (.two .nil .nil)) (.one .nil)))) (.two (.one (.one (.two (.two (.anyD 13 (.take 0 (.take 1 (.take 2 (.take 3 (.take 4 (.take 5 (.take 6 (.take 7 (.take 8 (.take 9 (.take 10 (.take 11 (.take 12 .done)))))))))))))) (.two .nil .nil)) (.one .nil)))) (.two (.two .nil (.two (.two (.anyD 16 (.take 0 (.take 1 (.take 2 (.take 3 (.take 4 (.take 5 (.take 6 (.take 7 (.take 8 (.take 9 (.take 10 (.take 11 (.take 12 (.one 13 (.take 14 (.one 15 .done))))))))))))))))) (.two .nil .nil)) .nil)) (.two (.anyD 16 (.take 0 (.take 1 (.take 2 (.take 3 (.take 4 (.take 5 (.take 6 (.take 7 (.take 8 (.take 9 (.take 10 (.take 11 (.take 12 (.one 13 (.take 14 (.one 15 .done))))))))))))))))) (.two .nil (.two .nil (.two (.one (.one (.one (.two (.one (.one (.two (.two (.anyD 13 (.take 0 (.take 1 (.take 2 (.take 3 (.take 4 (.take 5 (.take 6 (.take 7 (.take 8 (.take 9 (.take 10 (.take 11 (.take 12 .done)))))))))))))) (.two .nil .nil)) (.one .nil)))) (.two (.one (.one (.two (.two (.anyD 13 (.take 0 (.take 1 (.take 2 (.take 3 (.take 4 (.take 5 (.take 6 (.take 7 (.take 8 (.take 9 (.take 10 (.take 11 (.take 12 .done)))))))))))))) (.two .nil .nil)) (.one .nil)))) (.two (.two .nil (.two .nil .nil)) (.two (.anyD 16 (.take 0 (.take 1 (.take 2 (.take 3 (.take 4 (.take 5 (.take 6 (.take 7 (.take 8 (.take 9 (.take 10 (.take 11 (.take 12 (.one 13 (.take 14 (.one 15 .done))))))))))))))))) (.two .nil .nil)))))))) (.two (.anyD 16 (.take 0 (.take 1 (.take 2 (.take 3 (.take 4 (.take 5 (.take 6 (.take 7 (.take 8 (.take 9 (.take 10 (.take 11 (.take 12 (.one 13 (.take 14 (.one 15 .done))))))))))))))))) (.two .nil .nil))))))))))))
noncomputable def ecode164 : Code := match Tryz.f164.body with | some c => c | none => .skip
/-! math/bits.Len32 -/
def eann165 : Ann := (.two .nil (.two (.two .nil (.two (.two .nil .nil) .nil)) (.two (.two .nil (.two (.two .nil .nil) .nil)) (.two .nil .nil))))
noncomputable def ecode165 : Code := match Tryz.f165.body with | some c => c | none => .skip
/-! math/bits.Len64 -/
def eann166 : Ann := (.two .nil (.two (.two .nil (.two (.two .nil .nil) .nil)) (.two (.two .nil (.two (.two .nil .nil) .nil)) (.two (.two .nil (.two (.two .nil .nil) .nil)) (.two .nil .nil)))))
noncomputable def ecode166 : Code := match Tryz.f166.body with | some c => c | none => .skip
/-! internal/bytealg.hashStr[string] -/
def eann169 : Ann := (.two .nil (.two .nil (.two (.two .nil (.one (.one (.two (.two .nil (.two .nil .nil)) (.two (.one .nil) .nil))))) (.two .nil (.two (.two .nil (.one (.one (.two (.two .nil (.two .nil .nil)) (.two (.one (.two (.two .nil (.two .nil .nil)) .nil)) .nil))))) (.two .nil .nil))))))
noncomputable def ecode169 : Code := match Tryz.f169.body with | some c => c | none => .skip
/-! internal/strconv.log10Pow2 -/
def eann170 : Ann := (.two .nil (.two .nil .nil))
noncomputable def ecode170 : Code := match Tryz.f170.body with | some c => c | none => .skip
/-! internal/strconv.bool2[int] -/
def eann171 : Ann := (.two .nil (.two (.two .nil (.two (.two .nil .nil) .nil)) (.two .nil .nil)))
noncomputable def ecode171 : Code := match Tryz.f171.body with | some c => c | none => .skip
/-! internal/strconv.isPowerOfTwo -/
def eann172 : Ann := (.two .nil (.two .nil .nil))
noncomputable def ecode172 : Code := match Tryz.f172.body with | some c => c | none => .skip
/-! math/bits.TrailingZeros -/
def eann173 : Ann := (.two .nil (.two (.two (.two .nil .nil) .nil) (.two .nil .nil)))
noncomputable def ecode173 : Code := match Tryz.f173.body with | some c => c | none => .skip
/-! strconv.appendEscapedRune -/
def eann174 : Ann := (.two .nil (.two (.two .nil (.two (.two .nil (.two .nil (.two .nil .nil))) .nil)) (.two (.two .nil (.two (.two .nil (.two (.two .nil (.two .nil .nil)) .nil)) (.two .nil (.two (.two .nil .nil) .nil)))) (.two (.two .nil (.one (.two .nil (.two .nil (.two .nil (.two .nil (.two .nil (.two .nil (.two .nil (.two .nil (.two .nil (.two .nil (.two .nil (.two .nil (.two .nil (.two .nil (.one (.two (.one (.two (.one (.two (.one (.two (.one (.two (.two (.two .nil (.two .nil .nil)) (.two (.two .nil (.two .nil .nil)) (.two .nil (.two .nil .nil)))) .nil)) (.two (.two .nil (.two .nil .nil)) .nil))) .nil)) (.two (.two .nil (.two .nil (.one (.one (.two (.two .nil (.two .nil .nil)) (.two (.one .nil) .nil)))))) .nil))) (.two (.two .nil (.two .nil (.one (.one (.two (.two .nil (.two .nil .nil)) (.two (.one .nil) .nil)))))) .nil))))))))))))))))))) (.two .nil .nil)))))
noncomputable def ecode174 : Code := match Tryz.f174.body with | some c => c | none => .skip
/-! internal/strconv.lower -/
def eann178 : Ann := (.two .nil (.two .nil .nil))
noncomputable def ecode178 : Code := match Tryz.f178.body with | some c => c | none => .skip
/-! internal/strconv.underscoreOK -/
def eann179 : Ann := (.two .nil (.two .nil (.two .nil (.two (.two .nil (.two .nil .nil)) (.two .nil (.two (.two .nil (.two (.two .nil (.two .nil .nil)) .nil)) (.two (.one (.one (.two (.two .nil (.two .nil .nil)) (.two (.one (.two (.two .nil (.two (.two .nil .nil) .nil)) (.two (.two .nil (.two (.two (.two .nil (.two (.two .nil .nil) .nil)) (.two .nil .nil)) .nil)) (.two (.two .nil (.two (.two .nil .nil) .nil)) .nil)))) .nil)))) (.two .nil .nil))))))))
noncomputable def ecode179 : Code := match Tryz.f179.body with | some c => c | none => .skip
/-! slices.siftDownCmpFunc[manystrand/api.Feat] -/
def eann180 : Ann := (.two .nil (.one (.one (.one (.two .nil (.two (.two .nil (.two .nil .nil)) (.two (.two (.anyD 19 (.take 0 (.take 1 (.take 2 (.take 3 (.take 4 (.take 5 (.take 6 (.take 7 (.take 8 (.take 9 (.take 10 (.take 11 (.take 12 (.take 13 (.take 14 (.take 15 (.take 16 (.take 17 (.take 18 .done)))))))))))))))))))) (.two .nil .nil)) (.two (.two (.anyD 13 (.take 0 (.take 1 (.take 2 (.take 3 (.take 4 (.take 5 (.take 6 (.take 7 (.take 8 (.take 9 (.take 10 (.take 11 (.take 12 .done)))))))))))))) (.two .nil .nil)) (.two (.anyD 24 (.take 0 (.take 1 (.take 2 (.take 3 (.take 4 (.take 5 (.take 6 (.take 7 (.take 8 (.take 9 (.take 10 (.take 11 (.take 12 (.take 13 (.take 14 (.take 15 (.take 16 (.take 17 (.take 18 (.take 19 (.take 20 (.one 21 (.take 22 (.one 23 .done))))))))))))))))))))))))) .nil)))))))))
noncomputable def ecode180 : Code := match Tryz.f180.body with | some c => c | none => .skip
/-! slices.nextPowerOfTwo -/
def eann181 : Ann := (.two .nil (.two .nil .nil))
noncomputable def ecode181 : Code := match Tryz.f181.body with | some c => c | none => .skip
/-! (*slices.xorshift).Next -/
def eann182 : Ann := (.two .nil (.two (.anyD 9 (.take 0 (.take 1 (.take 2 (.take 3 (.take 4 (.take 5 (.take 6 (.take 7 (.take 8 .done)))))))))) (.two (.anyD 9 (.take 0 (.take 1 (.take 2 (.take 3 (.take 4 (.take 5 (.take 6 (.take 7 (.take 8 .done)))))))))) (.two (.anyD 9 (.take 0 (.take 1 (.take 2 (.take 3 (.take 4 (.take 5 (.take 6 (.take 7 (.take 8 .done)))))))))) (.two .nil .nil)))))
noncomputable def ecode182 : Code := match Tryz.f182.body with | some c => c | none => .skip
/-! slices.medianAdjacentCmpFunc[manystrand/api.Feat] -/
def eann183 : Ann := (.two .nil (.two .nil .nil))
noncomputable def ecode183 : Code := match Tryz.f183.body with | some c => c | none => .skip
/-! slices.medianCmpFunc[manystrand/api.Feat] -/
def eann184 : Ann := (.two .nil (.two .nil (.two .nil (.two .nil (.two .nil .nil)))))
noncomputable def ecode184 : Code := match Tryz.f184.body with | some c => c | none => .skip
/-! math/bits.TrailingZeros32 -/
def eann185 : Ann := (.two .nil (.two (.two .nil (.two (.two .nil .nil) .nil)) (.two .nil .nil)))
noncomputable def ecode185 : Code := match Tryz.f185.body with | some c => c | none => .skip
/-! math/bits.TrailingZeros64 -/
def eann186 : Ann := (.two .nil (.two (.two .nil (.two (.two .nil .nil) .nil)) (.two .nil .nil)))
noncomputable def ecode186 : Code := match Tryz.f186.body with | some c => c | none => .skip
/-! strconv.IsPrint -/
def eann187 : Ann := (.two .nil (.two (.two .nil (.two (.two (.two .nil (.two (.two .nil .nil) .nil)) (.two (.two .nil (.two (.two .nil .nil) .nil)) (.two .nil .nil))) .nil)) (.two (.two .nil (.two (.two (.anyD 7 (.take 0 (.take 1 (.take 2 (.take 3 (.take 4 (.take 5 (.take 6 .done)))))))) (.two .nil (.two (.two .nil (.two (.two .nil .nil) .nil)) (.two .nil (.two .nil .nil))))) .nil)) (.two (.anyD 7 (.take 0 (.take 1 (.take 2 (.take 3 (.take 4 (.take 5 (.take 6 .done)))))))) (.two .nil (.two (.two .nil (.two (.two .nil .nil) .nil)) (.two (.two .nil (.two (.two .nil .nil) .nil)) (.two .nil (.two .nil (.two .nil .nil))))))))))
noncomputable def ecode187 : Code := match Tryz.f187.body with | some c => c | none => .skip
/-! strconv.isInGraphicList -/
def eann188 : Ann := (.two .nil (.two (.two .nil (.two (.two .nil .nil) .nil)) (.two .nil (.two .nil .nil))))
noncomputable def ecode188 : Code := match Tryz.f188.body with | some c => c | none => .skip
/-! unicode/utf8.AppendRune -/
def eann189 : Ann := (.two .nil (.two (.two .nil (.two (.two .nil .nil) .nil)) (.two .nil .nil)))
noncomputable def ecode189 : Code := match Tryz.f189.body with | some c => c | none => .skip
/-! unicode/utf8.ValidRune -/
def eann190 : Ann := (.two .nil (.two (.one (.two .nil (.two (.two .nil .nil) (.two .nil (.two (.two .nil .nil) .nil))))) (.two .nil .nil)))
noncomputable def ecode190 : Code := match Tryz.f190.body with | some c => c | none => .skip
/-! slices.order2CmpFunc[manystrand/api.Feat] -/
def eann193 : Ann := (.two .nil (.two (.two (.anyD 9 (.take 0 (.take 1 (.take 2 (.take 3 (.take 4 (.take 5 (.take 6 (.take 7 (.take 8 .done)))))))))) (.two (.two .nil (.two .nil .nil)) .nil)) (.two .nil .nil)))
noncomputable def ecode193 : Code := match Tryz.f193.body with | some c => c | none => .skip
/-! strconv.bsearch[[]uint16,uint16] -/
def eann194 : Ann := (.two .nil (.two .nil (.two .nil (.two (.one (.one (.two (.two .nil (.two .nil .nil)) (.one (.two .nil (.two .nil (.two .nil .nil))))))) (.two (.anyD 14 (.take 0 (.take 1 (.take 2 (.take 3 (.take 4 (.take 5 (.take 6 (.take 7 (.take 8 (.take 9 (.take 10 (.take 11 (.take 12 (.take 13 .done))))))))))))))) .nil)))))
noncomputable def ecode194 : Code := match Tryz.f194.body with | some c => c | none => .skip
/-! strconv.bsearch[[]uint32,uint32] -/
def eann195 : Ann := (.two .nil (.two .nil (.two .nil (.two (.one (.one (.two (.two .nil (.two .nil .nil)) (.one (.two .nil (.two .nil (.two .nil .nil))))))) (.two (.anyD 14 (.take 0 (.take 1 (.take 2 (.take 3 (.take 4 (.take 5 (.take 6 (.take 7 (.take 8 (.take 9 (.take 10 (.take 11 (.take 12 (.take 13 .done))))))))))))))) .nil)))))
noncomputable def ecode195 : Code := match Tryz.f195.body with | some c => c | none => .skip
/-! unicode/utf8.appendRuneNonASCII -/
def eann196 : Ann := (.two .nil (.two .nil (.one (.two .nil (.two (.two .nil .nil) (.two (.two .nil (.two .nil .nil)) (.two (.two .nil .nil) (.two .nil (.two (.two .nil .nil) (.two .nil .nil))))))))))
noncomputable def ecode196 : Code := match Tryz.f196.body with | some c => c | none => .skip
noncomputable def efns : List (Nat × FnE) := [
 (5, ⟨ecode5, eann5, 34, Tryz.f5.results.toList⟩),
 (12, ⟨ecode12, eann12, 59, Tryz.f12.results.toList⟩),
 (13, ⟨ecode13, eann13, 69, Tryz.f13.results.toList⟩),
 (14, ⟨ecode14, eann14, 22, Tryz.f14.results.toList⟩),
 (15, ⟨ecode15, eann15, 34, Tryz.f15.results.toList⟩),
 (16, ⟨ecode16, eann16, 17, Tryz.f16.results.toList⟩),
 (18, ⟨ecode18, eann18, 4, Tryz.f18.results.toList⟩),
 (24, ⟨ecode24, eann24, 39, Tryz.f24.results.toList⟩),
 (27, ⟨ecode27, eann27, 17, Tryz.f27.results.toList⟩),
 (28, ⟨ecode28, eann28, 19, Tryz.f28.results.toList⟩),
 (29, ⟨ecode29, eann29, 122, Tryz.f29.results.toList⟩),
 (30, ⟨ecode30, eann30, 13, Tryz.f30.results.toList⟩),
 (31, ⟨ecode31, eann31, 97, Tryz.f31.results.toList⟩),
 (32, ⟨ecode32, eann32, 112, Tryz.f32.results.toList⟩),
 (33, ⟨ecode33, eann33, 9, Tryz.f33.results.toList⟩),
 (34, ⟨ecode34, eann34, 139, Tryz.f34.results.toList⟩),
 (35, ⟨ecode35, eann35, 166, Tryz.f35.results.toList⟩),
 (36, ⟨ecode36, eann36, 73, Tryz.f36.results.toList⟩),
 (37, ⟨ecode37, eann37, 8, Tryz.f37.results.toList⟩),
 (41, ⟨ecode41, eann41, 17, Tryz.f41.results.toList⟩),
 (42, ⟨ecode42, eann42, 17, Tryz.f42.results.toList⟩),
 (43, ⟨ecode43, eann43, 41, Tryz.f43.results.toList⟩),
 (44, ⟨ecode44, eann44, 33, Tryz.f44.results.toList⟩),
 (45, ⟨ecode45, eann45, 21, Tryz.f45.results.toList⟩),
 (46, ⟨ecode46, eann46, 12, Tryz.f46.results.toList⟩),
 (47, ⟨ecode47, eann47, 38, Tryz.f47.results.toList⟩),
 (48, ⟨ecode48, eann48, 28, Tryz.f48.results.toList⟩),
 (49, ⟨ecode49, eann49, 44, Tryz.f49.results.toList⟩),
 (50, ⟨ecode50, eann50, 84, Tryz.f50.results.toList⟩),
 (51, ⟨ecode51, eann51, 20, Tryz.f51.results.toList⟩),
 (52, ⟨ecode52, eann52, 15, Tryz.f52.results.toList⟩),
 (53, ⟨ecode53, eann53, 17, Tryz.f53.results.toList⟩),
 (54, ⟨ecode54, eann54, 104, Tryz.f54.results.toList⟩),
 (55, ⟨ecode55, eann55, 5, Tryz.f55.results.toList⟩),
 (56, ⟨ecode56, eann56, 11, Tryz.f56.results.toList⟩),
 (57, ⟨ecode57, eann57, 26, Tryz.f57.results.toList⟩),
 (58, ⟨ecode58, eann58, 140, Tryz.f58.results.toList⟩),
 (59, ⟨ecode59, eann59, 19, Tryz.f59.results.toList⟩),
 (60, ⟨ecode60, eann60, 85, Tryz.f60.results.toList⟩),
 (61, ⟨ecode61, eann61, 22, Tryz.f61.results.toList⟩),
 (62, ⟨ecode62, eann62, 36, Tryz.f62.results.toList⟩),
 (63, ⟨ecode63, eann63, 37, Tryz.f63.results.toList⟩),
 (64, ⟨ecode64, eann64, 20, Tryz.f64.results.toList⟩),
 (65, ⟨ecode65, eann65, 29, Tryz.f65.results.toList⟩),
 (69, ⟨ecode69, eann69, 26, Tryz.f69.results.toList⟩),
 (70, ⟨ecode70, eann70, 56, Tryz.f70.results.toList⟩),
 (71, ⟨ecode71, eann71, 174, Tryz.f71.results.toList⟩),
 (72, ⟨ecode72, eann72, 18, Tryz.f72.results.toList⟩),
 (73, ⟨ecode73, eann73, 86, Tryz.f73.results.toList⟩),
 (74, ⟨ecode74, eann74, 71, Tryz.f74.results.toList⟩),
 (75, ⟨ecode75, eann75, 34, Tryz.f75.results.toList⟩),
 (76, ⟨ecode76, eann76, 25, Tryz.f76.results.toList⟩),
 (77, ⟨ecode77, eann77, 8, Tryz.f77.results.toList⟩),
 (78, ⟨ecode78, eann78, 19, Tryz.f78.results.toList⟩),
 (79, ⟨ecode79, eann79, 19, Tryz.f79.results.toList⟩),
 (80, ⟨ecode80, eann80, 14, Tryz.f80.results.toList⟩),
 (81, ⟨ecode81, eann81, 5, Tryz.f81.results.toList⟩),
 (82, ⟨ecode82, eann82, 9, Tryz.f82.results.toList⟩),
 (83, ⟨ecode83, eann83, 75, Tryz.f83.results.toList⟩),
 (84, ⟨ecode84, eann84, 33, Tryz.f84.results.toList⟩),
 (85, ⟨ecode85, eann85, 12, Tryz.f85.results.toList⟩),
 (86, ⟨ecode86, eann86, 18, Tryz.f86.results.toList⟩),
 (87, ⟨ecode87, eann87, 32, Tryz.f87.results.toList⟩),
 (88, ⟨ecode88, eann88, 9, Tryz.f88.results.toList⟩),
 (89, ⟨ecode89, eann89, 54, Tryz.f89.results.toList⟩),
 (90, ⟨ecode90, eann90, 32, Tryz.f90.results.toList⟩),
 (91, ⟨ecode91, eann91, 46, Tryz.f91.results.toList⟩),
 (92, ⟨ecode92, eann92, 12, Tryz.f92.results.toList⟩),
 (93, ⟨ecode93, eann93, 5, Tryz.f93.results.toList⟩),
 (94, ⟨ecode94, eann94, 11, Tryz.f94.results.toList⟩),
 (100, ⟨ecode100, eann100, 8, Tryz.f100.results.toList⟩),
 (101, ⟨ecode101, eann101, 54, Tryz.f101.results.toList⟩),
 (102, ⟨ecode102, eann102, 9, Tryz.f102.results.toList⟩),
 (103, ⟨ecode103, eann103, 9, Tryz.f103.results.toList⟩),
 (104, ⟨ecode104, eann104, 17, Tryz.f104.results.toList⟩),
 (105, ⟨ecode105, eann105, 76, Tryz.f105.results.toList⟩),
 (106, ⟨ecode106, eann106, 51, Tryz.f106.results.toList⟩),
 (107, ⟨ecode107, eann107, 77, Tryz.f107.results.toList⟩),
 (108, ⟨ecode108, eann108, 43, Tryz.f108.results.toList⟩),
 (109, ⟨ecode109, eann109, 68, Tryz.f109.results.toList⟩),
 (110, ⟨ecode110, eann110, 35, Tryz.f110.results.toList⟩),
 (111, ⟨ecode111, eann111, 14, Tryz.f111.results.toList⟩),
 (112, ⟨ecode112, eann112, 40, Tryz.f112.results.toList⟩),
 (113, ⟨ecode113, eann113, 8, Tryz.f113.results.toList⟩),
 (114, ⟨ecode114, eann114, 10, Tryz.f114.results.toList⟩),
 (116, ⟨ecode116, eann116, 20, Tryz.f116.results.toList⟩),
 (117, ⟨ecode117, eann117, 30, Tryz.f117.results.toList⟩),
 (118, ⟨ecode118, eann118, 143, Tryz.f118.results.toList⟩),
 (119, ⟨ecode119, eann119, 117, Tryz.f119.results.toList⟩),
 (120, ⟨ecode120, eann120, 54, Tryz.f120.results.toList⟩),
 (121, ⟨ecode121, eann121, 39, Tryz.f121.results.toList⟩),
 (122, ⟨ecode122, eann122, 15, Tryz.f122.results.toList⟩),
 (123, ⟨ecode123, eann123, 20, Tryz.f123.results.toList⟩),
 (124, ⟨ecode124, eann124, 21, Tryz.f124.results.toList⟩),
 (126, ⟨ecode126, eann126, 18, Tryz.f126.results.toList⟩),
 (127, ⟨ecode127, eann127, 73, Tryz.f127.results.toList⟩),
 (128, ⟨ecode128, eann128, 11, Tryz.f128.results.toList⟩),
 (129, ⟨ecode129, eann129, 11, Tryz.f129.results.toList⟩),
 (130, ⟨ecode130, eann130, 16, Tryz.f130.results.toList⟩),
 (131, ⟨ecode131, eann131, 16, Tryz.f131.results.toList⟩),
 (132, ⟨ecode132, eann132, 148, Tryz.f132.results.toList⟩),
 (133, ⟨ecode133, eann133, 8, Tryz.f133.results.toList⟩),
 (134, ⟨ecode134, eann134, 8, Tryz.f134.results.toList⟩),
 (137, ⟨ecode137, eann137, 8, Tryz.f137.results.toList⟩),
 (139, ⟨ecode139, eann139, 6, Tryz.f139.results.toList⟩),
 (140, ⟨ecode140, eann140, 81, Tryz.f140.results.toList⟩),
 (141, ⟨ecode141, eann141, 15, Tryz.f141.results.toList⟩),
 (142, ⟨ecode142, eann142, 15, Tryz.f142.results.toList⟩),
 (143, ⟨ecode143, eann143, 167, Tryz.f143.results.toList⟩),
 (144, ⟨ecode144, eann144, 102, Tryz.f144.results.toList⟩),
 (145, ⟨ecode145, eann145, 24, Tryz.f145.results.toList⟩),
 (146, ⟨ecode146, eann146, 42, Tryz.f146.results.toList⟩),
 (147, ⟨ecode147, eann147, 84, Tryz.f147.results.toList⟩),
 (148, ⟨ecode148, eann148, 36, Tryz.f148.results.toList⟩),
 (154, ⟨ecode154, eann154, 172, Tryz.f154.results.toList⟩),
 (155, ⟨ecode155, eann155, 18, Tryz.f155.results.toList⟩),
 (156, ⟨ecode156, eann156, 7, Tryz.f156.results.toList⟩),
 (157, ⟨ecode157, eann157, 53, Tryz.f157.results.toList⟩),
 (158, ⟨ecode158, eann158, 60, Tryz.f158.results.toList⟩),
 (159, ⟨ecode159, eann159, 67, Tryz.f159.results.toList⟩),
 (160, ⟨ecode160, eann160, 63, Tryz.f160.results.toList⟩),
 (161, ⟨ecode161, eann161, 34, Tryz.f161.results.toList⟩),
 (162, ⟨ecode162, eann162, 141, Tryz.f162.results.toList⟩),
 (163, ⟨ecode163, eann163, 90, Tryz.f163.results.toList⟩),
 (164, ⟨ecode164, eann164, 178, Tryz.f164.results.toList⟩),
 (165, ⟨ecode165, eann165, 19, Tryz.f165.results.toList⟩),
 (166, ⟨ecode166, eann166, 25, Tryz.f166.results.toList⟩),
 (169, ⟨ecode169, eann169, 39, Tryz.f169.results.toList⟩),
 (170, ⟨ecode170, eann170, 6, Tryz.f170.results.toList⟩),
 (171, ⟨ecode171, eann171, 4, Tryz.f171.results.toList⟩),
 (172, ⟨ecode172, eann172, 8, Tryz.f172.results.toList⟩),
 (173, ⟨ecode173, eann173, 8, Tryz.f173.results.toList⟩),
 (174, ⟨ecode174, eann174, 145, Tryz.f174.results.toList⟩),
 (178, ⟨ecode178, eann178, 5, Tryz.f178.results.toList⟩),
 (179, ⟨ecode179, eann179, 94, Tryz.f179.results.toList⟩),
 (180, ⟨ecode180, eann180, 82, Tryz.f180.results.toList⟩),
 (181, ⟨ecode181, eann181, 7, Tryz.f181.results.toList⟩),
 (182, ⟨ecode182, eann182, 33, Tryz.f182.results.toList⟩),
 (183, ⟨ecode183, eann183, 18, Tryz.f183.results.toList⟩),
 (184, ⟨ecode184, eann184, 41, Tryz.f184.results.toList⟩),
 (185, ⟨ecode185, eann185, 14, Tryz.f185.results.toList⟩),
 (186, ⟨ecode186, eann186, 14, Tryz.f186.results.toList⟩),
 (187, ⟨ecode187, eann187, 124, Tryz.f187.results.toList⟩),
 (188, ⟨ecode188, eann188, 15, Tryz.f188.results.toList⟩),
 (189, ⟨ecode189, eann189, 16, Tryz.f189.results.toList⟩),
 (190, ⟨ecode190, eann190, 17, Tryz.f190.results.toList⟩),
 (193, ⟨ecode193, eann193, 32, Tryz.f193.results.toList⟩),
 (194, ⟨ecode194, eann194, 43, Tryz.f194.results.toList⟩),
 (195, ⟨ecode195, eann195, 43, Tryz.f195.results.toList⟩),
 (196, ⟨ecode196, eann196, 78, Tryz.f196.results.toList⟩)]
theorem efnsAll : FnAll Tryz.prog efns := ⟨⟨_, Tryz.func5, (by kernel_rfl : Tryz.f5.body = some ecode5), (by kernel_rfl), rfl, (by kernel_rfl), Tryz.call5⟩,
 ⟨_, Tryz.func12, (by kernel_rfl : Tryz.f12.body = some ecode12), (by kernel_rfl), rfl, (by kernel_rfl), Tryz.call12⟩,
 ⟨_, Tryz.func13, (by kernel_rfl : Tryz.f13.body = some ecode13), (by kernel_rfl), rfl, (by kernel_rfl), Tryz.call13⟩,
 ⟨_, Tryz.func14, (by kernel_rfl : Tryz.f14.body = some ecode14), (by kernel_rfl), rfl, (by kernel_rfl), Tryz.call14⟩,
 ⟨_, Tryz.func15, (by kernel_rfl : Tryz.f15.body = some ecode15), (by kernel_rfl), rfl, (by kernel_rfl), Tryz.call15⟩,
 ⟨_, Tryz.func16, (by kernel_rfl : Tryz.f16.body = some ecode16), (by kernel_rfl), rfl, (by kernel_rfl), Tryz.call16⟩,
 ⟨_, Tryz.func18, (by kernel_rfl : Tryz.f18.body = some ecode18), (by kernel_rfl), rfl, (by kernel_rfl), Tryz.call18⟩,
 ⟨_, Tryz.func24, (by kernel_rfl : Tryz.f24.body = some ecode24), (by kernel_rfl), rfl, (by kernel_rfl), Tryz.call24⟩,
 ⟨_, Tryz.func27, (by kernel_rfl : Tryz.f27.body = some ecode27), (by kernel_rfl), rfl, (by kernel_rfl), Tryz.call27⟩,
 ⟨_, Tryz.func28, (by kernel_rfl : Tryz.f28.body = some ecode28), (by kernel_rfl), rfl, (by kernel_rfl), Tryz.call28⟩,
 ⟨_, Tryz.func29, (by kernel_rfl : Tryz.f29.body = some ecode29), (by kernel_rfl), rfl, (by kernel_rfl), Tryz.call29⟩,
 ⟨_, Tryz.func30, (by kernel_rfl : Tryz.f30.body = some ecode30), (by kernel_rfl), rfl, (by kernel_rfl), Tryz.call30⟩,
 ⟨_, Tryz.func31, (by kernel_rfl : Tryz.f31.body = some ecode31), (by kernel_rfl), rfl, (by kernel_rfl), Tryz.call31⟩,
 ⟨_, Tryz.func32, (by kernel_rfl : Tryz.f32.body = some ecode32), (by kernel_rfl), rfl, (by kernel_rfl), Tryz.call32⟩,
 ⟨_, Tryz.func33, (by kernel_rfl : Tryz.f33.body = some ecode33), (by kernel_rfl), rfl, (by kernel_rfl), Tryz.call33⟩,
 ⟨_, Tryz.func34, (by kernel_rfl : Tryz.f34.body = some ecode34), (by kernel_rfl), rfl, (by kernel_rfl), Tryz.call34⟩,
 ⟨_, Tryz.func35, (by kernel_rfl : Tryz.f35.body = some ecode35), (by kernel_rfl), rfl, (by kernel_rfl), Tryz.call35⟩,
 ⟨_, Tryz.func36, (by kernel_rfl : Tryz.f36.body = some ecode36), (by kernel_rfl), rfl, (by kernel_rfl), Tryz.call36⟩,
 ⟨_, Tryz.func37, (by kernel_rfl : Tryz.f37.body = some ecode37), (by kernel_rfl), rfl, (by kernel_rfl), Tryz.call37⟩,
 ⟨_, Tryz.func41, (by kernel_rfl : Tryz.f41.body = some ecode41), (by kernel_rfl), rfl, (by kernel_rfl), Tryz.call41⟩,
 ⟨_, Tryz.func42, (by kernel_rfl : Tryz.f42.body = some ecode42), (by kernel_rfl), rfl, (by kernel_rfl), Tryz.call42⟩,
 ⟨_, Tryz.func43, (by kernel_rfl : Tryz.f43.body = some ecode43), (by kernel_rfl), rfl, (by kernel_rfl), Tryz.call43⟩,
 ⟨_, Tryz.func44, (by kernel_rfl : Tryz.f44.body = some ecode44), (by kernel_rfl), rfl, (by kernel_rfl), Tryz.call44⟩,
 ⟨_, Tryz.func45, (by kernel_rfl : Tryz.f45.body = some ecode45), (by kernel_rfl), rfl, (by kernel_rfl), Tryz.call45⟩,
 ⟨_, Tryz.func46, (by kernel_rfl : Tryz.f46.body = some ecode46), (by kernel_rfl), rfl, (by kernel_rfl), Tryz.call46⟩,
 ⟨_, Tryz.func47, (by kernel_rfl : Tryz.f47.body = some ecode47), (by kernel_rfl), rfl, (by kernel_rfl), Tryz.call47⟩,
 ⟨_, Tryz.func48, (by kernel_rfl : Tryz.f48.body = some ecode48), (by kernel_rfl), rfl, (by kernel_rfl), Tryz.call48⟩,
 ⟨_, Tryz.func49, (by kernel_rfl : Tryz.f49.body = some ecode49), (by kernel_rfl), rfl, (by kernel_rfl), Tryz.call49⟩,
 ⟨_, Tryz.func50, (by kernel_rfl : Tryz.f50.body = some ecode50), (by kernel_rfl), rfl, (by kernel_rfl), Tryz.call50⟩,
 ⟨_, Tryz.func51, (by kernel_rfl : Tryz.f51.body = some ecode51), (by kernel_rfl), rfl, (by kernel_rfl), Tryz.call51⟩,
 ⟨_, Tryz.func52, (by kernel_rfl : Tryz.f52.body = some ecode52), (by kernel_rfl), rfl, (by kernel_rfl), Tryz.call52⟩,
 ⟨_, Tryz.func53, (by kernel_rfl : Tryz.f53.body = some ecode53), (by kernel_rfl), rfl, (by kernel_rfl), Tryz.call53⟩,
 ⟨_, Tryz.func54, (by kernel_rfl : Tryz.f54.body = some ecode54), (by kernel_rfl), rfl, (by kernel_rfl), Tryz.call54⟩,
 ⟨_, Tryz.func55, (by kernel_rfl : Tryz.f55.body = some ecode55), (by kernel_rfl), rfl, (by kernel_rfl), Tryz.call55⟩,
 ⟨_, Tryz.func56, (by kernel_rfl : Tryz.f56.body = some ecode56), (by kernel_rfl), rfl, (by kernel_rfl), Tryz.call56⟩,
 ⟨_, Tryz.func57, (by kernel_rfl : Tryz.f57.body = some ecode57), (by kernel_rfl), rfl, (by kernel_rfl), Tryz.call57⟩,
 ⟨_, Tryz.func58, (by kernel_rfl : Tryz.f58.body = some ecode58), (by kernel_rfl), rfl, (by kernel_rfl), Tryz.call58⟩,
 ⟨_, Tryz.func59, (by kernel_rfl : Tryz.f59.body = some ecode59), (by kernel_rfl), rfl, (by kernel_rfl), Tryz.call59⟩,
 ⟨_, Tryz.func60, (by kernel_rfl : Tryz.f60.body = some ecode60), (by kernel_rfl), rfl, (by kernel_rfl), Tryz.call60⟩,
 ⟨_, Tryz.func61, (by kernel_rfl : Tryz.f61.body = some ecode61), (by kernel_rfl), rfl, (by kernel_rfl), Tryz.call61⟩,
 ⟨_, Tryz.func62, (by kernel_rfl : Tryz.f62.body = some ecode62), (by kernel_rfl), rfl, (by kernel_rfl), Tryz.call62⟩,
 ⟨_, Tryz.func63, (by kernel_rfl : Tryz.f63.body = some ecode63), (by kernel_rfl), rfl, (by kernel_rfl), Tryz.call63⟩,
 ⟨_, Tryz.func64, (by kernel_rfl : Tryz.f64.body = some ecode64), (by kernel_rfl), rfl, (by kernel_rfl), Tryz.call64⟩,
 ⟨_, Tryz.func65, (by kernel_rfl : Tryz.f65.body = some ecode65), (by kernel_rfl), rfl, (by kernel_rfl), Tryz.call65⟩,
 ⟨_, Tryz.func69, (by kernel_rfl : Tryz.f69.body = some ecode69), (by kernel_rfl), rfl, (by kernel_rfl), Tryz.call69⟩,
 ⟨_, Tryz.func70, (by kernel_rfl : Tryz.f70.body = some ecode70), (by kernel_rfl), rfl, (by kernel_rfl), Tryz.call70⟩,
 ⟨_, Tryz.func71, (by kernel_rfl : Tryz.f71.body = some ecode71), (by kernel_rfl), rfl, (by kernel_rfl), Tryz.call71⟩,
 ⟨_, Tryz.func72, (by kernel_rfl : Tryz.f72.body = some ecode72), (by kernel_rfl), rfl, (by kernel_rfl), Tryz.call72⟩,
 ⟨_, Tryz.func73, (by kernel_rfl : Tryz.f73.body = some ecode73), (by kernel_rfl), rfl, (by kernel_rfl), Tryz.call73⟩,
 ⟨_, Tryz.func74, (by kernel_rfl : Tryz.f74.body = some ecode74), (by kernel_rfl), rfl, (by kernel_rfl), Tryz.call74⟩,
 ⟨_, Tryz.func75, (by kernel_rfl : Tryz.f75.body = some ecode75), (by kernel_rfl), rfl, (by kernel_rfl), Tryz.call75⟩,
 ⟨_, Tryz.func76, (by kernel_rfl : Tryz.f76.body = some ecode76), (by kernel_rfl), rfl, (by kernel_rfl), Tryz.call76⟩,
 ⟨_, Tryz.func77, (by kernel_rfl : Tryz.f77.body = some ecode77), (by kernel_rfl), rfl, (by kernel_rfl), Tryz.call77⟩,
 ⟨_, Tryz.func78, (by kernel_rfl : Tryz.f78.body = some ecode78), (by kernel_rfl), rfl, (by kernel_rfl), Tryz.call78⟩,
 ⟨_, Tryz.func79, (by kernel_rfl : Tryz.f79.body = some ecode79), (by kernel_rfl), rfl, (by kernel_rfl), Tryz.call79⟩,
 ⟨_, Tryz.func80, (by kernel_rfl : Tryz.f80.body = some ecode80), (by kernel_rfl), rfl, (by kernel_rfl), Tryz.call80⟩,
 ⟨_, Tryz.func81, (by kernel_rfl : Tryz.f81.body = some ecode81), (by kernel_rfl), rfl, (by kernel_rfl), Tryz.call81⟩,
 ⟨_, Tryz.func82, (by kernel_rfl : Tryz.f82.body = some ecode82), (by kernel_rfl), rfl, (by kernel_rfl), Tryz.call82⟩,
 ⟨_, Tryz.func83, (by kernel_rfl : Tryz.f83.body = some ecode83), (by kernel_rfl), rfl, (by kernel_rfl), Tryz.call83⟩,
 ⟨_, Tryz.func84, (by kernel_rfl : Tryz.f84.body = some ecode84), (by kernel_rfl), rfl, (by kernel_rfl), Tryz.call84⟩,
 ⟨_, Tryz.func85, (by kernel_rfl : Tryz.f85.body = some ecode85), (by kernel_rfl), rfl, (by kernel_rfl), Tryz.call85⟩,
 ⟨_, Tryz.func86, (by kernel_rfl : Tryz.f86.body = some ecode86), (by kernel_rfl), rfl, (by kernel_rfl), Tryz.call86⟩,
 ⟨_, Tryz.func87, (by kernel_rfl : Tryz.f87.body = some ecode87), (by kernel_rfl), rfl, (by kernel_rfl), Tryz.call87⟩,
 ⟨_, Tryz.func88, (by kernel_rfl : Tryz.f88.body = some ecode88), (by kernel_rfl), rfl, (by kernel_rfl), Tryz.call88⟩,
 ⟨_, Tryz.func89, (by kernel_rfl : Tryz.f89.body = some ecode89), (by kernel_rfl), rfl, (by kernel_rfl), Tryz.call89⟩,
 ⟨_, Tryz.func90, (by kernel_rfl : Tryz.f90.body = some ecode90), (by kernel_rfl), rfl, (by kernel_rfl), Tryz.call90⟩,
 ⟨_, Tryz.func91, (by kernel_rfl : Tryz.f91.body = some ecode91), (by kernel_rfl), rfl, (by kernel_rfl), Tryz.call91⟩,
 ⟨_, Tryz.func92, (by kernel_rfl : Tryz.f92.body = some ecode92), (by kernel_rfl), rfl, (by kernel_rfl), Tryz.call92⟩,
 ⟨_, Tryz.func93, (by kernel_rfl : Tryz.f93.body = some ecode93), (by kernel_rfl), rfl, (by kernel_rfl), Tryz.call93⟩,
 ⟨_, Tryz.func94, (by kernel_rfl : Tryz.f94.body = some ecode94), (by kernel_rfl), rfl, (by kernel_rfl), Tryz.call94⟩,
 ⟨_, Tryz.func100, (by kernel_rfl : Tryz.f100.body = some ecode100), (by kernel_rfl), rfl, (by kernel_rfl), Tryz.call100⟩,
 ⟨_, Tryz.func101, (by kernel_rfl : Tryz.f101.body = some ecode101), (by kernel_rfl), rfl, (by kernel_rfl), Tryz.call101⟩,
 ⟨_, Tryz.func102, (by kernel_rfl : Tryz.f102.body = some ecode102), (by kernel_rfl), rfl, (by kernel_rfl), Tryz.call102⟩,
 ⟨_, Tryz.func103, (by kernel_rfl : Tryz.f103.body = some ecode103), (by kernel_rfl), rfl, (by kernel_rfl), Tryz.call103⟩,
 ⟨_, Tryz.func104, (by kernel_rfl : Tryz.f104.body = some ecode104), (by kernel_rfl), rfl, (by kernel_rfl), Tryz.call104⟩,
 ⟨_, Tryz.func105, (by kernel_rfl : Tryz.f105.body = some ecode105), (by kernel_rfl), rfl, (by kernel_rfl), Tryz.call105⟩,
 ⟨_, Tryz.func106, (by kernel_rfl : Tryz.f106.body = some ecode106), (by kernel_rfl), rfl, (by kernel_rfl), Tryz.call106⟩,
 ⟨_, Tryz.func107, (by kernel_rfl : Tryz.f107.body = some ecode107), (by kernel_rfl), rfl, (by kernel_rfl), Tryz.call107⟩,
 ⟨_, Tryz.func108, (by kernel_rfl : Tryz.f108.body = some ecode108), (by kernel_rfl), rfl, (by kernel_rfl), Tryz.call108⟩,
 ⟨_, Tryz.func109, (by kernel_rfl : Tryz.f109.body = some ecode109), (by kernel_rfl), rfl, (by kernel_rfl), Tryz.call109⟩,
 ⟨_, Tryz.func110, (by kernel_rfl : Tryz.f110.body = some ecode110), (by kernel_rfl), rfl, (by kernel_rfl), Tryz.call110⟩,
 ⟨_, Tryz.func111, (by kernel_rfl : Tryz.f111.body = some ecode111), (by kernel_rfl), rfl, (by kernel_rfl), Tryz.call111⟩,
 ⟨_, Tryz.func112, (by kernel_rfl : Tryz.f112.body = some ecode112), (by kernel_rfl), rfl, (by kernel_rfl), Tryz.call112⟩,
 ⟨_, Tryz.func113, (by kernel_rfl : Tryz.f113.body = some ecode113), (by kernel_rfl), rfl, (by kernel_rfl), Tryz.call113⟩,
 ⟨_, Tryz.func114, (by kernel_rfl : Tryz.f114.body = some ecode114), (by kernel_rfl), rfl, (by kernel_rfl), Tryz.call114⟩,
 ⟨_, Tryz.func116, (by kernel_rfl : Tryz.f116.body = some ecode116), (by kernel_rfl), rfl, (by kernel_rfl), Tryz.call116⟩,
 ⟨_, Tryz.func117, (by kernel_rfl : Tryz.f117.body = some ecode117), (by kernel_rfl), rfl, (by kernel_rfl), Tryz.call117⟩,
 ⟨_, Tryz.func118, (by kernel_rfl : Tryz.f118.body = some ecode118), (by kernel_rfl), rfl, (by kernel_rfl), Tryz.call118⟩,
 ⟨_, Tryz.func119, (by kernel_rfl : Tryz.f119.body = some ecode119), (by kernel_rfl), rfl, (by kernel_rfl), Tryz.call119⟩,
 ⟨_, Tryz.func120, (by kernel_rfl : Tryz.f120.body = some ecode120), (by kernel_rfl), rfl, (by kernel_rfl), Tryz.call120⟩,
 ⟨_, Tryz.func121, (by kernel_rfl : Tryz.f121.body = some ecode121), (by kernel_rfl), rfl, (by kernel_rfl), Tryz.call121⟩,
 ⟨_, Tryz.func122, (by kernel_rfl : Tryz.f122.body = some ecode122), (by kernel_rfl), rfl, (by kernel_rfl), Tryz.call122⟩,
 ⟨_, Tryz.func123, (by kernel_rfl : Tryz.f123.body = some ecode123), (by kernel_rfl), rfl, (by kernel_rfl), Tryz.call123⟩,
 ⟨_, Tryz.func124, (by kernel_rfl : Tryz.f124.body = some ecode124), (by kernel_rfl), rfl, (by kernel_rfl), Tryz.call124⟩,
 ⟨_, Tryz.func126, (by kernel_rfl : Tryz.f126.body = some ecode126), (by kernel_rfl), rfl, (by kernel_rfl), Tryz.call126⟩,
 ⟨_, Tryz.func127, (by kernel_rfl : Tryz.f127.body = some ecode127), (by kernel_rfl), rfl, (by kernel_rfl), Tryz.call127⟩,
 ⟨_, Tryz.func128, (by kernel_rfl : Tryz.f128.body = some ecode128), (by kernel_rfl), rfl, (by kernel_rfl), Tryz.call128⟩,
 ⟨_, Tryz.func129, (by kernel_rfl : Tryz.f129.body = some ecode129), (by kernel_rfl), rfl, (by kernel_rfl), Tryz.call129⟩,
 ⟨_, Tryz.func130, (by kernel_rfl : Tryz.f130.body = some ecode130), (by kernel_rfl), rfl, (by kernel_rfl), Tryz.call130⟩,
 ⟨_, Tryz.func131, (by kernel_rfl : Tryz.f131.body = some ecode131), (by kernel_rfl), rfl, (by kernel_rfl), Tryz.call131⟩,
 ⟨_, Tryz.func132, (by kernel_rfl : Tryz.f132.body = some ecode132), (by kernel_rfl), rfl, (by kernel_rfl), Tryz.call132⟩,
 ⟨_, Tryz.func133, (by kernel_rfl : Tryz.f133.body = some ecode133), (by kernel_rfl), rfl, (by kernel_rfl), Tryz.call133⟩,
 ⟨_, Tryz.func134, (by kernel_rfl : Tryz.f134.body = some ecode134), (by kernel_rfl), rfl, (by kernel_rfl), Tryz.call134⟩,
 ⟨_, Tryz.func137, (by kernel_rfl : Tryz.f137.body = some ecode137), (by kernel_rfl), rfl, (by kernel_rfl), Tryz.call137⟩,
 ⟨_, Tryz.func139, (by kernel_rfl : Tryz.f139.body = some ecode139), (by kernel_rfl), rfl, (by kernel_rfl), Tryz.call139⟩,
 ⟨_, Tryz.func140, (by kernel_rfl : Tryz.f140.body = some ecode140), (by kernel_rfl), rfl, (by kernel_rfl), Tryz.call140⟩,
 ⟨_, Tryz.func141, (by kernel_rfl : Tryz.f141.body = some ecode141), (by kernel_rfl), rfl, (by kernel_rfl), Tryz.call141⟩,
 ⟨_, Tryz.func142, (by kernel_rfl : Tryz.f142.body = some ecode142), (by kernel_rfl), rfl, (by kernel_rfl), Tryz.call142⟩,
 ⟨_, Tryz.func143, (by kernel_rfl : Tryz.f143.body = some ecode143), (by kernel_rfl), rfl, (by kernel_rfl), Tryz.call143⟩,
 ⟨_, Tryz.func144, (by kernel_rfl : Tryz.f144.body = some ecode144), (by kernel_rfl), rfl, (by kernel_rfl), Tryz.call144⟩,
 ⟨_, Tryz.func145, (by kernel_rfl : Tryz.f145.body = some ecode145), (by kernel_rfl), rfl, (by kernel_rfl), Tryz.call145⟩,
 ⟨_, Tryz.func146, (by kernel_rfl : Tryz.f146.body = some ecode146), (by kernel_rfl), rfl, (by kernel_rfl), Tryz.call146⟩,
 ⟨_, Tryz.func147, (by kernel_rfl : Tryz.f147.body = some ecode147), (by kernel_rfl), rfl, (by kernel_rfl), Tryz.call147⟩,
 ⟨_, Tryz.func148, (by kernel_rfl : Tryz.f148.body = some ecode148), (by kernel_rfl), rfl, (by kernel_rfl), Tryz.call148⟩,
 ⟨_, Tryz.func154, (by kernel_rfl : Tryz.f154.body = some ecode154), (by kernel_rfl), rfl, (by kernel_rfl), Tryz.call154⟩,
 ⟨_, Tryz.func155, (by kernel_rfl : Tryz.f155.body = some ecode155), (by kernel_rfl), rfl, (by kernel_rfl), Tryz.call155⟩,
 ⟨_, Tryz.func156, (by kernel_rfl : Tryz.f156.body = some ecode156), (by kernel_rfl), rfl, (by kernel_rfl), Tryz.call156⟩,
 ⟨_, Tryz.func157, (by kernel_rfl : Tryz.f157.body = some ecode157), (by kernel_rfl), rfl, (by kernel_rfl), Tryz.call157⟩,
 ⟨_, Tryz.func158, (by kernel_rfl : Tryz.f158.body = some ecode158), (by kernel_rfl), rfl, (by kernel_rfl), Tryz.call158⟩,
 ⟨_, Tryz.func159, (by kernel_rfl : Tryz.f159.body = some ecode159), (by kernel_rfl), rfl, (by kernel_rfl), Tryz.call159⟩,
 ⟨_, Tryz.func160, (by kernel_rfl : Tryz.f160.body = some ecode160), (by kernel_rfl), rfl, (by kernel_rfl), Tryz.call160⟩,
 ⟨_, Tryz.func161, (by kernel_rfl : Tryz.f161.body = some ecode161), (by kernel_rfl), rfl, (by kernel_rfl), Tryz.call161⟩,
 ⟨_, Tryz.func162, (by kernel_rfl : Tryz.f162.body = some ecode162), (by kernel_rfl), rfl, (by kernel_rfl), Tryz.call162⟩,
 ⟨_, Tryz.func163, (by kernel_rfl : Tryz.f163.body = some ecode163), (by kernel_rfl), rfl, (by kernel_rfl), Tryz.call163⟩,
 ⟨_, Tryz.func164, (by kernel_rfl : Tryz.f164.body = some ecode164), (by kernel_rfl), rfl, (by kernel_rfl), Tryz.call164⟩,
 ⟨_, Tryz.func165, (by kernel_rfl : Tryz.f165.body = some ecode165), (by kernel_rfl), rfl, (by kernel_rfl), Tryz.call165⟩,
 ⟨_, Tryz.func166, (by kernel_rfl : Tryz.f166.body = some ecode166), (by kernel_rfl), rfl, (by kernel_rfl), Tryz.call166⟩,
 ⟨_, Tryz.func169, (by kernel_rfl : Tryz.f169.body = some ecode169), (by kernel_rfl), rfl, (by kernel_rfl), Tryz.call169⟩,
 ⟨_, Tryz.func170, (by kernel_rfl : Tryz.f170.body = some ecode170), (by kernel_rfl), rfl, (by kernel_rfl), Tryz.call170⟩,
 ⟨_, Tryz.func171, (by kernel_rfl : Tryz.f171.body = some ecode171), (by kernel_rfl), rfl, (by kernel_rfl), Tryz.call171⟩,
 ⟨_, Tryz.func172, (by kernel_rfl : Tryz.f172.body = some ecode172), (by kernel_rfl), rfl, (by kernel_rfl), Tryz.call172⟩,
 ⟨_, Tryz.func173, (by kernel_rfl : Tryz.f173.body = some ecode173), (by kernel_rfl), rfl, (by kernel_rfl), Tryz.call173⟩,
 ⟨_, Tryz.func174, (by kernel_rfl : Tryz.f174.body = some ecode174), (by kernel_rfl), rfl, (by kernel_rfl), Tryz.call174⟩,
 ⟨_, Tryz.func178, (by kernel_rfl : Tryz.f178.body = some ecode178), (by kernel_rfl), rfl, (by kernel_rfl), Tryz.call178⟩,
 ⟨_, Tryz.func179, (by kernel_rfl : Tryz.f179.body = some ecode179), (by kernel_rfl), rfl, (by kernel_rfl), Tryz.call179⟩,
 ⟨_, Tryz.func180, (by kernel_rfl : Tryz.f180.body = some ecode180), (by kernel_rfl), rfl, (by kernel_rfl), Tryz.call180⟩,
 ⟨_, Tryz.func181, (by kernel_rfl : Tryz.f181.body = some ecode181), (by kernel_rfl), rfl, (by kernel_rfl), Tryz.call181⟩,
 ⟨_, Tryz.func182, (by kernel_rfl : Tryz.f182.body = some ecode182), (by kernel_rfl), rfl, (by kernel_rfl), Tryz.call182⟩,
 ⟨_, Tryz.func183, (by kernel_rfl : Tryz.f183.body = some ecode183), (by kernel_rfl), rfl, (by kernel_rfl), Tryz.call183⟩,
 ⟨_, Tryz.func184, (by kernel_rfl : Tryz.f184.body = some ecode184), (by kernel_rfl), rfl, (by kernel_rfl), Tryz.call184⟩,
 ⟨_, Tryz.func185, (by kernel_rfl : Tryz.f185.body = some ecode185), (by kernel_rfl), rfl, (by kernel_rfl), Tryz.call185⟩,
 ⟨_, Tryz.func186, (by kernel_rfl : Tryz.f186.body = some ecode186), (by kernel_rfl), rfl, (by kernel_rfl), Tryz.call186⟩,
 ⟨_, Tryz.func187, (by kernel_rfl : Tryz.f187.body = some ecode187), (by kernel_rfl), rfl, (by kernel_rfl), Tryz.call187⟩,
 ⟨_, Tryz.func188, (by kernel_rfl : Tryz.f188.body = some ecode188), (by kernel_rfl), rfl, (by kernel_rfl), Tryz.call188⟩,
 ⟨_, Tryz.func189, (by kernel_rfl : Tryz.f189.body = some ecode189), (by kernel_rfl), rfl, (by kernel_rfl), Tryz.call189⟩,
 ⟨_, Tryz.func190, (by kernel_rfl : Tryz.f190.body = some ecode190), (by kernel_rfl), rfl, (by kernel_rfl), Tryz.call190⟩,
 ⟨_, Tryz.func193, (by kernel_rfl : Tryz.f193.body = some ecode193), (by kernel_rfl), rfl, (by kernel_rfl), Tryz.call193⟩,
 ⟨_, Tryz.func194, (by kernel_rfl : Tryz.f194.body = some ecode194), (by kernel_rfl), rfl, (by kernel_rfl), Tryz.call194⟩,
 ⟨_, Tryz.func195, (by kernel_rfl : Tryz.f195.body = some ecode195), (by kernel_rfl), rfl, (by kernel_rfl), Tryz.call195⟩,
 ⟨_, Tryz.func196, (by kernel_rfl : Tryz.f196.body = some ecode196), (by kernel_rfl), rfl, (by kernel_rfl), Tryz.call196⟩, trivial⟩
theorem efnsOk : FnsOk Tryz.prog efns := FnAll.ok efnsAll
end Go.Proofs.YtnmldggopnbclaaGreatDoor
