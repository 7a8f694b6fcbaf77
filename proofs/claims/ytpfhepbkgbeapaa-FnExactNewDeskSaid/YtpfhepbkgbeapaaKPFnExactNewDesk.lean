/- The desk is made of known numbers: the walk has shown it. Under no condition. -/
import Derived.Test.YtpfhepbkgbeapaaKFnExactNewDesk3
namespace Go.Proofs.Ytpfhepbkgbeapaa.Pure
open Go.RowKit Go.Proofs.Ytpfhepbkgbeapaa.F Go.Proofs.YtpfhepbkgbeapaaW.PrintWords Go.Proofs.YtpfhepbkgbeapaaW.PrintLast Go.Proofs.YtpfhepbkgbeapaaW.PrintMore
theorem FnExactNewDesk : laws_FnExactNewDesk.Pure := rfl

end Go.Proofs.Ytpfhepbkgbeapaa.Pure
